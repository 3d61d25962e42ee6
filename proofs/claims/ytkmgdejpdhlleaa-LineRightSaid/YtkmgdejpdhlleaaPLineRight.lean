/- The statement LineRight: the row's proof around its walk. -/
import Derived.Test.YtkmgdejpdhlleaaGrF
import Derived.Test.YtkmgdejpdhlleaaLn6
import Derived.Test.YtkmgdejpdhlleaaRows
import Derived.Test.YtkmgdejpdhlleaaOpen
import Derived.Test.YtkmgdejpdhlleaaDqO
import Derived.WalkKit
import Derived.ProofKit
import Derived.OpenShut
namespace Go.Proofs.Ytkmgdejpdhlleaa.lineRight
set_option linter.unusedSimpArgs false
set_option linter.unusedVariables false
set_option maxRecDepth 100000
open Go.ChangeShapes Go.WideShapes Go.ChangeAt Go.RowKit
set_option linter.unusedVariables false

theorem own : ownKnob Try.prog.godebug = none := by kernel_rfl
theorem laidOut : laidOutB Try.prog = true := by kernel_rfl

set_option maxRecDepth 100000 in
theorem lifted (os : Os) (started : os.Started) (H : Type) (enc : TypeId × Value → H) :
    ReturnsInHanded {} Try.checked os 11 .any (Rows.lineRightSpec.pre6 enc Try.prog Try.f11 Rows.lineRightRow.domain false) (Rows.lineRightSpec.post enc Try.prog Try.f11 false true false false) := by
  refine returnsInHanded_of_change (C := Try.checked) own started (by kernel_rfl) Try.func11
    (ChangeSpec.witness6 (enc := enc) (C := Try.checked) false ⟨#[], #[.agg #[.slice none 0 0, .slice none 0 0, .slice none 0 0, .slice none 0 0], .slice none 0 0, .int .i64 0, .int .i64 0, .agg #[.int .i64 0, .int .i64 0, .int .i64 0, .int .i64 0], .int .i64 0], []⟩ 8 (by kernel_rfl) (by kernel_rfl) (by kernel_rfl) (by kernel_rfl)) ?_
  intro W base args ds gs before hval0 hW hcnd _
  have hval : ∀ (j : Nat) t v, Try.f11.params[j]? = some t → args[j]? = some v → Value.okWide Try.prog W .any base t v := hval0
  have hW' := hW
  obtain ⟨p, q, hA0, hV, rfl, hfz, hnd⟩ := hW
  have hA : DataW.TrodAll enc Try.prog W 0 (fun _ => true) true Try.f11.params.toList args.toList ds p := hA0
  rw [Try.params11] at hA hval
  obtain ⟨v0, vs0, d0, ds0, p0, q0, hargs, rfl, rfl, h0, r0⟩ := trodAll_cons hA
  obtain ⟨v1, vs1, d1, ds1, p1, q1, rfl, rfl, rfl, h1, r1⟩ := trodAll_cons r0
  obtain ⟨v2, vs2, d2, ds2, p2, q2, rfl, rfl, rfl, h2, r2⟩ := trodAll_cons r1
  obtain ⟨v3, vs3, d3, ds3, p3, q3, rfl, rfl, rfl, h3, r3⟩ := trodAll_cons r2
  obtain ⟨v4, vs4, d4, ds4, p4, q4, rfl, rfl, rfl, h4, r4⟩ := trodAll_cons r3
  obtain ⟨v5, vs5, d5, ds5, p5, q5, rfl, rfl, rfl, h5, r5⟩ := trodAll_cons r4
  obtain ⟨rfl, rfl, rfl⟩ := trodAll_nil r5
  obtain rfl : args = #[v0, v1, v2, v3, v4, v5] := by cases args; simp_all
  obtain ⟨rfl, rfl⟩ := trodVars_none hV
  obtain ⟨u0, rfl⟩ := Dq.okWide_agg Try.underlying51 (hval 0 51 v0 rfl rfl)
  obtain ⟨_, x0, n0, rfl, g0⟩ := Dq.arg_agg Dq.opc_gr h0
  obtain ⟨n1, x1, g1, k1⟩ := Dq.arg_sl Try.underlying94 Dq.ops_fd h1 (cells_slice Try.underlying94 (hval 1 94 v1 rfl rfl))
  obtain ⟨n2, rfl, b2⟩ := open_i64 Try.underlying3 (hval 2 3 v2 rfl rfl)
  obtain ⟨n3, rfl, b3⟩ := open_i64 Try.underlying3 (hval 3 3 v3 rfl rfl)
  obtain ⟨u4, rfl⟩ := Dq.okWide_agg Try.underlying96 (hval 4 96 v4 rfl rfl)
  obtain ⟨_, x4, n4, rfl, g4⟩ := Dq.arg_agg Dq.opc_fd h4
  obtain ⟨n5, rfl, b5⟩ := open_i64 Try.underlying3 (hval 5 3 v5 rfl rfl)
  clear hval0
  simp only [List.append_nil] at hW' hA0
  refine (Dq.said (Dq.walk_LineRight n0 g0 n1 g1 k1 n2 b2 n3 b3 n4 g4 n5 b5) (.c ⟨_, rfl, Dq.DenXL.of x0⟩ (.c x1 (.c (.int _ _) (.c (.int _ _) (.c ⟨_, rfl, Dq.DenXL.of x4⟩ (.c (.int _ _) .n))))))).mono fun e W' ⟨he, hx⟩ => ?_
  subst he
  refine ⟨_, rfl, post_of_below (pa := _) (pv := []) hW' (fun _ _ _ => (trodAll_cons_mk (shut_bool Try.underlying4 _) trodAll_mk0)) (fun sp hsp => trodAll_stays laidOut hx.below ?_ hA0 (fun x hx => hW'.lt x (by simpa using hx)) (fun x hx => hsp x (by simpa using hx))) (fun _ _ => rfl) (by simp) hx.below (ok_one (by kernel_rfl) rfl (okWide_bool_mk Try.underlying4 _))⟩
  intro t ht
  rw [Try.params11] at ht
  simp at ht
  rcases ht with rfl | rfl | rfl | rfl | rfl <;> exact ⟨by kernel_rfl, of_decide_eq_true (by kernel_rfl)⟩

theorem over : Rows.lineRightRow.holds Try.pinned (OpenSpec.ofChange Rows.lineRightSpec) :=
  OpenClaim.holds_of_wide 11 Try.f11 rfl rfl rfl rfl rfl rfl rfl ⟨rfl, rfl, rfl, rfl, rfl⟩ rfl rfl rfl rfl rfl (by kernel_rfl) Try.func11 (by kernel_rfl)
    (of_decide_eq_true (by kernel_rfl)) (by unfold Func.isWrapper; first | (rw [if_pos (by decide +kernel)]; kernel_rfl) | (rw [if_neg (by decide +kernel)]; exact ⟨rfl, rfl⟩))
    (fun os started H enc _ => lifted os started H enc)

/-- The statement. -/
theorem proved : Rows.LineRightSaid := over
#print axioms proved
end Go.Proofs.Ytkmgdejpdhlleaa.lineRight
