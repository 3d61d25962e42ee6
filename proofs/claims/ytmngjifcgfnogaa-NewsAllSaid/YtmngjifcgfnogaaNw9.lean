/- News by deep values: what is there is counted. -/
import Derived.Test.YtmngjifcgfnogaaNw5
import Derived.Test.YtmngjifcgfnogaaDqO
namespace Go.Proofs.Ytmngjifcgfnogaa.Dq
set_option linter.unusedSimpArgs false
set_option linter.unusedVariables false
set_option maxRecDepth 100000
open Go.RowKit Go.WideShapes Go.ChangeShapes Go.Deep

theorem way_none (n k : Nat) (s : Tm) : sumC (way (List.replicate n (List.replicate n [])) k) s = 0 := by
  have : way (List.replicate n (List.replicate n [])) k = [] := List.eq_nil_iff_forall_not_mem.2 fun c hc => by
    obtain ⟨q, hq, r, hr, hcr⟩ := way_mem hc
    rw [(List.mem_replicate.1 hq).2] at hr
    rw [(List.mem_replicate.1 hr).2] at hcr
    cases hcr
  rw [this]
  rfl
theorem Nv.first {n : Nat} {l : List Fr.Ct} (hr : Fr.rightC l = true) (hn : l.any negB = false) (hl : l.length ≤ 30) (hm : ∀ x ∈ l, x.n ≤ 1000000) : Nv n 0 0 (newW n l) := by
  have hc : ∀ s, 0 ≤ Fr.cnt l s ∧ Fr.cnt l s ≤ 1000000 := fun s => by
    rcases cnt_or hr s with h | ⟨x, hx, -, h⟩
    · omega
    · have h1 := List.any_eq_false.1 hn x hx
      have h2 := hm x hx
      unfold negB at h1
      simp at h1
      omega
  unfold newW
  refine ⟨List.length_replicate, List.length_replicate, fun q hq => by rw [(List.mem_replicate.1 hq).2, List.length_replicate], hr, fun s => by have := hc s; dsimp only; omega, by dsimp only; omega, fun k hk => ?_, fun q hq r hr => ?_, fun k lk hk s => ?_⟩
  · rw [(List.mem_replicate.1 hk).2]
    exact ⟨hr, by omega, fun s => by have := hc s; omega⟩
  · rw [(List.mem_replicate.1 hq).2] at hr
    rw [(List.mem_replicate.1 hr).2]
    exact ⟨Nat.le_refl _, nofun⟩
  · rw [(List.mem_replicate.1 (List.mem_of_getElem? hk)).2]
    show Fr.cnt l s + sumC (way (List.replicate n (List.replicate n [])) k) s = Fr.cnt l s
    rw [way_none]
    omega
theorem tot_low {l : List Fr.Ct} (hn : l.any negB = false) (hm : ∀ x ∈ l, x.n ≤ 1000000) : 0 ≤ Fr.tot l ∧ Fr.tot l ≤ 1000000 * l.length := by
  induction l with
  | nil => simp [Fr.tot]
  | cons x l ih =>
    rw [List.any_cons, Bool.or_eq_false_iff] at hn
    have h1 := ih hn.2 (fun y hy => hm y (List.mem_cons_of_mem _ hy))
    have h2 := hm x List.mem_cons_self
    have h3 := hn.1
    unfold negB at h3
    simp at h3
    rw [Fr.tot_cons, List.length_cons]
    omega
theorem light_in {l : List Fr.Ct} {m : List An} (h : lightB l m = true) : l.length ≤ 30 ∧ m.length ≤ 150 ∧ (∀ x ∈ l, x.n ≤ 1000000) ∧ ∀ a ∈ m, a.p.length ≤ 20 := by
  simpa [lightB, and_assoc] using h
theorem nw_in {n : Int} {l : List Fr.Ct} (h : nwB n l = false) : 1 ≤ n ∧ n ≤ 64 ∧ Fr.rightC l = true ∧ l.any negB = false := by
  unfold nwB at h
  simp only [Bool.or_eq_false_iff, decide_eq_false_iff_not, Bool.not_eq_false'] at h
  exact ⟨by omega, by omega, h.1.2, h.2⟩
def aw26D : List S1 → CR × Prop
  | [] => (.one (.c (.bool true)), True)
  | _ => (.one (.c (.bool false)), False)
theorem aw26_c (args : List S1) (h : (aw26D args).2) : Cal Try.prog 23 args (aw26D args).1 := by
  unfold aw26D at h ⊢
  split at h
  · exact aw26_cal
  · exact h.elim
structure Sw where
  j : Nat
  W : Wd
  N : Int
theorem opc_tm {w : World} : OpC Try.prog w 47 tmC (fun _ => True) := by
  refine opd_mono (opd_struct Try.underlying47 (by kernel_rfl) (.cons (opd_int Try.underlying3) (.cons (opd_arr4 Try.underlying45 (by kernel_rfl) (by kernel_rfl) Try.underlying3) .nil))) fun ds h => ?_
  obtain ⟨_, _, rfl, ⟨z1, rfl, g1⟩, _, _, rfl, ⟨z2, z3, z4, z5, rfl⟩, rfl⟩ := h
  exact ⟨⟨z1, z2, z3, z4, z5⟩, rfl, trivial⟩
theorem ops_tm {w : World} : OpS Try.prog w 38 tmC (fun _ => True) := ops_of (k := 5) Try.underlying38 (by kernel_rfl) (by decide) opc_tm
theorem opc_ct {w : World} : OpC Try.prog w 65 ctC (fun _ => True) := by
  refine opd_mono (opd_struct Try.underlying65 (by kernel_rfl) (.cons (opd_struct Try.underlying47 (by kernel_rfl) (.cons (opd_int Try.underlying3) (.cons (opd_arr4 Try.underlying45 (by kernel_rfl) (by kernel_rfl) Try.underlying3) .nil))) (.cons (opd_int Try.underlying3) .nil))) fun ds h => ?_
  obtain ⟨_, _, rfl, ⟨_, _, rfl, ⟨z1, rfl, g1⟩, _, _, rfl, ⟨z2, z3, z4, z5, rfl⟩, rfl⟩, _, _, rfl, ⟨z6, rfl, g6⟩, rfl⟩ := h
  exact ⟨⟨z1, z2, z3, z4, z5, z6⟩, rfl, trivial⟩
theorem ops_ct {w : World} : OpS Try.prog w 56 ctC (fun _ => True) := ops_of (k := 6) Try.underlying56 (by kernel_rfl) (by decide) opc_ct
theorem opc_an {w : World} : OpC Try.prog w 77 anC (fun _ => True) := by
  refine opd_mono (opd_struct Try.underlying77 (by kernel_rfl) (.cons (opd_bool Try.underlying4) (.cons (opd_int Try.underlying3) (.cons (opd_int Try.underlying3) (.cons opc_tm (.cons ops_tm .nil)))))) fun ds h => ?_
  obtain ⟨_, _, rfl, ⟨z1, rfl⟩, _, _, rfl, ⟨z2, rfl, -⟩, _, _, rfl, ⟨z3, rfl, -⟩, _, _, rfl, ⟨z4, rfl, -⟩, _, _, rfl, ⟨z5, rfl, -, -⟩, rfl⟩ := h
  exact ⟨⟨z1, z2, z3, z4, z5⟩, rfl, trivial⟩
theorem ops_an {w : World} : OpS Try.prog w 57 anC (fun _ => True) := ops_of (k := 9) Try.underlying57 (by kernel_rfl) (by decide) opc_an
end Go.Proofs.Ytmngjifcgfnogaa.Dq
