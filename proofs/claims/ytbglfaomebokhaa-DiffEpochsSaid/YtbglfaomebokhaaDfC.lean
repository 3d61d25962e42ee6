/- The walk of DiffEpochs; its arguments opened. -/
import Derived.Test.YtbglfaomebokhaaDfA
import Derived.Test.YtbglfaomebokhaaDfB
import Derived.Test.YtbglfaomebokhaaDf6
import Derived.Test.YtbglfaomebokhaaOpenBg
namespace Go.Proofs.Ytbglfaomebokhaa
set_option linter.unusedSimpArgs false
set_option linter.unusedVariables false
open Go.RowKit Go.WideShapes Go.ChangeShapes Go.Deep

theorem ous_flat (ps : List Ou) : ps.flatMap (fun x => [Value.int .i64 x.d, Value.int .i64 x.e, Value.int .i64 x.k, Value.int .i64 x.v]) = ous ps := by
  induction ps with
  | nil => rfl
  | cons a l ih => simp [ous, ih]
theorem rd_ous_take {w : World} {l : List Ou} {a : Option Addr} {c : Nat} (h : Rd w 4 l.length (.slice a l.length c) (ous l)) {m : Nat} (hm : m ≤ l.length) : Rd w 4 (l.take m).length (.slice a m c) (ous (l.take m)) := by
  have hl : (l.take m).length = m := by rw [List.length_take]; omega
  rw [hl, ous_take]
  exact rd_take h hm
set_option maxHeartbeats 4000000 in
theorem walk_DiffEpochs (w : World) (a : Option Addr) (c : Nat) (l : List Ou) (hr : Rd w 4 l.length (.slice a l.length c) (ous l)) (hc : l.length ≤ c) (node : Int) (bn : -9223372036854775808 ≤ node ∧ node ≤ 9223372036854775807) (many : Int) (bm : -9223372036854775808 ≤ many ∧ many ≤ 9223372036854775807) :
    Calls Try.prog 7 #[.slice a l.length c, .int .i64 node, .int .i64 many] w fun r w' => r = .returned (.bool true) ∧ Ext w w' := by
  have AW := Lib.hid awake25_any
  clear bn bm
  obtain ⟨b1, f1⟩ : ∃ b, decide (100 < many) = b := ⟨_, rfl⟩
  obtain ⟨b2, f2⟩ : ∃ b, decide (many ≤ 65536) = b := ⟨_, rfl⟩
  by_cases hb : (b1 && b2) = true
  · simp only [Bool.and_eq_true] at hb
    obtain ⟨rfl, rfl⟩ := hb
    clear hr hc
    go_enter Try.func7, Try.ntmps7
    go_wp2_with (go_at_call 17; refine (AW.out _).mono ?_; rintro e w' ⟨rfl, x, rfl⟩)
    go_returns
    exact ⟨retb rfl rfl, by (repeat' (first | with_reducible exact Ext.refl _ | with_reducible refine Ext.ext ?_ _ | with_reducible refine Ext.alloc ?_ _ | with_reducible refine Ext.drew ?_ | with_reducible refine Ext.drewN ?_ _ | with_reducible assumption))⟩
  · have hm := fun ats ty w => run_min (P := Try.prog) l.length 100 100 rfl ats ty w
    have n1 : min l.length 100 ≤ l.length := Nat.min_le_left _ _
    have n2 : min l.length 100 ≤ 100 := Nat.min_le_right _ _
    have hr' := rd_ous_take hr n1
    have hl : (l.take (min l.length 100)).length = min l.length 100 := by rw [List.length_take]; omega
    have el : (epAll (l.take (min l.length 100)) node many).length ≤ 1000 ∧ ∀ b ∈ epAll (l.take (min l.length 100)) node many, b.length ≤ 100000 := by
      unfold epAll
      split
      · exact ⟨by simp, fun b hb => by cases hb⟩
      · next h =>
        simp only [Bool.or_eq_true, decide_eq_true_eq, not_or] at h
        have : many ≤ 100 := by
          rcases Bool.eq_false_or_eq_true b1 with h1 | h1
          · rcases Bool.eq_false_or_eq_true b2 with h2 | h2
            · exact absurd (by rw [h1, h2]; rfl) hb
            · rw [h2] at f2; have := of_decide_eq_false f2; omega
          · rw [h1] at f1; have := of_decide_eq_false f1; omega
        refine ⟨by rw [epF_length]; omega, fun b hb => ?_⟩
        have := epF_mem hb
        omega
    obtain ⟨R, hR⟩ : ∃ R, epAll (l.take (min l.length 100)) node many = R := ⟨_, rfl⟩
    rw [hR] at el
    generalize l.take (min l.length 100) = k at *
    generalize min l.length 100 = n at *
    subst hl
    have EP := Lib.hid (fun W (hx : Ext w W) => epochs_any k a c node many W (hr'.of_ext hx) (by omega))
    have RE := Lib.hid (fun W (hx : Ext w W) => refEpochs_any k a c node many W (hr'.of_ext hx) (by omega))
    rw [hR] at EP RE
    have LR := Lib.hid el
    have m0 : (0 : Int) ≤ k.length := by omega
    have m1 : (k.length : Int) ≤ c := by omega
    generalize k.length = kn at *
    clear hr hr' el hR n1 n2 hc
    cases b1 <;> cases b2 <;> first | (exfalso; exact hb rfl) | skip
    all_goals
      clear hb
      go_enter Try.func7, Try.ntmps7
      go_wp2_with (first  | (go_at_call 17; refine (AW.out _).mono ?_; rintro e w' ⟨rfl, x, rfl⟩)  | (go_at_call 29; (with_reducible refine (EP.out _ (by (repeat' (first | with_reducible exact Ext.refl _ | with_reducible refine Ext.ext ?_ _ | with_reducible refine Ext.alloc ?_ _ | with_reducible refine Ext.drew ?_ | with_reducible refine Ext.drewN ?_ _ | with_reducible refine Ext.trans ?_ HX1.out | with_reducible refine Ext.trans ?_ HX2.out | with_reducible refine Ext.trans ?_ HX3.out | with_reducible refine Ext.trans ?_ HX4.out | with_reducible refine Ext.trans ?_ HX5.out | with_reducible refine Ext.trans ?_ HX6.out | with_reducible refine Ext.trans ?_ HX7.out | with_reducible refine Ext.trans ?_ HX8.out | with_reducible refine Ext.trans ?_ HX9.out | with_reducible refine Ext.trans ?_ HX10.out | with_reducible refine Ext.trans ?_ HX11.out | with_reducible refine Ext.trans ?_ HX12.out | with_reducible refine Ext.trans ?_ HX13.out | with_reducible refine Ext.trans ?_ HX14.out | with_reducible refine Ext.trans ?_ HX15.out | with_reducible refine Ext.trans ?_ HX16.out | with_reducible refine Ext.trans ?_ HX17.out | with_reducible refine Ext.trans ?_ HX18.out | with_reducible refine Ext.trans ?_ HX19.out | with_reducible refine Ext.trans ?_ HX20.out | with_reducible refine Ext.trans ?_ HX21.out | with_reducible refine Ext.trans ?_ HX22.out | with_reducible refine Ext.trans ?_ HX23.out | with_reducible refine Ext.trans ?_ HX24.out)))).mono ?_); rintro e w1 ⟨v1, rfl, hx, hb⟩; have HX1 := Lib.hid hx; have B1 := Lib.hid hb; clear hx hb)  | (go_at_call 30; (with_reducible refine (RE.out _ (by (repeat' (first | with_reducible exact Ext.refl _ | with_reducible refine Ext.ext ?_ _ | with_reducible refine Ext.alloc ?_ _ | with_reducible refine Ext.drew ?_ | with_reducible refine Ext.drewN ?_ _ | with_reducible refine Ext.trans ?_ HX1.out | with_reducible refine Ext.trans ?_ HX2.out | with_reducible refine Ext.trans ?_ HX3.out | with_reducible refine Ext.trans ?_ HX4.out | with_reducible refine Ext.trans ?_ HX5.out | with_reducible refine Ext.trans ?_ HX6.out | with_reducible refine Ext.trans ?_ HX7.out | with_reducible refine Ext.trans ?_ HX8.out | with_reducible refine Ext.trans ?_ HX9.out | with_reducible refine Ext.trans ?_ HX10.out | with_reducible refine Ext.trans ?_ HX11.out | with_reducible refine Ext.trans ?_ HX12.out | with_reducible refine Ext.trans ?_ HX13.out | with_reducible refine Ext.trans ?_ HX14.out | with_reducible refine Ext.trans ?_ HX15.out | with_reducible refine Ext.trans ?_ HX16.out | with_reducible refine Ext.trans ?_ HX17.out | with_reducible refine Ext.trans ?_ HX18.out | with_reducible refine Ext.trans ?_ HX19.out | with_reducible refine Ext.trans ?_ HX20.out | with_reducible refine Ext.trans ?_ HX21.out | with_reducible refine Ext.trans ?_ HX22.out | with_reducible refine Ext.trans ?_ HX23.out | with_reducible refine Ext.trans ?_ HX24.out)))).mono ?_); rintro e w2 ⟨v2, rfl, hx, hb⟩; have HX2 := Lib.hid hx; have B2 := Lib.hid hb; clear hx hb)  | (go_at_call 19; (with_reducible refine (same_rbs (B1.out.on (by (repeat' (first | with_reducible exact Ext.refl _ | with_reducible refine Ext.ext ?_ _ | with_reducible refine Ext.alloc ?_ _ | with_reducible refine Ext.drew ?_ | with_reducible refine Ext.drewN ?_ _ | with_reducible refine Ext.trans ?_ HX1.out | with_reducible refine Ext.trans ?_ HX2.out | with_reducible refine Ext.trans ?_ HX3.out | with_reducible refine Ext.trans ?_ HX4.out | with_reducible refine Ext.trans ?_ HX5.out | with_reducible refine Ext.trans ?_ HX6.out | with_reducible refine Ext.trans ?_ HX7.out | with_reducible refine Ext.trans ?_ HX8.out | with_reducible refine Ext.trans ?_ HX9.out | with_reducible refine Ext.trans ?_ HX10.out | with_reducible refine Ext.trans ?_ HX11.out | with_reducible refine Ext.trans ?_ HX12.out | with_reducible refine Ext.trans ?_ HX13.out | with_reducible refine Ext.trans ?_ HX14.out | with_reducible refine Ext.trans ?_ HX15.out | with_reducible refine Ext.trans ?_ HX16.out | with_reducible refine Ext.trans ?_ HX17.out | with_reducible refine Ext.trans ?_ HX18.out | with_reducible refine Ext.trans ?_ HX19.out | with_reducible refine Ext.trans ?_ HX20.out | with_reducible refine Ext.trans ?_ HX21.out | with_reducible refine Ext.trans ?_ HX22.out | with_reducible refine Ext.trans ?_ HX23.out | with_reducible refine Ext.trans ?_ HX24.out)))) (B2.out.on (by (repeat' (first | with_reducible exact Ext.refl _ | with_reducible refine Ext.ext ?_ _ | with_reducible refine Ext.alloc ?_ _ | with_reducible refine Ext.drew ?_ | with_reducible refine Ext.drewN ?_ _ | with_reducible refine Ext.trans ?_ HX1.out | with_reducible refine Ext.trans ?_ HX2.out | with_reducible refine Ext.trans ?_ HX3.out | with_reducible refine Ext.trans ?_ HX4.out | with_reducible refine Ext.trans ?_ HX5.out | with_reducible refine Ext.trans ?_ HX6.out | with_reducible refine Ext.trans ?_ HX7.out | with_reducible refine Ext.trans ?_ HX8.out | with_reducible refine Ext.trans ?_ HX9.out | with_reducible refine Ext.trans ?_ HX10.out | with_reducible refine Ext.trans ?_ HX11.out | with_reducible refine Ext.trans ?_ HX12.out | with_reducible refine Ext.trans ?_ HX13.out | with_reducible refine Ext.trans ?_ HX14.out | with_reducible refine Ext.trans ?_ HX15.out | with_reducible refine Ext.trans ?_ HX16.out | with_reducible refine Ext.trans ?_ HX17.out | with_reducible refine Ext.trans ?_ HX18.out | with_reducible refine Ext.trans ?_ HX19.out | with_reducible refine Ext.trans ?_ HX20.out | with_reducible refine Ext.trans ?_ HX21.out | with_reducible refine Ext.trans ?_ HX22.out | with_reducible refine Ext.trans ?_ HX23.out | with_reducible refine Ext.trans ?_ HX24.out)))) LR.out.1 LR.out.2 true (sameB_yes rfl)).mono ?_); rintro e w3 ⟨rfl, hx⟩; have HX3 := Lib.hid hx; clear hx))
      all_goals (go_returns; exact ⟨retb rfl rfl, by (repeat' (first | with_reducible exact Ext.refl _ | with_reducible refine Ext.ext ?_ _ | with_reducible refine Ext.alloc ?_ _ | with_reducible refine Ext.drew ?_ | with_reducible refine Ext.drewN ?_ _ | with_reducible refine Ext.trans ?_ HX1.out | with_reducible refine Ext.trans ?_ HX2.out | with_reducible refine Ext.trans ?_ HX3.out | with_reducible refine Ext.trans ?_ HX4.out | with_reducible refine Ext.trans ?_ HX5.out | with_reducible refine Ext.trans ?_ HX6.out | with_reducible refine Ext.trans ?_ HX7.out | with_reducible refine Ext.trans ?_ HX8.out | with_reducible refine Ext.trans ?_ HX9.out | with_reducible refine Ext.trans ?_ HX10.out | with_reducible refine Ext.trans ?_ HX11.out | with_reducible refine Ext.trans ?_ HX12.out | with_reducible refine Ext.trans ?_ HX13.out | with_reducible refine Ext.trans ?_ HX14.out | with_reducible refine Ext.trans ?_ HX15.out | with_reducible refine Ext.trans ?_ HX16.out | with_reducible refine Ext.trans ?_ HX17.out | with_reducible refine Ext.trans ?_ HX18.out | with_reducible refine Ext.trans ?_ HX19.out | with_reducible refine Ext.trans ?_ HX20.out | with_reducible refine Ext.trans ?_ HX21.out | with_reducible refine Ext.trans ?_ HX22.out | with_reducible refine Ext.trans ?_ HX23.out | with_reducible refine Ext.trans ?_ HX24.out))⟩)
end Go.Proofs.Ytbglfaomebokhaa
