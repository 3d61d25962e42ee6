/- The laws of layer 36: awake, FairRight. -/
import Derived.Test.YtgjolablgcnlmaaFa7
import Derived.Test.YtgjolablgcnlmaaFa8
import Derived.Deep.DeepCutAuto
namespace Go.Proofs.Ytgjolablgcnlmaa
set_option linter.unusedSimpArgs false
set_option linter.unusedVariables false
open Go.RowKit

theorem ri_lit (w : World) (xs : List Int) (g : Nat) (hg : g = w.heap.size) (n : Nat) (hn : n = xs.length) : Ri (w.alloc (.cells (vs xs).toArray 3)) .i64 (.slice (some ⟨g, 0, none⟩) n n) xs := by
  subst hn
  refine ⟨by simp, _, _, rfl, fun _ => ⟨g, 0, rfl, fun i u hu => ?_⟩⟩
  rw [Nat.zero_add]
  exact cell_lit w _ _ _ _ _ hg (by simpa [vs] using hu)
theorem ri_aw (w : World) (g : Nat) (hg : g = w.heap.size) : Ri (w.alloc (.cells #[.int .i64 0, .int .i64 1, .int .i64 1, .int .i64 0] 3)) .i64 (.slice (some ⟨g, 0, none⟩) 4 4) [0, 1, 1, 0] := ri_lit w [0, 1, 1, 0] g hg 4 rfl
theorem aw_left : LeftIs [0, 1, 1, 0] 2 2 1 0 := by
  refine .inl ⟨⟨by decide, by decide, by decide⟩, 1, 0, rfl, rfl, by decide, by decide, by decide, fun j hj => absurd hj (Nat.not_lt_zero j), fun q hq k hk => ?_⟩
  obtain rfl : q = 0 := by omega
  have hk2 : k < 2 := hk
  obtain rfl | rfl : k = 0 ∨ k = 1 := by omega
  · decide
  · decide
theorem aw_fair : fairB [0, 1, 1, 0] 2 3 = true := by
  rw [fairB_iff]
  refine ⟨by decide, by decide, fun q hq k hk => ?_⟩
  have hq2 : q + 3 ≤ 4 := hq
  have hk2 : k < 2 := hk
  obtain rfl | rfl : q = 0 ∨ q = 1 := by omega
  · obtain rfl | rfl : k = 0 ∨ k = 1 := by omega
    · decide
    · decide
  · obtain rfl | rfl : k = 0 ∨ k = 1 := by omega
    · decide
    · decide
theorem aw_l (a : Option Addr) (c : Nat) (w : World) (h : Ri w .i64 (.slice a 4 c) [0, 1, 1, 0]) : Calls Try.prog 18 #[.slice a 4 c, .int .i64 2, .int .i64 2] w fun e w' => e = .returned (.tuple #[.int .i64 1, .int .i64 0]) ∧ Ext w w' :=
  (left_any [0, 1, 1, 0] a c 2 2 w h (by decide) (by decide)).mono fun e w' ⟨p, k, h1, h2, h3⟩ => by
    obtain ⟨rfl, rfl⟩ := h2.uniq aw_left
    exact ⟨h1, h3⟩
theorem aw_f (a : Option Addr) (c : Nat) (w : World) (h : Ri w .i64 (.slice a 4 c) [0, 1, 1, 0]) : Calls Try.prog 20 #[.slice a 4 c, .int .i64 2, .int .i64 3] w fun e w' => e = .returned (.bool true) ∧ Ext w w' :=
  (fair_any [0, 1, 1, 0] a c 2 3 w h (by decide) (by decide)).mono fun e w' ⟨h1, h2⟩ => ⟨by rw [h1, aw_fair], h2⟩
theorem aw_m (w : World) : Calls Try.prog 22 #[.int .i64 3, .int .i64 6, .int .u64 5] w fun e w' => ∃ a, e = .returned (.tuple #[.slice a 6 6, .int .i64 0]) ∧ Ext w w' :=
  (make_good 3 6 (by decide) (by decide) 5 (by decide) w).mono fun e w' ⟨a, h1, h2, _⟩ => ⟨a, h1, h2⟩
set_option maxHeartbeats 4000000 in
theorem awake_any (w : World) : Calls Try.prog 17 #[] w fun e w' => e = .returned (.bool true) ∧ Ext w w' := by
  have L := Lib.hid aw_l
  have F := Lib.hid aw_f
  have M := Lib.hid aw_m
  go_enter Try.func17, Try.ntmps17
  go_wp2_with (first | (go_at_call 18; (with_reducible refine (L.out _ _ _ (ri_aw _ _ (by first | rfl | simp))).mono ?_); rintro e w' ⟨rfl, z1, rfl⟩) | (go_at_call 22; (with_reducible refine (M.out _).mono ?_); rintro e w' ⟨a2, rfl, z2, rfl⟩) | (go_at_call 20; (with_reducible refine (F.out _ _ _ (ri_aw _ _ (by first | rfl | simp))).mono ?_); rintro e w' ⟨rfl, z3, rfl⟩))
  go_returns
  exact ⟨retb rfl rfl, by (repeat' (first | with_reducible exact Ext.refl _ | with_reducible refine Ext.ext ?_ _ | with_reducible refine Ext.alloc ?_ _ | with_reducible refine Ext.drew ?_ | with_reducible refine Ext.drewN ?_ _ | with_reducible assumption))⟩
theorem run_min {P : Program} (n k : Nat) (K : Int) (hk : K = k) (ats : Array TypeId) (ty : TypeId) (w : World) : (Builtin.min_ ats ty #[.int .i64 (n : Int), .int .i64 K]).run P w = .ok (.int .i64 ((min n k : Nat) : Int)) w := by
  subst hk
  simp only [Builtin.min_, List.foldlM, Builtin.min2, Sem.run_bind, Sem.run_pure, Result.andThen_ok]
  have : (if (k : Int) < n then (k : Int) else n) = ((min n k : Nat) : Int) := by
    simp only [Nat.min_def]
    split <;> split <;> omega
  rw [this]
theorem ri_cut {w : World} {l : List Int} {a : Option Addr} {c : Nat} (h : Ri w .i64 (.slice a l.length c) l) {m : Nat} (hm : m ≤ l.length) : Ri w .i64 (.slice a m c) (l.take m) := by
  have hl : (l.take m).length = m := by rw [List.length_take]; omega
  unfold Ri
  rw [hl, List.map_take]
  have := rd_takec h hm c
  rwa [Nat.mul_one] at this
set_option maxRecDepth 100000 in
set_option maxHeartbeats 8000000 in
theorem walk_FairRight (w : World) (a : Option Addr) (c : Nat) (l : List Int) (hr : Ri w .i64 (.slice a l.length c) l) (hx : ∀ x ∈ l, -9223372036854775808 ≤ x ∧ x ≤ 9223372036854775807) (hc : l.length ≤ c) (T : Int) (bT : -9223372036854775808 ≤ T ∧ T ≤ 9223372036854775807) (v : Int) (bv : -9223372036854775808 ≤ v ∧ v ≤ 9223372036854775807) :
    Calls Try.prog 5 #[.slice a l.length c, .int .i64 T, .int .i64 v] w fun r w' => r = .returned (.bool true) ∧ Ext w w' := by
  have AW := Lib.hid awake_any
  have hm1 := fun ats ty w => run_min (P := Try.prog) l.length 100 100 rfl ats ty w
  have R1 := Lib.hid (ri_cut hr (m := min l.length 100) (Nat.min_le_left _ _))
  have q1 : min l.length 100 ≤ 100 := Nat.min_le_right _ _
  have p1 : min l.length 100 ≤ l.length := Nat.min_le_left _ _
  have e1 : (l.take (min l.length 100)).length = min l.length 100 := by rw [List.length_take]; omega
  generalize l.take (min l.length 100) = k1 at *
  generalize hn1 : min l.length 100 = n1 at *
  subst e1
  have LN := Lib.hid q1
  have r1 : (k1.length : Int) ≤ c := by omega
  have LF := Lib.hid (fun W (hx : Ext w W) => left_any k1 a c T v W (R1.out.of_ext hx) (by omega) bT.2)
  have RF := Lib.hid (fun W (hx : Ext w W) => refLeft_any k1 a c T v W (R1.out.of_ext hx) (by omega) bT.2)
  have FA := Lib.hid (fun W (hx : Ext w W) => fair_any k1 a c T v W (R1.out.of_ext hx) (by omega) bT.2)
  have RS := Lib.hid (fun W (hx : Ext w W) => refSched_any k1 a c T W (R1.out.of_ext hx) (by omega))
  obtain ⟨bs, fs⟩ : ∃ b, schedB k1 T = b := ⟨_, rfl⟩
  obtain ⟨b1, f1⟩ : ∃ b, decide (1 ≤ v) = b := ⟨_, rfl⟩
  obtain ⟨bf, ff⟩ : ∃ b, fairB k1 T v = b := ⟨_, rfl⟩
  rw [fs] at RS
  rw [ff] at FA
  have HEND := Lib.hid (show ∀ p k, LeftIs k1 T v p k → bf = (bs && (b1 && decide (p < 0))) from fun p k h => by
    rw [← ff, ← fs, ← f1]
    cases hs : schedB k1 T
    · cases hf : fairB k1 T v
      · rfl
      · rw [fairB_iff] at hf
        rw [hf.1] at hs
        cases hs
    · by_cases hv : 1 ≤ v
      · rw [decide_eq_true hv, fair_left h hs hv]
        rfl
      · rw [decide_eq_false hv]
        cases hf : fairB k1 T v
        · rfl
        · rw [fairB_iff] at hf
          exact absurd hf.2.1 hv)
  clear hr hx hc bT bv q1 p1 hn1 fs ff
  go_enter Try.func5, Try.ntmps5
  go_upto_region 6 with (first | (go_at_call 17; refine (AW.out _).mono ?_; rintro e w' ⟨rfl, z0, rfl⟩) | (go_at_call 18; (with_reducible refine (LF.out _ (by (repeat' (first | with_reducible exact Ext.refl _ | with_reducible refine Ext.ext ?_ _ | with_reducible refine Ext.alloc ?_ _ | with_reducible refine Ext.drew ?_ | with_reducible refine Ext.drewN ?_ _ | with_reducible assumption)))).mono ?_); rintro e w' ⟨p, k, rfl, hl1, z1, rfl⟩; have HL1 := Lib.hid hl1; clear hl1) | (go_at_call 19; (with_reducible refine (RF.out _ (by (repeat' (first | with_reducible exact Ext.refl _ | with_reducible refine Ext.ext ?_ _ | with_reducible refine Ext.alloc ?_ _ | with_reducible refine Ext.drew ?_ | with_reducible refine Ext.drewN ?_ _ | with_reducible assumption)))).mono ?_); rintro e w' ⟨p', k', rfl, hl2, z2, rfl⟩; obtain ⟨e1, e2⟩ := HL1.out.uniq hl2; subst e1 e2; clear hl2))
  have hend := HEND.out _ _ HL1.out
  obtain ⟨bp, fp⟩ : ∃ b, decide (p < 0) = b := ⟨_, rfl⟩
  rw [fp] at hend
  have z3 : (p != p) = false := by simp
  have z4 : (k != k) = false := by simp
  subst hend
  cases bs <;> cases b1 <;> cases bp
  all_goals
    go_wp2_with (first | (go_at_call 20; (with_reducible refine (FA.out _ (by (repeat' (first | with_reducible exact Ext.refl _ | with_reducible refine Ext.ext ?_ _ | with_reducible refine Ext.alloc ?_ _ | with_reducible refine Ext.drew ?_ | with_reducible refine Ext.drewN ?_ _ | with_reducible assumption)))).mono ?_); rintro e w' ⟨rfl, z5, rfl⟩) | (go_at_call 21; (with_reducible refine (RS.out _ (by (repeat' (first | with_reducible exact Ext.refl _ | with_reducible refine Ext.ext ?_ _ | with_reducible refine Ext.alloc ?_ _ | with_reducible refine Ext.drew ?_ | with_reducible refine Ext.drewN ?_ _ | with_reducible assumption)))).mono ?_); rintro e w' ⟨rfl, z6, rfl⟩))
    go_returns
    exact ⟨retb rfl rfl, by (repeat' (first | with_reducible exact Ext.refl _ | with_reducible refine Ext.ext ?_ _ | with_reducible refine Ext.alloc ?_ _ | with_reducible refine Ext.drew ?_ | with_reducible refine Ext.drewN ?_ _ | with_reducible assumption))⟩
end Go.Proofs.Ytgjolablgcnlmaa
