/- The walk of FairMade. -/
import Derived.Test.YtgjolablgcnlmaaFaB
namespace Go.Proofs.Ytgjolablgcnlmaa
set_option linter.unusedSimpArgs false
set_option linter.unusedVariables false
open Go.RowKit

set_option maxRecDepth 100000 in
set_option maxHeartbeats 8000000 in
theorem walk_FairMade (w : World) (T : Int) (bT : -9223372036854775808 ≤ T ∧ T ≤ 9223372036854775807) (M : Int) (bM : -9223372036854775808 ≤ M ∧ M ≤ 9223372036854775807) (s : Int) (bs : 0 ≤ s ∧ s ≤ 18446744073709551615) :
    Calls Try.prog 6 #[.int .i64 T, .int .i64 M, .int .u64 s] w fun r w' => r = .returned (.bool true) ∧ Ext w w' := by
  have AW := Lib.hid awake_any
  obtain ⟨b1, f1⟩ : ∃ b, decide (40 < T) = b := ⟨_, rfl⟩
  obtain ⟨b2, f2⟩ : ∃ b, decide (T ≤ 1024) = b := ⟨_, rfl⟩
  obtain ⟨b3, f3⟩ : ∃ b, decide (300 < M) = b := ⟨_, rfl⟩
  obtain ⟨b4, f4⟩ : ∃ b, decide (M ≤ 65536) = b := ⟨_, rfl⟩
  by_cases hg : ((b1 && b2) || (b3 && b4)) = true
  · clear bT bM bs
    cases b1 <;> cases b2 <;> cases b3 <;> cases b4 <;> first | (exfalso; simp at hg; done) | skip
    all_goals
      clear hg
      go_enter Try.func6, Try.ntmps6
      go_wp2_with (go_at_call 17; refine (AW.out _).mono ?_; rintro e w' ⟨rfl, z0, rfl⟩)
      go_returns
      exact ⟨retb rfl rfl, by (repeat' (first | with_reducible exact Ext.refl _ | with_reducible refine Ext.ext ?_ _ | with_reducible refine Ext.alloc ?_ _ | with_reducible refine Ext.drew ?_ | with_reducible refine Ext.drewN ?_ _ | with_reducible assumption))⟩
  · by_cases hm : mayMake T M = true
    rotate_left
    · have MB := Lib.hid (fun W => make_bad T M s W (by simpa using hm))
      have RB := Lib.hid (fun W => refMake_bad T M s W (by simpa using hm))
      clear bT bM bs hm
      cases b1 <;> cases b2 <;> cases b3 <;> cases b4 <;> first | (exfalso; simp at hg; done) | skip
      all_goals
        clear hg
        go_enter Try.func6, Try.ntmps6
        go_wp2_with (first | (go_at_call 17; refine (AW.out _).mono ?_; rintro e w' ⟨rfl, z0, rfl⟩) | (go_at_call 22; (with_reducible refine (MB.out _).mono ?_); rintro e w' ⟨rfl, z1, rfl⟩) | (go_at_call 23; (with_reducible refine (RB.out _).mono ?_); rintro e w' ⟨rfl, z2, rfl⟩))
        go_loopw [11] (fun si wr => si = .int .i64 0 ∧ Ext w wr) (fun _ _ => 0)
        case atStart => exact ⟨rfl, by (repeat' (first | with_reducible exact Ext.refl _ | with_reducible refine Ext.ext ?_ _ | with_reducible refine Ext.alloc ?_ _ | with_reducible refine Ext.drew ?_ | with_reducible refine Ext.drewN ?_ _ | with_reducible assumption))⟩
        case round =>
          obtain ⟨rfl, ⟨z, rfl⟩⟩ := hrel
          go_wp2
          go_returns
          exact ⟨retb rfl rfl, by (repeat' (first | with_reducible exact Ext.refl _ | with_reducible refine Ext.ext ?_ _ | with_reducible refine Ext.alloc ?_ _ | with_reducible refine Ext.drew ?_ | with_reducible refine Ext.drewN ?_ _ | with_reducible assumption))⟩
    · have hm2 := hm
      unfold mayMake at hm2
      simp only [Bool.and_eq_true, decide_eq_true_eq] at hm2
      have t1 : T ≤ 40 := by
        cases b1
        · have := of_decide_eq_false f1; omega
        · exfalso; rw [decide_eq_true hm2.2.1] at f2; subst f2; simp at hg
      have t2 : M ≤ 300 := by
        cases b3
        · have := of_decide_eq_false f3; omega
        · exfalso; rw [decide_eq_true hm2.2.2.2] at f4; subst f4; simp at hg
      obtain ⟨TN, rfl⟩ : ∃ TN : Nat, T = TN := ⟨T.toNat, by omega⟩
      obtain ⟨MN, rfl⟩ : ∃ MN : Nat, M = MN := ⟨M.toNat, by omega⟩
      have hT1 : 1 ≤ TN := by omega
      have HB := Lib.hid (show 1 ≤ TN ∧ TN ≤ 40 ∧ MN ≤ 300 by omega)
      have MG := Lib.hid (fun W => make_good TN MN (by omega) (by omega) s (by omega) W)
      have RG := Lib.hid (fun W => refMake_good TN MN (by omega) (by omega) s (by omega) W)
      have hl := makeS_len (M := MN) hT1 (max s 1)
      have hf := made_fair (M := MN) hT1 (max s 1)
      generalize makeS TN MN (max s 1) = xs at *
      have HXL := Lib.hid hl
      have FA := Lib.hid (show ∀ (V : Int) a c W (_ : Ri W .i64 (.slice a MN c) xs), V = 2 * (TN : Int) - 1 → Calls Try.prog 20 #[.slice a MN c, .int .i64 (TN : Int), .int .i64 V] W fun e w' => e = .returned (.bool true) ∧ Ext W w' from fun V a c W h hV => by
        subst hl hV
        have := fair_any xs a c TN (2 * TN - 1) W h (by omega) bT.2
        rw [hf] at this
        exact this)
      have E1 := Lib.hid (show wrap64 (2 * (TN : Int)) = 2 * (TN : Int) from IntWalk.wrap64_in _ ⟨by omega, by omega⟩)
      have E2 := Lib.hid (show wrap64 (2 * (TN : Int) - 1) = 2 * (TN : Int) - 1 from IntWalk.wrap64_in _ ⟨by omega, by omega⟩)
      have n1 : (1 : Int) ≤ TN := by omega
      have n2 : (0 : Int) ≤ MN := by omega
      clear hm hm2 bT bM bs hT1 hl hf f1 f2 f3 f4 hg
      go_enter Try.func6, Try.ntmps6
      go_wp2_with (first | (go_at_call 17; refine (AW.out _).mono ?_; rintro e w' ⟨rfl, z0, rfl⟩) | (go_at_call 22; (with_reducible refine (MG.out _).mono ?_); rintro e w3 ⟨a1, rfl, hx3, hr3⟩; have HX3 := Lib.hid hx3; have HR3 := Lib.hid hr3; clear hx3 hr3) | (go_at_call 23; (with_reducible refine (RG.out _).mono ?_); rintro e w4 ⟨a2, c2, rfl, hx4, hr4⟩; have HX4 := Lib.hid hx4; have HR4 := Lib.hid hr4; clear hx4 hr4))
      go_loopw [11] (fun si wr => ∃ j : Nat, j ≤ MN ∧ si = .int .i64 j ∧ Ext w4 wr) (fun si _ => MN - (intOf si).toNat)
      case atStart => exact ⟨0, by omega, rfl, by (repeat' (first | with_reducible exact Ext.refl _ | with_reducible refine Ext.ext ?_ _ | with_reducible refine Ext.alloc ?_ _ | with_reducible refine Ext.drew ?_ | with_reducible refine Ext.drewN ?_ _ | with_reducible assumption))⟩
      case round =>
        obtain ⟨j, hj, rfl, hx⟩ := hrel
        have HX := Lib.hid hx
        have R3 := Lib.hid (HR3.out.of_ext (HX4.out.trans hx))
        have R4 := Lib.hid (HR4.out.of_ext hx)
        by_cases hlt : j < MN
        · obtain ⟨x, hxj⟩ : ∃ x, xs[j]? = some x := ⟨xs[j]'(by rw [HXL.out]; exact hlt), List.getElem?_eq_getElem _⟩
          obtain ⟨g1, o1, rfl⟩ : ∃ b off, a1 = some ⟨b, off, none⟩ := by have h5 := R3.out; rw [← HXL.out] at h5; obtain ⟨b, off, e, -⟩ := Rd.cells h5 (by have := HXL.out; omega); exact ⟨b, off, e⟩
          obtain ⟨g2, o2, rfl⟩ : ∃ b off, a2 = some ⟨b, off, none⟩ := by have h5 := R4.out; rw [← HXL.out] at h5; obtain ⟨b, off, e, -⟩ := Rd.cells h5 (by have := HXL.out; omega); exact ⟨b, off, e⟩
          have q1 := ri_at R3.out hxj
          have q2 := ri_at R4.out hxj
          haveI : LtSz g1 wr.heap.size := ⟨World.block_lt_of_cell? _ _ q1⟩
          haveI : LtSz g2 wr.heap.size := ⟨World.block_lt_of_cell? _ _ q2⟩
          have i1 : (0 : Int) ≤ j := by omega
          have i2 : (j : Int) < MN := by omega
          have i3 : (x != x) = false := by simp
          have EW := Lib.hid (show wrap64 ((j : Int) + 1) = ((j + 1 : Nat) : Int) from (IntWalk.wrap64_in _ ⟨by omega, by have := HB.out; omega⟩).trans (by omega))
          have HL := Lib.hid hlt
          clear hx hlt hj hxj
          go_wp2
          go_region
          go_wp2
          exact nat_up (P := fun j => Ext w4 _) (by first | exact EW.out | omega) HL.out (HX.out.trans (by (repeat' (first | with_reducible exact Ext.refl _ | with_reducible refine Ext.ext ?_ _ | with_reducible refine Ext.alloc ?_ _ | with_reducible refine Ext.drew ?_ | with_reducible refine Ext.drewN ?_ _ | with_reducible assumption))))
        · obtain rfl : j = MN := by omega
          have i2 : ¬ ((j : Int) < j) := by omega
          have e1 := E1.out
          have e2 := E2.out
          clear hx hlt hj
          go_wp2_with (go_at_call 20; (with_reducible refine (FA.out _ _ _ _ (R3.out.of_ext (by (repeat' (first | with_reducible exact Ext.refl _ | with_reducible refine Ext.ext ?_ _ | with_reducible refine Ext.alloc ?_ _ | with_reducible refine Ext.drew ?_ | with_reducible refine Ext.drewN ?_ _ | with_reducible assumption)))) (by first | rfl | omega)).mono ?_); rintro e w' ⟨rfl, z5, rfl⟩)
          go_returns
          exact ⟨retb rfl rfl, ((((Ext.refl w).ext _).trans HX3.out).trans (HX4.out.trans HX.out)).trans (by (repeat' (first | with_reducible exact Ext.refl _ | with_reducible refine Ext.ext ?_ _ | with_reducible refine Ext.alloc ?_ _ | with_reducible refine Ext.drew ?_ | with_reducible refine Ext.drewN ?_ _ | with_reducible assumption)))⟩
end Go.Proofs.Ytgjolablgcnlmaa
