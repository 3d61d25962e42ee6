/- Credit: the law's own 'same' and 'right'. -/
import Derived.Test.YtgjolablgcnlmaaCr6
import Derived.Test.YtgjolablgcnlmaaOpenSl
namespace Go.Proofs.Ytgjolablgcnlmaa
set_option linter.unusedSimpArgs false
set_option linter.unusedVariables false
open Go.RowKit

set_option maxHeartbeats 2000000 in
set_option maxRecDepth 100000 in
theorem crSame_yes (l : Ln) (a1 a2 a3 a4 : Option Addr) (c1 c2 c3 c4 : Nat) (w : World) (h : LaneV w a1 c1 a2 c2 l) (h' : LaneV w a3 c3 a4 c4 l) (l1 : l.way.length ≤ 1073741823) (l2 : l.waits.length ≤ 1073741823) :
    Calls Try.prog 10 #[laneAt a1 c1 a2 c2 l, laneAt a3 c3 a4 c4 l] w fun e w' => e = .returned (.bool true) ∧ Ext w w' := by
  obtain ⟨s, m, b, xs, ys⟩ := l
  have H := Lib.hid h
  have H' := Lib.hid h'
  clear h h'
  unfold laneAt
  simp only at l1 l2 ⊢
  go_enter Try.func10, Try.ntmps10
  go_wp2
  go_loopw [5] (fun i wr => ∃ k : Nat, k ≤ xs.length ∧ i = .int .i64 k ∧ Ext ((w.alloc (.cells #[.int .i64 s, .int .i64 m, .slice a1 xs.length c1, .slice a2 ys.length c2, .int .i64 b] 24)).alloc (.cells #[.int .i64 s, .int .i64 m, .slice a3 xs.length c3, .slice a4 ys.length c4, .int .i64 b] 24)) wr) (fun i _ => xs.length - (intOf i).toNat)
  case atStart => exact ⟨0, by omega, rfl, Ext.refl _⟩
  case round =>
    obtain ⟨k, hk, rfl, z, rfl⟩ := hrel
    by_cases hlt : k < xs.length
    · obtain ⟨_, _, hf, ha⟩ := H.out.1.form
      obtain ⟨rfl, _, rfl⟩ := Value.slice.inj hf
      obtain ⟨b1, o1, rfl⟩ := ha (by show 0 < xs.length; omega)
      obtain ⟨_, _, hf, ha⟩ := H'.out.1.form
      obtain ⟨rfl, _, rfl⟩ := Value.slice.inj hf
      obtain ⟨b3, o3, rfl⟩ := ha (by show 0 < xs.length; omega)
      have hc1 := H.out.1.cell k hlt
      have hc2 := H'.out.1.cell k hlt
      haveI : LtSz b1 w.heap.size := ⟨World.block_lt_of_cell? _ _ hc1⟩
      haveI : LtSz b3 w.heap.size := ⟨World.block_lt_of_cell? _ _ hc2⟩
      simp only at hc1 hc2
      generalize xs[k] = v at hc1 hc2
      have i1 : (0 : Int) ≤ k := by omega
      have i2 : (k : Int) < xs.length := by omega
      go_wp2
      refine wp_region_ext (by kernel_rfl) (by kernel_rfl) ?_
      repeat (go_big_quiet_step (fail))
      refine wpQuiet_nil ?_
      intro xK
      go_wp2
      go_roundw
      case rel => exact ⟨k + 1, by omega, by go_num, by (repeat' (first | with_reducible exact Ext.refl _ | with_reducible refine Ext.ext ?_ _ | with_reducible refine Ext.alloc ?_ _ | with_reducible refine Ext.drew ?_ | with_reducible refine Ext.drewN ?_ _ | with_reducible assumption))⟩
      case measure => simp [intOf]; omega
    · have hk' : decide ((k : Int) < (xs.length : Int)) = false := by simp; omega
      have hk2 : decide (k < xs.length) = false := by simp; omega
      clear hlt
      go_wp2
      go_loopw [6] (fun i wr => ∃ k : Nat, k ≤ ys.length ∧ i = .int .i64 k ∧ Ext ((w.alloc (.cells #[.int .i64 s, .int .i64 m, .slice a1 xs.length c1, .slice a2 ys.length c2, .int .i64 b] 24)).alloc (.cells #[.int .i64 s, .int .i64 m, .slice a3 xs.length c3, .slice a4 ys.length c4, .int .i64 b] 24)) wr) (fun i _ => ys.length - (intOf i).toNat)
      case atStart => exact ⟨0, by omega, rfl, by (repeat' (first | with_reducible exact Ext.refl _ | with_reducible refine Ext.ext ?_ _ | with_reducible refine Ext.alloc ?_ _ | with_reducible refine Ext.drew ?_ | with_reducible refine Ext.drewN ?_ _ | with_reducible assumption))⟩
      case round =>
        obtain ⟨j, hj, rfl, y, rfl⟩ := hrel
        by_cases hlt : j < ys.length
        · obtain ⟨_, _, hf, ha⟩ := H.out.2.form
          obtain ⟨rfl, _, rfl⟩ := Value.slice.inj hf
          obtain ⟨b1, o1, rfl⟩ := ha (by show 0 < ys.length; omega)
          obtain ⟨_, _, hf, ha⟩ := H'.out.2.form
          obtain ⟨rfl, _, rfl⟩ := Value.slice.inj hf
          obtain ⟨b3, o3, rfl⟩ := ha (by show 0 < ys.length; omega)
          have hc1 := H.out.2.cell j hlt
          have hc2 := H'.out.2.cell j hlt
          haveI : LtSz b1 w.heap.size := ⟨World.block_lt_of_cell? _ _ hc1⟩
          haveI : LtSz b3 w.heap.size := ⟨World.block_lt_of_cell? _ _ hc2⟩
          simp only at hc1 hc2
          generalize ys[j] = v at hc1 hc2
          have i1 : (0 : Int) ≤ j := by omega
          have i2 : (j : Int) < ys.length := by omega
          go_wp2
          refine wp_region_ext (by kernel_rfl) (by kernel_rfl) ?_
          repeat (go_big_quiet_step (fail))
          refine wpQuiet_nil ?_
          intro xK
          go_wp2
          go_roundw
          case rel => exact ⟨j + 1, by omega, by go_num, by (repeat' (first | with_reducible exact Ext.refl _ | with_reducible refine Ext.ext ?_ _ | with_reducible refine Ext.alloc ?_ _ | with_reducible refine Ext.drew ?_ | with_reducible refine Ext.drewN ?_ _ | with_reducible assumption))⟩
          case measure => simp [intOf]; omega
        · have hk' : ys.length ≤ j := by omega
          clear hlt
          go_wp2
          go_returns
          exact ⟨retb rfl rfl, by (repeat' (first | with_reducible exact Ext.refl _ | with_reducible refine Ext.ext ?_ _ | with_reducible refine Ext.alloc ?_ _ | with_reducible refine Ext.drew ?_ | with_reducible refine Ext.drewN ?_ _ | with_reducible assumption))⟩

set_option maxHeartbeats 1000000 in
theorem lawRight_any (s m b : Int) (a1 a2 : Option Addr) (p q c1 c2 : Nat) (w : World) (hp : p ≤ 100) (hq : q ≤ 100) :
    Calls Try.prog 11 #[.agg #[.int .i64 s, .int .i64 m, .slice a1 p c1, .slice a2 q c2, .int .i64 b]] w fun e w' => e = .returned (.bool (rightL s m b p q)) ∧ Ext w w' := by
  by_cases h1 : 1 ≤ s
  · by_cases h2 : s ≤ 4096
    · by_cases h3 : 0 ≤ m
      · by_cases h4 : 0 ≤ b
        · by_cases h5 : m ≤ 4096
          · by_cases h6 : b ≤ 4096
            · have hr : rightL s m b p q = decide (s - m - b = (p : Int) + q) := by
                unfold rightL
                rw [decide_eq_decide]
                omega
              have HR := Lib.hid hr
              clear hr
              go_enter Try.func11, Try.ntmps11
              go_wp2
              go_ret
              exact ⟨by rw [HR.out]; rfl, by (repeat' (first | with_reducible exact Ext.refl _ | with_reducible refine Ext.ext ?_ _ | with_reducible refine Ext.alloc ?_ _ | with_reducible refine Ext.drew ?_ | with_reducible refine Ext.drewN ?_ _ | with_reducible assumption))⟩
            · go_enter Try.func11, Try.ntmps11
              go_wp2
              go_ret
              exact ⟨by simp [rightL]; omega, by (repeat' (first | with_reducible exact Ext.refl _ | with_reducible refine Ext.ext ?_ _ | with_reducible refine Ext.alloc ?_ _ | with_reducible refine Ext.drew ?_ | with_reducible refine Ext.drewN ?_ _ | with_reducible assumption))⟩
          · go_enter Try.func11, Try.ntmps11
            go_wp2
            go_ret
            exact ⟨by simp [rightL]; omega, by (repeat' (first | with_reducible exact Ext.refl _ | with_reducible refine Ext.ext ?_ _ | with_reducible refine Ext.alloc ?_ _ | with_reducible refine Ext.drew ?_ | with_reducible refine Ext.drewN ?_ _ | with_reducible assumption))⟩
        · go_enter Try.func11, Try.ntmps11
          go_wp2
          go_ret
          exact ⟨by simp [rightL]; omega, by (repeat' (first | with_reducible exact Ext.refl _ | with_reducible refine Ext.ext ?_ _ | with_reducible refine Ext.alloc ?_ _ | with_reducible refine Ext.drew ?_ | with_reducible refine Ext.drewN ?_ _ | with_reducible assumption))⟩
      · go_enter Try.func11, Try.ntmps11
        go_wp2
        go_ret
        exact ⟨by simp [rightL]; omega, by (repeat' (first | with_reducible exact Ext.refl _ | with_reducible refine Ext.ext ?_ _ | with_reducible refine Ext.alloc ?_ _ | with_reducible refine Ext.drew ?_ | with_reducible refine Ext.drewN ?_ _ | with_reducible assumption))⟩
    · go_enter Try.func11, Try.ntmps11
      go_wp2
      go_ret
      exact ⟨by simp [rightL]; omega, by (repeat' (first | with_reducible exact Ext.refl _ | with_reducible refine Ext.ext ?_ _ | with_reducible refine Ext.alloc ?_ _ | with_reducible refine Ext.drew ?_ | with_reducible refine Ext.drewN ?_ _ | with_reducible assumption))⟩
  · go_enter Try.func11, Try.ntmps11
    go_wp2
    go_ret
    exact ⟨by simp [rightL]; omega, by (repeat' (first | with_reducible exact Ext.refl _ | with_reducible refine Ext.ext ?_ _ | with_reducible refine Ext.alloc ?_ _ | with_reducible refine Ext.drew ?_ | with_reducible refine Ext.drewN ?_ _ | with_reducible assumption))⟩
end Go.Proofs.Ytgjolablgcnlmaa
