/- The walk of RouteApart. -/
import Derived.Test.YtfdgeomomafnbaaLaw13a
namespace Go.Proofs.Ytfdgeomomafnbaa
set_option linter.unusedSimpArgs false
set_option linter.unusedVariables false
open Go.RowKit

/-- Has worker j been met among the first t keys? -/
def hit (k n : Int) (t : Nat) (j : Int) : Bool := (List.range t).any fun i => decide ((k + (i : Int)) % n = j)
theorem hit_zero (k n j : Int) : hit k n 0 j = false := rfl
theorem hit_succ (k n : Int) (t : Nat) (j : Int) : hit k n (t + 1) j = (hit k n t j || decide ((k + (t : Int)) % n = j)) := by
  simp [hit, List.range_succ]
theorem hit_no (k n : Int) (t : Nat) (ht : (t : Int) < n) : hit k n t ((k + (t : Int)) % n) = false := by
  simp only [hit, List.any_eq_false, List.mem_range, decide_eq_true_eq]
  intro i hi he
  have h1 : (k + (i : Int)) % n = (k + (t : Int)) % n := he
  have h2 : ((k + (t : Int)) - (k + (i : Int))) % n = 0 := by rw [Int.sub_emod, h1]; simp
  have h3 : (k + (t : Int)) - (k + (i : Int)) = (t : Int) - (i : Int) := by omega
  rw [h3, Int.emod_eq_of_lt (by omega) (by omega)] at h2
  omega

theorem worker_as {k n m : Int} (h : k % n = m) (w : World) (h1 : 1 ≤ n) (h2 : n ≤ 64) (k1 : -9223372036854775808 ≤ k) (k2 : k ≤ 9223372036854775807) :
    Calls Try.prog 15 #[.int .i64 k, .int .i64 n] w fun e w' => e = .returned (.int .i64 m) ∧ w = w' := by
  subst h
  exact worker_in k n w h1 h2 k1 k2

set_option maxHeartbeats 1000000 in
theorem walk_RouteApart (k : Int) (hk : -2147483648 ≤ k ∧ k ≤ 2147483647) (v : Int) (hv : 0 ≤ v ∧ v ≤ 255) (w : World) :
    Calls Try.prog 4 #[.int .i32 k, .int .u8 v] w fun r w' => r = .returned (.bool true) ∧ Ext w w' := by
  obtain ⟨k1, k2⟩ := hk
  obtain ⟨v1, v2⟩ := hv
  have hb : (v : Int) % 64 + 1 ≤ 64 := by omega
  have hb1 : 1 ≤ (v : Int) % 64 + 1 := by omega
  go_enter Try.func4, Try.ntmps4
  go_wp2_with (first | (go_at_call 14; refine (awake13 _).mono ?_; rintro r w' ⟨rfl, x, rfl⟩))
  generalize hn : v % 64 + 1 = n at hb hb1
  go_loopw [7] (fun i wr => ∃ t : Nat, (t : Int) ≤ n ∧ i = .int .i64 t ∧ ∃ cs : Array Value, cs.size = 64 ∧ (∀ j : Nat, j < 64 → cs[j]? = some (.bool (hit k n t j))) ∧ ∃ z, wr = ext ((ext w x).alloc (.cells cs 25)) z) (fun i _ => n.toNat - (intOf i).toNat)
  case atStart =>
    exact ⟨0, by omega, rfl, Array.replicate 64 (.bool false), by simp, fun j hj => by simp [hj, hit_zero], Ext.refl _⟩
  case round =>
    obtain ⟨t, ht, rfl, cs, hcs, hall, z, rfl⟩ := hrel
    by_cases hlt : (t : Int) < n
    · obtain ⟨h0, h1, _⟩ := worker_ways (k + t) n hb1
      have hno := hit_no k n t hlt
      have hm : (k + t + n) % n = (k + t) % n := by rw [Int.add_emod_right]
      obtain ⟨m, hmm⟩ := Int.eq_ofNat_of_zero_le h0
      have hm64 : m < 64 := by omega
      have hread := hall m hm64
      rw [← hmm, hno] at hread
      have hget : ∀ h, cs[m]'h = Value.bool false := fun h => by rw [Array.getElem?_eq_getElem h] at hread; exact Option.some.inj hread
      have HALL := Lib.hid hall
      rw [hmm] at h0 h1 hm
      have HMM := Lib.hid hmm
      have HM := Lib.hid hm
      have B1 := Lib.hid (show -9223372036854775808 ≤ k + (t : Int) by omega)
      have B2 := Lib.hid (show k + (t : Int) ≤ 9223372036854775807 by omega)
      have B3 := Lib.hid (show -9223372036854775808 ≤ k + (t : Int) + n by omega)
      have B4 := Lib.hid (show k + (t : Int) + n ≤ 9223372036854775807 by omega)
      clear hall hno hmm hm
      go_wp2_with (first | (go_at_call 15; ((with_reducible refine (worker_as HMM.out _ hb1 hb B1.out B2.out).mono ?_); rintro e w' ⟨rfl, rfl⟩)) | (go_at_call 15; ((with_reducible refine (worker_as HM.out _ hb1 hb B3.out B4.out).mono ?_); rintro e w' ⟨rfl, rfl⟩)))
      refine ⟨⟨t + 1, by omega, by go_num, cs.setIfInBounds m (.bool true), by simp [hcs], fun j hj => ?_, _, rfl⟩, by simp [intOf]; omega⟩
      rw [hit_succ, HMM.out, Array.getElem?_setIfInBounds]
      by_cases hjm : m = j
      · subst hjm
        simp [hcs, hm64]
      · have hne : ¬ ((m : Int) = (j : Int)) := by omega
        rw [if_neg hjm, HALL.out j hj]
        simp [hne]
    · go_wp2
      go_returns
      exact ⟨retb rfl rfl, by (repeat' (first | with_reducible exact Ext.refl _ | with_reducible refine Ext.ext ?_ _ | with_reducible refine Ext.alloc ?_ _ | with_reducible refine Ext.drew ?_ | with_reducible refine Ext.drewN ?_ _ | with_reducible assumption))⟩
end Go.Proofs.Ytfdgeomomafnbaa
