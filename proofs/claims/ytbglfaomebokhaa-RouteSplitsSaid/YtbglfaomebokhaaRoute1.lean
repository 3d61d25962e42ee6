/- Contracts of route.some and route.Worker, and what Worker computes. -/
import Derived.Test.YtbglfaomebokhaaRows
import Derived.WalkKit
import Derived.WalkSpells
import Derived.WalkLawsBesides
import Derived.Lib.Hide
namespace Go.Proofs.Ytbglfaomebokhaa
set_option linter.unusedSimpArgs false
set_option linter.unusedVariables false
open Go.RowKit

theorem some_any (n : Int) (w : World) :
    Calls Try.prog 40 #[.int .i64 n] w fun e w' => e = .returned (.bool (decide (1 ≤ n ∧ n ≤ 64))) ∧ w = w' := by
  by_cases h1 : 1 ≤ n
  · by_cases h2 : n ≤ 64
    · go_enter Try.func40, Try.ntmps40
      go_wp2
      go_ret
      exact ⟨by simp [h1, h2], rfl⟩
    · go_enter Try.func40, Try.ntmps40
      go_wp2
      go_ret
      exact ⟨by simp [h2], rfl⟩
  · go_enter Try.func40, Try.ntmps40
    go_wp2
    go_ret
    exact ⟨by simp; omega, rfl⟩

theorem worker_out (k n : Int) (w : World) (h : n < 1 ∨ 64 < n) :
    Calls Try.prog 13 #[.int .i64 k, .int .i64 n] w fun e w' => e = .returned (.int .i64 0) ∧ w = w' := by
  have hb : decide (1 ≤ n ∧ n ≤ 64) = false := by simp; omega
  go_enter Try.func13, Try.ntmps13
  go_wp2_with (go_at_call 40; refine (some_any _ _).mono ?_; rintro e w' ⟨rfl, rfl⟩)
  go_ret
  exact ⟨rfl, rfl⟩

theorem tmod_bd (k n : Int) (h1 : 1 ≤ n) : -n < k.tmod n ∧ k.tmod n < n := by
  constructor
  · have h := Int.lt_tmod_of_pos k (show (0 : Int) < n by omega)
    omega
  · exact Int.tmod_lt_of_pos k (by omega)

theorem tmod_mod (k n : Int) (h1 : 1 ≤ n) : (k.tmod n + n) % n = k % n := by
  rw [Int.add_emod_right, Int.tmod_eq_emod]
  split
  · simp
  · rw [Int.sub_emod, Int.emod_emod_of_dvd _ (Int.dvd_refl n)]
    have : (n.natAbs : Int) % n = 0 := by rw [Int.natAbs_of_nonneg (by omega)]; exact Int.emod_self
    simp [this]

theorem worker_in (k n : Int) (w : World) (h1 : 1 ≤ n) (h2 : n ≤ 64) (k1 : -9223372036854775808 ≤ k) (k2 : k ≤ 9223372036854775807) :
    Calls Try.prog 13 #[.int .i64 k, .int .i64 n] w fun e w' => e = .returned (.int .i64 (k % n)) ∧ w = w' := by
  have hb : decide (1 ≤ n ∧ n ≤ 64) = true := by simp; omega
  have hd := tmod_bd k n h1
  obtain ⟨d1, d2⟩ := hd
  have hm := Lib.hid (tmod_mod k n h1)
  go_enter Try.func13, Try.ntmps13
  go_wp2_with (go_at_call 40; refine (some_any _ _).mono ?_; rintro e w' ⟨rfl, rfl⟩)
  go_ret
  exact ⟨by rw [← hm.out]; rfl, rfl⟩
end Go.Proofs.Ytbglfaomebokhaa
