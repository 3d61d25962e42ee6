/- Fair, plain: a schedule that is made is fair within twice the things less one. -/
import Derived.Test.YtgjolablgcnlmaaFa7
import Derived.Test.YtgjolablgcnlmaaLaw36b
namespace Go.Proofs.Ytgjolablgcnlmaa
set_option linter.unusedSimpArgs false
set_option linter.unusedVariables false

theorem swp_get {xs : List Int} {i k : Nat} (hi : i < xs.length) (hk : k < xs.length) (j : Nat) : (swp xs i k)[j]? = if j = k then xs[i]? else if j = i then xs[k]? else xs[j]? := by
  unfold swp
  rw [List.getElem?_set, List.getElem?_set]
  simp only [List.length_set]
  by_cases h1 : k = j
  · subst h1
    rw [if_pos rfl, if_pos hk, if_pos rfl, List.getD_eq_getElem?_getD, List.getElem?_eq_getElem hi]
    rfl
  · rw [if_neg h1, if_neg (show ¬ j = k from fun h => h1 h.symm)]
    by_cases h2 : i = j
    · subst h2
      rw [if_pos rfl, if_pos hi, if_pos rfl, List.getD_eq_getElem?_getD, List.getElem?_eq_getElem hk]
      rfl
    · rw [if_neg h2, if_neg (show ¬ j = i from fun h => h2 h.symm)]
theorem swp_mem {xs : List Int} {i k : Nat} (hi : i < xs.length) (hk : k < xs.length) (x : Int) : x ∈ swp xs i k ↔ x ∈ xs := by
  rw [List.mem_iff_getElem?, List.mem_iff_getElem?]
  constructor
  · rintro ⟨j, hj⟩
    rw [swp_get hi hk] at hj
    split at hj
    · exact ⟨i, hj⟩
    · split at hj
      · exact ⟨k, hj⟩
      · exact ⟨j, hj⟩
  · rintro ⟨j, hj⟩
    by_cases h1 : j = i
    · subst h1
      exact ⟨k, by rw [swp_get hi hk, if_pos rfl]; exact hj⟩
    · by_cases h2 : j = k
      · subst h2
        exact ⟨i, by rw [swp_get hi hk, if_neg (show ¬ i = j from fun h => h1 h.symm), if_pos rfl]; exact hj⟩
      · exact ⟨j, by rw [swp_get hi hk, if_neg h2, if_neg h1]; exact hj⟩
theorem shuf_mem (x : Int) : ∀ (i : Nat) (xs : List Int) (y : Int), i < xs.length → (x ∈ (shuf i xs y).1 ↔ x ∈ xs)
  | 0, xs, y, _ => Iff.rfl
  | i + 1, xs, y, h => by
    rw [shuf, shuf_mem x i _ _ (by rw [swp_len]; omega)]
    have h0 : 0 ≤ nextI y % ((i : Int) + 2) := Int.emod_nonneg _ (by omega)
    have h1 : nextI y % ((i : Int) + 2) < (i : Int) + 2 := Int.emod_lt_of_pos _ (by omega)
    exact swp_mem h (by omega) x
theorem iota_mem {n : Nat} {x : Int} : x ∈ iota n ↔ 0 ≤ x ∧ x < n := by
  unfold iota
  simp only [List.mem_map, List.mem_range]
  constructor
  · rintro ⟨k, h1, rfl⟩; omega
  · rintro ⟨h1, h2⟩; exact ⟨x.toNat, by omega, by omega⟩
theorem round_mem {T : Nat} (hT : 1 ≤ T) (y x : Int) : x ∈ (roundS T y).1 ↔ 0 ≤ x ∧ x < T := by
  unfold roundS
  rw [shuf_mem x _ _ _ (by unfold iota; simp; omega), iota_mem]
theorem rnds_mem {T : Nat} (hT : 1 ≤ T) (x0 x : Int) : ∀ r, x ∈ (rnds T x0 r).1 → 0 ≤ x ∧ x < T
  | 0, h => by simp [rnds] at h
  | r + 1, h => by
    rw [rnds, List.mem_append] at h
    rcases h with h | h
    · exact rnds_mem hT x0 x r h
    · exact (round_mem hT _ _).1 h
theorem rnds_block {T : Nat} (x0 : Int) (r d i : Nat) (hi : i < T) : (rnds T x0 (r + 1 + d)).1[r * T + i]? = (roundS T (rnds T x0 r).2).1[i]? := by
  have h1 := rnds_pre T x0 (r + 1) d
  have h2 : r * T + i < (r + 1) * T := by rw [Nat.succ_mul]; omega
  have h3 : (rnds T x0 (r + 1 + d)).1[r * T + i]? = ((rnds T x0 (r + 1 + d)).1.take ((r + 1) * T))[r * T + i]? := by rw [List.getElem?_take, if_pos h2]
  rw [h3, h1, rnds, List.getElem?_append_right (by rw [rnds_len]; omega), rnds_len, Nat.add_sub_cancel_left]
theorem made_sched {T M : Nat} (hT : 1 ≤ T) (x : Int) : schedB (makeS T M x) T = true := by
  unfold schedB
  rw [decide_eq_true (by omega), Bool.true_and, Bool.not_eq_true', List.any_eq_false]
  intro y hy
  have := rnds_mem hT x y M (List.mem_of_mem_take hy)
  unfold outB
  simp only [Bool.or_eq_true, decide_eq_true_eq]
  omega
theorem made_fair {T M : Nat} (hT : 1 ≤ T) (x : Int) : fairB (makeS T M x) T (2 * T - 1) = true := by
  rw [fairB_iff]
  refine ⟨made_sched hT x, by omega, fun q hq k hk => ?_⟩
  rw [makeS_len hT] at hq
  have eV : (2 * (T : Int) - 1).toNat = 2 * T - 1 := by omega
  rw [eV] at hq ⊢
  have hk2 : k < T := by simpa using hk
  obtain ⟨r, hr1, hr2⟩ : ∃ r, q ≤ r * T ∧ r * T < q + T := by
    refine ⟨(q + T - 1) / T, ?_, ?_⟩
    · have := Nat.div_add_mod (q + T - 1) T
      have := Nat.mod_lt (q + T - 1) (show T > 0 by omega)
      rw [Nat.mul_comm]
      omega
    · have := Nat.div_mul_le_self (q + T - 1) T
      omega
  obtain ⟨i, hi⟩ := List.mem_iff_getElem?.1 ((round_mem hT (rnds T x r).2 (k : Int)).2 ⟨by omega, by omega⟩)
  have hiT : i < T := by
    have := (List.getElem?_eq_some_iff.1 hi).1
    rwa [roundS_len] at this
  have hrM : r + 1 ≤ M := by
    have : (r + 1) * 1 ≤ (r + 1) * T := Nat.mul_le_mul_left _ hT
    have h2 : (r + 1) * T = r * T + T := Nat.succ_mul _ _
    omega
  obtain ⟨d, hd⟩ : ∃ d, M = r + 1 + d := ⟨M - (r + 1), by omega⟩
  refine mem_win.2 ⟨r * T + i, by omega, by omega, ?_⟩
  unfold makeS
  rw [List.getElem?_take, if_pos (by omega)]
  conv => lhs; rw [hd]
  rw [rnds_block x r d i hiT]
  exact hi
end Go.Proofs.Ytgjolablgcnlmaa
