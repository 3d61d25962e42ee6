/- Fair, plain: windows, what they cover, which is left out. -/
import Derived.Test.YtgjolablgcnlmaaFa2
namespace Go.Proofs.Ytgjolablgcnlmaa
set_option linter.unusedSimpArgs false
set_option linter.unusedVariables false

def win (l : List Int) (p w : Nat) : List Int := (l.drop p).take w
/-- How many of the numbers below T are in it. -/
def cov (T : Nat) (f : Int → Int) : Nat := (List.range T).countP (fun k : Nat => decide (0 < f (k : Int)))
theorem countP_one {p q : Nat → Bool} {j : Nat} (hp : p j = false) (hq : q j = true) (he : ∀ k, k ≠ j → p k = q k) : ∀ T : Nat, j < T → (List.range T).countP q = (List.range T).countP p + 1
  | 0, h => absurd h (Nat.not_lt_zero j)
  | T + 1, h => by
    rw [List.range_succ, List.countP_append, List.countP_append]
    by_cases e : j = T
    · subst e
      have : (List.range j).countP q = (List.range j).countP p := by
        refine List.countP_congr fun k hk => ?_
        rw [he k (by have := List.mem_range.1 hk; omega)]
      rw [this]
      simp [hp, hq]
    · have := countP_one hp hq he T (by omega)
      rw [this]
      simp [he T (fun k => e k.symm)]
      omega
theorem countP_same {p q : Nat → Bool} {T : Nat} (he : ∀ k, k < T → p k = q k) : (List.range T).countP q = (List.range T).countP p :=
  List.countP_congr fun k hk => by rw [he k (List.mem_range.1 hk)]
theorem cov_le (T : Nat) (f : Int → Int) : cov T f ≤ T := by
  have := List.countP_le_length (p := fun k : Nat => decide (0 < f (k : Int))) (l := List.range T)
  rwa [List.length_range] at this
theorem cov_in {T : Nat} {f : Int → Int} {x : Int} (h0 : 0 ≤ x) (h1 : x < T) (hf : 0 ≤ f x) : ((cov T (upd f x (f x + 1)) : Nat) : Int) = if f x = 0 then (cov T f : Int) + 1 else cov T f := by
  obtain ⟨j, rfl⟩ : ∃ j : Nat, x = j := ⟨x.toNat, by omega⟩
  unfold cov
  by_cases e : f j = 0
  · rw [if_pos e, countP_one (p := fun k : Nat => decide (0 < f (k : Int))) (q := fun k : Nat => decide (0 < upd f j (f j + 1) (k : Int))) (j := j) (by simp [e]) (by rw [upd_same]; simp; omega) (fun k hk => by unfold upd; rw [if_neg (by omega)]) T (by omega)]
    omega
  · rw [if_neg e, countP_same (p := fun k : Nat => decide (0 < f (k : Int)))]
    intro k _
    by_cases h : k = j
    · subst h
      rw [upd_same, decide_eq_true (by omega), decide_eq_true (by omega)]
    · unfold upd
      rw [if_neg (by omega)]
theorem cov_out {T : Nat} {f : Int → Int} {x : Int} (h0 : 0 ≤ x) (h1 : x < T) (hf : 1 ≤ f x) : ((cov T (upd f x (f x - 1)) : Nat) : Int) = if f x = 1 then (cov T f : Int) - 1 else cov T f := by
  obtain ⟨j, rfl⟩ : ∃ j : Nat, x = j := ⟨x.toNat, by omega⟩
  unfold cov
  by_cases e : f j = 1
  · rw [if_pos e]
    have := countP_one (p := fun k : Nat => decide (0 < upd f j (f j - 1) (k : Int))) (q := fun k : Nat => decide (0 < f (k : Int))) (j := j) (by rw [upd_same]; simp; omega) (by simp; omega) (fun k hk => by unfold upd; rw [if_neg (by omega)]) T (by omega)
    omega
  · rw [if_neg e, countP_same (p := fun k : Nat => decide (0 < f (k : Int)))]
    intro k _
    by_cases h : k = j
    · subst h
      rw [upd_same, decide_eq_true (by omega), decide_eq_true (by omega)]
    · unfold upd
      rw [if_neg (by omega)]
theorem cov_all {T : Nat} {f : Int → Int} : cov T f = T ↔ ∀ k : Nat, k < T → 0 < f k := by
  unfold cov
  have h : (List.range T).countP (fun k : Nat => decide (0 < f (k : Int))) = T ↔ (List.range T).countP (fun k : Nat => decide (0 < f (k : Int))) = (List.range T).length := by rw [List.length_range]
  rw [h, List.countP_eq_length]
  simp
/-- How often a number is in a list. -/
def cntF (W : List Int) : Int → Int := fun k => ((W.count k : Nat) : Int)
theorem cntF_in (W : List Int) (x : Int) : upd (cntF W) x (cntF W x + 1) = cntF (W ++ [x]) := by
  funext k
  unfold upd cntF
  rw [List.count_append, List.count_singleton]
  by_cases e : k = x
  · subst e; simp
  · rw [if_neg e, if_neg (by simpa using fun h : x = k => e h.symm)]
    simp
theorem cntF_out (W : List Int) (x : Int) : upd (cntF (x :: W)) x (cntF (x :: W) x - 1) = cntF W := by
  funext k
  unfold upd cntF
  by_cases e : k = x
  · subst e; simp
  · rw [if_neg e, List.count_cons, if_neg (by simpa using fun h : x = k => e h.symm)]
    simp
theorem cntF_pos {W : List Int} {k : Int} : 0 < cntF W k ↔ k ∈ W := by
  unfold cntF
  rw [← List.count_pos_iff]
  omega
theorem cntF_nn (W : List Int) (k : Int) : 0 ≤ cntF W k := by unfold cntF; omega
theorem cntF_le (W : List Int) (k : Int) : cntF W k ≤ W.length := by unfold cntF; have := List.count_le_length (a := k) (l := W); omega
/-- The last ones of the first ones. -/
def tl (l : List Int) (i w : Nat) : List Int := (l.take i).drop (i - w)
theorem tl_len (l : List Int) (i w : Nat) : (tl l i w).length ≤ l.length := by unfold tl; rw [List.length_drop, List.length_take]; omega
theorem tl_in {l : List Int} {i w : Nat} {x : Int} (hx : l[i]? = some x) (hi : i < w) : tl l (i + 1) w = tl l i w ++ [x] := by
  unfold tl
  rw [show i + 1 - w = 0 by omega, show i - w = 0 by omega, List.drop_zero, List.drop_zero, List.take_add_one, hx]
  rfl
theorem tl_out {l : List Int} {i w : Nat} {x y : Int} (hx : l[i]? = some x) (hi : w ≤ i) (hw : 1 ≤ w) (hy : l[i - w]? = some y) : tl l i w ++ [x] = y :: tl l (i + 1) w := by
  have hlt := (List.getElem?_eq_some_iff.1 hx).1
  have e : tl l i w ++ [x] = (l.take (i + 1)).drop (i - w) := by
    unfold tl
    rw [List.take_add_one, hx, List.drop_append_of_le_length (by rw [List.length_take]; omega)]
    rfl
  rw [e]
  unfold tl
  have h2 : (l.take (i + 1))[i - w]? = some y := by rw [List.getElem?_take, if_pos (by omega), hy]
  obtain ⟨h3, h4⟩ := List.getElem?_eq_some_iff.1 h2
  rw [List.drop_eq_getElem_cons h3, h4, show i - w + 1 = i + 1 - w by omega]
theorem tl_win {l : List Int} {i w : Nat} (hw : w ≤ i) (hi : i ≤ l.length) : tl l i w = win l (i - w) w := by
  unfold tl win
  rw [List.drop_take, show i - (i - w) = w by omega]
/-- The least one that is left out. -/
theorem least_of {p : Nat → Prop} [DecidablePred p] {n : Nat} (h : p n) : ∃ k, k ≤ n ∧ p k ∧ ∀ j, j < k → ¬ p j := by
  induction n using Nat.strongRecOn with
  | _ n ih =>
    by_cases hex : ∃ j, j < n ∧ p j
    · obtain ⟨j, hj, hp⟩ := hex
      obtain ⟨k, hk, h1, h2⟩ := ih j hj hp
      exact ⟨k, by omega, h1, h2⟩
    · exact ⟨n, Nat.le_refl _, h, fun j hj hp => hex ⟨j, hj, hp⟩⟩
/-- A window with all things. -/
def Full (l : List Int) (T w p : Nat) : Prop := ∀ k : Nat, k < T → (k : Int) ∈ win l p w
/-- What is left out first: no window, or the first one that has not all, and the least thing that it lacks. -/
def LeftIs (l : List Int) (T w a n : Int) : Prop :=
  ((schedB l T = true ∧ 1 ≤ w ∧ w ≤ l.length) ∧ ∃ p k : Nat, a = p ∧ n = k ∧ p + w.toNat ≤ l.length ∧ k < T.toNat ∧ (k : Int) ∉ win l p w.toNat ∧ (∀ j : Nat, j < k → (j : Int) ∈ win l p w.toNat) ∧ ∀ q, q < p → Full l T.toNat w.toNat q) ∨
  (a = -1 ∧ n = -1 ∧ ((schedB l T = true ∧ 1 ≤ w ∧ w ≤ l.length) → ∀ q, q + w.toNat ≤ l.length → Full l T.toNat w.toNat q))
theorem LeftIs.uniq {l : List Int} {T w a n a' n' : Int} (h : LeftIs l T w a n) (h' : LeftIs l T w a' n') : a = a' ∧ n = n' := by
  rcases h with ⟨hg, p, k, rfl, rfl, h1, h2, h3, h4, h5⟩ | ⟨rfl, rfl, h1⟩ <;> rcases h' with ⟨hg', p', k', rfl, rfl, h1', h2', h3', h4', h5'⟩ | ⟨rfl, rfl, h1'⟩
  · have hp : p = p' := by
      rcases Nat.lt_trichotomy p p' with h | h | h
      · exact absurd (h5' p h k h2) h3
      · exact h
      · exact absurd (h5 p' h k' h2') h3'
    subst hp
    have hk : k = k' := by
      rcases Nat.lt_trichotomy k k' with h | h | h
      · exact absurd (h4' k h) h3
      · exact h
      · exact absurd (h4 k' h) h3'
    subst hk
    exact ⟨rfl, rfl⟩
  · exact absurd (h1' hg p h1 k h2) h3
  · exact absurd (h1 hg' p' h1' k' h2') h3'
  · exact ⟨rfl, rfl⟩
theorem LeftIs.neg {l : List Int} {T w a n : Int} (h : LeftIs l T w a n) (hg : schedB l T = true ∧ 1 ≤ w ∧ w ≤ l.length) : a < 0 ↔ ∀ q, q + w.toNat ≤ l.length → Full l T.toNat w.toNat q := by
  rcases h with ⟨-, p, k, rfl, rfl, h1, h2, h3, h4, h5⟩ | ⟨rfl, rfl, h1⟩
  · constructor
    · intro h; omega
    · intro h; exact absurd (h p h1 k h2) h3
  · exact ⟨fun _ => h1 hg, fun _ => by omega⟩
theorem LeftIs.none {l : List Int} {T w a n : Int} (h : LeftIs l T w a n) (hg : ¬ (schedB l T = true ∧ 1 ≤ w ∧ w ≤ l.length)) : a = -1 ∧ n = -1 := by
  rcases h with ⟨h, -⟩ | ⟨h1, h2, -⟩
  · exact absurd h hg
  · exact ⟨h1, h2⟩
theorem sched_at {l : List Int} {T : Int} (h : schedB l T = true) : 1 ≤ T ∧ ∀ x ∈ l, 0 ≤ x ∧ x < T := by
  unfold schedB at h
  simp only [Bool.and_eq_true, decide_eq_true_eq, Bool.not_eq_true', List.any_eq_false] at h
  refine ⟨h.1, fun x hx => ?_⟩
  have := h.2 x hx
  unfold outB at this
  simp only [Bool.or_eq_true, decide_eq_true_eq, not_or] at this
  omega
end Go.Proofs.Ytgjolablgcnlmaa
