/- Contract of backwashref01.Both: the join, and the meet. -/
import Derived.Test.YtkmgdejpdhlleaaRef1e
import Derived.Test.YtkmgdejpdhlleaaOwnF
namespace Go.Proofs.Ytkmgdejpdhlleaa
set_option linter.unusedSimpArgs false
set_option linter.unusedVariables false
set_option maxRecDepth 100000
open Go.RowKit

def joinR (s t : Tm) : Tm × Bool := if bothB s t then (joinT s t, true) else (tz, false)
def meetR (s t : Tm) : Tm × Bool := if bothB s t then (meetT s t, true) else (tz, false)
def bothR (j : Bool) (s t : Tm) : Tm × Bool := if j then joinR s t else meetR s t

/-- n numbers as cells, each by its place. -/
def rowf (n : Nat) (f : Nat → Int) : List Value := (List.range n).map fun j => .int .i64 (f j)
theorem rowf_len (n : Nat) (f : Nat → Int) : (rowf n f).length = n := by simp [rowf]
theorem rowf_get (n : Nat) (f : Nat → Int) (j : Nat) (h : j < n) : (rowf n f)[j]? = some (.int .i64 (f j)) := by simp [rowf, h]
theorem rowf_set (n : Nat) (f g : Nat → Int) (k : Nat) (v : Int) (h : k < n) (hk : g k = v) (ho : ∀ j, j < n → j ≠ k → g j = f j) : (rowf n f).take k ++ [.int .i64 v] ++ (rowf n f).drop (k + [Value.int .i64 v].length) = rowf n g := by
  apply List.ext_getElem?
  intro j
  by_cases hj : j < n
  · rw [rowf_get n g j hj]
    by_cases h1 : j < k
    · rw [List.append_assoc, List.getElem?_append_left (by rw [List.length_take, rowf_len]; omega), List.getElem?_take, if_pos h1, rowf_get n f j hj, ho j hj (by omega)]
    · by_cases h2 : j = k
      · subst h2
        rw [List.append_assoc, List.getElem?_append_right (by rw [List.length_take, rowf_len]; omega), List.length_take, rowf_len, show j - min j n = 0 by omega, hk]
        rfl
      · rw [List.getElem?_append_right (by rw [List.length_append, List.length_take, rowf_len]; simp; omega), List.getElem?_drop, List.length_append, List.length_take, rowf_len]
        rw [show k + [Value.int .i64 v].length + (j - (min k n + [Value.int .i64 v].length)) = j by simp; omega, rowf_get n f j hj, ho j hj h2]
  · rw [List.getElem?_eq_none (by rw [List.length_append, List.length_append, List.length_take, List.length_drop, rowf_len]; simp; omega), List.getElem?_eq_none (by rw [rowf_len]; omega)]
theorem pre_rowf (t : Tm) (n : Nat) (hn : t.d = n) (h4 : n ≤ 4) : ints (pre t 4) = rowf n fun j => t.at j := by
  have hl := pre_len t (by omega) 4
  apply List.ext_getElem?
  intro j
  by_cases hj : j < n
  · rw [rowf_get n _ j hj]
    simp [ints, pre_get t 4 j (by omega) (by omega) (by omega)]
  · rw [List.getElem?_eq_none (by simp [ints, hl]; omega), List.getElem?_eq_none (by rw [rowf_len]; omega)]

/-- What one coordinate becomes. -/
def pickC (j : Bool) (x y : Int) : Int := if j then imax x y else imin x y
theorem pick_t (x y : Int) (h : x < y) : pickC true x y = y := by simp [pickC, imax, h]
theorem pick_t' (x y : Int) (h : y ≤ x) : pickC true x y = x := by simp [pickC, imax, show ¬ x < y by omega]
theorem pick_f (x y : Int) (h : y ≤ x) : pickC false x y = y := by
  simp only [pickC, imin]
  by_cases h' : y < x <;> simp [h'] <;> omega
theorem pick_f' (x y : Int) (h : x < y) : pickC false x y = x := by simp [pickC, imin, show ¬ y < x by omega]
def mixF (j : Bool) (s t : Tm) (k i : Nat) : Int := if i < k then pickC j (s.at i) (t.at i) else s.at i
theorem mix_0 (j : Bool) (s t : Tm) : mixF j s t 0 = fun i : Nat => s.at i := by funext i; simp [mixF]
theorem mix_at (j : Bool) (s t : Tm) (k : Nat) : mixF j s t k k = s.at k := by simp [mixF]
theorem mix_done (j : Bool) (s t : Tm) (k i : Nat) (h : i < k) : mixF j s t k i = pickC j (s.at i) (t.at i) := by simp [mixF, h]
theorem mix_next (j : Bool) (s t : Tm) (k i : Nat) (h : i ≠ k) : mixF j s t (k + 1) i = mixF j s t k i := by
  unfold mixF
  by_cases h1 : i < k
  · rw [if_pos (by omega), if_pos h1]
  · rw [if_neg (by omega), if_neg h1]
theorem mix_stays (j : Bool) (s t : Tm) (n k : Nat) (h : pickC j (s.at k) (t.at k) = s.at k) : rowf n (mixF j s t k) = rowf n (mixF j s t (k + 1)) := by
  unfold rowf
  apply List.map_congr_left
  intro i _
  by_cases hi : i = k
  · subst hi; rw [mix_at, mix_done _ _ _ _ _ (by omega), h]
  · rw [mix_next _ _ _ _ _ hi]

theorem both_alike_1 (a a' : Int) (j : Bool) (h1 : rightB ⟨1, a, 0, 0, 0⟩ = true) (h2 : rightB ⟨1, a', 0, 0, 0⟩ = true) : (ofT [pickC j a a'], ofB [pickC j a a']) = bothR j ⟨1, a, 0, 0, 0⟩ ⟨1, a', 0, 0, 0⟩ := by
  have r1 := (rightB_iff _).1 h1
  have r2 := (rightB_iff _).1 h2
  simp only at r1 r2
  have h3 : rightB (tmOf [pickC j a a']) = true := (rightB_iff _).2 (by
    simp only [tmOf, List.length_cons, List.length_nil]
    simp
    cases j <;> simp only [pickC, imin, imax] <;> simp <;> (repeat' split) <;> omega)
  have e1 : ofT [pickC j a a'] = tmOf [pickC j a a'] := if_pos h3
  have e2 : ofB [pickC j a a'] = true := h3
  rw [e1, e2]
  cases j <;> simp [bothR, joinR, meetR, bothB, h1, h2, tmOf, joinT, meetT, pickC] <;> simp [imax, imin]

theorem both_alike_2 (a b a' b' : Int) (j : Bool) (h1 : rightB ⟨2, a, b, 0, 0⟩ = true) (h2 : rightB ⟨2, a', b', 0, 0⟩ = true) : (ofT [pickC j a a', pickC j b b'], ofB [pickC j a a', pickC j b b']) = bothR j ⟨2, a, b, 0, 0⟩ ⟨2, a', b', 0, 0⟩ := by
  have r1 := (rightB_iff _).1 h1
  have r2 := (rightB_iff _).1 h2
  simp only at r1 r2
  have h3 : rightB (tmOf [pickC j a a', pickC j b b']) = true := (rightB_iff _).2 (by
    simp only [tmOf, List.length_cons, List.length_nil]
    simp
    cases j <;> simp only [pickC, imin, imax] <;> simp <;> (repeat' split) <;> omega)
  have e1 : ofT [pickC j a a', pickC j b b'] = tmOf [pickC j a a', pickC j b b'] := if_pos h3
  have e2 : ofB [pickC j a a', pickC j b b'] = true := h3
  rw [e1, e2]
  cases j <;> simp [bothR, joinR, meetR, bothB, h1, h2, tmOf, joinT, meetT, pickC] <;> simp [imax, imin]

theorem both_alike_3 (a b c a' b' c' : Int) (j : Bool) (h1 : rightB ⟨3, a, b, c, 0⟩ = true) (h2 : rightB ⟨3, a', b', c', 0⟩ = true) : (ofT [pickC j a a', pickC j b b', pickC j c c'], ofB [pickC j a a', pickC j b b', pickC j c c']) = bothR j ⟨3, a, b, c, 0⟩ ⟨3, a', b', c', 0⟩ := by
  have r1 := (rightB_iff _).1 h1
  have r2 := (rightB_iff _).1 h2
  simp only at r1 r2
  have h3 : rightB (tmOf [pickC j a a', pickC j b b', pickC j c c']) = true := (rightB_iff _).2 (by
    simp only [tmOf, List.length_cons, List.length_nil]
    simp
    cases j <;> simp only [pickC, imin, imax] <;> simp <;> (repeat' split) <;> omega)
  have e1 : ofT [pickC j a a', pickC j b b', pickC j c c'] = tmOf [pickC j a a', pickC j b b', pickC j c c'] := if_pos h3
  have e2 : ofB [pickC j a a', pickC j b b', pickC j c c'] = true := h3
  rw [e1, e2]
  cases j <;> simp [bothR, joinR, meetR, bothB, h1, h2, tmOf, joinT, meetT, pickC] <;> simp [imax, imin]

theorem both_alike_4 (a b c e a' b' c' e' : Int) (j : Bool) (h1 : rightB ⟨4, a, b, c, e⟩ = true) (h2 : rightB ⟨4, a', b', c', e'⟩ = true) : (ofT [pickC j a a', pickC j b b', pickC j c c', pickC j e e'], ofB [pickC j a a', pickC j b b', pickC j c c', pickC j e e']) = bothR j ⟨4, a, b, c, e⟩ ⟨4, a', b', c', e'⟩ := by
  have r1 := (rightB_iff _).1 h1
  have r2 := (rightB_iff _).1 h2
  simp only at r1 r2
  have h3 : rightB (tmOf [pickC j a a', pickC j b b', pickC j c c', pickC j e e']) = true := (rightB_iff _).2 (by
    simp only [tmOf, List.length_cons, List.length_nil]
    simp
    cases j <;> simp only [pickC, imin, imax] <;> simp <;> (repeat' split) <;> omega)
  have e1 : ofT [pickC j a a', pickC j b b', pickC j c c', pickC j e e'] = tmOf [pickC j a a', pickC j b b', pickC j c c', pickC j e e'] := if_pos h3
  have e2 : ofB [pickC j a a', pickC j b b', pickC j c c', pickC j e e'] = true := h3
  rw [e1, e2]
  cases j <;> simp [bothR, joinR, meetR, bothB, h1, h2, tmOf, joinT, meetT, pickC]

end Go.Proofs.Ytkmgdejpdhlleaa
