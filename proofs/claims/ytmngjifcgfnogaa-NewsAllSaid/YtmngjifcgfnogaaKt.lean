/- Timestamps as deep values. -/
import Derived.Test.YtmngjifcgfnogaaTyq
import Derived.Test.YtmngjifcgfnogaaChI
namespace Go.Proofs.Ytmngjifcgfnogaa.Dq
set_option linter.unusedSimpArgs false
set_option linter.unusedVariables false
set_option maxRecDepth 100000
open Go.RowKit

def tmC : Cod Tm where
  K := 5
  enc := fun m => [.int .i64 m.d, .int .i64 m.a, .int .i64 m.b, .int .i64 m.c, .int .i64 m.e]
  dec := fun l => match l with
    | [.int _ d, .int _ a, .int _ b, .int _ c, .int _ e] => ⟨d, a, b, c, e⟩
    | _ => ⟨0, 0, 0, 0, 0⟩
  de := fun _ => rfl
  len := fun _ => rfl
  lf := fun _ => rfl
theorem tmCE (m : Tm) : tmC.enc m = [.int .i64 m.d, .int .i64 m.a, .int .i64 m.b, .int .i64 m.c, .int .i64 m.e] := rfl
def clC : Cod (List Tm) where
  K := 1
  enc := fun l => [.sl (encL tmC l)]
  dec := fun l => match l with
    | [.sl m] => decL tmC m
    | _ => []
  de := fun x => by dsimp only; rw [decL_encL]
  len := fun _ => rfl
  lf := fun _ => rfl
theorem clE (l : List Tm) : clC.enc l = [.sl (encL tmC l)] := rfl
theorem tm_take (m : Tm) : (tmC.enc m).take 5 = tmC.enc m := rfl
theorem tm_len (m : Tm) : (tmC.enc m).length = 5 := rfl
theorem cl_len (m : List Tm) : (clC.enc m).length = 1 := rfl
theorem D1L.cons_inv {G : Gh} {w : World} {x : S1} {l : List S1} {us : List Value} (h : D1L G w (x :: l) us) : ∃ u us', us = u :: us' ∧ D1 G w x u ∧ D1L G w l us' := by
  cases us with
  | nil => have := h.1; simp at this
  | cons u us' => exact ⟨u, us', rfl, h.2 0 x u rfl rfl, by simpa using h.1, fun j y v h1 h2 => h.2 (j + 1) y v (by simpa using h1) (by simpa using h2)⟩
theorem D1L.nil_inv {G : Gh} {w : World} {us : List Value} (h : D1L G w [] us) : us = [] := List.eq_nil_of_length_eq_zero h.1.symm
theorem tms_plain : ∀ l : List Tm, plainV (encL tmC l).flatten = some (tms l)
  | [] => rfl
  | x :: l => by
    rw [encL_cons, List.flatten_cons, tmCE]
    simp only [List.cons_append, List.nil_append, plainV, tms_plain l, Option.map_some]
    rfl
theorem den_rb {A : Pr} {w : World} {l : List Tm} {v : Value} (h : Den A w (.sl (encL tmC l)) v) : Rb w l v := by
  obtain ⟨a, c, us, rfl, hr, hd, -, -⟩ := cells_of_den h (encL_all (C := tmC) l)
  rw [encL_len] at hr ⊢
  rw [flatL hd (tms_plain l)] at hr
  exact ⟨a, c, rfl, hr⟩
/-- What lies in new blocks. -/
def newA (A : Pr) (w w' : World) : Pr := fun b i => A b i ∨ (w.heap.size ≤ b ∧ b < w'.heap.size)
theorem newA_ok {A : Pr} {w w' : World} (hA : ∀ b i, A b i → b < w.heap.size) (hx : Ext w w') : (∀ b i, A b i → newA A w w' b i) ∧ ∀ b i, newA A w w' b i → b < w'.heap.size ∧ (b < w.heap.size → A b i) := by
  refine ⟨fun b i h => .inl h, fun b i h => ?_⟩
  rcases h with h | ⟨h1, h2⟩
  · exact ⟨Nat.lt_of_lt_of_le (hA b i h) hx.below.size, fun _ => h⟩
  · exact ⟨h2, fun h => by omega⟩
/-- Cells of one own row only. -/
def rowA (A : Pr) (v : Value) (n : Nat) : Pr := fun b i => A b i ∨ (v.ownBlock = some b ∧ i < n)
theorem tm_den {A : Pr} {w : World} : ∀ l : List Tm, DenL A w (encL tmC l).flatten (tms l)
  | [] => AL.nil
  | x :: l => by
    rw [encL_cons, List.flatten_cons, tmCE]
    exact (((((DenL.single (.int _ _)).append (DenL.single (.int _ _))).append (DenL.single (.int _ _))).append (DenL.single (.int _ _))).append (DenL.single (.int _ _))).append (tm_den l)
theorem row_own {A : Pr} {w w' : World} {l : List Tm} {v : Value} (hA : ∀ b i, A b i → b < w.heap.size) (h : Row w w.heap.size l v w') : ∃ A', (∀ b i, A b i → A' b i) ∧ (∀ b i, A' b i → b < w'.heap.size ∧ (b < w.heap.size → A b i)) ∧ RD A' w.heap.size w' (.own 47 5 (encL tmC l)) v := by
  obtain ⟨hx, a, c, rfl, ho⟩ := h
  have hcap : l.length ≤ c := by
    rcases ho.2 with ⟨h, h'⟩ | ⟨g, cap, cur, h, -, -, h', -⟩
    · omega
    · obtain ⟨-, -, rfl⟩ := Value.slice.inj h
      exact h'
  refine ⟨rowA A (.slice a l.length c) (l.length * 5), fun b i h => .inl h, fun b i h => ?_, ?_, encL_all (C := tmC) l, ⟨_, by rw [encL_len]; exact ho⟩, fun g hg i hi => ?_⟩
  · rcases h with h | ⟨h1, h2⟩
    · exact ⟨Nat.lt_of_lt_of_le (hA b i h) hx.below.size, fun _ => h⟩
    · have := ho.lt b h1
      exact ⟨this.2, fun h => by omega⟩
  · have := den_of_cells (A := rowA A (.slice a l.length c) (l.length * 5)) (c := c) (a := a) (encL_all (C := tmC) l) (by rw [encL_len]; exact hcap) (tm_den l) (fun hne => by
      rcases ho.2 with ⟨h, h'⟩ | ⟨g, cap, cur, h, -⟩
      · exact absurd (List.eq_nil_of_length_eq_zero (by rw [encL_len]; exact h')) hne
      · obtain ⟨rfl, -, -⟩ := Value.slice.inj h
        refine ⟨g, 0, rfl, fun i u hu => ⟨.inr ⟨rfl, ?_⟩, ?_⟩⟩
        · have := (List.getElem?_eq_some_iff.1 hu).1
          rw [Nat.zero_add, ← ho.1]
          exact this
        · have := ho.cells (g := g) rfl i u hu
          rwa [addr_add'] at this)
    rwa [encL_len] at this
  · rw [encL_len]
    rcases hi with hi | ⟨-, hi⟩
    · have := hA g i hi; have := (ho.lt g hg).1; omega
    · exact hi
def anyN {α : Type} (P : α → Bool) : List α → Int
  | [] => -1
  | x :: l => if P x then 0 else if anyN P l < 0 then -1 else anyN P l + 1
theorem anyN_any {α : Type} (P : α → Bool) : ∀ l : List α, decide (anyN P l ≥ 0) = l.any P
  | [] => rfl
  | x :: l => by
    have ih := anyN_any P l
    rw [List.any_cons, ← ih, anyN]
    cases hx : P x
    · simp only [Bool.false_eq_true, if_false, Bool.false_or]
      split
      · next h => rw [decide_eq_false (by omega), decide_eq_false (by omega)]
      · next h => rw [decide_eq_true (by omega), decide_eq_true (by omega)]
    · simp
theorem anyN_at {α : Type} {P : α → Bool} : ∀ {l : List α} {j : Nat} {x : α}, l[j]? = some x → P x = true → (∀ (k : Nat) y, k < j → l[k]? = some y → P y = false) → anyN P l = j
  | [], j, x, h, _, _ => by simp at h
  | y :: l, 0, x, h, hp, _ => by
    obtain rfl : y = x := by simpa using h
    rw [anyN, if_pos hp]
    rfl
  | y :: l, j + 1, x, h, hp, hn => by
    have ih := anyN_at (l := l) (j := j) (by simpa using h) hp (fun k z hk hz => hn (k + 1) z (by omega) (by simpa using hz))
    rw [anyN, if_neg (by rw [hn 0 y (by omega) rfl]; decide), ih, if_neg (by omega)]
    omega
theorem anyN_no {α : Type} {P : α → Bool} : ∀ {l : List α}, (∀ (k : Nat) y, l[k]? = some y → P y = false) → anyN P l = -1
  | [], _ => rfl
  | y :: l, h => by
    rw [anyN, if_neg (by rw [h 0 y rfl]; decide), anyN_no (fun k z hz => h (k + 1) z (by simpa using hz)), if_pos (by omega)]
end Go.Proofs.Ytmngjifcgfnogaa.Dq
