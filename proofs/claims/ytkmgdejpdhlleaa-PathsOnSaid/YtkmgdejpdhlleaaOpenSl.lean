/- Slices of numbers opened. -/
import Derived.Test.YtkmgdejpdhlleaaApp
import Derived.ProofKit
import Derived.Deep.Slices
namespace Go.Proofs.Ytkmgdejpdhlleaa
set_option linter.unusedSimpArgs false
set_option linter.unusedVariables false
set_option maxRecDepth 100000
open Go.RowKit

open Go.RowKit Go.WideShapes Go.ChangeShapes Go.Deep

theorem cell_addr {w : World} {a : Addr} {v : Value} (h : w.cell? a = some v) : a = ⟨a.block, a.off, none⟩ := by
  cases a with
  | mk b o s =>
    cases s with
    | none => rfl
    | some s =>
      unfold World.cell? at h
      split at h <;> simp at h
theorem addr_add (b o i : Nat) : (⟨b, o, none⟩ : Addr).add i = ⟨b, o + i, none⟩ := by unfold Addr.add; split <;> simp_all

section
variable {H : Type} {enc : TypeId × Value → H} {P : Program} {w : World} {base : Nat} {spare : Nat → Bool} {held : Bool}

/-- How the values of a type lie in cells: 'f' gives the cells, 'good' what is known of them. -/
def Lies (P : Program) (w : World) (t : TypeId) {α : Type} (f : α → List Value) (good : α → Prop) : Prop :=
  ∀ {H : Type} (enc : TypeId × Value → H) (base : Nat) (spare : Nat → Bool) (held : Bool) (fuel : Nat) (cs : List Value) (x : DataW H × List MemPlace), DataW.trod enc P w base spare held fuel t cs = some x → ∃ a, cs = f a ∧ good a
theorem lies_int {t : TypeId} {k : IntKind} (ht : P.underlying t = some (.int k)) : Lies P w t (fun n => [Value.int k n]) (fun n => k.min ≤ n ∧ n ≤ k.max) := by
  intro H enc base spare held fuel cs x h
  obtain ⟨n, rfl, _, hw⟩ := DataW.trod_int ht h
  refine ⟨n, rfl, ?_⟩
  simpa [Lit.wf] using hw

/-- A slice of such elements. -/
theorem open_sl {α : Type} {t e : TypeId} {k : Nat} {f : α → List Value} {good : α → Prop} (ht : P.underlying t = some (.slice e)) (hk : P.cellsOf e = k) (hk0 : 0 < k) (he : Lies P w e f good)
    {v : Value} {d : DataW H} {ps : List MemPlace} (h : DataW.Trod enc P w base spare held t v d ps) (hv : v.cells.toList = [v]) :
    ∃ xs : List α, Rd w k xs.length v (xs.flatMap f) ∧ (∀ a ∈ xs, good a ∧ (f a).length = k) ∧ xs.length ≤ maxLen := by
  obtain ⟨fuel, h⟩ := h
  rw [hv] at h
  rcases open_slice ht h with ⟨h0, _⟩ | ⟨a, len, cap, m, n, D, Pl, h0, hb, hl, hm, hmm, _, hx⟩
  · obtain rfl : v = .slice none 0 0 := by simpa using h0
    exact ⟨[], Rd.nil _ _ _ _, by simp, by simp⟩
  · obtain rfl : v = .slice (some a) len cap := by simpa using h0
    rw [hk] at hx
    have hle : len ≤ m := by rw [hmm]; split <;> omega
    have each : ∀ i, i < len → ∃ y : α, (∀ j, j < k → w.cell? (a.add (i * k + j)) = (f y)[j]?) ∧ good y ∧ (f y).length = k := by
      intro i hi
      obtain ⟨cs', h1, h2⟩ := hx i (by omega)
      obtain ⟨y, rfl, hg⟩ := he _ _ _ _ _ _ _ h2
      obtain ⟨_, hlen, hc⟩ := World.cells?_some h1
      refine ⟨y, fun j hj => ?_, hg, hlen⟩
      rw [← hc j hj]
      congr 1
      unfold Addr.add
      repeat' split
      all_goals first | rfl | omega | (simp_all; done) | (simp; omega) | skip
      all_goals simp_all <;> omega
    cases len with
    | zero => exact ⟨[], Rd.nil _ _ _ _, by simp, by simp⟩
    | succ len =>
    obtain ⟨y0, hc0, _, hl0⟩ := each 0 (by omega)
    haveI : Inhabited α := ⟨y0⟩
    obtain ⟨Y, hY⟩ := choose_lt (α := α) (p := fun i y => (∀ j, j < k → w.cell? (a.add (i * k + j)) = (f y)[j]?) ∧ good y ∧ (f y).length = k) each
    have ha : a = ⟨a.block, a.off, none⟩ := by
      have h3 := hc0 0 hk0
      rw [show (0 * k + 0) = 0 by omega] at h3
      have h4 : a.add 0 = a := by simp [Addr.add]
      rw [h4, List.getElem?_eq_getElem (by omega)] at h3
      exact cell_addr h3
    have hfl : ∀ (n : Nat), n ≤ len + 1 → (((List.range n).map Y).flatMap f).length = n * k := by
      intro n hn
      induction n with
      | zero => simp
      | succ n ih =>
        rw [List.range_succ, List.map_append, List.flatMap_append, List.length_append, ih (by omega)]
        simp [(hY n (by omega)).2.2, Nat.succ_mul]
    have hcell : ∀ (n : Nat), n ≤ len + 1 → ∀ i u, (((List.range n).map Y).flatMap f)[i]? = some u → w.cell? ⟨a.block, a.off + i, none⟩ = some u := by
      intro n hn
      induction n with
      | zero => intro i u hu; simp at hu
      | succ n ih =>
        intro i u hu
        rw [List.range_succ, List.map_append, List.flatMap_append, List.getElem?_append] at hu
        split at hu
        · exact ih (by omega) i u hu
        · rename_i hi
          rw [hfl n (by omega)] at hu hi
          have hu' : (f (Y n))[i - n * k]? = some u := by simpa using hu
          have hj : i - n * k < k := by
            have := (List.getElem?_eq_some_iff.1 hu').1
            rw [(hY n (by omega)).2.2] at this
            exact this
          have h5 := (hY n (by omega)).1 _ hj
          rw [hu', ha, addr_add, show a.off + (n * k + (i - n * k)) = a.off + i by omega] at h5
          exact h5
    refine ⟨(List.range (len + 1)).map Y, ⟨by rw [hfl _ (Nat.le_refl _)]; simp, some a, cap, by simp, fun _ => ⟨a.block, a.off, by rw [← ha], fun i u hu => hcell _ (Nat.le_refl _) i u hu⟩⟩, ?_, by simp; omega⟩
    intro y hy
    obtain ⟨i, hi, rfl⟩ := List.mem_map.1 hy
    exact (hY i (by simpa using hi)).2
/-- A slice of numbers. -/
theorem open_is {t e : TypeId} {q : IntKind} (ht : P.underlying t = some (.slice e)) (hk : P.cellsOf e = 1) (he : P.underlying e = some (.int q))
    {v : Value} {d : DataW H} {ps : List MemPlace} (h : DataW.Trod enc P w base spare held t v d ps) (hv : v.cells.toList = [v]) :
    ∃ xs : List Int, Ri w q v xs ∧ (∀ n ∈ xs, q.min ≤ n ∧ n ≤ q.max) ∧ xs.length ≤ maxLen := by
  obtain ⟨xs, h1, h2, h3⟩ := open_sl ht hk (by omega) (lies_int he) h hv
  refine ⟨xs, ?_, fun n hn => (h2 n hn).1, h3⟩
  unfold Ri
  rwa [show xs.flatMap (fun n => [Value.int q n]) = xs.map (Value.int q) by clear h1 h2 h3; induction xs with | nil => rfl | cons a l ih => simp [ih]] at h1
end
theorem cells_slice {P : Program} {w : World} {r : Reach} {b : Nat} {t e : TypeId} {v : Value} (ht : P.underlying t = some (.slice e)) (hv : Value.okWide P w r b t v) : v.cells.toList = [v] := by
  unfold Value.okWide at hv
  rw [ht] at hv
  unfold Cell.okWide at hv
  rw [ht] at hv
  cases v <;> first | rfl | (simp [Cell.ok, ht] at hv)
open Go.RowKit Go.WideShapes Go.ChangeShapes Go.Deep

section
variable {H : Type} {enc : TypeId × Value → H} {w : World} {base : Nat} {spare : Nat → Bool} {held : Bool}
theorem open_cap {P : Program} {t e : TypeId} (ht : P.underlying t = some (.slice e)) {v : Value} {d : DataW H} {ps : List MemPlace} (h : DataW.Trod enc P w base spare held t v d ps) (hv : v.cells.toList = [v]) (a : Option Addr) (n c : Nat) (e : v = .slice a n c) : n ≤ c := by
  obtain ⟨fuel, h⟩ := h
  rw [hv] at h
  rcases open_slice ht h with ⟨h0, _⟩ | ⟨a', len, cap, m, k, D, Pl, h0, hb, hl, hm, hmm, _, hx⟩
  · obtain rfl : v = .slice none 0 0 := by simpa using h0
    cases e
    exact Nat.le_refl _
  · obtain rfl : v = .slice (some a') len cap := by simpa using h0
    cases e
    exact hl
end
end Go.Proofs.Ytkmgdejpdhlleaa
