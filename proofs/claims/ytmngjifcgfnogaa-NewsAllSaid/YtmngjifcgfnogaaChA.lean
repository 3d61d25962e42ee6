/- Chain: rows of timestamps. -/
import Derived.Test.YtmngjifcgfnogaaTs3
import Derived.Test.YtmngjifcgfnogaaOwnG
import Derived.Test.YtmngjifcgfnogaaNew
import Derived.Test.YtmngjifcgfnogaaStop
import Derived.StillTailTactics
namespace Go.Proofs.Ytmngjifcgfnogaa
set_option linter.unusedSimpArgs false
set_option linter.unusedVariables false
set_option maxRecDepth 100000
open Go.RowKit

/-- A region that draws its order: all but its last operations only read, or call what leaves the world alone. -/
theorem wp_region_tail {P : Program} {id : Nat} {Q : Exit → Act → World → Prop} {a : Act} {w : World} {l : List Oper} (n : Nat) (hm : P.follows .mixedOrders = true) (hB : Region.lexTailB .any l.toArray n = true)
    (h : wpStill P l.toArray w.drew (fun a' => wpList P l.toArray Q (l.drop n) a' w.drew) (l.take n) a) : (Code.region id l.toArray true).wp P Q a w := wp_region_still_tail n hm hB h
theorem cell_lit (w : World) (cs : Array Value) (e : TypeId) (g i : Nat) (u : Value) (hg : g = w.heap.size) (hu : cs[i]? = some u) : (w.alloc (.cells cs e)).cell? ⟨g, i, none⟩ = some u := by
  subst hg
  rw [cell_of_row _ _ _ cs e (0, 0) (heap_alloc_new w _), hu]
theorem keep_add {w : World} {z : Inc} {b i : Nat} {v : Value} (h : ∀ u, (ext w (z.add u)).cell? ⟨b, i, none⟩ = some v) : (ext w z).cell? ⟨b, i, none⟩ = some v := by
  have h1 := h ⟨[], z.n⟩
  have e : z.add ⟨[], z.n⟩ = z := by cases z; simp [Inc.add]
  rwa [e] at h1
/-- What leaves the world alone only grows it. -/
theorem still_quiet {P : Program} {f : FuncId} {args : Array Value} {w : World} {v : Value} (h : Calls P f args w fun e w' => e = .returned v ∧ w' = w) : Calls P f args w fun e w' => e = .returned v ∧ Ext w w' :=
  h.mono fun _ _ ⟨h1, h2⟩ => ⟨h1, h2 ▸ Ext.refl w⟩
def tms : List Tm → List Value
  | [] => []
  | x :: l => .int .i64 x.d :: .int .i64 x.a :: .int .i64 x.b :: .int .i64 x.c :: .int .i64 x.e :: tms l
theorem tms_length (l : List Tm) : (tms l).length = l.length * 5 := by
  induction l with
  | nil => rfl
  | cons a l ih => simp only [tms, List.length_cons, ih]; omega
theorem tms_append (l m : List Tm) : tms (l ++ m) = tms l ++ tms m := by
  induction l with
  | nil => rfl
  | cons a l ih => simp only [List.cons_append, tms, ih]
theorem tms_one (l : List Tm) : ∀ u ∈ tms l, u.oneCell' = true := by
  induction l with
  | nil => intro u hu; cases hu
  | cons a l ih =>
    intro u hu
    simp only [tms, List.mem_cons] at hu
    rcases hu with rfl | rfl | rfl | rfl | rfl | hu
    · rfl
    · rfl
    · rfl
    · rfl
    · rfl
    · exact ih u hu
theorem tms_get : ∀ (l : List Tm) (j : Nat) (x : Tm), l[j]? = some x → (tms l)[j * 5]? = some (.int .i64 x.d) ∧ (tms l)[j * 5 + 1]? = some (.int .i64 x.a) ∧ (tms l)[j * 5 + 2]? = some (.int .i64 x.b) ∧ (tms l)[j * 5 + 3]? = some (.int .i64 x.c) ∧ (tms l)[j * 5 + 4]? = some (.int .i64 x.e)
  | [], j, x, h => by simp at h
  | a :: l, 0, x, h => by
    obtain rfl : a = x := by simpa using h
    exact ⟨rfl, rfl, rfl, rfl, rfl⟩
  | a :: l, j + 1, x, h => by
    have := tms_get l j x (by simpa using h)
    rw [show (j + 1) * 5 = j * 5 + 1 + 1 + 1 + 1 + 1 by omega]
    simpa [tms] using this
/-- The cells of a timestamp. -/
theorem tm_at {w : World} {b off n c : Nat} {l : List Tm} (h : Rd w 5 n (.slice (some ⟨b, off, none⟩) n c) (tms l)) (j : Nat) (x : Tm) (hj : l[j]? = some x) :
    w.cell? ⟨b, off + j * 5, none⟩ = some (.int .i64 x.d) ∧ w.cell? ⟨b, off + j * 5 + 1, none⟩ = some (.int .i64 x.a) ∧ w.cell? ⟨b, off + j * 5 + 2, none⟩ = some (.int .i64 x.b) ∧ w.cell? ⟨b, off + j * 5 + 3, none⟩ = some (.int .i64 x.c) ∧ w.cell? ⟨b, off + j * 5 + 4, none⟩ = some (.int .i64 x.e) := by
  obtain ⟨h1, h2, h3, h4, h5⟩ := tms_get l j x hj
  have hlt := (List.getElem?_eq_some_iff.1 hj).1
  have hl := h.len
  rw [tms_length] at hl
  obtain ⟨b', off', hb, hc⟩ := h.cells (by omega)
  obtain ⟨rfl, rfl⟩ : b = b' ∧ off = off' := by simpa using hb
  have c1 := hc _ _ h1
  have c2 := hc _ _ h2
  have c3 := hc _ _ h3
  have c4 := hc _ _ h4
  have c5 := hc _ _ h5
  rw [← Nat.add_assoc] at c2 c3 c4 c5
  exact ⟨c1, c2, c3, c4, c5⟩
end Go.Proofs.Ytmngjifcgfnogaa
