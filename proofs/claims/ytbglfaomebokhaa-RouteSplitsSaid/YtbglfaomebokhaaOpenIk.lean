/- Arguments opened: items, their keys' bounds. -/
import Derived.Test.YtbglfaomebokhaaRs3
namespace Go.Proofs.Ytbglfaomebokhaa
set_option linter.unusedSimpArgs false
set_option linter.unusedVariables false
open Go.RowKit Go.WideShapes Go.ChangeShapes Go.Deep

theorem lies_itk {w : World} : Lies Try.prog w 30 (fun x : It => [Value.int .i64 x.k, Value.int .i64 x.v, Value.int .i64 x.n]) (fun x => In64 x.k) := by
  intro H enc base spare held fuel cs x h
  obtain ⟨y0, y1, n, rfl, hl, h0, h1⟩ := trod_struct2 Try.underlying30 h
  rw [show Try.prog.cellsOf 30 = 3 by kernel_rfl] at hl
  obtain ⟨c0, c1, c2, rfl⟩ := three_cells hl
  rw [show Try.prog.cellsOf 28 = 2 by kernel_rfl] at h0
  rw [show Try.prog.cellsOf 3 = 1 by kernel_rfl] at h1
  obtain ⟨r, e0, hg⟩ := lies_rc _ _ _ _ _ _ _ h0
  obtain ⟨n1, e1, _, w1⟩ := DataW.trod_int Try.underlying3 h1
  obtain ⟨rfl, rfl⟩ : c0 = .int .i64 r.1 ∧ c1 = .int .i64 r.2 := by simpa using e0
  obtain rfl : c2 = .int .i64 n1 := by simpa using e1
  exact ⟨⟨r.1, r.2, n1⟩, rfl, hg.1⟩
section
variable {H : Type} {enc : TypeId × Value → H} {w : World} {base : Nat} {spare : Nat → Bool} {held : Bool}
theorem open_itk {v : Value} {d : DataW H} {qs : List MemPlace} (h : DataW.Trod enc Try.prog w base spare held 22 v d qs) (hv : v.cells.toList = [v]) :
    ∃ (ps : List It) (a : Option Addr) (c : Nat), v = .slice a ps.length c ∧ Rd w 3 ps.length (.slice a ps.length c) (its ps) ∧ ps.length ≤ c ∧ ∀ x ∈ ps, In64 x.k := by
  obtain ⟨xs, h1, h2, h3⟩ := open_sl Try.underlying22 (show Try.prog.cellsOf 30 = 3 by kernel_rfl) (by omega) lies_itk h hv
  rw [its_flat] at h1
  obtain ⟨a, c, rfl⟩ := h1.form
  exact ⟨xs, a, c, rfl, h1, open_cap Try.underlying22 h hv _ _ _ rfl, fun x hx => (h2 x hx).1⟩
end
end Go.Proofs.Ytbglfaomebokhaa
