/- Arguments opened: what came out of sinks. -/
import Derived.Test.YtbglfaomebokhaaDfC
import Derived.Deep.Strs
namespace Go.Proofs.Ytbglfaomebokhaa
set_option linter.unusedSimpArgs false
set_option linter.unusedVariables false
open Go.RowKit Go.WideShapes Go.ChangeShapes Go.Deep

theorem lies_ou {w : World} : Lies Try.prog w 61 (fun x : Ou => [Value.int .i64 x.d, Value.int .i64 x.e, Value.int .i64 x.k, Value.int .i64 x.v]) (fun x => In64 x.d) := by
  intro H enc base spare held fuel cs x h
  obtain ⟨y0, y1, y2, n, rfl, hl, h0, h1, h2⟩ := trod_struct3 Try.underlying61 h
  rw [show Try.prog.cellsOf 61 = 4 by kernel_rfl] at hl
  obtain ⟨c0, c1, c2, c3, rfl⟩ : ∃ a b c d, cs = [a, b, c, d] := by
    match cs, hl with
    | [a, b, c, d], _ => exact ⟨a, b, c, d, rfl⟩
  rw [show Try.prog.cellsOf 3 = 1 by kernel_rfl] at h0 h1
  rw [show Try.prog.cellsOf 28 = 2 by kernel_rfl] at h2
  obtain ⟨n0, e0, _, w0⟩ := DataW.trod_int Try.underlying3 h0
  obtain ⟨n1, e1, _, w1⟩ := DataW.trod_int Try.underlying3 h1
  obtain ⟨r, e2, -⟩ := lies_rc _ _ _ _ _ _ _ h2
  obtain rfl : c0 = .int .i64 n0 := by simpa using e0
  obtain rfl : c1 = .int .i64 n1 := by simpa using e1
  obtain ⟨rfl, rfl⟩ : c2 = .int .i64 r.1 ∧ c3 = .int .i64 r.2 := by simpa using e2
  refine ⟨⟨n0, n1, r.1, r.2⟩, rfl, ?_⟩
  simpa [Lit.wf, In64, IntKind.min, IntKind.max, IntKind.signed, IntKind.bits] using w0
section
variable {H : Type} {enc : TypeId × Value → H} {w : World} {base : Nat} {spare : Nat → Bool} {held : Bool}
theorem open_ous {v : Value} {d : DataW H} {qs : List MemPlace} (h : DataW.Trod enc Try.prog w base spare held 47 v d qs) (hv : v.cells.toList = [v]) :
    ∃ (ps : List Ou) (a : Option Addr) (c : Nat), v = .slice a ps.length c ∧ Rd w 4 ps.length (.slice a ps.length c) (ous ps) ∧ ps.length ≤ c := by
  obtain ⟨xs, h1, h2, h3⟩ := open_sl Try.underlying47 (show Try.prog.cellsOf 61 = 4 by kernel_rfl) (by omega) lies_ou h hv
  rw [ous_flat] at h1
  obtain ⟨a, c, rfl⟩ := h1.form
  exact ⟨xs, a, c, rfl, h1, open_cap Try.underlying47 h hv _ _ _ rfl⟩
end
end Go.Proofs.Ytbglfaomebokhaa
