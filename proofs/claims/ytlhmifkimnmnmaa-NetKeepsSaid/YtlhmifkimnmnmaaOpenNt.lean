/- Arguments opened: steps of mailboxes. -/
import Derived.Test.YtlhmifkimnmnmaaOpenSl
import Derived.Test.YtlhmifkimnmnmaaOpen
import Derived.Test.YtlhmifkimnmnmaaOpenCap
import Derived.Test.YtlhmifkimnmnmaaLaw14c
namespace Go.Proofs.Ytlhmifkimnmnmaa
set_option linter.unusedSimpArgs false
set_option linter.unusedVariables false
open Go.RowKit Go.WideShapes Go.ChangeShapes Go.Deep

theorem lies_st {w : World} : Lies Try.prog w 47 (fun x : St => [Value.bool x.p, Value.int .u8 x.e, Value.int .u8 x.f, Value.int .u8 x.t, Value.int .u8 x.i]) (fun x => (0 ≤ x.e ∧ x.e ≤ 255) ∧ (0 ≤ x.f ∧ x.f ≤ 255) ∧ (0 ≤ x.t ∧ x.t ≤ 255) ∧ (0 ≤ x.i ∧ x.i ≤ 255)) := by
  intro H enc base spare held fuel cs x h
  obtain ⟨xs, n, -, -, hl, hlen, hf⟩ := DataW.trod_struct Try.underlying47 h
  rw [show Try.prog.cellsOf 47 = 5 by kernel_rfl] at hl
  obtain ⟨c0, c1, c2, c3, c4, rfl⟩ : ∃ c0 c1 c2 c3 c4, cs = [c0, c1, c2, c3, c4] := by
    match cs, hl with
    | [c0, c1, c2, c3, c4], _ => exact ⟨c0, c1, c2, c3, c4, rfl⟩
  obtain ⟨y0, h0⟩ : ∃ y, DataW.trod enc Try.prog w base spare held n 4 [c0] = some y := by
    have := hf 0 _ rfl
    rw [List.getElem?_eq_getElem (by rw [hlen]; decide)] at this
    exact ⟨_, by simpa [show Try.prog.cellsOf 4 = 1 by kernel_rfl] using this⟩
  obtain ⟨n0, e0, -⟩ := DataW.trod_bool Try.underlying4 h0
  obtain rfl : c0 = .bool n0 := by simpa using e0
  obtain ⟨y1, h1⟩ : ∃ y, DataW.trod enc Try.prog w base spare held n 5 [c1] = some y := by
    have := hf 1 _ rfl
    rw [List.getElem?_eq_getElem (by rw [hlen]; decide)] at this
    exact ⟨_, by simpa [show Try.prog.cellsOf 5 = 1 by kernel_rfl] using this⟩
  obtain ⟨n1, e1, -, w1⟩ := DataW.trod_int Try.underlying5 h1
  obtain rfl : c1 = .int .u8 n1 := by simpa using e1
  have b1 : 0 ≤ n1 ∧ n1 ≤ 255 := by simpa [Lit.wf, IntKind.min, IntKind.max, IntKind.signed, IntKind.bits] using w1
  obtain ⟨y2, h2⟩ : ∃ y, DataW.trod enc Try.prog w base spare held n 5 [c2] = some y := by
    have := hf 2 _ rfl
    rw [List.getElem?_eq_getElem (by rw [hlen]; decide)] at this
    exact ⟨_, by simpa [show Try.prog.cellsOf 5 = 1 by kernel_rfl] using this⟩
  obtain ⟨n2, e2, -, w2⟩ := DataW.trod_int Try.underlying5 h2
  obtain rfl : c2 = .int .u8 n2 := by simpa using e2
  have b2 : 0 ≤ n2 ∧ n2 ≤ 255 := by simpa [Lit.wf, IntKind.min, IntKind.max, IntKind.signed, IntKind.bits] using w2
  obtain ⟨y3, h3⟩ : ∃ y, DataW.trod enc Try.prog w base spare held n 5 [c3] = some y := by
    have := hf 3 _ rfl
    rw [List.getElem?_eq_getElem (by rw [hlen]; decide)] at this
    exact ⟨_, by simpa [show Try.prog.cellsOf 5 = 1 by kernel_rfl] using this⟩
  obtain ⟨n3, e3, -, w3⟩ := DataW.trod_int Try.underlying5 h3
  obtain rfl : c3 = .int .u8 n3 := by simpa using e3
  have b3 : 0 ≤ n3 ∧ n3 ≤ 255 := by simpa [Lit.wf, IntKind.min, IntKind.max, IntKind.signed, IntKind.bits] using w3
  obtain ⟨y4, h4⟩ : ∃ y, DataW.trod enc Try.prog w base spare held n 5 [c4] = some y := by
    have := hf 4 _ rfl
    rw [List.getElem?_eq_getElem (by rw [hlen]; decide)] at this
    exact ⟨_, by simpa [show Try.prog.cellsOf 5 = 1 by kernel_rfl] using this⟩
  obtain ⟨n4, e4, -, w4⟩ := DataW.trod_int Try.underlying5 h4
  obtain rfl : c4 = .int .u8 n4 := by simpa using e4
  have b4 : 0 ≤ n4 ∧ n4 ≤ 255 := by simpa [Lit.wf, IntKind.min, IntKind.max, IntKind.signed, IntKind.bits] using w4
  exact ⟨⟨n0, n1, n2, n3, n4⟩, rfl, ⟨b1, b2, b3, b4⟩⟩

section
variable {H : Type} {enc : TypeId × Value → H} {w : World} {base : Nat} {spare : Nat → Bool} {held : Bool}
theorem open_sts {v : Value} {d : DataW H} {qs : List MemPlace} (h : DataW.Trod enc Try.prog w base spare held 44 v d qs) (hv : v.cells.toList = [v]) :
    ∃ (ps : List St) (a : Option Addr) (c : Nat), v = .slice a ps.length c ∧ Rd w 5 ps.length (.slice a ps.length c) (sts ps) ∧ ps.length ≤ c ∧ (∀ x ∈ ps, okSt x) := by
  obtain ⟨xs, h1, h2, h3⟩ := open_sl Try.underlying44 (show Try.prog.cellsOf 47 = 5 by kernel_rfl) (by omega) lies_st h hv
  rw [sts_flat] at h1
  obtain ⟨a, c, rfl⟩ := h1.form
  exact ⟨xs, a, c, rfl, h1, open_cap Try.underlying44 h hv _ _ _ rfl, fun x hx => (h2 x hx).1⟩
end
end Go.Proofs.Ytlhmifkimnmnmaa
