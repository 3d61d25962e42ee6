/- Arguments opened: a program, a record. -/
import Derived.Test.YtddckdlkopohhaaOpenSl
import Derived.Test.YtddckdlkopohhaaOpen
import Derived.Test.YtddckdlkopohhaaPrA
namespace Go.Proofs.Ytddckdlkopohhaa
set_option linter.unusedSimpArgs false
set_option linter.unusedVariables false
open Go.RowKit Go.WideShapes Go.ChangeShapes Go.Deep

theorem recs_flat (ps : List (Int × Int)) : ps.flatMap (fun r => [Value.int .i64 r.1, Value.int .i64 r.2]) = recs ps := by
  induction ps with
  | nil => rfl
  | cons a l ih => simp [recs, ih]
theorem two_cells {cs : List Value} (h : cs.length = 2) : ∃ a b, cs = [a, b] := by
  match cs, h with
  | [a, b], _ => exact ⟨a, b, rfl⟩
theorem lies_ins {w : World} : Lies Try.prog w 33 (fun r : Int × Int => [Value.int .i64 r.1, Value.int .i64 r.2]) (fun r => In64 r.1 ∧ In64 r.2) := by
  intro H enc base spare held fuel cs x h
  obtain ⟨y0, y1, n, rfl, hl, h0, h1⟩ := trod_struct2 Try.underlying33 h
  rw [show Try.prog.cellsOf 33 = 2 by kernel_rfl] at hl
  obtain ⟨c0, c1, rfl⟩ := two_cells hl
  rw [show Try.prog.cellsOf _ = 1 by kernel_rfl] at h0 h1
  obtain ⟨n0, e0, _, w0⟩ := DataW.trod_int Try.underlying3 h0
  obtain ⟨n1, e1, _, w1⟩ := DataW.trod_int Try.underlying2 h1
  obtain rfl : c0 = .int .i64 n0 := by simpa using e0
  obtain rfl : c1 = .int .i64 n1 := by simpa using e1
  refine ⟨(n0, n1), rfl, ?_, ?_⟩
  · simpa [Lit.wf, In64, IntKind.min, IntKind.max, IntKind.signed, IntKind.bits] using w0
  · simpa [Lit.wf, In64, IntKind.min, IntKind.max, IntKind.signed, IntKind.bits] using w1
section
variable {H : Type} {enc : TypeId × Value → H} {w : World} {base : Nat} {spare : Nat → Bool} {held : Bool}
theorem open_cap {P : Program} {t e : TypeId} (ht : P.underlying t = some (.slice e)) {v : Value} {d : DataW H} {ps : List MemPlace} (h : DataW.Trod enc P w base spare held t v d ps) (hv : v.cells.toList = [v]) (a : Option Addr) (n c : Nat) (e : v = .slice a n c) : n ≤ c := by
  obtain ⟨fuel, h⟩ := h
  rw [hv] at h
  rcases open_slice ht h with ⟨h0, _⟩ | ⟨a', len, cap, m, k, D, Pl, h0, hb, hl, hm, hmm, _, hx⟩
  · obtain rfl : v = .slice none 0 0 := by simpa using h0
    cases e
    exact Nat.le_refl _
  · obtain rfl : v = .slice (some a') len cap := by simpa using h0
    cases e
    exact hl
theorem open_ins {v : Value} {d : DataW H} {qs : List MemPlace} (h : DataW.Trod enc Try.prog w base spare held 22 v d qs) (hv : v.cells.toList = [v]) :
    ∃ (ps : List (Int × Int)) (a : Option Addr) (c : Nat), v = .slice a ps.length c ∧ Rd w 2 ps.length (.slice a ps.length c) (recs ps) ∧ (∀ r ∈ ps, In64 r.2) ∧ ps.length ≤ c ∧ (∀ r ∈ ps, In64 r.1) := by
  obtain ⟨xs, h1, h2, h3⟩ := open_sl Try.underlying22 (show Try.prog.cellsOf 33 = 2 by kernel_rfl) (by omega) lies_ins h hv
  rw [recs_flat] at h1
  obtain ⟨a, c, rfl⟩ := h1.form
  exact ⟨xs, a, c, rfl, h1, fun r hr => (h2 r hr).1.2, open_cap Try.underlying22 h hv _ _ _ rfl, fun r hr => (h2 r hr).1.1⟩
end
theorem open_rec {w : World} {r : Reach} {b : Nat} {v : Value} (hv : Value.okWide Try.prog w r b 24 v) : ∃ k n : Int, v = .agg #[.int .i64 k, .int .i64 n] ∧ In64 k ∧ In64 n := by
  obtain ⟨cs, rfl, hl, hc⟩ := open_flat (ts := [2, 2]) Try.underlying24 (by kernel_rfl) (by kernel_rfl) hv
  obtain ⟨c0, c1, rfl⟩ := two_cells hl
  obtain ⟨n0, rfl, b0⟩ := cell_int Try.underlying2 (hc 0 _ _ rfl rfl)
  obtain ⟨n1, rfl, b1⟩ := cell_int Try.underlying2 (hc 1 _ _ rfl rfl)
  exact ⟨n0, n1, rfl, b0, b1⟩
end Go.Proofs.Ytddckdlkopohhaa
