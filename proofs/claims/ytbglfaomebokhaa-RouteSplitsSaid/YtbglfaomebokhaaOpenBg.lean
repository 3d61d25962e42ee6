/- Arguments opened: records, items. -/
import Derived.Test.YtbglfaomebokhaaOpenSl
import Derived.Test.YtbglfaomebokhaaOpen
import Derived.Test.YtbglfaomebokhaaLaw05a
namespace Go.Proofs.Ytbglfaomebokhaa
set_option linter.unusedSimpArgs false
set_option linter.unusedVariables false
open Go.RowKit Go.WideShapes Go.ChangeShapes Go.Deep

/-- Has a number room in 64 bits? -/
def In64 (n : Int) : Prop := -9223372036854775808 ≤ n ∧ n ≤ 9223372036854775807
theorem rcs_flat (ps : List (Int × Int)) : ps.flatMap (fun r => [Value.int .i64 r.1, Value.int .i64 r.2]) = rcs ps := by
  induction ps with
  | nil => rfl
  | cons a l ih => simp [rcs, ih]
theorem its_flat (ps : List It) : ps.flatMap (fun x => [Value.int .i64 x.k, Value.int .i64 x.v, Value.int .i64 x.n]) = its ps := by
  induction ps with
  | nil => rfl
  | cons a l ih => simp [its, ih]
theorem two_cells {cs : List Value} (h : cs.length = 2) : ∃ a b, cs = [a, b] := by
  match cs, h with
  | [a, b], _ => exact ⟨a, b, rfl⟩
theorem three_cells {cs : List Value} (h : cs.length = 3) : ∃ a b c, cs = [a, b, c] := by
  match cs, h with
  | [a, b, c], _ => exact ⟨a, b, c, rfl⟩
theorem lies_rc {w : World} : Lies Try.prog w 28 (fun r : Int × Int => [Value.int .i64 r.1, Value.int .i64 r.2]) (fun r => In64 r.1 ∧ In64 r.2) := by
  intro H enc base spare held fuel cs x h
  obtain ⟨y0, y1, n, rfl, hl, h0, h1⟩ := trod_struct2 Try.underlying28 h
  rw [show Try.prog.cellsOf 28 = 2 by kernel_rfl] at hl
  obtain ⟨c0, c1, rfl⟩ := two_cells hl
  rw [show Try.prog.cellsOf _ = 1 by kernel_rfl] at h0 h1
  obtain ⟨n0, e0, _, w0⟩ := DataW.trod_int Try.underlying2 h0
  obtain ⟨n1, e1, _, w1⟩ := DataW.trod_int Try.underlying2 h1
  obtain rfl : c0 = .int .i64 n0 := by simpa using e0
  obtain rfl : c1 = .int .i64 n1 := by simpa using e1
  refine ⟨(n0, n1), rfl, ?_, ?_⟩
  · simpa [Lit.wf, In64, IntKind.min, IntKind.max, IntKind.signed, IntKind.bits] using w0
  · simpa [Lit.wf, In64, IntKind.min, IntKind.max, IntKind.signed, IntKind.bits] using w1
theorem lies_it {w : World} : Lies Try.prog w 30 (fun x : It => [Value.int .i64 x.k, Value.int .i64 x.v, Value.int .i64 x.n]) (fun x => In64 x.n) := by
  intro H enc base spare held fuel cs x h
  obtain ⟨y0, y1, n, rfl, hl, h0, h1⟩ := trod_struct2 Try.underlying30 h
  rw [show Try.prog.cellsOf 30 = 3 by kernel_rfl] at hl
  obtain ⟨c0, c1, c2, rfl⟩ := three_cells hl
  rw [show Try.prog.cellsOf 28 = 2 by kernel_rfl] at h0
  rw [show Try.prog.cellsOf 3 = 1 by kernel_rfl] at h1
  obtain ⟨r, e0, -⟩ := lies_rc _ _ _ _ _ _ _ h0
  obtain ⟨n1, e1, _, w1⟩ := DataW.trod_int Try.underlying3 h1
  obtain ⟨rfl, rfl⟩ : c0 = .int .i64 r.1 ∧ c1 = .int .i64 r.2 := by simpa using e0
  obtain rfl : c2 = .int .i64 n1 := by simpa using e1
  refine ⟨⟨r.1, r.2, n1⟩, rfl, ?_⟩
  simpa [Lit.wf, In64, IntKind.min, IntKind.max, IntKind.signed, IntKind.bits] using w1
section
variable {H : Type} {enc : TypeId × Value → H} {w : World} {base : Nat} {spare : Nat → Bool} {held : Bool}
theorem open_cap {P : Program} {t e : TypeId} (ht : P.underlying t = some (.slice e)) {v : Value} {d : DataW H} {ps : List MemPlace} (h : DataW.Trod enc P w base spare held t v d ps) (hv : v.cells.toList = [v]) (a : Option Addr) (n c : Nat) (e : v = .slice a n c) : n ≤ c := by
  obtain ⟨fuel, h⟩ := h
  rw [hv] at h
  rcases open_slice ht h with ⟨h0, _⟩ | ⟨a', len, cap, m, k, D, Pl, h0, hb, hl, hm, hmm, _, hx⟩
  · obtain rfl : v = .slice none 0 0 := by simpa using h0
    cases e
    exact Nat.le_refl _
  · obtain rfl : v = .slice (some a') len cap := by simpa using h0
    cases e
    exact hl
theorem open_rcs {v : Value} {d : DataW H} {qs : List MemPlace} (h : DataW.Trod enc Try.prog w base spare held 41 v d qs) (hv : v.cells.toList = [v]) :
    ∃ (ps : List (Int × Int)) (a : Option Addr) (c : Nat), v = .slice a ps.length c ∧ Rd w 2 ps.length (.slice a ps.length c) (rcs ps) ∧ ps.length ≤ c := by
  obtain ⟨xs, h1, h2, h3⟩ := open_sl Try.underlying41 (show Try.prog.cellsOf 28 = 2 by kernel_rfl) (by omega) lies_rc h hv
  rw [rcs_flat] at h1
  obtain ⟨a, c, rfl⟩ := h1.form
  exact ⟨xs, a, c, rfl, h1, open_cap Try.underlying41 h hv _ _ _ rfl⟩
theorem open_its {v : Value} {d : DataW H} {qs : List MemPlace} (h : DataW.Trod enc Try.prog w base spare held 22 v d qs) (hv : v.cells.toList = [v]) :
    ∃ (ps : List It) (a : Option Addr) (c : Nat), v = .slice a ps.length c ∧ Rd w 3 ps.length (.slice a ps.length c) (its ps) ∧ ps.length ≤ c := by
  obtain ⟨xs, h1, h2, h3⟩ := open_sl Try.underlying22 (show Try.prog.cellsOf 30 = 3 by kernel_rfl) (by omega) lies_it h hv
  rw [its_flat] at h1
  obtain ⟨a, c, rfl⟩ := h1.form
  exact ⟨xs, a, c, rfl, h1, open_cap Try.underlying22 h hv _ _ _ rfl⟩
end
theorem open_rec {w : World} {r : Reach} {b : Nat} {v : Value} (hv : Value.okWide Try.prog w r b 28 v) : ∃ k n : Int, v = .agg #[.int .i64 k, .int .i64 n] ∧ In64 k ∧ In64 n := by
  obtain ⟨cs, rfl, hl, hc⟩ := open_flat (ts := [2, 2]) Try.underlying28 (by kernel_rfl) (by kernel_rfl) hv
  obtain ⟨c0, c1, rfl⟩ := two_cells hl
  obtain ⟨n0, rfl, b0⟩ := cell_int Try.underlying2 (hc 0 _ _ rfl rfl)
  obtain ⟨n1, rfl, b1⟩ := cell_int Try.underlying2 (hc 1 _ _ rfl rfl)
  exact ⟨n0, n1, rfl, b0, b1⟩
end Go.Proofs.Ytbglfaomebokhaa
