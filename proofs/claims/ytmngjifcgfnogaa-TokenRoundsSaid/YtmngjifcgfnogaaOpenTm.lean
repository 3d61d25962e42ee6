/- Arguments opened: rows of timestamps. -/
import Derived.Test.YtmngjifcgfnogaaOpenSl
import Derived.Test.YtmngjifcgfnogaaOpenTs
import Derived.Test.YtmngjifcgfnogaaChA
namespace Go.Proofs.Ytmngjifcgfnogaa
set_option linter.unusedSimpArgs false
set_option linter.unusedVariables false
set_option maxRecDepth 100000
open Go.RowKit Go.WideShapes Go.ChangeShapes Go.Deep

theorem tms_flat (ps : List Tm) : ps.flatMap (fun x => [Value.int .i64 x.d, Value.int .i64 x.a, Value.int .i64 x.b, Value.int .i64 x.c, Value.int .i64 x.e]) = tms ps := by
  induction ps with
  | nil => rfl
  | cons a l ih => simp [tms, ih]
theorem lies_tm {w : World} : Lies Try.prog w 47 (fun x : Tm => [Value.int .i64 x.d, Value.int .i64 x.a, Value.int .i64 x.b, Value.int .i64 x.c, Value.int .i64 x.e]) (fun _ => True) := by
  intro H enc base spare held fuel cs x h
  obtain ⟨y0, y1, n, rfl, hl, h0, h1⟩ := trod_struct2 Try.underlying47 h
  rw [show Try.prog.cellsOf 47 = 5 by kernel_rfl] at hl
  obtain ⟨c0, c1, c2, c3, c4, rfl⟩ := list5 hl
  rw [show Try.prog.cellsOf 3 = 1 by kernel_rfl] at h0
  rw [show Try.prog.cellsOf 45 = 4 by kernel_rfl] at h1
  obtain ⟨n0, e0, _, w0⟩ := DataW.trod_int Try.underlying3 h0
  obtain ⟨z0, z1, z2, z3, k, -, g0, g1, g2, g3⟩ := trod_array4 (c0 := c1) (c1 := c2) (c2 := c3) (c3 := c4) Try.underlying45 (by kernel_rfl) h1
  obtain ⟨n1, e1, _, w1⟩ := DataW.trod_int Try.underlying3 g0
  obtain ⟨n2, e2, _, w2⟩ := DataW.trod_int Try.underlying3 g1
  obtain ⟨n3, e3, _, w3⟩ := DataW.trod_int Try.underlying3 g2
  obtain ⟨n4, e4, _, w4⟩ := DataW.trod_int Try.underlying3 g3
  obtain rfl : c0 = .int .i64 n0 := by simpa using e0
  obtain rfl : c1 = .int .i64 n1 := by simpa using e1
  obtain rfl : c2 = .int .i64 n2 := by simpa using e2
  obtain rfl : c3 = .int .i64 n3 := by simpa using e3
  obtain rfl : c4 = .int .i64 n4 := by simpa using e4
  exact ⟨⟨n0, n1, n2, n3, n4⟩, rfl, trivial⟩
section
variable {H : Type} {enc : TypeId × Value → H} {w : World} {base : Nat} {spare : Nat → Bool} {held : Bool}
theorem open_cap {P : Program} {t e : TypeId} (ht : P.underlying t = some (.slice e)) {v : Value} {d : DataW H} {ps : List MemPlace} (h : DataW.Trod enc P w base spare held t v d ps) (hv : v.cells.toList = [v]) (a : Option Addr) (n c : Nat) (e : v = .slice a n c) : n ≤ c := by
  obtain ⟨fuel, h⟩ := h
  rw [hv] at h
  rcases open_slice ht h with ⟨h0, _⟩ | ⟨a', len, cap, m, k, D, Pl, h0, hb, hl, hm, hmm, _, hx⟩
  · obtain rfl : v = .slice none 0 0 := by simpa using h0
    cases e
    exact Nat.le_refl _
  · obtain rfl : v = .slice (some a') len cap := by simpa using h0
    cases e
    exact hl
theorem open_tms {v : Value} {d : DataW H} {qs : List MemPlace} (h : DataW.Trod enc Try.prog w base spare held 38 v d qs) (hv : v.cells.toList = [v]) :
    ∃ (ps : List Tm) (a : Option Addr) (c : Nat), v = .slice a ps.length c ∧ Rd w 5 ps.length (.slice a ps.length c) (tms ps) ∧ ps.length ≤ c := by
  obtain ⟨xs, h1, h2, h3⟩ := open_sl Try.underlying38 (show Try.prog.cellsOf 47 = 5 by kernel_rfl) (by omega) lies_tm h hv
  rw [tms_flat] at h1
  obtain ⟨a, c, rfl⟩ := h1.form
  exact ⟨xs, a, c, rfl, h1, open_cap Try.underlying38 h hv _ _ _ rfl⟩
end
end Go.Proofs.Ytmngjifcgfnogaa
