/- Arguments opened: counts, changes. -/
import Derived.Test.YtfpmejbgmgdedaaOpenTm
import Derived.Test.YtfpmejbgmgdedaaFr9
namespace Go.Proofs.Ytfpmejbgmgdedaa
set_option linter.unusedSimpArgs false
set_option linter.unusedVariables false
open Go.RowKit Go.WideShapes Go.ChangeShapes Go.Deep

theorem list6 {cs : List Value} (h : cs.length = 6) : ∃ a b c d e f, cs = [a, b, c, d, e, f] := by
  match cs, h with
  | [a, b, c, d, e, f], _ => exact ⟨a, b, c, d, e, f, rfl⟩
theorem cts_flat (ps : List Fr.Ct) : ps.flatMap (fun x => [Value.int .i64 x.d, Value.int .i64 x.a, Value.int .i64 x.b, Value.int .i64 x.c, Value.int .i64 x.e, Value.int .i64 x.n]) = Fr.cts ps := by
  induction ps with
  | nil => rfl
  | cons a l ih => simp [Fr.cts, ih]
theorem lies_ct {w : World} : Lies Try.prog w 48 (fun x : Fr.Ct => [Value.int .i64 x.d, Value.int .i64 x.a, Value.int .i64 x.b, Value.int .i64 x.c, Value.int .i64 x.e, Value.int .i64 x.n]) (fun _ => True) := by
  intro H enc base spare held fuel cs x h
  obtain ⟨y0, y1, n, rfl, hl, h0, h1⟩ := trod_struct2 Try.underlying48 h
  rw [show Try.prog.cellsOf 48 = 6 by kernel_rfl] at hl
  obtain ⟨c0, c1, c2, c3, c4, c5, rfl⟩ := list6 hl
  rw [show Try.prog.cellsOf 25 = 5 by kernel_rfl] at h0
  rw [show Try.prog.cellsOf 3 = 1 by kernel_rfl] at h1
  obtain ⟨t, e0, -⟩ := lies_tm _ _ _ _ _ _ _ h0
  obtain ⟨n5, e5, _, w5⟩ := DataW.trod_int Try.underlying3 h1
  obtain ⟨rfl, rfl, rfl, rfl, rfl⟩ : c0 = .int .i64 t.d ∧ c1 = .int .i64 t.a ∧ c2 = .int .i64 t.b ∧ c3 = .int .i64 t.c ∧ c4 = .int .i64 t.e := by simpa using e0
  obtain rfl : c5 = .int .i64 n5 := by simpa using e5
  exact ⟨⟨t.d, t.a, t.b, t.c, t.e, n5⟩, rfl, trivial⟩
/-- The cells of changes: a timestamp, a small number. -/
def chs : List (Tm × Int) → List Value
  | [] => []
  | p :: l => .int .i64 p.1.d :: .int .i64 p.1.a :: .int .i64 p.1.b :: .int .i64 p.1.c :: .int .i64 p.1.e :: .int .i16 p.2 :: chs l
theorem chs_flat (ps : List (Tm × Int)) : ps.flatMap (fun p => [Value.int .i64 p.1.d, Value.int .i64 p.1.a, Value.int .i64 p.1.b, Value.int .i64 p.1.c, Value.int .i64 p.1.e, Value.int .i16 p.2]) = chs ps := by
  induction ps with
  | nil => rfl
  | cons a l ih => simp [chs, ih]
theorem chs_length (l : List (Tm × Int)) : (chs l).length = l.length * 6 := by
  induction l with
  | nil => rfl
  | cons a l ih => simp only [chs, List.length_cons, ih]; omega
theorem chs_take : ∀ (l : List (Tm × Int)) (m : Nat), chs (l.take m) = (chs l).take (m * 6)
  | [], m => by simp [chs]
  | a :: l, 0 => by simp [chs]
  | a :: l, m + 1 => by
    rw [show (m + 1) * 6 = m * 6 + 1 + 1 + 1 + 1 + 1 + 1 by omega]
    simp only [List.take_succ_cons, chs, chs_take l m]
theorem chs_get : ∀ (l : List (Tm × Int)) (j : Nat) (x : Tm × Int), l[j]? = some x → (chs l)[j * 6]? = some (.int .i64 x.1.d) ∧ (chs l)[j * 6 + 1]? = some (.int .i64 x.1.a) ∧ (chs l)[j * 6 + 2]? = some (.int .i64 x.1.b) ∧ (chs l)[j * 6 + 3]? = some (.int .i64 x.1.c) ∧ (chs l)[j * 6 + 4]? = some (.int .i64 x.1.e) ∧ (chs l)[j * 6 + 5]? = some (.int .i16 x.2)
  | [], j, x, h => by simp at h
  | a :: l, 0, x, h => by
    obtain rfl : a = x := by simpa using h
    exact ⟨rfl, rfl, rfl, rfl, rfl, rfl⟩
  | a :: l, j + 1, x, h => by
    have := chs_get l j x (by simpa using h)
    rw [show (j + 1) * 6 = j * 6 + 1 + 1 + 1 + 1 + 1 + 1 by omega]
    simpa [chs] using this
theorem chs_at {w : World} {b off n c : Nat} {l : List (Tm × Int)} (h : Rd w 6 n (.slice (some ⟨b, off, none⟩) n c) (chs l)) (j : Nat) (x : Tm × Int) (hj : l[j]? = some x) :
    w.cell? ⟨b, off + j * 6, none⟩ = some (.int .i64 x.1.d) ∧ w.cell? ⟨b, off + j * 6 + 1, none⟩ = some (.int .i64 x.1.a) ∧ w.cell? ⟨b, off + j * 6 + 2, none⟩ = some (.int .i64 x.1.b) ∧ w.cell? ⟨b, off + j * 6 + 3, none⟩ = some (.int .i64 x.1.c) ∧ w.cell? ⟨b, off + j * 6 + 4, none⟩ = some (.int .i64 x.1.e) ∧ w.cell? ⟨b, off + j * 6 + 5, none⟩ = some (.int .i16 x.2) := by
  obtain ⟨h1, h2, h3, h4, h5, h6⟩ := chs_get l j x hj
  have hlt := (List.getElem?_eq_some_iff.1 hj).1
  have hl := h.len
  rw [chs_length] at hl
  obtain ⟨b', off', hb, hc⟩ := h.cells (by omega)
  obtain ⟨rfl, rfl⟩ : b = b' ∧ off = off' := by simpa using hb
  have c1 := hc _ _ h1
  have c2 := hc _ _ h2
  have c3 := hc _ _ h3
  have c4 := hc _ _ h4
  have c5 := hc _ _ h5
  have c6 := hc _ _ h6
  rw [← Nat.add_assoc] at c2 c3 c4 c5 c6
  exact ⟨c1, c2, c3, c4, c5, c6⟩
theorem lies_ch {w : World} : Lies Try.prog w 41 (fun p : Tm × Int => [Value.int .i64 p.1.d, Value.int .i64 p.1.a, Value.int .i64 p.1.b, Value.int .i64 p.1.c, Value.int .i64 p.1.e, Value.int .i16 p.2]) (fun p => -32768 ≤ p.2 ∧ p.2 ≤ 32767) := by
  intro H enc base spare held fuel cs x h
  obtain ⟨y0, y1, n, rfl, hl, h0, h1⟩ := trod_struct2 Try.underlying41 h
  rw [show Try.prog.cellsOf 41 = 6 by kernel_rfl] at hl
  obtain ⟨c0, c1, c2, c3, c4, c5, rfl⟩ := list6 hl
  rw [show Try.prog.cellsOf 25 = 5 by kernel_rfl] at h0
  rw [show Try.prog.cellsOf 39 = 1 by kernel_rfl] at h1
  obtain ⟨t, e0, -⟩ := lies_tm _ _ _ _ _ _ _ h0
  obtain ⟨n5, e5, _, w5⟩ := DataW.trod_int Try.underlying39 h1
  obtain ⟨rfl, rfl, rfl, rfl, rfl⟩ : c0 = .int .i64 t.d ∧ c1 = .int .i64 t.a ∧ c2 = .int .i64 t.b ∧ c3 = .int .i64 t.c ∧ c4 = .int .i64 t.e := by simpa using e0
  obtain rfl : c5 = .int .i16 n5 := by simpa using e5
  exact ⟨(t, n5), rfl, by simpa [Lit.wf, IntKind.min, IntKind.max, IntKind.signed, IntKind.bits] using w5⟩
section
variable {H : Type} {enc : TypeId × Value → H} {w : World} {base : Nat} {spare : Nat → Bool} {held : Bool}
theorem open_cts {v : Value} {d : DataW H} {qs : List MemPlace} (h : DataW.Trod enc Try.prog w base spare held 37 v d qs) (hv : v.cells.toList = [v]) :
    ∃ (ps : List Fr.Ct) (a : Option Addr) (c : Nat), v = .slice a ps.length c ∧ Rd w 6 ps.length (.slice a ps.length c) (Fr.cts ps) ∧ ps.length ≤ c := by
  obtain ⟨xs, h1, h2, h3⟩ := open_sl Try.underlying37 (show Try.prog.cellsOf 48 = 6 by kernel_rfl) (by omega) lies_ct h hv
  rw [cts_flat] at h1
  obtain ⟨a, c, rfl⟩ := h1.form
  exact ⟨xs, a, c, rfl, h1, open_cap Try.underlying37 h hv _ _ _ rfl⟩
theorem open_chs {v : Value} {d : DataW H} {qs : List MemPlace} (h : DataW.Trod enc Try.prog w base spare held 36 v d qs) (hv : v.cells.toList = [v]) :
    ∃ (ps : List (Tm × Int)) (a : Option Addr) (c : Nat), v = .slice a ps.length c ∧ Rd w 6 ps.length (.slice a ps.length c) (chs ps) ∧ ps.length ≤ c ∧ ∀ p ∈ ps, -32768 ≤ p.2 ∧ p.2 ≤ 32767 := by
  obtain ⟨xs, h1, h2, h3⟩ := open_sl Try.underlying36 (show Try.prog.cellsOf 41 = 6 by kernel_rfl) (by omega) lies_ch h hv
  rw [chs_flat] at h1
  obtain ⟨a, c, rfl⟩ := h1.form
  exact ⟨xs, a, c, rfl, h1, open_cap Try.underlying36 h hv _ _ _ rfl, fun x hx => (h2 x hx).1⟩
end
end Go.Proofs.Ytfpmejbgmgdedaa
