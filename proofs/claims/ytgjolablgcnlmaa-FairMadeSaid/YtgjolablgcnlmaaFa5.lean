/- Fair: the drawer's steps. -/
import Derived.Test.YtgjolablgcnlmaaFa3
namespace Go.Proofs.Ytgjolablgcnlmaa
set_option linter.unusedSimpArgs false
set_option linter.unusedVariables false
open Go.RowKit

theorem wp_region_tail {P : Program} {id : Nat} {Q : Exit → Act → World → Prop} {a : Act} {w : World} {l : List Oper} (n : Nat) (hm : P.follows .mixedOrders = true) (hB : Region.lexTailB .any l.toArray n = true)
    (h : wpStill P l.toArray w.drew (fun a' => wpList P l.toArray Q (l.drop n) a' w.drew) (l.take n) a) : (Code.region id l.toArray true).wp P Q a w := wp_region_still_tail n hm hB h
def xo (a b : Int) : Int := bits .xor .u64 a b
def st1 (x : Int) : Int := xo x (IntKind.u64.wrap (x * 8192))
def st2 (x : Int) : Int := xo x (IntKind.u64.wrap (x.tdiv 128))
def st3 (x : Int) : Int := xo x (IntKind.u64.wrap (x * 131072))
def nextI (x : Int) : Int := st3 (st2 (st1 x))
theorem wrapU (n : Int) : IntKind.u64.wrap n = n % 18446744073709551616 := by
  unfold IntKind.wrap
  rw [show IntKind.u64.signed = false from rfl, show (2 : Int) ^ IntKind.u64.bits = 18446744073709551616 from rfl]
  rfl
theorem xo_in (a b : Int) : 0 ≤ xo a b ∧ xo a b < 18446744073709551616 := by
  unfold xo bits
  rw [wrapU]
  exact ⟨Int.emod_nonneg _ (by decide), Int.emod_lt_of_pos _ (by decide)⟩
theorem st1_in (x : Int) : 0 ≤ st1 x ∧ st1 x < 18446744073709551616 := xo_in _ _
theorem st2_in (x : Int) : 0 ≤ st2 x ∧ st2 x < 18446744073709551616 := xo_in _ _
theorem st3_in (x : Int) : 0 ≤ st3 x ∧ st3 x < 18446744073709551616 := xo_in _ _
theorem next_any (x : Int) (w : World) : Calls Try.prog 31 #[.int .u64 x] w fun e w' => e = .returned (.int .u64 (nextI x)) ∧ w' = w := by
  obtain ⟨R, hR⟩ : ∃ R, R = nextI x := ⟨_, rfl⟩
  rw [← hR]
  have HR := Lib.hid hR
  clear hR
  go_enter Try.func31, Try.ntmps31
  go_wp2
  go_returns
  exact ⟨by rw [HR.out]; rfl, rfl⟩
/-- The drawer's box. -/
def Dr (w0 w : World) (p : Nat) (x : Int) : Prop := Ext w0 w ∧ w0.heap.size ≤ p ∧ w.heap[p]? = some (.cells #[.int .u64 x] 59 (0, 0))
theorem Dr.on {w0 w w' : World} {p : Nat} {x : Int} (h : Dr w0 w p x) (hx : Ext w w') : Dr w0 w' p x := by
  obtain ⟨h1, h2, h3⟩ := h
  obtain ⟨z, rfl⟩ := hx
  exact ⟨h1.ext z, h2, by rw [ext_get _ _ _ (Array.getElem?_eq_some_iff.1 h3).1, h3]⟩
theorem Dr.cells {w0 w : World} {p : Nat} {x : Int} (h : Dr w0 w p x) : w.cell? ⟨p, 0, none⟩ = some (.int .u64 x) ∧ w.frozen? ⟨p, 0, none⟩ = false := by
  obtain ⟨h1, h2, h3⟩ := h
  exact ⟨by rw [cell_of_row _ _ _ _ _ (0, 0) h3]; rfl, frozen_row h3⟩
theorem Dr.set {w0 w : World} {p : Nat} {x y : Int} (h : Dr w0 w p x) : Dr w0 (w.setCell ⟨p, 0, none⟩ (.int .u64 y)) p y := by
  obtain ⟨h1, h2, h3⟩ := h
  exact ⟨h1.setCell h2 _, h2, by simp [World.setCell, Array.getElem?_modify, h3]⟩
theorem Dr.drew {w0 w : World} {p : Nat} {x : Int} (h : Dr w0 w p x) : Dr w0 w.drew p x := h.on ((Ext.refl w).drew)
theorem fdiv_u {x : Int} (h0 : 0 ≤ x) (h1 : x < 18446744073709551616) : x.fdiv 128 = IntKind.u64.wrap (x.tdiv 128) := by
  rw [wrapU, Int.fdiv_eq_ediv_of_nonneg _ (by decide), Int.tdiv_eq_ediv_of_nonneg h0]
  omega
theorem st2_eq {y : Int} (h0 : 0 ≤ y) (h1 : y < 18446744073709551616) : st2 y = bits BinOp.xor IntKind.u64 y (y / 128) := by
  unfold st2 xo
  rw [← fdiv_u h0 h1, Int.fdiv_eq_ediv_of_nonneg _ (by decide)]
theorem gtrans {w w1 w2 : World} {r : Option Nat} (h : w.grownBy w1 r) (k : w1.grownBy w2 r) : w.grownBy w2 r :=
  ⟨k.os.trans h.os, k.tape.trans h.tape, k.output.trans h.output, Nat.le_trans h.size k.size, fun b hb hne => (k.block b (Nat.lt_of_lt_of_le hb h.size) hne).trans (h.block b hb hne)⟩
theorem gdrew (w : World) (r : Option Nat) : w.grownBy w.drew r := ⟨rfl, rfl, rfl, Nat.le_refl _, fun _ _ _ => rfl⟩
set_option maxHeartbeats 4000000 in
theorem draw_any {w0 w : World} {p : Nat} {x : Int} (h : Dr w0 w p x) (h0 : 0 ≤ x) (h1 : x < 18446744073709551616) (n : Int) (hn : 1 ≤ n ∧ n ≤ 1048576) :
    Calls Try.prog 35 #[.pointer (some ⟨p, 0, none⟩), .int .i64 n] w fun e w' => e = .returned (.int .i64 (nextI x % n)) ∧ Dr w0 w' p (nextI x) ∧ w.grownBy w' (some p) := by
  obtain ⟨c0, c1⟩ := h.cells
  have H := Lib.hid h
  have hlt := (Array.getElem?_eq_some_iff.1 h.2.2).1
  haveI : LtSz p w.heap.size := ⟨hlt⟩
  obtain ⟨R, hR⟩ : ∃ R, R = nextI x := ⟨_, rfl⟩
  rw [← hR]
  have HR := Lib.hid hR
  clear h hR
  go_enter Try.func35, Try.ntmps35
  go_wp2
  refine wp_region_tail 12 (by kernel_rfl) (by kernel_rfl) ?_
  simp only [List.take_succ_cons, List.take_zero, List.drop_succ_cons, List.drop_zero]
  repeat still_step
  refine wpStill_nil ?_
  go_wp2
  generalize hy1 : bits BinOp.xor IntKind.u64 x (IntKind.u64.wrap (x * 8192)) = y1
  have b1 : 0 ≤ y1 ∧ y1 < 18446744073709551616 := hy1 ▸ st1_in x
  have HY1 := Lib.hid (show y1 = st1 x from hy1.symm)
  have h2 := (H.out.set (y := y1)).drew
  obtain ⟨d0, d1⟩ := h2.cells
  have H2 := Lib.hid h2
  have G2 := Lib.hid (gtrans (put_grown w p 0 (Value.int IntKind.u64 y1)) (gdrew _ _))
  generalize ((w.setCell { block := p, off := 0, spot := none } (Value.int IntKind.u64 y1)).drew) = w2 at *
  clear hy1 h2 c0 c1 h0 h1 this hlt
  haveI : LtSz p w2.heap.size := ⟨(Array.getElem?_eq_some_iff.1 H2.out.2.2).1⟩
  refine wp_region_tail 12 (by kernel_rfl) (by kernel_rfl) ?_
  simp only [List.take_succ_cons, List.take_zero, List.drop_succ_cons, List.drop_zero]
  repeat still_step
  refine wpStill_nil ?_
  go_wp2
  generalize hy2 : bits BinOp.xor IntKind.u64 y1 (y1 / 128) = y2
  have e2 := st2_eq b1.1 b1.2
  rw [hy2] at e2
  have b2 : 0 ≤ y2 ∧ y2 < 18446744073709551616 := e2 ▸ st2_in y1
  have HY2 := Lib.hid (show y2 = st2 y1 from e2.symm)
  have h3 := (H2.out.set (y := y2)).drew
  obtain ⟨g0, g1⟩ := h3.cells
  have H3 := Lib.hid h3
  have G3 := Lib.hid (gtrans (put_grown w2 p 0 (Value.int IntKind.u64 y2)) (gdrew _ _))
  generalize ((w2.setCell { block := p, off := 0, spot := none } (Value.int IntKind.u64 y2)).drew) = w3 at *
  clear hy2 e2 h3 d0 d1 this b1
  haveI : LtSz p w3.heap.size := ⟨(Array.getElem?_eq_some_iff.1 H3.out.2.2).1⟩
  refine wp_region_tail 12 (by kernel_rfl) (by kernel_rfl) ?_
  simp only [List.take_succ_cons, List.take_zero, List.drop_succ_cons, List.drop_zero]
  repeat still_step
  refine wpStill_nil ?_
  have H4 := Lib.hid (show ∀ y, Dr w0 ((w3.setCell { block := p, off := 0, spot := none } (Value.int IntKind.u64 y))) p y from fun y => H3.out.set)
  have e3 : st3 y2 = R := by rw [HR.out]; unfold nextI; rw [HY2.out, HY1.out]
  have b3 := st3_in y2
  rw [e3] at b3
  have ey : bits BinOp.xor IntKind.u64 y2 (IntKind.u64.wrap (y2 * 131072)) = R := e3
  have n1 := hn.1
  have n2 := hn.2
  have HW := Lib.hid (show wrap64 (R % n) = R % n from IntWalk.wrap64_in _ ⟨by have := Int.emod_nonneg R (show n ≠ 0 by omega); omega, by have := Int.emod_lt_of_pos R (show 0 < n by omega); omega⟩)
  have b31 := b3.1
  have b32 := b3.2
  clear e3 this b2 b3 hn
  go_wp2
  go_returns
  exact ⟨reti rfl (by first | rfl | exact HW.out), (H4.out R).drew, gtrans (gtrans G2.out G3.out) (gtrans (put_grown w3 p 0 (Value.int IntKind.u64 R)) (gdrew _ _))⟩
end Go.Proofs.Ytgjolablgcnlmaa
