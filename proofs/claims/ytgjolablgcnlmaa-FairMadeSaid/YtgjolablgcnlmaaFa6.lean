/- Fair: a round of all things. -/
import Derived.Test.YtgjolablgcnlmaaFa5
import Derived.Laws.MakeOwn
namespace Go.Proofs.Ytgjolablgcnlmaa
set_option linter.unusedSimpArgs false
set_option linter.unusedVariables false
open Go.RowKit

def vs (xs : List Int) : List Value := xs.map (Value.int .i64)
/-- A row of numbers, a block of its own. -/
def Rw (w0 w : World) (g : Nat) (xs : List Int) : Prop := Ext w0 w ∧ w0.heap.size ≤ g ∧ w.heap[g]? = some (.cells (vs xs).toArray 3 (0, 0))
theorem Rw.on {w0 w w' : World} {g : Nat} {xs : List Int} (h : Rw w0 w g xs) (hx : Ext w w') : Rw w0 w' g xs := by
  obtain ⟨h1, h2, h3⟩ := h
  obtain ⟨z, rfl⟩ := hx
  exact ⟨h1.ext z, h2, by rw [ext_get _ _ _ (Array.getElem?_eq_some_iff.1 h3).1, h3]⟩
theorem Rw.cell {w0 w : World} {g : Nat} {xs : List Int} (h : Rw w0 w g xs) {i : Nat} {x : Int} (hx : xs[i]? = some x) : w.cell? ⟨g, i, none⟩ = some (.int .i64 x) ∧ w.frozen? ⟨g, i, none⟩ = false := by
  obtain ⟨h1, h2, h3⟩ := h
  refine ⟨?_, frozen_row h3⟩
  rw [cell_of_row _ _ _ _ _ (0, 0) h3]
  simp [vs, hx]
theorem Rw.set {w0 w : World} {g : Nat} {xs : List Int} (h : Rw w0 w g xs) (i : Nat) (x : Int) : Rw w0 (w.setCell ⟨g, i, none⟩ (.int .i64 x)) g (xs.set i x) := by
  obtain ⟨h1, h2, h3⟩ := h
  refine ⟨h1.setCell h2 _, h2, ?_⟩
  simp [World.setCell, Array.getElem?_modify, h3, vs, List.map_set]
theorem Rw.kept {w0 w w' : World} {g : Nat} {xs : List Int} {r : Nat} (h : Rw w0 w g xs) (hg : w.grownBy w' (some r)) (hr : w0.heap.size ≤ r) (hne : g ≠ r) : Rw w0 w' g xs := by
  obtain ⟨h1, h2, h3⟩ := h
  exact ⟨h1.grown hg (fun k hk => by cases hk; exact hr), h2, by rw [hg.block g (Array.getElem?_eq_some_iff.1 h3).1 (fun e => hne (Option.some.inj e)), h3]⟩
theorem Dr.kept {w0 w w' : World} {p : Nat} {x : Int} {r : Nat} (h : Dr w0 w p x) (hg : w.grownBy w' (some r)) (hr : w0.heap.size ≤ r) (hne : p ≠ r) : Dr w0 w' p x := by
  obtain ⟨h1, h2, h3⟩ := h
  exact ⟨h1.grown hg (fun k hk => by cases hk; exact hr), h2, by rw [hg.block p (Array.getElem?_eq_some_iff.1 h3).1 (fun e => hne (Option.some.inj e)), h3]⟩
def zeros (n : Nat) : List Int := List.replicate n 0
theorem made_zeros (n : Nat) : madeCells #[.int .i64 0] n = (vs (zeros n)).toArray := by
  apply Array.ext'
  apply List.ext_getElem
  · simp [madeCells, vs, zeros]
  · intro i h1 h2
    simp [madeCells, vs, zeros, Nat.mod_one]
theorem Rw.made {w0 w : World} (hx : Ext w0 w) (n : Nat) : Rw w0 (w.alloc (.cells (vs (zeros n)).toArray 3)) w.heap.size (zeros n) := by
  refine ⟨hx.alloc _, ?_, heap_alloc_new w _⟩
  obtain ⟨z, rfl⟩ := hx
  simp
theorem info_int' : (Try.prog.info? 3).map (fun i => (i.zero, i.size, i.bytes)) = some (some (.int .i64 0), 1, 8) := by kernel_rfl
theorem make_ints (n : Nat) (hn : n ≤ 1048576) (w : World) : (Instr.makeSlice 38 (.int .i64 (n : Int)) (.int .i64 (n : Int))).run Try.prog w = .ok (.slice (some ⟨w.heap.size, 0, none⟩) n n) (w.alloc (.cells (vs (zeros n)).toArray 3)) := by
  obtain ⟨i0, hi, hz0, hz1, hz2⟩ := info_parts info_int'
  have h := run_make (P := Try.prog) (w := w) 38 3 i0 _ Try.underlying38 hi hz0 .i64 .i64 (n : Int) (n : Int) (by omega) (by omega) (by rw [hz2]; omega) (by omega)
  rw [hz1] at h
  simp only [Int.toNat_natCast, Nat.mul_one] at h
  rw [show (Value.int .i64 0).cells = #[.int .i64 0] from rfl, made_zeros] at h
  exact h
/-- The first ones stand, the rest is nought. -/
def upTo (j n : Nat) : List Int := (List.range j).map (fun k : Nat => (k : Int)) ++ zeros (n - j)
theorem upTo_len {j n : Nat} (h : j ≤ n) : (upTo j n).length = n := by unfold upTo zeros; simp; omega
theorem upTo_set {j n : Nat} (h : j < n) : (upTo j n).set j (j : Int) = upTo (j + 1) n := by
  unfold upTo zeros
  rw [List.range_succ, List.map_append, List.append_assoc, List.set_append_right _ _ (by simp)]
  congr 1
  rw [show n - j = (n - (j + 1)) + 1 by omega, List.replicate_succ]
  simp
def iota (n : Nat) : List Int := (List.range n).map (fun k : Nat => (k : Int))
theorem upTo_zero (n : Nat) : upTo 0 n = zeros n := by unfold upTo; simp
theorem upTo_all (n : Nat) : upTo n n = iota n := by unfold upTo zeros iota; simp
/-- Two change places. -/
def swp (xs : List Int) (i k : Nat) : List Int := (xs.set i (xs.getD k 0)).set k (xs.getD i 0)
theorem swp_len (xs : List Int) (i k : Nat) : (swp xs i k).length = xs.length := by unfold swp; simp
/-- The shuffle from place i on down. -/
def shuf : Nat → List Int → Int → List Int × Int
  | 0, xs, x => (xs, x)
  | i + 1, xs, x => shuf i (swp xs (i + 1) (nextI x % ((i : Int) + 2)).toNat) (nextI x)
def roundS (T : Nat) (x : Int) : List Int × Int := shuf (T - 1) (iota T) x
theorem nextI_in (x : Int) : 0 ≤ nextI x ∧ nextI x < 18446744073709551616 := st3_in _
/-- What is written in a new block does not count. -/
theorem gsub {w w3 w4 w5 : World} {p g : Nat} (h : w.grownBy w3 (some p)) (k : w3.grownBy w4 (some p)) (m : w4.grownBy w5 (some g)) (hg : w.heap.size ≤ g) : w.grownBy w5 (some p) := by
  have h2 := gtrans h k
  exact ⟨m.os.trans h2.os, m.tape.trans h2.tape, m.output.trans h2.output, Nat.le_trans h2.size m.size, fun b hb hne => (m.block b (Nat.lt_of_lt_of_le hb h2.size) (fun e => by cases e; omega)).trans (h2.block b hb hne)⟩
set_option maxRecDepth 100000 in
set_option maxHeartbeats 8000000 in
theorem round_any {w0 w : World} {p : Nat} {x : Int} (h : Dr w0 w p x) (h0 : 0 ≤ x) (h1 : x < 18446744073709551616) (T : Nat) (hT : 1 ≤ T ∧ T ≤ 1024) :
    Calls Try.prog 30 #[.pointer (some ⟨p, 0, none⟩), .int .i64 T] w fun e w' => ∃ g, e = .returned (.slice (some ⟨g, 0, none⟩) T T) ∧ Dr w0 w' p (roundS T x).2 ∧ Rw w0 w' g (roundS T x).1 ∧ w.grownBy w' (some p) ∧ w.heap.size ≤ g := by
  have hmk := fun W => make_ints T (by omega) W
  have H := Lib.hid h
  have HT := Lib.hid hT
  have HX0 := Lib.hid (And.intro h0 h1)
  have hlt := (Array.getElem?_eq_some_iff.1 h.2.2).1
  have HLT := Lib.hid hlt
  obtain ⟨R, hR⟩ : ∃ R, R = roundS T x := ⟨_, rfl⟩
  rw [← hR]
  have HR := Lib.hid hR
  have t1 : (1 : Int) ≤ T := by omega
  clear h h0 h1 hT hlt hR
  go_enter Try.func30, Try.ntmps30
  go_wp2
  go_loopw [13] (fun si wr => ∃ j : Nat, j ≤ T ∧ si = .int .i64 j ∧ Rw w0 wr w.heap.size (upTo j T) ∧ Dr w0 wr p x ∧ w.grownBy wr none) (fun si _ => T - (intOf si).toNat)
  case atStart => exact ⟨0, by omega, rfl, by rw [upTo_zero]; exact Rw.made H.out.1 T, H.out.on ((Ext.refl _).alloc _), World.grownBy_alloc _ _ none⟩
  case round =>
    obtain ⟨j, hj, rfl, hrw, hdr, hgr⟩ := hrel
    obtain ⟨w2, hw2⟩ : ∃ y, y = wr := ⟨_, rfl⟩
    subst hw2
    have HRW := Lib.hid hrw
    have HDR := Lib.hid hdr
    have HGR := Lib.hid hgr
    by_cases hlt : j < T
    · obtain ⟨y, hy⟩ : ∃ y, (upTo j T)[j]? = some y := ⟨(upTo j T)[j]'(by rw [upTo_len hj]; exact hlt), List.getElem?_eq_getElem _⟩
      obtain ⟨c0, c1⟩ := hrw.cell hy
      have i1 : (0 : Int) ≤ j := by omega
      have i2 : (j : Int) < T := by omega
      have EW := Lib.hid (show wrap64 ((j : Int) + 1) = ((j + 1 : Nat) : Int) from (IntWalk.wrap64_in _ ⟨by omega, by have := HT.out; omega⟩).trans (by omega))
      have HL := Lib.hid hlt
      haveI : LtSz w.heap.size w2.heap.size := ⟨World.block_lt_of_cell? _ _ c0⟩
      clear hy hrw hdr hgr
      go_wp2
      exact nat_up (P := fun j => Rw w0 (w2.setCell ⟨w.heap.size, _, none⟩ _) w.heap.size (upTo j T) ∧ Dr w0 _ p x ∧ w.grownBy _ none) EW.out HL.out ⟨by have := HRW.out.set j (j : Int); rw [upTo_set HL.out] at this; exact this, HDR.out.kept (put_grown w2 w.heap.size j _) HRW.out.2.1 (by have := HLT.out; omega), ⟨(put_grown w2 w.heap.size j _).os.trans HGR.out.os, (put_grown w2 w.heap.size j _).tape.trans HGR.out.tape, (put_grown w2 w.heap.size j _).output.trans HGR.out.output, Nat.le_trans HGR.out.size (put_grown w2 w.heap.size j _).size, fun b hb hne => ((put_grown w2 w.heap.size j _).block b (Nat.lt_of_lt_of_le hb HGR.out.size) (fun e => by cases e; omega)).trans (HGR.out.block b hb hne)⟩⟩
    · obtain rfl : j = T := by omega
      have hrw1 := HRW.out
      rw [upTo_all] at hrw1
      have HI := Lib.hid hrw1
      have et : wrap64 ((j : Int) - 1) = ((j - 1 : Nat) : Int) := (IntWalk.wrap64_in _ ⟨by omega, by have := HT.out; omega⟩).trans (by omega)
      have ET := Lib.hid et
      clear hrw hdr hgr hrw1 hlt
      go_wp2
      clear et
      go_loopw [7] (fun si wr => ∃ (i : Nat) (ys : List Int) (y : Int), i ≤ j - 1 ∧ si = .int .i64 i ∧ Rw w0 wr w.heap.size ys ∧ Dr w0 wr p y ∧ ys.length = j ∧ (0 ≤ y ∧ y < 18446744073709551616) ∧ shuf i ys y = R ∧ w.grownBy wr (some p)) (fun si _ => (intOf si).toNat)
      case atStart => exact ⟨j - 1, iota j, x, Nat.le_refl _, (by first | rfl | exact congrArg (Value.int .i64) ET.out | exact congrArg (Value.int .i64) (by have := HT.out; omega)), HI.out, HDR.out, by unfold iota; simp, HX0.out, HR.out.symm, ⟨HGR.out.os, HGR.out.tape, HGR.out.output, HGR.out.size, fun b hb _ => HGR.out.block b hb (by simp)⟩⟩
      case round =>
        obtain ⟨i, ys, y, hi, rfl, hrw, hdr, hys, hy, hsh, hgr⟩ := hrel
        obtain ⟨w3, hw3⟩ : ∃ y, y = wr := ⟨_, rfl⟩
        subst hw3
        have HG3 := Lib.hid hgr
        have HSH := Lib.hid hsh
        rcases Nat.eq_zero_or_pos i with rfl | hpos
        · have HRW3 := Lib.hid hrw
          have HDR3 := Lib.hid hdr
          clear hrw hdr hgr hsh hy
          go_wp2
          go_returns
          exact ⟨_, rfl, by rw [← HSH.out]; exact HDR3.out, by rw [← HSH.out]; exact HRW3.out, HG3.out, Nat.le_refl _⟩
        · obtain ⟨m, hm⟩ : ∃ m, i = m + 1 := ⟨i - 1, by omega⟩
          have hn0 := nextI_in y
          have hk0 : 0 ≤ nextI y % ((i : Int) + 1) := Int.emod_nonneg _ (by omega)
          have hk1 : nextI y % ((i : Int) + 1) < (i : Int) + 1 := Int.emod_lt_of_pos _ (by omega)
          have DRW := Lib.hid (draw_any hdr hy.1 hy.2 ((i : Int) + 1) ⟨by omega, by have := HT.out; omega⟩)
          have hsh2 : shuf m (swp ys i (nextI y % ((i : Int) + 1)).toNat) (nextI y) = R := by
            rw [← hsh, hm, shuf, show ((m + 1 : Nat) : Int) + 1 = (m : Int) + 2 by omega]
          obtain ⟨K, hK⟩ : ∃ K : Nat, nextI y % ((i : Int) + 1) = K := ⟨(nextI y % ((i : Int) + 1)).toNat, by omega⟩
          rw [hK] at DRW hk0 hk1 hsh2
          simp only [Int.toNat_natCast] at hsh2
          generalize nextI y = y2 at *
          have hm1 : i < ys.length := by omega
          have hK1 : K < ys.length := by omega
          obtain ⟨u, hu⟩ : ∃ u, ys[i]? = some u := ⟨ys[i], List.getElem?_eq_getElem _⟩
          obtain ⟨v, hv⟩ : ∃ v, ys[K]? = some v := ⟨ys[K], List.getElem?_eq_getElem _⟩
          have hsw : swp ys i K = (ys.set i v).set K u := by
            unfold swp
            rw [List.getD_eq_getElem?_getD, List.getD_eq_getElem?_getD, hu, hv]
            rfl
          rw [hsw] at hsh2
          have HSH2 := Lib.hid hsh2
          have HYS := Lib.hid (And.intro hys (And.intro hn0 (And.intro hi (And.intro hm1 (And.intro hK1 hm)))))
          have HRW3 := Lib.hid hrw
          have HUV := Lib.hid (And.intro hu hv)
          have HSK := Lib.hid (show (ys.set i v)[K]? = some v by
            rw [List.getElem?_set]
            split
            · next e => rfl
            · exact hv)
          have HPB : Hid (w0.heap.size ≤ p ∧ w.heap.size ≠ p) := Lib.hid ⟨hdr.2.1, by have := HLT.out; omega⟩
          have j0 : (0 : Int) < i := by omega
          have j1 : (0 : Int) ≤ i := by omega
          have j2 : (i : Int) < j := by omega
          have j3 : (0 : Int) ≤ K := by omega
          have j4 : (K : Int) < j := by omega
          have EA2 := Lib.hid (show wrap64 ((i : Int) + 1) = (i : Int) + 1 from IntWalk.wrap64_in _ ⟨by omega, by have := HT.out; omega⟩)
          have EB := Lib.hid (show wrap64 ((i : Int) - 1) = (m : Int) from (IntWalk.wrap64_in _ ⟨by omega, by have := HT.out; omega⟩).trans (by omega))
          clear hrw hdr hgr hsh hsh2 hy hsw hu hv hn0 hk0 hk1 hK hys hm1 hK1 hi hpos hm
          have ea := EA2.out
          go_wp2_with (go_at_call 35; (with_reducible refine (DRW.out).mono ?_); rintro e w4 ⟨rfl, hd, hg⟩; have HD4 := Lib.hid hd; have HG4 := Lib.hid hg; have hr4 := HRW3.out.kept hg HPB.out.1 HPB.out.2; have HR4 := Lib.hid hr4; obtain ⟨c0, c1⟩ := hr4.cell HUV.out.1; obtain ⟨d0, d1⟩ := hr4.cell HUV.out.2; obtain ⟨g0, g1⟩ := (hr4.set i v).cell HSK.out; haveI : LtSz w.heap.size w4.heap.size := ⟨World.block_lt_of_cell? _ _ c0⟩; clear hd hg hr4)
          clear ea
          go_region
          have eb := EB.out
          go_wp2
          clear eb
          exact ⟨⟨m, (ys.set i v).set K u, y2, by have := HYS.out; omega, congrArg (Value.int .i64) EB.out, ((HR4.out.set i v).set K u).on ((Ext.refl _).drew), ((HD4.out.kept (put_grown _ _ _ _) HR4.out.2.1 (fun e => HPB.out.2 e.symm)).kept (put_grown _ _ _ _) HR4.out.2.1 (fun e => HPB.out.2 e.symm)).on ((Ext.refl _).drew), by rw [List.length_set, List.length_set]; exact HYS.out.1, HYS.out.2.1, HSH2.out, gsub HG3.out HG4.out (gtrans (gtrans (put_grown w4 w.heap.size i _) (put_grown _ _ K _)) (gdrew _ _)) (Nat.le_refl _)⟩, by rw [EB.out]; have := HYS.out; simp only [intOf]; omega⟩
end Go.Proofs.Ytgjolablgcnlmaa
