/- Chain: slices.Equal of timestamps, the reference's Same. -/
import Derived.Test.YtmngjifcgfnogaaChT
namespace Go.Proofs.Ytmngjifcgfnogaa
set_option linter.unusedSimpArgs false
set_option linter.unusedVariables false
set_option maxRecDepth 100000
open Go.RowKit

noncomputable def sameB {α : Type} (l m : List α) : Bool := @decide (l = m) (Classical.propDecidable _)
theorem sameB_yes {α : Type} {l m : List α} (h : l = m) : sameB l m = true := @decide_eq_true _ (Classical.propDecidable _) h
theorem sameB_no {α : Type} {l m : List α} (h : l ≠ m) : sameB l m = false := @decide_eq_false _ (Classical.propDecidable _) h
theorem sameB_iff {α : Type} {l m : List α} : sameB l m = true ↔ l = m := ⟨fun h => @of_decide_eq_true _ (Classical.propDecidable _) h, sameB_yes⟩
theorem list_same {α : Type} {l m : List α} (hl : l.length = m.length) (h : ∀ (k : Nat) x y, l[k]? = some x → m[k]? = some y → x = y) : l = m := by
  refine List.ext_getElem hl fun k h1 h2 => ?_
  exact h k _ _ (List.getElem?_eq_getElem h1) (List.getElem?_eq_getElem h2)
def eqT (x y : Tm) : Bool := x.d == y.d && (x.a == y.a && (x.b == y.b && (x.c == y.c && x.e == y.e)))
theorem eqT_iff (x y : Tm) : eqT x y = true ↔ x = y := by
  obtain ⟨xd, xa, xb, xc, xe⟩ := x
  obtain ⟨yd, ya, yb, yc, ye⟩ := y
  unfold eqT
  simp only [Bool.and_eq_true, beq_iff_eq, Tm.mk.injEq]
set_option maxHeartbeats 4000000 in
theorem equal_any (l m : List Tm) (a a' : Option Addr) (c c' : Nat) (w : World) (h : Rd w 5 l.length (.slice a l.length c) (tms l)) (h' : Rd w 5 m.length (.slice a' m.length c') (tms m)) (hn : l.length ≤ 1073741823) :
    Calls Try.prog 74 #[.slice a l.length c, .slice a' m.length c'] w fun e w' => e = .returned (.bool (sameB l m)) ∧ Ext w w' := by
  obtain ⟨R, hR⟩ : ∃ R, R = sameB l m := ⟨_, rfl⟩
  rw [← hR]
  have HR := Lib.hid hR
  have H := Lib.hid h
  have H' := Lib.hid h'
  have HN := Lib.hid hn
  by_cases hlen : l.length = m.length
  · rw [← hlen] at H' ⊢
    have HLEN := Lib.hid hlen
    clear h h' hn hR hlen
    go_enter Try.func74, Try.ntmps74
    go_wp2
    go_loopw [13] (fun i wr => ∃ j : Nat, j ≤ l.length ∧ i = .int .i64 j ∧ Ext w wr ∧ ∀ (k : Nat) x y, k < j → l[k]? = some x → m[k]? = some y → x = y) (fun i _ => l.length - (intOf i).toNat)
    case atStart => exact ⟨0, by omega, rfl, by (repeat' (first | with_reducible exact Ext.refl _ | with_reducible refine Ext.ext ?_ _ | with_reducible refine Ext.alloc ?_ _ | with_reducible refine Ext.drew ?_ | with_reducible refine Ext.drewN ?_ _ | with_reducible assumption)), fun k x y hk => absurd hk (Nat.not_lt_zero k)⟩
    case round =>
      obtain ⟨j, hj, rfl, ⟨z, rfl⟩, hok⟩ := hrel
      have HOK := Lib.hid hok
      clear hok
      by_cases hlt : j < l.length
      · obtain ⟨x, hx⟩ : ∃ x, l[j]? = some x := ⟨l[j], List.getElem?_eq_getElem _⟩
        obtain ⟨y, hy⟩ : ∃ y, m[j]? = some y := ⟨m[j]'(by have := HLEN.out; omega), List.getElem?_eq_getElem _⟩
        obtain ⟨b, off, rfl, -⟩ := H.out.cells (by omega)
        obtain ⟨b', off', rfl, -⟩ := H'.out.cells (by omega)
        obtain ⟨q0, q1, q2, q3, q4⟩ := tm_at H.out j x hx
        obtain ⟨p0, p1, p2, p3, p4⟩ := tm_at H'.out j y hy
        haveI : LtSz b w.heap.size := ⟨World.block_lt_of_cell? _ _ q0⟩
        haveI : LtSz b' w.heap.size := ⟨World.block_lt_of_cell? _ _ p0⟩
        have i1 : (0 : Int) ≤ j := by omega
        have i2 : (j : Int) < l.length := by omega
        have ew : wrap64 ((j : Int) + 1) = ((j + 1 : Nat) : Int) := (IntWalk.wrap64_in _ ⟨by omega, by have := HN.out; omega⟩).trans (by omega)
        have NO := Lib.hid (show x ≠ y → false = R from fun e => by rw [HR.out, sameB_no (fun k => e (by rw [k, hy] at hx; exact (Option.some.inj hx).symm))])
        have ST := Lib.hid (show x = y → ∀ (k : Nat) x y, k < j + 1 → l[k]? = some x → m[k]? = some y → x = y from fun e k u v hk hu hv => by
          rcases Nat.lt_or_ge k j with h | h
          · exact HOK.out k u v h hu hv
          · obtain rfl : k = j := by omega
            rw [hx] at hu
            rw [hy] at hv
            cases hu
            cases hv
            exact e)
        have EQ := eqT_iff x y
        obtain ⟨xd, xa, xb, xc, xe⟩ := x
        obtain ⟨yd, ya, yb, yc, ye⟩ := y
        dsimp only at q0 q1 q2 q3 q4 p0 p1 p2 p3 p4
        clear hx hy
        unfold eqT at EQ
        dsimp only at EQ
        obtain ⟨b4, f4⟩ : ∃ b, (xd == yd && (xa == ya && (xb == yb && (xc == yc && xe == ye)))) = b := ⟨_, rfl⟩
        rw [f4] at EQ
        cases b4
        · have HF := Lib.hid (NO.out (fun e => absurd (EQ.2 e) (by decide)))
          clear NO ST EQ
          go_wp2
          refine wp_region_ext (by kernel_rfl) (by kernel_rfl) ?_
          repeat (go_big_quiet_step (fail))
          refine wpQuiet_nil ?_
          intro xK
          go_wp2
          go_returns
          exact ⟨retb rfl HF.out, by (repeat' (first | with_reducible exact Ext.refl _ | with_reducible refine Ext.ext ?_ _ | with_reducible refine Ext.alloc ?_ _ | with_reducible refine Ext.drew ?_ | with_reducible refine Ext.drewN ?_ _ | with_reducible assumption))⟩
        · have HS := Lib.hid (ST.out (EQ.1 rfl))
          clear NO ST EQ
          go_wp2
          refine wp_region_ext (by kernel_rfl) (by kernel_rfl) ?_
          repeat (go_big_quiet_step (fail))
          refine wpQuiet_nil ?_
          intro xK
          go_wp2
          exact ⟨⟨j + 1, by omega, congrArg (Value.int .i64) ew, by (repeat' (first | with_reducible exact Ext.refl _ | with_reducible refine Ext.ext ?_ _ | with_reducible refine Ext.alloc ?_ _ | with_reducible refine Ext.drew ?_ | with_reducible refine Ext.drewN ?_ _ | with_reducible assumption)), HS.out⟩, by rw [ew]; simp only [intOf]; omega⟩
      · obtain rfl : j = l.length := by omega
        have HS := Lib.hid (show true = R by rw [HR.out, sameB_yes (list_same HLEN.out (fun k x y h1 h2 => HOK.out k x y (List.getElem?_eq_some_iff.1 h1).1 h1 h2))])
        go_wp2
        go_returns
        exact ⟨retb rfl HS.out, by (repeat' (first | with_reducible exact Ext.refl _ | with_reducible refine Ext.ext ?_ _ | with_reducible refine Ext.alloc ?_ _ | with_reducible refine Ext.drew ?_ | with_reducible refine Ext.drewN ?_ _ | with_reducible assumption))⟩
  · have HF := Lib.hid (show false = R by rw [hR, sameB_no (fun e => hlen (by rw [e]))])
    have e0 : ((l.length : Int) != m.length) = true := by simp; omega
    clear h h' hn hR hlen
    go_enter Try.func74, Try.ntmps74
    go_wp2
    go_returns
    exact ⟨retb rfl HF.out, by (repeat' (first | with_reducible exact Ext.refl _ | with_reducible refine Ext.ext ?_ _ | with_reducible refine Ext.alloc ?_ _ | with_reducible refine Ext.drew ?_ | with_reducible refine Ext.drewN ?_ _ | with_reducible assumption))⟩
set_option maxHeartbeats 4000000 in
theorem refSame_any (l m : List Tm) (a a' : Option Addr) (c c' : Nat) (w : World) (h : Rd w 5 l.length (.slice a l.length c) (tms l)) (h' : Rd w 5 m.length (.slice a' m.length c') (tms m)) (hn : l.length ≤ 1073741823) :
    Calls Try.prog 39 #[.slice a l.length c, .slice a' m.length c'] w fun e w' => e = .returned (.bool (sameB l m)) ∧ Ext w w' := by
  obtain ⟨R, hR⟩ : ∃ R, R = sameB l m := ⟨_, rfl⟩
  rw [← hR]
  have HR := Lib.hid hR
  have H := Lib.hid h
  have H' := Lib.hid h'
  have HN := Lib.hid hn
  by_cases hlen : l.length = m.length
  · rw [← hlen] at H' ⊢
    have HLEN := Lib.hid hlen
    clear h h' hn hR hlen
    go_enter Try.func39, Try.ntmps39
    go_wp2
    go_loopw [5] (fun i wr => ∃ j : Nat, j ≤ l.length ∧ i = .int .i64 j ∧ Ext w wr ∧ ∀ (k : Nat) x y, k < j → l[k]? = some x → m[k]? = some y → x = y) (fun i _ => l.length - (intOf i).toNat)
    case atStart => exact ⟨0, by omega, rfl, by (repeat' (first | with_reducible exact Ext.refl _ | with_reducible refine Ext.ext ?_ _ | with_reducible refine Ext.alloc ?_ _ | with_reducible refine Ext.drew ?_ | with_reducible refine Ext.drewN ?_ _ | with_reducible assumption)), fun k x y hk => absurd hk (Nat.not_lt_zero k)⟩
    case round =>
      obtain ⟨j, hj, rfl, ⟨z, rfl⟩, hok⟩ := hrel
      have HOK := Lib.hid hok
      clear hok
      by_cases hlt : j < l.length
      · obtain ⟨x, hx⟩ : ∃ x, l[j]? = some x := ⟨l[j], List.getElem?_eq_getElem _⟩
        obtain ⟨y, hy⟩ : ∃ y, m[j]? = some y := ⟨m[j]'(by have := HLEN.out; omega), List.getElem?_eq_getElem _⟩
        obtain ⟨b, off, rfl, -⟩ := H.out.cells (by omega)
        obtain ⟨b', off', rfl, -⟩ := H'.out.cells (by omega)
        obtain ⟨q0, q1, q2, q3, q4⟩ := tm_at H.out j x hx
        obtain ⟨p0, p1, p2, p3, p4⟩ := tm_at H'.out j y hy
        haveI : LtSz b w.heap.size := ⟨World.block_lt_of_cell? _ _ q0⟩
        haveI : LtSz b' w.heap.size := ⟨World.block_lt_of_cell? _ _ p0⟩
        have i1 : (0 : Int) ≤ j := by omega
        have i2 : (j : Int) < l.length := by omega
        have ew : wrap64 ((j : Int) + 1) = ((j + 1 : Nat) : Int) := (IntWalk.wrap64_in _ ⟨by omega, by have := HN.out; omega⟩).trans (by omega)
        have NO := Lib.hid (show x ≠ y → false = R from fun e => by rw [HR.out, sameB_no (fun k => e (by rw [k, hy] at hx; exact (Option.some.inj hx).symm))])
        have ST := Lib.hid (show x = y → ∀ (k : Nat) x y, k < j + 1 → l[k]? = some x → m[k]? = some y → x = y from fun e k u v hk hu hv => by
          rcases Nat.lt_or_ge k j with h | h
          · exact HOK.out k u v h hu hv
          · obtain rfl : k = j := by omega
            rw [hx] at hu
            rw [hy] at hv
            cases hu
            cases hv
            exact e)
        have EQ := eqT_iff x y
        obtain ⟨xd, xa, xb, xc, xe⟩ := x
        obtain ⟨yd, ya, yb, yc, ye⟩ := y
        dsimp only at q0 q1 q2 q3 q4 p0 p1 p2 p3 p4
        clear hx hy
        unfold eqT at EQ
        dsimp only at EQ
        obtain ⟨b4, f4⟩ : ∃ b, (xd == yd && (xa == ya && (xb == yb && (xc == yc && xe == ye)))) = b := ⟨_, rfl⟩
        rw [f4] at EQ
        cases b4
        · have HF := Lib.hid (NO.out (fun e => absurd (EQ.2 e) (by decide)))
          clear NO ST EQ
          go_wp2
          refine wp_region_ext (by kernel_rfl) (by kernel_rfl) ?_
          repeat (go_big_quiet_step (fail))
          refine wpQuiet_nil ?_
          intro xK
          go_wp2
          go_returns
          exact ⟨retb rfl HF.out, by (repeat' (first | with_reducible exact Ext.refl _ | with_reducible refine Ext.ext ?_ _ | with_reducible refine Ext.alloc ?_ _ | with_reducible refine Ext.drew ?_ | with_reducible refine Ext.drewN ?_ _ | with_reducible assumption))⟩
        · have HS := Lib.hid (ST.out (EQ.1 rfl))
          clear NO ST EQ
          go_wp2
          refine wp_region_ext (by kernel_rfl) (by kernel_rfl) ?_
          repeat (go_big_quiet_step (fail))
          refine wpQuiet_nil ?_
          intro xK
          go_wp2
          exact ⟨⟨j + 1, by omega, congrArg (Value.int .i64) ew, by (repeat' (first | with_reducible exact Ext.refl _ | with_reducible refine Ext.ext ?_ _ | with_reducible refine Ext.alloc ?_ _ | with_reducible refine Ext.drew ?_ | with_reducible refine Ext.drewN ?_ _ | with_reducible assumption)), HS.out⟩, by rw [ew]; simp only [intOf]; omega⟩
      · obtain rfl : j = l.length := by omega
        have HS := Lib.hid (show true = R by rw [HR.out, sameB_yes (list_same HLEN.out (fun k x y h1 h2 => HOK.out k x y (List.getElem?_eq_some_iff.1 h1).1 h1 h2))])
        go_wp2
        go_returns
        exact ⟨retb rfl HS.out, by (repeat' (first | with_reducible exact Ext.refl _ | with_reducible refine Ext.ext ?_ _ | with_reducible refine Ext.alloc ?_ _ | with_reducible refine Ext.drew ?_ | with_reducible refine Ext.drewN ?_ _ | with_reducible assumption))⟩
  · have HF := Lib.hid (show false = R by rw [hR, sameB_no (fun e => hlen (by rw [e]))])
    have e0 : ((l.length : Int) != m.length) = true := by simp; omega
    clear h h' hn hR hlen
    go_enter Try.func39, Try.ntmps39
    go_wp2
    go_returns
    exact ⟨retb rfl HF.out, by (repeat' (first | with_reducible exact Ext.refl _ | with_reducible refine Ext.ext ?_ _ | with_reducible refine Ext.alloc ?_ _ | with_reducible refine Ext.drew ?_ | with_reducible refine Ext.drewN ?_ _ | with_reducible assumption))⟩
end Go.Proofs.Ytmngjifcgfnogaa
