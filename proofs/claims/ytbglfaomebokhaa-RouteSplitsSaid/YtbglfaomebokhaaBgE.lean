/- Bag: Same; of the reference: Same, SameRecs. -/
import Derived.Test.YtbglfaomebokhaaBgT
namespace Go.Proofs.Ytbglfaomebokhaa
set_option linter.unusedSimpArgs false
set_option linter.unusedVariables false
open Go.RowKit

noncomputable def sameB {α : Type} (l m : List α) : Bool := @decide (l = m) (Classical.propDecidable _)
theorem sameB_yes {α : Type} {l m : List α} (h : l = m) : sameB l m = true := @decide_eq_true _ (Classical.propDecidable _) h
theorem sameB_no {α : Type} {l m : List α} (h : l ≠ m) : sameB l m = false := @decide_eq_false _ (Classical.propDecidable _) h
theorem sameB_iff {α : Type} {l m : List α} : sameB l m = true ↔ l = m := ⟨fun h => @of_decide_eq_true _ (Classical.propDecidable _) h, sameB_yes⟩
theorem list_same {α : Type} {l m : List α} (hl : l.length = m.length) (h : ∀ (k : Nat) x y, l[k]? = some x → m[k]? = some y → x = y) : l = m := by
  refine List.ext_getElem hl fun k h1 h2 => ?_
  exact h k _ _ (List.getElem?_eq_getElem h1) (List.getElem?_eq_getElem h2)
set_option maxHeartbeats 4000000 in
theorem equal_any (l m : List It) (a a' : Option Addr) (c c' : Nat) (w : World) (h : Rd w 3 l.length (.slice a l.length c) (its l)) (h' : Rd w 3 m.length (.slice a' m.length c') (its m)) (hn : l.length ≤ 1073741823) :
    Calls Try.prog 43 #[.slice a l.length c, .slice a' m.length c'] w fun e w' => e = .returned (.bool (sameB l m)) ∧ Ext w w' := by
  obtain ⟨R, hR⟩ : ∃ R, R = sameB l m := ⟨_, rfl⟩
  rw [← hR]
  have HR := Lib.hid hR
  have H := Lib.hid h
  have H' := Lib.hid h'
  have HN := Lib.hid hn
  by_cases hlen : l.length = m.length
  · rw [← hlen] at H' ⊢
    have HLEN := Lib.hid hlen
    clear h h' hn hR hlen
    go_enter Try.func43, Try.ntmps43
    go_wp2
    go_loopw [13] (fun i wr => ∃ j : Nat, j ≤ l.length ∧ i = .int .i64 j ∧ Ext w wr ∧ ∀ (k : Nat) x y, k < j → l[k]? = some x → m[k]? = some y → x = y) (fun i _ => l.length - (intOf i).toNat)
    case atStart => exact ⟨0, by omega, rfl, by (repeat' (first | with_reducible exact Ext.refl _ | with_reducible refine Ext.ext ?_ _ | with_reducible refine Ext.alloc ?_ _ | with_reducible refine Ext.drew ?_ | with_reducible refine Ext.drewN ?_ _ | with_reducible assumption)), fun k x y hk => absurd hk (Nat.not_lt_zero k)⟩
    case round =>
      obtain ⟨j, hj, rfl, ⟨z, rfl⟩, hok⟩ := hrel
      have HOK := Lib.hid hok
      clear hok
      by_cases hlt : j < l.length
      · obtain ⟨x, hx⟩ : ∃ x, l[j]? = some x := ⟨l[j], List.getElem?_eq_getElem _⟩
        obtain ⟨y, hy⟩ : ∃ y, m[j]? = some y := ⟨m[j]'(by have := HLEN.out; omega), List.getElem?_eq_getElem _⟩
        obtain ⟨b, off, rfl, -⟩ := H.out.cells (by omega)
        obtain ⟨b', off', rfl, -⟩ := H'.out.cells (by omega)
        have q := it_cells H.out j x hx z
        have q0 := q.1
        have q1 := q.2.1
        have q2 := q.2.2
        have q' := it_cells H'.out j y hy z
        have q3 := q'.1
        have q4 := q'.2.1
        have q5 := q'.2.2
        have i1 : (0 : Int) ≤ j := by omega
        have i2 : (j : Int) < l.length := by omega
        have ew : wrap64 ((j : Int) + 1) = ((j + 1 : Nat) : Int) := (IntWalk.wrap64_in _ ⟨by omega, by have := HN.out; omega⟩).trans (by omega)
        have NO := Lib.hid (show x ≠ y → false = R from fun e => by rw [HR.out, sameB_no (fun k => e (by rw [k, hy] at hx; exact (Option.some.inj hx).symm))])
        have ST := Lib.hid (show x = y → ∀ (k : Nat) x y, k < j + 1 → l[k]? = some x → m[k]? = some y → x = y from fun e k u v hk hu hv => by
          rcases Nat.lt_or_ge k j with h | h
          · exact HOK.out k u v h hu hv
          · obtain rfl : k = j := by omega
            rw [hx] at hu
            rw [hy] at hv
            cases hu
            cases hv
            exact e)
        obtain ⟨xk, xv, xn⟩ := x
        obtain ⟨yk, yv, yn⟩ := y
        dsimp only at q0 q1 q2 q3 q4 q5
        clear q q' hx hy
        obtain ⟨b1, f1⟩ : ∃ b, (xk == yk) = b := ⟨_, rfl⟩
        obtain ⟨b2, f2⟩ : ∃ b, (xv == yv) = b := ⟨_, rfl⟩
        obtain ⟨b3, f3⟩ : ∃ b, (xn == yn) = b := ⟨_, rfl⟩
        have EQ : (b1 && b2 && b3) = true → It.mk xk xv xn = ⟨yk, yv, yn⟩ := fun h => by
          simp only [Bool.and_eq_true] at h
          obtain ⟨⟨rfl, rfl⟩, rfl⟩ := h
          rw [eq_of_beq f1, eq_of_beq f2, eq_of_beq f3]
        have NE : (b1 && b2 && b3) = false → It.mk xk xv xn ≠ ⟨yk, yv, yn⟩ := fun h e => by
          cases e
          simp only [beq_self_eq_true] at f1 f2 f3
          subst f1 f2 f3
          cases h
        obtain ⟨b4, f4⟩ : ∃ b, (b1 && b2 && b3) = b := ⟨_, rfl⟩
        rw [f4] at EQ NE
        have f5 : (xk == yk && xv == yv && xn == yn) = b4 := by rw [f1, f2, f3, f4]
        clear f1 f2 f3 f4
        cases b4
        · have HF := Lib.hid (NO.out (NE rfl))
          clear NO ST EQ NE
          go_wp2
          refine wp_region_ext (by kernel_rfl) (by kernel_rfl) ?_
          repeat (go_big_quiet_step (fail))
          refine wpQuiet_nil ?_
          intro xK
          go_wp2
          go_returns
          exact ⟨retb rfl HF.out, by (repeat' (first | with_reducible exact Ext.refl _ | with_reducible refine Ext.ext ?_ _ | with_reducible refine Ext.alloc ?_ _ | with_reducible refine Ext.drew ?_ | with_reducible refine Ext.drewN ?_ _ | with_reducible assumption))⟩
        · have HS := Lib.hid (ST.out (EQ rfl))
          clear NO ST EQ NE
          go_wp2
          refine wp_region_ext (by kernel_rfl) (by kernel_rfl) ?_
          repeat (go_big_quiet_step (fail))
          refine wpQuiet_nil ?_
          intro xK
          go_wp2
          exact ⟨⟨j + 1, by omega, congrArg (Value.int .i64) ew, by (repeat' (first | with_reducible exact Ext.refl _ | with_reducible refine Ext.ext ?_ _ | with_reducible refine Ext.alloc ?_ _ | with_reducible refine Ext.drew ?_ | with_reducible refine Ext.drewN ?_ _ | with_reducible assumption)), HS.out⟩, by rw [ew]; simp only [intOf]; omega⟩
      · obtain rfl : j = l.length := by omega
        have HS := Lib.hid (show true = R by rw [HR.out, sameB_yes (list_same HLEN.out (fun k x y h1 h2 => HOK.out k x y (List.getElem?_eq_some_iff.1 h1).1 h1 h2))])
        go_wp2
        go_returns
        exact ⟨retb rfl HS.out, by (repeat' (first | with_reducible exact Ext.refl _ | with_reducible refine Ext.ext ?_ _ | with_reducible refine Ext.alloc ?_ _ | with_reducible refine Ext.drew ?_ | with_reducible refine Ext.drewN ?_ _ | with_reducible assumption))⟩
  · have HF := Lib.hid (show false = R by rw [hR, sameB_no (fun e => hlen (by rw [e]))])
    have e0 : ((l.length : Int) != m.length) = true := by simp; omega
    clear h h' hn hR hlen
    go_enter Try.func43, Try.ntmps43
    go_wp2
    go_returns
    exact ⟨retb rfl HF.out, by (repeat' (first | with_reducible exact Ext.refl _ | with_reducible refine Ext.ext ?_ _ | with_reducible refine Ext.alloc ?_ _ | with_reducible refine Ext.drew ?_ | with_reducible refine Ext.drewN ?_ _ | with_reducible assumption))⟩
end Go.Proofs.Ytbglfaomebokhaa
