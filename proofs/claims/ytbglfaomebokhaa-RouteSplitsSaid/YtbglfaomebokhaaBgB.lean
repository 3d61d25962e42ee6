/- Bag: joined, Plus, Minus. -/
import Derived.Test.YtbglfaomebokhaaBgA
import Derived.Test.YtbglfaomebokhaaBgP
namespace Go.Proofs.Ytbglfaomebokhaa
set_option linter.unusedSimpArgs false
set_option linter.unusedVariables false
open Go.RowKit

def joinF (a : List It) (t : Int) (l : List It) : List It := l.foldl (fun o x => putS o x.r (t * x.n)) a
theorem joinF_snoc (a : List It) (t : Int) (l : List It) (x : It) : joinF a t (l ++ [x]) = putS (joinF a t l) x.r (t * x.n) := by unfold joinF; rw [List.foldl_append]; rfl
theorem joinF_right {a : List It} (h : rightB a = true) (t : Int) (l : List It) : rightB (joinF a t l) = true := by
  induction l generalizing a with
  | nil => exact h
  | cons x l ih => exact ih (put_right h x.r (t * x.n))
theorem joinF_len {a : List It} (h : rightB a = true) (t : Int) (l : List It) : (joinF a t l).length ≤ a.length + l.length := by
  induction l generalizing a with
  | nil => exact Nat.le_refl _
  | cons x l ih =>
    have h1 := ih (put_right h x.r (t * x.n))
    have h2 := put_len h x.r (t * x.n)
    show (joinF (putS a x.r (t * x.n)) t l).length ≤ _
    rw [List.length_cons]
    omega
theorem take_snoc {α : Type} {l : List α} {j : Nat} {x : α} (h : l[j]? = some x) : l.take (j + 1) = l.take j ++ [x] := by rw [List.take_add_one, h]; rfl
def joinS (a b : List It) (t : Int) : List It := if (rightB a && rightB b) then joinF a t b else a
theorem nOf {l : List It} (h : rightB l = true) {x : It} (hx : x ∈ l) : -2147483648 ≤ x.n ∧ x.n ≤ 2147483648 := by
  have := ((right_iff l).1 h).1 x hx
  unfold okN at this
  simp only [Bool.and_eq_true] at this
  exact of_decide_eq_true this.2
set_option maxHeartbeats 4000000 in
theorem joined_any (l m : List It) (a a' : Option Addr) (c c' : Nat) (w : World) (h : Rd w 3 l.length (.slice a l.length c) (its l)) (h' : Rd w 3 m.length (.slice a' m.length c') (its m)) (hn : l.length + m.length ≤ 1073741823) (t : Int) (ht : t = 1 ∨ t = -1) :
    Calls Try.prog 42 #[.slice a l.length c, .slice a' m.length c', .int .i64 t] w fun e w' => ∃ v', e = .returned v' ∧ Bag w w.heap.size (joinS l m t) v' w' := by
  have CL := Lib.hid (fun w' (hx : Ext w w') => clone_bag l a c w' (h.of_ext hx) (by omega))
  have R1 := Lib.hid (fun w' (hx : Ext w w') => bagRight_any l a _ c w' (h.of_ext hx) rfl (by omega))
  have R2 := Lib.hid (fun w' (hx : Ext w w') => bagRight_any m a' _ c' w' (h'.of_ext hx) rfl (by omega))
  have H := Lib.hid h'
  have HN := Lib.hid hn
  unfold joinS
  clear h h' hn
  obtain ⟨b, f⟩ : ∃ b, rightB l = b := ⟨_, rfl⟩
  obtain ⟨b', f'⟩ : ∃ b, rightB m = b := ⟨_, rfl⟩
  rw [f, f']
  rw [f] at R1
  rw [f'] at R2
  have F := Lib.hid f
  have F' := Lib.hid f'
  clear f f'
  cases b
  · clear R2
    go_enter Try.func42, Try.ntmps42
    go_wp2_with (first | (go_at_call 46; refine (CL.out _ (by (repeat' (first | with_reducible exact Ext.refl _ | with_reducible refine Ext.ext ?_ _ | with_reducible refine Ext.alloc ?_ _ | with_reducible refine Ext.drew ?_ | with_reducible refine Ext.drewN ?_ _ | with_reducible assumption)))).mono ?_; rintro e w' ⟨v', rfl, hb⟩; obtain ⟨z, rfl⟩ := hb.1; have HB := Lib.hid hb; clear hb) | (go_at_call 14; (with_reducible refine (R1.out _ (by (repeat' (first | with_reducible exact Ext.refl _ | with_reducible refine Ext.ext ?_ _ | with_reducible refine Ext.alloc ?_ _ | with_reducible refine Ext.drew ?_ | with_reducible refine Ext.drewN ?_ _ | with_reducible assumption)))).mono ?_); rintro e w' ⟨rfl, x1, rfl⟩))
    go_returns
    exact ⟨_, rfl, HB.out.on (by (first | (with_reducible exact ext_more2 _ _ _) | (repeat' (first | with_reducible exact Ext.refl _ | with_reducible refine Ext.ext ?_ _ | with_reducible refine Ext.alloc ?_ _ | with_reducible refine Ext.drew ?_ | with_reducible refine Ext.drewN ?_ _ | with_reducible assumption))))⟩
  cases b'
  · go_enter Try.func42, Try.ntmps42
    go_wp2_with (first | (go_at_call 46; refine (CL.out _ (by (repeat' (first | with_reducible exact Ext.refl _ | with_reducible refine Ext.ext ?_ _ | with_reducible refine Ext.alloc ?_ _ | with_reducible refine Ext.drew ?_ | with_reducible refine Ext.drewN ?_ _ | with_reducible assumption)))).mono ?_; rintro e w' ⟨v', rfl, hb⟩; obtain ⟨z, rfl⟩ := hb.1; have HB := Lib.hid hb; clear hb) | (go_at_call 14; (with_reducible refine (R1.out _ (by (repeat' (first | with_reducible exact Ext.refl _ | with_reducible refine Ext.ext ?_ _ | with_reducible refine Ext.alloc ?_ _ | with_reducible refine Ext.drew ?_ | with_reducible refine Ext.drewN ?_ _ | with_reducible assumption)))).mono ?_); rintro e w' ⟨rfl, x1, rfl⟩) | (go_at_call 14; (with_reducible refine (R2.out _ (by (repeat' (first | with_reducible exact Ext.refl _ | with_reducible refine Ext.ext ?_ _ | with_reducible refine Ext.alloc ?_ _ | with_reducible refine Ext.drew ?_ | with_reducible refine Ext.drewN ?_ _ | with_reducible assumption)))).mono ?_); rintro e w' ⟨rfl, x2, rfl⟩))
    go_returns
    exact ⟨_, rfl, HB.out.on (by (first | (with_reducible exact ext_more2 _ _ _) | (repeat' (first | with_reducible exact Ext.refl _ | with_reducible refine Ext.ext ?_ _ | with_reducible refine Ext.alloc ?_ _ | with_reducible refine Ext.drew ?_ | with_reducible refine Ext.drewN ?_ _ | with_reducible assumption))))⟩
  rw [show (true && true) = true from rfl, if_pos rfl]
  go_enter Try.func42, Try.ntmps42
  go_wp2_with (first | (go_at_call 46; refine (CL.out _ (by (repeat' (first | with_reducible exact Ext.refl _ | with_reducible refine Ext.ext ?_ _ | with_reducible refine Ext.alloc ?_ _ | with_reducible refine Ext.drew ?_ | with_reducible refine Ext.drewN ?_ _ | with_reducible assumption)))).mono ?_; rintro e w' ⟨v', rfl, hb⟩; obtain ⟨z, rfl⟩ := hb.1; have HB := Lib.hid hb; clear hb) | (go_at_call 14; (with_reducible refine (R1.out _ (by (repeat' (first | with_reducible exact Ext.refl _ | with_reducible refine Ext.ext ?_ _ | with_reducible refine Ext.alloc ?_ _ | with_reducible refine Ext.drew ?_ | with_reducible refine Ext.drewN ?_ _ | with_reducible assumption)))).mono ?_); rintro e w' ⟨rfl, x1, rfl⟩) | (go_at_call 14; (with_reducible refine (R2.out _ (by (repeat' (first | with_reducible exact Ext.refl _ | with_reducible refine Ext.ext ?_ _ | with_reducible refine Ext.alloc ?_ _ | with_reducible refine Ext.drew ?_ | with_reducible refine Ext.drewN ?_ _ | with_reducible assumption)))).mono ?_); rintro e w' ⟨rfl, x2, rfl⟩))
  go_loopw [7, 23] (fun v i wr => ∃ j : Nat, j ≤ m.length ∧ i = .int .i64 j ∧ Bag w w.heap.size (joinF l t (m.take j)) v wr) (fun _ i _ => m.length - (intOf i).toNat)
  case atStart => exact ⟨0, by omega, rfl, HB.out.on (by (first | (with_reducible exact ext_more2 _ _ _) | (repeat' (first | with_reducible exact Ext.refl _ | with_reducible refine Ext.ext ?_ _ | with_reducible refine Ext.alloc ?_ _ | with_reducible refine Ext.drew ?_ | with_reducible refine Ext.drewN ?_ _ | with_reducible assumption))))⟩
  case round =>
    obtain ⟨j, hj, rfl, hb⟩ := hrel
    obtain ⟨z', rfl⟩ := hb.1
    have HB := Lib.hid hb
    clear hb
    by_cases hlt : j < m.length
    · obtain ⟨x, hx⟩ : ∃ x, m[j]? = some x := ⟨m[j], List.getElem?_eq_getElem _⟩
      obtain ⟨b, off, rfl, -⟩ := H.out.cells (by omega)
      have q := it_cells H.out j x hx z'
      have q0 := keep_add q.1
      have q1 := keep_add q.2.1
      have q2 := keep_add q.2.2
      have i1 : (0 : Int) ≤ j := by omega
      have i2 : (j : Int) < m.length := by omega
      have hN := nOf F'.out (List.mem_of_getElem? hx)
      have em : wrap64 (t * x.n) = t * x.n := IntWalk.wrap64_in _ ⟨by rcases ht with rfl | rfl <;> omega, by rcases ht with rfl | rfl <;> omega⟩
      have ew : wrap64 ((j : Int) + 1) = ((j + 1 : Nat) : Int) := (IntWalk.wrap64_in _ ⟨by omega, by have := HN.out; omega⟩).trans (by omega)
      have PT := Lib.hid (fun w1 v h => put_bag (joinF l t (m.take j)) w w1 v h (by have := joinF_len F.out t (m.take j); rw [List.length_take] at this; have := HN.out; omega) (joinF_right F.out t _) x.r (t * x.n))
      rw [← joinF_snoc, ← take_snoc hx] at PT
      obtain ⟨xk, xv, xn⟩ := x
      dsimp only [It.r] at q0 q1 q2 em PT
      clear q hx hN
      go_wp2_with (go_at_call 47; refine (PT.out _ _ (by exact HB.out.on (by (first | (with_reducible exact ext_more2 _ _ _) | (repeat' (first | with_reducible exact Ext.refl _ | with_reducible refine Ext.ext ?_ _ | with_reducible refine Ext.alloc ?_ _ | with_reducible refine Ext.drew ?_ | with_reducible refine Ext.drewN ?_ _ | with_reducible assumption)))))).mono ?_; rintro e w2 ⟨v2, rfl, hb2⟩; obtain ⟨z2, rfl⟩ := hb2.1; have HB2 := Lib.hid hb2; clear hb2)
      exact ⟨⟨j + 1, by omega, congrArg (Value.int .i64) ew, HB2.out⟩, by rw [ew]; simp only [intOf]; omega⟩
    · obtain rfl : j = m.length := by omega
      rw [List.take_length] at HB
      go_wp2
      go_returns
      exact ⟨_, rfl, HB.out.on (by (first | (with_reducible exact ext_more2 _ _ _) | (repeat' (first | with_reducible exact Ext.refl _ | with_reducible refine Ext.ext ?_ _ | with_reducible refine Ext.alloc ?_ _ | with_reducible refine Ext.drew ?_ | with_reducible refine Ext.drewN ?_ _ | with_reducible assumption))))⟩
end Go.Proofs.Ytbglfaomebokhaa
