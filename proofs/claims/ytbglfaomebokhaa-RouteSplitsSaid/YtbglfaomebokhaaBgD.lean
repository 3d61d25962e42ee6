/- Bag: Of. Lists of records. -/
import Derived.Test.YtbglfaomebokhaaBgC
namespace Go.Proofs.Ytbglfaomebokhaa
set_option linter.unusedSimpArgs false
set_option linter.unusedVariables false
open Go.RowKit

def rcs : List (Int × Int) → List Value
  | [] => []
  | r :: l => .int .i64 r.1 :: .int .i64 r.2 :: rcs l
theorem rcs_append (l m : List (Int × Int)) : rcs (l ++ m) = rcs l ++ rcs m := by
  induction l with
  | nil => rfl
  | cons a l ih => simp only [List.cons_append, rcs, ih]
theorem rcs_length (l : List (Int × Int)) : (rcs l).length = l.length * 2 := by
  induction l with
  | nil => rfl
  | cons a l ih => simp only [rcs, List.length_cons, ih]; omega
theorem rcs_one (l : List (Int × Int)) : ∀ u ∈ rcs l, u.oneCell' = true := by
  induction l with
  | nil => intro u hu; cases hu
  | cons a l ih =>
    intro u hu
    simp only [rcs, List.mem_cons] at hu
    rcases hu with rfl | rfl | hu
    · rfl
    · rfl
    · exact ih u hu
theorem rcs_get : ∀ (l : List (Int × Int)) (j : Nat) (x : Int × Int), l[j]? = some x → (rcs l)[j * 2]? = some (.int .i64 x.1) ∧ (rcs l)[j * 2 + 1]? = some (.int .i64 x.2)
  | [], j, x, h => by simp at h
  | a :: l, 0, x, h => by
    obtain rfl : a = x := by simpa using h
    exact ⟨rfl, rfl⟩
  | a :: l, j + 1, x, h => by
    have := rcs_get l j x (by simpa using h)
    rw [show (j + 1) * 2 = j * 2 + 1 + 1 by omega]
    simpa [rcs] using this
theorem rc_cells {w : World} {b off n c : Nat} {l : List (Int × Int)} (h : Rd w 2 n (.slice (some ⟨b, off, none⟩) n c) (rcs l)) (j : Nat) (x : Int × Int) (hj : l[j]? = some x) (z : Inc) :
    (∀ u, (ext w (z.add u)).cell? ⟨b, off + j * 2, none⟩ = some (.int .i64 x.1)) ∧ (∀ u, (ext w (z.add u)).cell? ⟨b, off + j * 2 + 1, none⟩ = some (.int .i64 x.2)) := by
  obtain ⟨h1, h2⟩ := rcs_get l j x hj
  have hlt := (List.getElem?_eq_some_iff.1 hj).1
  have hl := h.len
  rw [rcs_length] at hl
  obtain ⟨b', off', hb, hc⟩ := h.cells (by omega)
  obtain ⟨rfl, rfl⟩ : b = b' ∧ off = off' := by simpa using hb
  have c1 := hc _ _ h1
  have c2 := hc _ _ h2
  rw [← Nat.add_assoc] at c2
  exact ⟨fun u => by rw [cell_ext_a _ _ _ (World.block_lt_of_cell? _ _ c1), c1], fun u => by rw [cell_ext_a _ _ _ (World.block_lt_of_cell? _ _ c2), c2]⟩
def ofF (l : List (Int × Int)) : List It := l.foldl (fun o r => putS o r 1) []
theorem ofF_snoc (l : List (Int × Int)) (r : Int × Int) : ofF (l ++ [r]) = putS (ofF l) r 1 := by unfold ofF; rw [List.foldl_append]; rfl
theorem of_right : ∀ (l : List (Int × Int)) (o : List It), rightB o = true → rightB (l.foldl (fun o r => putS o r 1) o) = true ∧ (l.foldl (fun o r => putS o r 1) o).length ≤ o.length + l.length
  | [], o, h => ⟨h, Nat.le_refl _⟩
  | r :: l, o, h => by
    have h1 := of_right l _ (put_right h r 1)
    have h2 := put_len h r 1
    exact ⟨h1.1, by have := h1.2; rw [List.length_cons]; rw [List.foldl_cons]; omega⟩
theorem ofF_right (l : List (Int × Int)) : rightB (ofF l) = true := (of_right l [] rfl).1
theorem ofF_len (l : List (Int × Int)) : (ofF l).length ≤ l.length := by have := (of_right l [] rfl).2; rw [List.length_nil, Nat.zero_add] at this; exact this
set_option maxHeartbeats 4000000 in
theorem bagOf_any (l : List (Int × Int)) (a : Option Addr) (c : Nat) (w : World) (h : Rd w 2 l.length (.slice a l.length c) (rcs l)) (hn : l.length ≤ 1073741823) :
    Calls Try.prog 24 #[.slice a l.length c] w fun e w' => ∃ v', e = .returned v' ∧ Bag w w.heap.size (ofF l) v' w' := by
  have H := Lib.hid h
  have HN := Lib.hid hn
  clear h hn
  go_enter Try.func24, Try.ntmps24
  go_wp2
  go_loopw [3, 8] (fun v i wr => ∃ j : Nat, j ≤ l.length ∧ i = .int .i64 j ∧ Bag w w.heap.size (ofF (l.take j)) v wr) (fun _ i _ => l.length - (intOf i).toNat)
  case atStart => exact ⟨0, by omega, rfl, Bag.nil _ _⟩
  case round =>
    obtain ⟨j, hj, rfl, hb⟩ := hrel
    obtain ⟨z', rfl⟩ := hb.1
    have HB := Lib.hid hb
    clear hb
    by_cases hlt : j < l.length
    · obtain ⟨x, hx⟩ : ∃ x, l[j]? = some x := ⟨l[j], List.getElem?_eq_getElem _⟩
      obtain ⟨b, off, rfl, -⟩ := H.out.cells (by omega)
      have q := rc_cells H.out j x hx z'
      have q0 := keep_add q.1
      have q1 := keep_add q.2
      have i1 : (0 : Int) ≤ j := by omega
      have i2 : (j : Int) < l.length := by omega
      have ew : wrap64 ((j : Int) + 1) = ((j + 1 : Nat) : Int) := (IntWalk.wrap64_in _ ⟨by omega, by have := HN.out; omega⟩).trans (by omega)
      have PT := Lib.hid (fun w1 v h => put_bag (ofF (l.take j)) w w1 v h (by have := ofF_len (l.take j); rw [List.length_take] at this; have := HN.out; omega) (ofF_right _) x 1)
      rw [← ofF_snoc, ← take_snoc hx] at PT
      obtain ⟨xk, xv⟩ := x
      dsimp only at q0 q1 PT
      clear q hx
      go_wp2_with (go_at_call 47; refine (PT.out _ _ (by exact HB.out.on (by (first | (with_reducible exact ext_more2 _ _ _) | (repeat' (first | with_reducible exact Ext.refl _ | with_reducible refine Ext.ext ?_ _ | with_reducible refine Ext.alloc ?_ _ | with_reducible refine Ext.drew ?_ | with_reducible refine Ext.drewN ?_ _ | with_reducible assumption)))))).mono ?_; rintro e w2 ⟨v2, rfl, hb2⟩; obtain ⟨z2, rfl⟩ := hb2.1; have HB2 := Lib.hid hb2; clear hb2)
      exact ⟨⟨j + 1, by omega, congrArg (Value.int .i64) ew, HB2.out⟩, by rw [ew]; simp only [intOf]; omega⟩
    · obtain rfl : j = l.length := by omega
      rw [List.take_length] at HB
      go_wp2
      go_returns
      exact ⟨_, rfl, HB.out.on (by (first | (with_reducible exact ext_more2 _ _ _) | (repeat' (first | with_reducible exact Ext.refl _ | with_reducible refine Ext.ext ?_ _ | with_reducible refine Ext.alloc ?_ _ | with_reducible refine Ext.drew ?_ | with_reducible refine Ext.drewN ?_ _ | with_reducible assumption))))⟩
end Go.Proofs.Ytbglfaomebokhaa
