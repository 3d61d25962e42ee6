/- State by versions, plain: what comes. -/
import Derived.Test.YtkmgdejpdhlleaaVsP
namespace Go.Proofs.Ytkmgdejpdhlleaa.Vs
set_option linter.unusedSimpArgs false
set_option linter.unusedVariables false
set_option maxRecDepth 100000
open Go.RowKit

/-- Where an entry is put. -/
def pA (t : Int) : List En → Nat
  | [] => 0
  | x :: l => if t < x.at_ then 0 else pA t l + 1
theorem pA_le (t : Int) : ∀ l, pA t l ≤ l.length
  | [] => Nat.le_refl _
  | x :: l => by
    have := pA_le t l
    unfold pA
    split
    · omega
    · rw [List.length_cons]; omega
def insE (e : En) (l : List En) : List En := l.take (pA e.at_ l) ++ [e] ++ l.drop (pA e.at_ l)
theorem insE_len (e : En) (l : List En) : (insE e l).length = l.length + 1 := by
  have := pA_le e.at_ l
  unfold insE
  simp only [List.length_append, List.length_take, List.length_drop, List.length_cons, List.length_nil]
  omega
theorem insE_perm (e : En) (l : List En) : (insE e l).Perm (e :: l) := by
  unfold insE
  rw [List.append_assoc]
  have h : (l.take (pA e.at_ l) ++ e :: l.drop (pA e.at_ l)).Perm (e :: (l.take (pA e.at_ l) ++ l.drop (pA e.at_ l))) := List.perm_middle
  rw [List.take_append_drop] at h
  exact h
theorem insE_cons (e x : En) (l : List En) : insE e (x :: l) = if e.at_ < x.at_ then e :: x :: l else x :: insE e l := by
  have h : pA e.at_ (x :: l) = if e.at_ < x.at_ then 0 else pA e.at_ l + 1 := rfl
  unfold insE
  rw [h]
  split <;> rfl
theorem insE_sorted (e : En) : ∀ {l : List En}, l.Pairwise (fun a b => a.at_ ≤ b.at_) → (insE e l).Pairwise fun a b => a.at_ ≤ b.at_
  | [], _ => List.pairwise_singleton _ _
  | x :: l, h => by
    obtain ⟨h1, h2⟩ := List.pairwise_cons.1 h
    rw [insE_cons]
    split
    · next h3 => exact List.pairwise_cons.2 ⟨fun y hy => by
        rcases List.mem_cons.1 hy with rfl | hy
        · omega
        · have := h1 y hy; omega, h⟩
    · next h3 => exact List.pairwise_cons.2 ⟨fun y hy => by
        rcases List.mem_cons.1 ((insE_perm e l).mem_iff.1 hy) with rfl | hy
        · omega
        · exact h1 y hy, insE_sorted e h2⟩
theorem keepL_skip {ev a m : Int} {e : En} {l : List En} {s : List Rc} {K : List Vn} (h : e.at_ ≤ a) : keepL ev a (e :: l) s m K = keepL ev a l s m K := by
  rw [keepL, if_pos h]
theorem keepL_put {ev a m : Int} {e : En} {l : List En} {s : List Rc} {K : List Vn} (h : ¬ e.at_ ≤ a) (h1 : ends e l = true) (h2 : ev ≤ m + 1) : keepL ev a (e :: l) s m K = keepL ev a l (plus e s) 0 (K ++ [⟨e.at_, plus e s⟩]) := by
  rw [keepL, if_neg h, if_pos ⟨h1, h2⟩]
theorem keepL_on {ev a m : Int} {e : En} {l : List En} {s : List Rc} {K : List Vn} (h : ¬ e.at_ ≤ a) (h1 : (ends e l && decide (ev ≤ m + 1)) = false) : keepL ev a (e :: l) s m K = keepL ev a l (plus e s) (m + 1) K := by
  rw [keepL, if_neg h, if_neg (fun ⟨h2, h3⟩ => by rw [h2, Bool.true_and, decide_eq_false_iff_not] at h1; exact h1 h3)]
def momP (t : Int) : Prop := 0 ≤ t ∧ t ≤ 1048576
instance (t : Int) : Decidable (momP t) := inferInstanceAs (Decidable (_ ∧ _))
def leftK (e : En) (v : Vs) : List Vn := v.kept.filter fun x => !decide (e.at_ ≤ x.at_)
def cameS (v : Vs) (e : En) : Vs :=
  ⟨insE e v.log, keepL v.every (fromV (leftK e v) 1048576).at_ (insE e v.log) (fromV (leftK e v) 1048576).s 0 (leftK e v), v.every, v.cut,
    if (leftK e v).length < v.kept.length then wr (v.rolled + 1) else v.rolled, if (leftK e v).length < v.kept.length then wr (v.again + ((v.log.length : Int) - (pA e.at_ v.log : Nat))) else v.again⟩
/-- An entry comes. -/
def comeS (v : Vs) (e : En) : Vs × Int :=
  if ¬ momP e.at_ then (v, 1) else if e.at_ < v.cut then (v, 12) else (cameS v e, 0)
end Go.Proofs.Ytkmgdejpdhlleaa.Vs
