/- law 14: what holds from step to step, plain. -/
import Derived.Test.YtlhmifkimnmnmaaNtP
namespace Go.Proofs.Ytlhmifkimnmnmaa
set_option linter.unusedSimpArgs false
set_option linter.unusedVariables false
open Go.RowKit

structure Inv14 (l : List Bx) (ins : List Int) (nx tk : Nat) : Prop where
  right : rightB l = true
  ups : Ups l
  perm : List.Perm ((l.flatMap (·.l)).map (·.n)) ins
  up : ins.Pairwise (· < ·)
  lt : ∀ n ∈ ins, 0 ≤ n ∧ n < (nx : Int)
  sum : ins.length + tk = nx
theorem Inv14.nil : Inv14 [] [] 0 0 := ⟨rfl, fun x hx => (by cases hx), .refl _, .nil, fun n hn => (by cases hn), rfl⟩
theorem flat_pos {l : List Bx} (h : ∀ x ∈ l, 1 ≤ x.l.length) : l.length ≤ (l.flatMap (·.l)).length := by
  induction l with
  | nil => simp
  | cons x l ih =>
    have h1 := h x List.mem_cons_self
    have h2 := ih fun y hy => h y (List.mem_cons_of_mem _ hy)
    simp only [List.flatMap_cons, List.length_append, List.length_cons]
    omega
theorem Inv14.flat {l : List Bx} {ins : List Int} {nx tk : Nat} (h : Inv14 l ins nx tk) : (l.flatMap (·.l)).length = ins.length := by
  rw [← h.perm.length_eq, List.length_map]
theorem Inv14.few {l : List Bx} {ins : List Int} {nx tk : Nat} (h : Inv14 l ins nx tk) (hn : nx ≤ 1000) : Few l := by
  have h1 := flat_pos (l := l) (fun x hx => ((okB_iff x).1 (((right_iff l).1 h.right).1 x hx)).2.2.2.1)
  have h2 := h.flat
  have h3 := h.sum
  exact ⟨by omega, fun x hx => Nat.le_trans (right_len h.right x hx) (by decide)⟩
theorem Inv14.all {l : List Bx} {ins : List Int} {nx tk : Nat} (h : Inv14 l ins nx tk) : (allS l).length = ins.length := by
  unfold allS
  rw [h.right, if_pos rfl, h.flat]
theorem Inv14.put {l : List Bx} {ins : List Int} {nx tk : Nat} (h : Inv14 l ins nx tk) {f t e : Int} (he : 0 ≤ e) (hf : 0 ≤ f) (ht : 0 ≤ t) (hl : (inB l e f t).length < 4096) : Inv14 (addB l f t ⟨e, 0, 0, 0, 0, 0, 0, 0, nx, 0⟩) (ins ++ [(nx : Int)]) (nx + 1) tk := by
  have hm : ∀ x ∈ l, ∀ a ∈ x.l, a.n < (nx : Int) := fun x hx a ha => by
    have h1 : a.n ∈ (l.flatMap (·.l)).map (·.n) := List.mem_map_of_mem (List.mem_flatMap.2 ⟨x, hx, ha⟩)
    exact (h.lt _ (h.perm.mem_iff.1 h1)).2
  refine ⟨right_add h.right he hf ht hl, ups_add h.ups hm, ?_, ?_, fun n hn => ?_, ?_⟩
  · refine ((flat_add l f t _).map (fun m : Mg => m.n)).trans ?_
    rw [List.map_cons]
    exact ((h.perm.cons _)).trans (List.perm_append_comm (l₁ := [(nx : Int)]))
  · rw [List.pairwise_append]
    refine ⟨h.up, List.pairwise_singleton _ _, fun a ha b hb => ?_⟩
    obtain rfl := List.mem_singleton.1 hb
    exact (h.lt a ha).2
  · rcases List.mem_append.1 hn with hn | hn
    · have := h.lt n hn
      omega
    · obtain rfl := List.mem_singleton.1 hn
      omega
  · have := h.sum
    rw [List.length_append, List.length_singleton]
    omega
theorem take_some {l : List Bx} {e f t i : Int} (h : takeOk l e f t i = true) : ∃ (k : Nat) (m : Mg) (x : Bx), i = (k : Int) ∧ l[posB l e f t]? = some x ∧ x.l[k]? = some m ∧ tookM l e f t i = m ∧ takeS l e f t i = cutB l (posB l e f t) k := by
  have h' := h
  unfold takeOk at h
  simp only [Bool.and_eq_true, Bool.not_eq_true', decide_eq_false_iff_not] at h
  obtain ⟨k, rfl⟩ : ∃ k : Nat, i = (k : Int) := ⟨i.toNat, by omega⟩
  have hL : k < lenS l e f t := by omega
  unfold lenS at hL
  split at hL
  · cases hh : hasB l e f t
    · rw [hasB_none hh] at hL
      simp at hL
    · obtain ⟨x, hx, -, -, -, hxi⟩ := hasB_some hh
      rw [hxi] at hL
      refine ⟨k, x.l[k], x, rfl, hx, List.getElem?_eq_getElem hL, ?_, ?_⟩
      · unfold tookM
        rw [h', if_pos rfl, hxi, show ((k : Int)).toNat = k from rfl, List.getElem?_eq_getElem hL]
        rfl
      · unfold takeS
        rw [h', if_pos rfl]
        rfl
  · omega
theorem up_inj {ins : List Int} (h : ins.Pairwise (· < ·)) {i j : Nat} {n : Int} (hi : ins[i]? = some n) (hj : ins[j]? = some n) : i = j := by
  rw [List.pairwise_iff_getElem] at h
  obtain ⟨h1, e1⟩ := List.getElem?_eq_some_iff.1 hi
  obtain ⟨h2, e2⟩ := List.getElem?_eq_some_iff.1 hj
  rcases Nat.lt_trichotomy i j with hlt | rfl | hlt
  · have := h i j h1 h2 hlt; omega
  · rfl
  · have := h j i h2 h1 hlt; omega
theorem Inv14.take {l : List Bx} {ins : List Int} {nx tk : Nat} (h : Inv14 l ins nx tk) {p i : Nat} {x : Bx} {m : Mg} (hx : l[p]? = some x) (hm : x.l[i]? = some m) :
    ∃ k : Nat, ins[k]? = some m.n ∧ Inv14 (cutB l p i) (ins.eraseIdx k) nx (tk + 1) := by
  have hp := (flat_cut hx hm).map (fun m : Mg => m.n)
  rw [List.map_cons] at hp
  have hq := h.perm.symm.trans hp
  obtain ⟨k, hk⟩ := List.getElem?_of_mem (hq.mem_iff.2 List.mem_cons_self)
  have hlt := (List.getElem?_eq_some_iff.1 hk).1
  have hr := erase_perm hk
  refine ⟨k, hk, right_cut h.right, ups_cut h.ups, ?_, h.up.sublist (List.eraseIdx_sublist _ _), fun n hn => h.lt n (List.mem_of_mem_eraseIdx hn), ?_⟩
  · exact ((hr.symm.trans hq).cons_inv).symm
  · have := h.sum
    rw [List.length_eraseIdx_of_lt hlt]
    omega
theorem putOk_len {l : List Bx} {e f t room : Int} {m : Mg} (hr : rightB l = true) (hm : m.e = e) (he : 0 ≤ e) (hf : 0 ≤ f) (ht : 0 ≤ t) (h : room ≤ 4096) : putOk l f t room m = decide ((lenS l e f t : Int) < room) := by
  unfold putOk lenS
  rw [hr, hm, if_pos rfl, decide_eq_false (show ¬ e < 0 by omega), decide_eq_false (show ¬ f < 0 by omega), decide_eq_false (show ¬ t < 0 by omega), Int.min_eq_left h]
  by_cases hc : room ≤ ((inB l e f t).length : Int)
  · rw [decide_eq_true hc, decide_eq_false (by omega)]; rfl
  · rw [decide_eq_false hc, decide_eq_true (by omega)]; rfl
theorem takeOk_len {l : List Bx} {e f t i : Int} (h : 0 ≤ i) : takeOk l e f t i = decide (i < (lenS l e f t : Int)) := by
  unfold takeOk
  rw [decide_eq_false (show ¬ i < 0 by omega)]
  by_cases hc : (lenS l e f t : Int) ≤ i
  · rw [decide_eq_true hc, decide_eq_false (by omega)]; rfl
  · rw [decide_eq_false hc, decide_eq_true (by omega)]; rfl
end Go.Proofs.Ytlhmifkimnmnmaa
