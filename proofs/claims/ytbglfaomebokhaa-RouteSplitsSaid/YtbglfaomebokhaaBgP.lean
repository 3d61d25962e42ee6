/- Bag, plain: put, item by item; what is there so often; a right bag is told by that. -/
import Derived.Test.YtbglfaomebokhaaBg9
namespace Go.Proofs.Ytbglfaomebokhaa
set_option linter.unusedSimpArgs false
set_option linter.unusedVariables false

def Srt (l : List It) : Prop := l.Pairwise (fun x y => ltR x.r y.r)
theorem srt_iff : ∀ l : List It, chainB l = true ↔ Srt l
  | [] => by simp [chainB, Srt]
  | [x] => by simp [chainB, Srt]
  | x :: y :: l => by
    rw [chainB, Bool.and_eq_true, lessI_lt, srt_iff (y :: l)]
    unfold Srt
    rw [List.pairwise_cons (l := y :: l)]
    constructor
    · rintro ⟨h1, h2⟩
      refine ⟨fun z hz => ?_, h2⟩
      rcases List.mem_cons.1 hz with rfl | hz
      · exact h1
      · exact ltR_trans h1 ((List.pairwise_cons.1 h2).1 z hz)
    · exact fun h => ⟨h.1 y (List.mem_cons_self), h.2⟩
theorem right_iff (l : List It) : rightB l = true ↔ (∀ x ∈ l, okN x = true) ∧ Srt l := by
  unfold rightB
  rw [Bool.and_eq_true, List.all_eq_true, srt_iff]
theorem ordR_gt (a b : Int × Int) (h1 : ¬ ordR a b < 0) (h2 : ordR a b ≠ 0) : ltR b a := by
  rw [ordR_lt] at h1
  have h3 : ¬ a = b := fun e => h2 ((ordR_zero a b).2 e)
  obtain ⟨x, y⟩ := a
  obtain ⟨x', y'⟩ := b
  unfold ltR at *
  simp only [Prod.mk.injEq] at h3
  dsimp only at *
  omega
/-- What is put, item by item. -/
def insR (r : Int × Int) (q : Int) : List It → List It
  | [] => [⟨r.1, r.2, q⟩]
  | x :: l => if ordR x.r r < 0 then x :: insR r q l else if ordR x.r r = 0 then (if x.n + q = 0 then l else { x with n := x.n + q } :: l) else ⟨r.1, r.2, q⟩ :: x :: l
/-- How often a record is there. -/
def cnt : List It → (Int × Int) → Int
  | [], _ => 0
  | x :: l, r => (if x.r = r then x.n else 0) + cnt l r
theorem cnt_none {l : List It} {r : Int × Int} (h : ∀ x ∈ l, x.r ≠ r) : cnt l r = 0 := by
  induction l with
  | nil => rfl
  | cons x l ih => rw [cnt, if_neg (h x (List.mem_cons_self)), ih (fun y hy => h y (List.mem_cons_of_mem _ hy)), Int.add_zero]
theorem srt_ne {x : It} {l : List It} (h : Srt (x :: l)) : ∀ y ∈ l, y.r ≠ x.r := fun y hy e => ltR_irrefl _ (e ▸ (List.pairwise_cons.1 h).1 y hy)
theorem cnt_head {x : It} {l : List It} (h : Srt (x :: l)) : cnt (x :: l) x.r = x.n := by rw [cnt, if_pos rfl, cnt_none (srt_ne h), Int.add_zero]
theorem cnt_app (l m : List It) (r : Int × Int) : cnt (l ++ m) r = cnt l r + cnt m r := by
  induction l with
  | nil => simp [cnt]
  | cons x l ih => rw [List.cons_append, cnt, cnt, ih, Int.add_assoc]
theorem ins_mem {r : Int × Int} {q : Int} {l : List It} {y : It} (h : y ∈ insR r q l) : y ∈ l ∨ y.r = r := by
  induction l with
  | nil =>
    rw [insR, List.mem_singleton] at h
    subst h
    exact .inr rfl
  | cons x l ih =>
    rw [insR] at h
    split at h
    · rcases List.mem_cons.1 h with rfl | h
      · exact .inl List.mem_cons_self
      · exact (ih h).imp (List.mem_cons_of_mem _) id
    · split at h
      · next h0 =>
        split at h
        · exact .inl (List.mem_cons_of_mem _ h)
        · rcases List.mem_cons.1 h with rfl | h
          · exact .inr ((ordR_zero _ _).1 h0)
          · exact .inl (List.mem_cons_of_mem _ h)
      · rcases List.mem_cons.1 h with rfl | h
        · exact .inr rfl
        · exact .inl h
theorem ins_srt {r : Int × Int} {q : Int} {l : List It} (h : Srt l) : Srt (insR r q l) := by
  induction l with
  | nil => exact List.pairwise_singleton _ _
  | cons x l ih =>
    obtain ⟨h1, h2⟩ := List.pairwise_cons.1 h
    rw [insR]
    split
    · next hlt =>
      refine List.pairwise_cons.2 ⟨fun y hy => ?_, ih h2⟩
      rcases ins_mem hy with hy | rfl
      · exact h1 y hy
      · exact (ordR_lt _ _).1 hlt
    · next hlt =>
      split
      · split
        · exact h2
        · exact List.pairwise_cons.2 ⟨h1, h2⟩
      · next h0 =>
        have hgt := ordR_gt _ _ hlt h0
        refine List.pairwise_cons.2 ⟨fun y hy => ?_, h⟩
        rcases List.mem_cons.1 hy with rfl | hy
        · exact hgt
        · exact ltR_trans hgt (h1 y hy)
theorem ins_cnt {r : Int × Int} {q : Int} {l : List It} (s : Int × Int) : cnt (insR r q l) s = cnt l s + (if r = s then q else 0) := by
  induction l with
  | nil =>
    show (if (It.r ⟨r.1, r.2, q⟩) = s then q else 0) + 0 = 0 + _
    rw [show It.r ⟨r.1, r.2, q⟩ = r from rfl]
    omega
  | cons x l ih =>
    rw [insR]
    split
    · rw [cnt, ih, cnt, Int.add_assoc]
    · split
      · next h0 =>
        have e := (ordR_zero _ _).1 h0
        split
        · next hz =>
          rw [cnt, e]
          split <;> omega
        · rw [cnt, cnt, show It.r { x with n := x.n + q } = x.r from rfl, e]
          split <;> simp <;> omega
      · rw [cnt, show It.r ⟨r.1, r.2, q⟩ = r from rfl]
        dsimp only
        omega
theorem ins_ok {r : Int × Int} {q : Int} {l : List It} (h : rightB l = true) (hq : q ≠ 0) (hm : mayB (cnt l r + q) = true) (hs : mayB q = true) : rightB (insR r q l) = true := by
  rw [right_iff] at h ⊢
  refine ⟨?_, ins_srt h.2⟩
  obtain ⟨h1, h2⟩ := h
  induction l with
  | nil =>
    intro x hx
    rw [insR, List.mem_singleton] at hx
    subst hx
    unfold okN
    rw [show (It.mk r.1 r.2 q).n = q from rfl, hs]
    simp [hq]
  | cons x l ih =>
    obtain ⟨k1, k2⟩ := List.pairwise_cons.1 h2
    have hx := h1 x List.mem_cons_self
    have hl := fun y hy => h1 y (List.mem_cons_of_mem _ hy)
    have hit : okN ⟨r.1, r.2, q⟩ = true := by
      unfold okN
      rw [show (It.mk r.1 r.2 q).n = q from rfl, hs]
      simp [hq]
    rw [insR]
    split
    · next hlt =>
      have hne : x.r ≠ r := fun e => by rw [(ordR_zero _ _).2 e] at hlt; omega
      rw [cnt, if_neg hne, Int.zero_add] at hm
      intro y hy
      rcases List.mem_cons.1 hy with rfl | hy
      · exact hx
      · exact ih hm hl k2 y hy
    · split
      · next h0 =>
        have e := (ordR_zero _ _).1 h0
        have hc := cnt_head h2
        rw [e] at hc
        rw [hc] at hm
        split
        · exact hl
        · next hz =>
          intro y hy
          rcases List.mem_cons.1 hy with rfl | hy
          · unfold okN
            rw [show (It.mk x.k x.v (x.n + q)).n = x.n + q from rfl, hm]
            simp [hz]
          · exact hl y hy
      · intro y hy
        rcases List.mem_cons.1 hy with rfl | hy
        · exact hit
        · exact h1 y hy
theorem ins_app_yes {r : Int × Int} {q : Int} : ∀ {l : List It} (m : List It), (∃ y ∈ l, ¬ ordR y.r r < 0) → insR r q (l ++ m) = insR r q l ++ m
  | [], m, h => by obtain ⟨y, hy, -⟩ := h; cases hy
  | x :: l, m, h => by
    rw [List.cons_append, insR, insR]
    split
    · next hlt =>
      rw [ins_app_yes m, List.cons_append]
      obtain ⟨y, hy, hn⟩ := h
      rcases List.mem_cons.1 hy with rfl | hy
      · exact absurd hlt hn
      · exact ⟨y, hy, hn⟩
    · split
      · split <;> simp
      · simp
theorem ins_app_no {r : Int × Int} {q : Int} : ∀ {l : List It} (m : List It), (∀ y ∈ l, ordR y.r r < 0) → insR r q (l ++ m) = l ++ insR r q m
  | [], m, h => rfl
  | x :: l, m, h => by
    rw [List.cons_append, insR, if_pos (h x List.mem_cons_self), ins_app_no m (fun y hy => h y (List.mem_cons_of_mem _ hy)), List.cons_append]
theorem pos_split (r : Int × Int) : ∀ l : List It, (∀ y ∈ l.take (posI l r), ordR y.r r < 0) ∧ (∀ x, l[posI l r]? = some x → ¬ ordR x.r r < 0)
  | [] => by simp [posI]
  | x :: l => by
    obtain ⟨h1, h2⟩ := pos_split r l
    rw [posI]
    split
    · next hlt =>
      refine ⟨fun y hy => ?_, fun y hy => h2 y (by simpa using hy)⟩
      rw [List.take_succ_cons] at hy
      rcases List.mem_cons.1 hy with rfl | hy
      · exact hlt
      · exact h1 y hy
    · next hlt =>
      refine ⟨fun y hy => by simp at hy, fun y hy => ?_⟩
      obtain rfl : x = y := by simpa using hy
      exact hlt
theorem cnt_pos {l : List It} (h : Srt l) (r : Int × Int) : cnt l r = match l[posI l r]? with
    | some x => if ordR x.r r = 0 then x.n else 0
    | none => 0 := by
  induction l with
  | nil => rfl
  | cons x l ih =>
    obtain ⟨h1, h2⟩ := List.pairwise_cons.1 h
    rw [posI]
    by_cases hlt : ordR x.r r < 0
    · have hne : x.r ≠ r := fun e => by rw [(ordR_zero _ _).2 e] at hlt; omega
      rw [cnt, if_neg hne, Int.zero_add, ih h2, if_pos hlt]
      simp
    · rw [if_neg hlt]
      simp only [List.getElem?_cons_zero]
      by_cases h0 : ordR x.r r = 0
      · rw [if_pos h0]
        have e := (ordR_zero _ _).1 h0
        rw [← e, cnt_head h]
      · rw [if_neg h0]
        have hgt := ordR_gt _ _ hlt h0
        refine cnt_none fun y hy e => ?_
        rcases List.mem_cons.1 hy with rfl | hy
        · exact h0 ((ordR_zero _ _).2 e)
        · have := h1 y hy
          rw [e] at this
          exact ltR_irrefl _ (ltR_trans hgt this)
/-- What put makes of a right bag. -/
theorem put_eq {l : List It} (h : rightB l = true) (r : Int × Int) (q : Int) : putS l r q = if (q == 0 || !mayB q || !mayB (cnt l r + q)) then l else insR r q l := by
  obtain ⟨ho, hs⟩ := (right_iff l).1 h
  obtain ⟨h1, h2⟩ := pos_split r l
  have hc := cnt_pos hs r
  have hd : l.take (posI l r) ++ l.drop (posI l r) = l := List.take_append_drop _ _
  unfold putS
  by_cases hq : (q == 0 || !mayB q) = true
  · rw [hq]; simp
  have hq : (q == 0 || !mayB q) = false := by simpa using hq
  rw [hq, if_neg (by decide), Bool.false_or]
  have hmq : mayB q = true := by
    simp only [Bool.or_eq_false_iff, Bool.not_eq_false'] at hq
    exact hq.2
  have hins : insR r q l = l.take (posI l r) ++ insR r q (l.drop (posI l r)) := by
    conv => lhs; rw [← hd]
    exact ins_app_no _ h1
  cases hx : l[posI l r]? with
  | none =>
    rw [hx] at hc
    dsimp only at hc ⊢
    rw [hc, Int.zero_add, hmq, hins]
    have hlen : l.length ≤ posI l r := List.getElem?_eq_none_iff.1 hx
    rw [List.drop_of_length_le hlen]
    rfl
  | some x =>
    rw [hx] at hc
    dsimp only at hc ⊢
    obtain ⟨hlt, hxe⟩ := List.getElem?_eq_some_iff.1 hx
    have hdr : l.drop (posI l r) = x :: l.drop (posI l r + 1) := by rw [List.drop_eq_getElem_cons hlt, hxe]
    have hn := h2 x hx
    by_cases h0 : ordR x.r r = 0
    · rw [if_pos h0] at hc
      rw [if_pos h0, hc, hins, hdr, insR, if_neg hn, if_pos h0]
      by_cases hz : x.n + q = 0
      · rw [if_pos hz, if_pos hz, hz, show mayB 0 = true from by decide]
        rw [List.eraseIdx_eq_take_drop_succ]
        rfl
      · rw [if_neg hz, if_neg hz]
        cases hm : mayB (x.n + q)
        · rfl
        · simp only [if_true, Bool.not_true]
          rw [List.set_eq_take_append_cons_drop, if_pos hlt]
          rfl
    · rw [if_neg h0] at hc
      rw [if_neg h0, hc, Int.zero_add, hmq, hins, hdr, insR, if_neg hn, if_neg h0]
      rfl
theorem put_right {l : List It} (h : rightB l = true) (r : Int × Int) (q : Int) : rightB (putS l r q) = true := by
  rw [put_eq h]
  split
  · exact h
  · next hq =>
    simp only [Bool.not_eq_true, Bool.or_eq_false_iff, Bool.not_eq_false', beq_eq_false_iff_ne] at hq
    exact ins_ok h hq.1.1 hq.2 hq.1.2
theorem put_cnt {l : List It} (h : rightB l = true) (r : Int × Int) (q : Int) (hq : mayB q = true) (hm : mayB (cnt l r + q) = true) (s : Int × Int) : cnt (putS l r q) s = cnt l s + (if r = s then q else 0) := by
  rw [put_eq h, hq, hm]
  by_cases h0 : q = 0
  · subst h0
    simp
  · simp only [show (q == 0) = false by simp [h0], Bool.not_true, Bool.or_self, Bool.false_eq_true, if_false]
    exact ins_cnt s
theorem ins_len (r : Int × Int) (q : Int) (l : List It) : (insR r q l).length ≤ l.length + 1 := by
  induction l with
  | nil => simp [insR]
  | cons x l ih =>
    rw [insR]
    split
    · simp only [List.length_cons]; omega
    · split
      · split <;> simp <;> omega
      · simp
theorem put_len {l : List It} (h : rightB l = true) (r : Int × Int) (q : Int) : (putS l r q).length ≤ l.length + 1 := by
  rw [put_eq h]
  split
  · omega
  · exact ins_len r q l
/-- Right bags in which each record is as often are one. -/
theorem bag_ext : ∀ {l m : List It}, (∀ x ∈ l, x.n ≠ 0) → (∀ x ∈ m, x.n ≠ 0) → Srt l → Srt m → (∀ s, cnt l s = cnt m s) → l = m
  | [], [], _, _, _, _, _ => rfl
  | [], y :: m, _, h2, _, h4, h => by
    have := h y.r
    rw [cnt_head h4] at this
    exact absurd this.symm (h2 y List.mem_cons_self)
  | x :: l, [], h1, _, h3, _, h => by
    have := h x.r
    rw [cnt_head h3] at this
    exact absurd this (h1 x List.mem_cons_self)
  | x :: l, y :: m, h1, h2, h3, h4, h => by
    have far : ∀ {x y : It} {m : List It}, Srt (y :: m) → ltR x.r y.r → cnt (y :: m) x.r = 0 := fun {x y m} hs hl => cnt_none fun z hz e => by
      rcases List.mem_cons.1 hz with rfl | hz
      · rw [e] at hl; exact ltR_irrefl _ hl
      · have := ltR_trans hl ((List.pairwise_cons.1 hs).1 z hz)
        rw [e] at this
        exact ltR_irrefl _ this
    have hr : x.r = y.r := by
      rcases Classical.em (ltR x.r y.r) with hl | hl
      · have := h x.r
        rw [cnt_head h3, far h4 hl] at this
        exact absurd this (h1 x List.mem_cons_self)
      · by_cases e : ordR x.r y.r = 0
        · exact (ordR_zero _ _).1 e
        · have hg := ordR_gt _ _ (fun k => hl ((ordR_lt _ _).1 k)) e
          have := h y.r
          rw [cnt_head h4, far h3 hg] at this
          exact absurd this.symm (h2 y List.mem_cons_self)
    have hn : x.n = y.n := by
      have := h x.r
      rw [cnt_head h3, hr, cnt_head h4] at this
      exact this
    have hxy : x = y := by
      obtain ⟨a, b, c⟩ := x
      obtain ⟨a', b', c'⟩ := y
      simp only [It.r, Prod.mk.injEq] at hr
      simp only at hn
      rw [hr.1, hr.2, hn]
    subst hxy
    congr 1
    refine bag_ext (fun z hz => h1 z (List.mem_cons_of_mem _ hz)) (fun z hz => h2 z (List.mem_cons_of_mem _ hz)) (List.pairwise_cons.1 h3).2 (List.pairwise_cons.1 h4).2 (fun s => ?_)
    have := h s
    rw [cnt, cnt] at this
    omega
end Go.Proofs.Ytbglfaomebokhaa
