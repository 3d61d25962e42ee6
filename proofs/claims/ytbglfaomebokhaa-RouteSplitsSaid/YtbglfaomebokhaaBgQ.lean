/- Bag, plain: how often a record is there in what is joined, in a bag of records, in a bag's records; sums. -/
import Derived.Test.YtbglfaomebokhaaBgL
namespace Go.Proofs.Ytbglfaomebokhaa
set_option linter.unusedSimpArgs false
set_option linter.unusedVariables false

theorem mayB_iff (n : Int) : mayB n = true ↔ -2147483648 ≤ n ∧ n ≤ 2147483648 := by unfold mayB; exact decide_eq_true_iff
theorem right_ne {l : List It} (h : rightB l = true) : ∀ x ∈ l, x.n ≠ 0 := fun x hx => by
  have := ((right_iff l).1 h).1 x hx
  unfold okN at this
  simp only [Bool.and_eq_true] at this
  simpa using this.1
theorem right_ext {l m : List It} (h1 : rightB l = true) (h2 : rightB m = true) (h : ∀ s, cnt l s = cnt m s) : l = m := bag_ext (right_ne h1) (right_ne h2) ((right_iff l).1 h1).2 ((right_iff m).1 h2).2 h
theorem right_cons {x : It} {l : List It} (h : rightB (x :: l) = true) : rightB l = true := by
  rw [right_iff] at h ⊢
  exact ⟨fun y hy => h.1 y (List.mem_cons_of_mem _ hy), (List.pairwise_cons.1 h.2).2⟩
theorem right_head {x : It} {l : List It} (h : rightB (x :: l) = true) : cnt (x :: l) x.r = x.n := cnt_head ((right_iff _).1 h).2
theorem join_cnt {t : Int} (ht : t = 1 ∨ t = -1) : ∀ {a b : List It}, rightB a = true → rightB b = true → (∀ s, mayB (cnt a s + t * cnt b s) = true) → ∀ s, cnt (joinF a t b) s = cnt a s + t * cnt b s
  | a, [], ha, hb, h, s => by show cnt a s = cnt a s + t * 0; omega
  | a, x :: b, ha, hb, h, s => by
    have hx : mayB (t * x.n) = true := by
      have := nOf hb List.mem_cons_self
      rw [mayB_iff]
      rcases ht with rfl | rfl <;> omega
    have hc : ∀ s, cnt (putS a x.r (t * x.n)) s = cnt a s + (if x.r = s then t * x.n else 0) := put_cnt ha x.r (t * x.n) hx (by have := h x.r; rw [right_head hb] at this; exact this)
    have hs : ∀ s, cnt (putS a x.r (t * x.n)) s + t * cnt b s = cnt a s + t * cnt (x :: b) s := fun s => by
      rw [hc, cnt, Int.mul_add]
      by_cases e : x.r = s
      · rw [if_pos e, if_pos e]; omega
      · rw [if_neg e, if_neg e, Int.mul_zero]; omega
    show cnt (joinF (putS a x.r (t * x.n)) t b) s = _
    rw [join_cnt ht (put_right ha _ _) (right_cons hb) (fun s => by rw [hs]; exact h s) s, hs]
theorem join_right {a : List It} (ha : rightB a = true) (b : List It) (t : Int) : rightB (joinS a b t) = true := by
  unfold joinS
  split
  · exact joinF_right ha t b
  · exact ha
theorem joinS_cnt {t : Int} (ht : t = 1 ∨ t = -1) {a b : List It} (ha : rightB a = true) (hb : rightB b = true) (h : ∀ s, mayB (cnt a s + t * cnt b s) = true) (s : Int × Int) : cnt (joinS a b t) s = cnt a s + t * cnt b s := by
  unfold joinS
  rw [ha, hb]
  exact join_cnt ht ha hb h s
theorem cnt_may {l : List It} (h : rightB l = true) (s : Int × Int) : mayB (cnt l s) = true := by
  rw [cnt_pos ((right_iff l).1 h).2 s]
  cases hx : l[posI l s]? with
  | none => rfl
  | some x =>
    dsimp only
    split
    · exact (mayB_iff _).2 (nOf h (List.mem_of_getElem? hx))
    · rfl
theorem joinS_len {a b : List It} (ha : rightB a = true) (t : Int) : (joinS a b t).length ≤ a.length + b.length := by
  unfold joinS
  split
  · exact joinF_len ha t b
  · omega
theorem right_nil : rightB [] = true := rfl
theorem pos_right {l : List It} (h : rightB l = true) : rightB (posF l) = true := by
  rw [right_iff] at h ⊢
  exact ⟨fun x hx => h.1 x (List.mem_filter.1 hx).1, h.2.filter _⟩
theorem there_right (l : List It) : rightB (thereS l) = true := by
  unfold thereS
  split
  · next h => exact pos_right h
  · rfl
theorem posF_id {l : List It} (h : ∀ x ∈ l, 0 < x.n) : posF l = l := List.filter_eq_self.2 (fun x hx => decide_eq_true (h x hx))
theorem there_id {l : List It} (hr : rightB l = true) (h : ∀ x ∈ l, 0 < x.n) : thereS l = l := by unfold thereS; rw [if_pos hr, posF_id h]
theorem there_there (l : List It) : thereS (thereS l) = thereS l := there_id (there_right l) (fun x hx => (there_pos hx).1)
theorem plus_nil_l {l : List It} (h : rightB l = true) : joinS [] l 1 = l := by
  refine right_ext (join_right right_nil _ _) h fun s => ?_
  rw [joinS_cnt (.inl rfl) right_nil h (fun s => by rw [show cnt [] s + 1 * cnt l s = cnt l s by rw [cnt]; omega]; exact cnt_may h s)]
  rw [cnt]; omega
theorem plus_nil_r (l : List It) : joinS l [] 1 = l := by
  unfold joinS
  split <;> rfl
-- bags of records
theorem of_cnt : ∀ (l : List (Int × Int)) (o : List It), rightB o = true → (∀ s, 0 ≤ cnt o s) → (∀ s, cnt o s + l.length ≤ 1000000) → ∀ s, cnt (l.foldl (fun o r => putS o r 1) o) s = cnt o s + (l.count s : Nat)
  | [], o, h, h0, hb, s => by simp
  | r :: l, o, h, h0, hb, s => by
    have hc : ∀ s, cnt (putS o r 1) s = cnt o s + (if r = s then 1 else 0) := put_cnt h r 1 (by decide) (by have := h0 r; have := hb r; rw [List.length_cons] at this; rw [mayB_iff]; omega)
    rw [List.foldl_cons, of_cnt l _ (put_right h r 1) (fun s => by rw [hc]; have := h0 s; split <;> omega) (fun s => by rw [hc]; have := hb s; rw [List.length_cons] at this; split <;> omega) s, hc, List.count_cons]
    by_cases e : r = s
    · rw [if_pos e, if_pos (by simpa using e)]; omega
    · rw [if_neg e, if_neg (by simpa using e)]; omega
theorem ofF_cnt {l : List (Int × Int)} (h : l.length ≤ 1000000) (s : Int × Int) : cnt (ofF l) s = (l.count s : Nat) := by
  have := of_cnt l [] rfl (fun s => Int.le_refl 0) (fun s => by rw [cnt]; omega) s
  rw [cnt, Int.zero_add] at this
  exact this
theorem count_le' (l : List (Int × Int)) (s : Int × Int) : ((l.count s : Nat) : Int) ≤ l.length := by have := List.count_le_length (a := s) (l := l); omega
theorem cnt_nn_pos {l : List It} (hr : rightB l = true) (h : ∀ s, 0 ≤ cnt l s) : ∀ x ∈ l, 0 < x.n := by
  induction l with
  | nil => intro x hx; cases hx
  | cons y l ih =>
    have hh := right_head hr
    have hy := right_ne hr y List.mem_cons_self
    have h1 := h y.r
    intro x hx
    rcases List.mem_cons.1 hx with rfl | hx
    · omega
    · refine ih (right_cons hr) (fun s => ?_) x hx
      have hs := h s
      rw [cnt] at hs
      by_cases e : y.r = s
      · subst e
        rw [cnt, if_pos rfl] at hh
        omega
      · rw [if_neg e] at hs
        omega
theorem count_list {l : List It} (h : ∀ x ∈ l, 0 < x.n) (s : Int × Int) : (((lstS l).count s : Nat) : Int) = cnt l s := by
  induction l with
  | nil => rfl
  | cons x l ih =>
    have h1 := ih (fun y hy => h y (List.mem_cons_of_mem _ hy))
    have h2 := h x List.mem_cons_self
    show (((List.replicate x.n.toNat x.r) ++ lstS l).count s : Int) = _
    rw [List.count_append, cnt, List.count_replicate]
    by_cases e : x.r = s
    · rw [if_pos (by simpa using e), if_pos e]; omega
    · rw [if_neg (by simpa using e), if_neg e]; omega
theorem tot_cons (x : It) (l : List It) : tot (x :: l) = x.n + tot l := by unfold tot; rw [List.map_cons, List.sum_cons]
theorem ins_tot (r : Int × Int) (q : Int) (l : List It) : tot (insR r q l) = tot l + q := by
  induction l with
  | nil => show tot [⟨r.1, r.2, q⟩] = tot [] + q; rw [tot_cons]; show q + 0 = 0 + q; omega
  | cons x l ih =>
    rw [insR]
    split
    · rw [tot_cons, tot_cons, ih]; omega
    · split
      · split
        · rw [tot_cons]; omega
        · rw [tot_cons, tot_cons]; dsimp only; omega
      · rw [tot_cons]; dsimp only; omega
theorem put_tot {l : List It} (h : rightB l = true) (r : Int × Int) (q : Int) (hq : mayB q = true) (hm : mayB (cnt l r + q) = true) : tot (putS l r q) = tot l + q := by
  rw [put_eq h, hq, hm]
  by_cases h0 : q = 0
  · subst h0
    simp
  · simp only [show (q == 0) = false by simp [h0], Bool.not_true, Bool.or_self, Bool.false_eq_true, if_false]
    exact ins_tot r q l
theorem of_tot : ∀ (l : List (Int × Int)) (o : List It), rightB o = true → (∀ s, 0 ≤ cnt o s) → (∀ s, cnt o s + l.length ≤ 1000000) → tot (l.foldl (fun o r => putS o r 1) o) = tot o + (l.length : Nat)
  | [], o, h, h0, hb => by simp
  | r :: l, o, h, h0, hb => by
    have hm : mayB (cnt o r + 1) = true := by have := h0 r; have := hb r; rw [List.length_cons] at this; rw [mayB_iff]; omega
    have hc : ∀ s, cnt (putS o r 1) s = cnt o s + (if r = s then 1 else 0) := put_cnt h r 1 (by decide) hm
    rw [List.foldl_cons, of_tot l _ (put_right h r 1) (fun s => by rw [hc]; have := h0 s; split <;> omega) (fun s => by rw [hc]; have := hb s; rw [List.length_cons] at this; split <;> omega), put_tot h r 1 (by decide) hm, List.length_cons]
    omega
theorem ofF_tot {l : List (Int × Int)} (h : l.length ≤ 1000000) : tot (ofF l) = (l.length : Nat) := by
  have := of_tot l [] rfl (fun s => Int.le_refl 0) (fun s => by rw [cnt]; omega)
  rw [show tot [] = 0 from rfl, Int.zero_add] at this
  exact this
theorem join_tot {t : Int} (ht : t = 1 ∨ t = -1) : ∀ {a b : List It}, rightB a = true → rightB b = true → (∀ s, mayB (cnt a s + t * cnt b s) = true) → tot (joinF a t b) = tot a + t * tot b
  | a, [], ha, hb, h => by show tot a = tot a + t * 0; omega
  | a, x :: b, ha, hb, h => by
    have hx : mayB (t * x.n) = true := by
      have := nOf hb List.mem_cons_self
      rw [mayB_iff]
      rcases ht with rfl | rfl <;> omega
    have hm : mayB (cnt a x.r + t * x.n) = true := by have := h x.r; rw [right_head hb] at this; exact this
    have hc : ∀ s, cnt (putS a x.r (t * x.n)) s = cnt a s + (if x.r = s then t * x.n else 0) := put_cnt ha x.r (t * x.n) hx hm
    have hs : ∀ s, cnt (putS a x.r (t * x.n)) s + t * cnt b s = cnt a s + t * cnt (x :: b) s := fun s => by
      rw [hc, cnt, Int.mul_add]
      by_cases e : x.r = s
      · rw [if_pos e, if_pos e]; omega
      · rw [if_neg e, if_neg e, Int.mul_zero]; omega
    show tot (joinF (putS a x.r (t * x.n)) t b) = _
    rw [join_tot ht (put_right ha _ _) (right_cons hb) (fun s => by rw [hs]; exact h s), put_tot ha _ _ hx hm, tot_cons, Int.mul_add]
    omega
theorem joinS_tot {t : Int} (ht : t = 1 ∨ t = -1) {a b : List It} (ha : rightB a = true) (hb : rightB b = true) (h : ∀ s, mayB (cnt a s + t * cnt b s) = true) : tot (joinS a b t) = tot a + t * tot b := by
  unfold joinS
  rw [ha, hb]
  exact join_tot ht ha hb h
-- the law
theorem sums_l {a b c : List (Int × Int)} (ha : a.length ≤ 100) (hb : b.length ≤ 100) (hc : c.length ≤ 100) (s : Int × Int) : cnt (joinS (joinS (ofF a) (ofF b) 1) (ofF c) 1) s = (a.count s : Nat) + (b.count s : Nat) + (c.count s : Nat) ∧ tot (joinS (joinS (ofF a) (ofF b) 1) (ofF c) 1) = (a.length : Nat) + (b.length : Nat) + (c.length : Nat) := by
  have ca := fun s => ofF_cnt (l := a) (by omega) s
  have cb := fun s => ofF_cnt (l := b) (by omega) s
  have cc := fun s => ofF_cnt (l := c) (by omega) s
  have h1 : ∀ s, mayB (cnt (ofF a) s + 1 * cnt (ofF b) s) = true := fun s => by
    rw [ca, cb, mayB_iff]; have := count_le' a s; have := count_le' b s; omega
  have e1 := fun s => joinS_cnt (.inl rfl) (ofF_right a) (ofF_right b) h1 s
  have t1 := joinS_tot (.inl rfl) (ofF_right a) (ofF_right b) h1
  have h2 : ∀ s, mayB (cnt (joinS (ofF a) (ofF b) 1) s + 1 * cnt (ofF c) s) = true := fun s => by
    rw [e1, ca, cb, cc, mayB_iff]; have := count_le' a s; have := count_le' b s; have := count_le' c s; omega
  have e2 := joinS_cnt (.inl rfl) (join_right (ofF_right a) (ofF b) 1) (ofF_right c) h2 s
  have t2 := joinS_tot (.inl rfl) (join_right (ofF_right a) (ofF b) 1) (ofF_right c) h2
  refine ⟨?_, ?_⟩
  · rw [e2, e1, ca, cb, cc]; omega
  · rw [t2, t1, ofF_tot (by omega), ofF_tot (by omega), ofF_tot (by omega)]; omega
theorem sums_right {a b c : List (Int × Int)} (ha : a.length ≤ 100) (hb : b.length ≤ 100) (hc : c.length ≤ 100) : rightB (joinS (joinS (ofF a) (ofF b) 1) (ofF c) 1) = true := join_right (join_right (ofF_right a) (ofF b) 1) _ _
theorem sums_r {a b c : List (Int × Int)} (ha : a.length ≤ 100) (hb : b.length ≤ 100) (hc : c.length ≤ 100) : joinS (joinS (ofF a) (ofF b) 1) (ofF c) 1 = joinS (ofF a) (joinS (ofF c) (ofF b) 1) 1 := by
  have ca := fun s => ofF_cnt (l := a) (by omega) s
  have cb := fun s => ofF_cnt (l := b) (by omega) s
  have cc := fun s => ofF_cnt (l := c) (by omega) s
  have h1 : ∀ s, mayB (cnt (ofF c) s + 1 * cnt (ofF b) s) = true := fun s => by
    rw [cc, cb, mayB_iff]; have := count_le' c s; have := count_le' b s; omega
  have e1 := fun s => joinS_cnt (.inl rfl) (ofF_right c) (ofF_right b) h1 s
  refine right_ext (sums_right ha hb hc) (join_right (ofF_right a) _ _) fun s => ?_
  have e2 := joinS_cnt (.inl rfl) (ofF_right a) (join_right (ofF_right c) (ofF b) 1) (fun s => by rw [e1, ca, cb, cc, mayB_iff]; have := count_le' a s; have := count_le' b s; have := count_le' c s; omega) s
  rw [e2, (sums_l ha hb hc s).1, e1, ca, cb, cc]
  omega
theorem sums_gone {a b c : List (Int × Int)} (ha : a.length ≤ 100) (hb : b.length ≤ 100) (hc : c.length ≤ 100) : joinS (joinS (joinS (joinS (ofF a) (ofF b) 1) (ofF c) 1) (ofF b) (-1)) (ofF a) (-1) = ofF c := by
  have ca := fun s => ofF_cnt (l := a) (by omega) s
  have cb := fun s => ofF_cnt (l := b) (by omega) s
  have cc := fun s => ofF_cnt (l := c) (by omega) s
  have cl := fun s => (sums_l ha hb hc s).1
  have hr := sums_right ha hb hc
  generalize joinS (joinS (ofF a) (ofF b) 1) (ofF c) 1 = l at *
  have e1 := fun s => joinS_cnt (t := -1) (.inr rfl) hr (ofF_right b) (fun s => by rw [cl, cb, mayB_iff]; have := count_le' a s; have := count_le' b s; have := count_le' c s; omega) s
  have e2 := fun s => joinS_cnt (t := -1) (.inr rfl) (join_right hr (ofF b) (-1)) (ofF_right a) (fun s => by rw [e1, cl, cb, ca, mayB_iff]; have := count_le' a s; have := count_le' b s; have := count_le' c s; omega) s
  refine right_ext (join_right (join_right hr _ _) _ _) (ofF_right c) fun s => ?_
  rw [e2, e1, cl, cb, ca, cc]
  omega
theorem sums_none {a b c : List (Int × Int)} (ha : a.length ≤ 100) (hb : b.length ≤ 100) (hc : c.length ≤ 100) : joinS (ofF a) (ofF a) (-1) = [] := by
  have ca := fun s => ofF_cnt (l := a) (by omega) s
  refine right_ext (join_right (ofF_right a) _ _) right_nil fun s => ?_
  rw [joinS_cnt (.inr rfl) (ofF_right a) (ofF_right a) (fun s => by rw [ca, mayB_iff]; have := count_le' a s; omega) s, cnt]
  omega
theorem sums_swap {a b c : List (Int × Int)} (ha : a.length ≤ 100) (hb : b.length ≤ 100) (hc : c.length ≤ 100) : joinS (ofF a) (ofF b) (-1) = joinS [] (joinS (ofF b) (ofF a) (-1)) (-1) := by
  have ca := fun s => ofF_cnt (l := a) (by omega) s
  have cb := fun s => ofF_cnt (l := b) (by omega) s
  have e1 := fun s => joinS_cnt (t := -1) (.inr rfl) (ofF_right a) (ofF_right b) (fun s => by rw [ca, cb, mayB_iff]; have := count_le' a s; have := count_le' b s; omega) s
  have e2 := fun s => joinS_cnt (t := -1) (.inr rfl) (ofF_right b) (ofF_right a) (fun s => by rw [ca, cb, mayB_iff]; have := count_le' a s; have := count_le' b s; omega) s
  refine right_ext (join_right (ofF_right a) _ _) (join_right right_nil _ _) fun s => ?_
  have e3 := joinS_cnt (t := -1) (.inr rfl) right_nil (join_right (ofF_right b) (ofF a) (-1)) (fun s => by rw [e2, ca, cb, mayB_iff, cnt]; have := count_le' a s; have := count_le' b s; omega) s
  rw [e3, e1, e2, ca, cb, cnt]
  omega
theorem sums_pos {a b c : List (Int × Int)} (ha : a.length ≤ 100) (hb : b.length ≤ 100) (hc : c.length ≤ 100) : ∀ x ∈ joinS (joinS (ofF a) (ofF b) 1) (ofF c) 1, 0 < x.n := cnt_nn_pos (sums_right ha hb hc) (fun s => by rw [(sums_l ha hb hc s).1]; omega)
theorem sums_there {a b c : List (Int × Int)} (ha : a.length ≤ 100) (hb : b.length ≤ 100) (hc : c.length ≤ 100) : thereS (joinS (joinS (ofF a) (ofF b) 1) (ofF c) 1) = joinS (joinS (ofF a) (ofF b) 1) (ofF c) 1 := there_id (sums_right ha hb hc) (sums_pos ha hb hc)
theorem sums_ok {a b c : List (Int × Int)} (ha : a.length ≤ 100) (hb : b.length ≤ 100) (hc : c.length ≤ 100) : okL (joinS (joinS (ofF a) (ofF b) 1) (ofF c) 1) = true := by
  unfold okL
  rw [sums_there ha hb hc, (sums_l ha hb hc (0, 0)).2]
  exact decide_eq_true (by omega)
theorem sums_list {a b c : List (Int × Int)} (ha : a.length ≤ 100) (hb : b.length ≤ 100) (hc : c.length ≤ 100) : listS (joinS (joinS (ofF a) (ofF b) 1) (ofF c) 1) = lstS (joinS (joinS (ofF a) (ofF b) 1) (ofF c) 1) := by
  unfold listS
  rw [sums_ok ha hb hc, sums_there ha hb hc]
  rfl
theorem sums_len {a b c : List (Int × Int)} (ha : a.length ≤ 100) (hb : b.length ≤ 100) (hc : c.length ≤ 100) : (listS (joinS (joinS (ofF a) (ofF b) 1) (ofF c) 1)).length = a.length + b.length + c.length := by
  have h := lst_len (sums_pos ha hb hc)
  rw [(sums_l ha hb hc (0, 0)).2] at h
  rw [sums_list ha hb hc]
  omega
theorem sums_back {a b c : List (Int × Int)} (ha : a.length ≤ 100) (hb : b.length ≤ 100) (hc : c.length ≤ 100) : ofF (listS (joinS (joinS (ofF a) (ofF b) 1) (ofF c) 1)) = joinS (joinS (ofF a) (ofF b) 1) (ofF c) 1 := by
  have hl := sums_len ha hb hc
  refine right_ext (ofF_right _) (sums_right ha hb hc) fun s => ?_
  rw [ofF_cnt (by omega), sums_list ha hb hc, count_list (sums_pos ha hb hc)]
end Go.Proofs.Ytbglfaomebokhaa
