/- Front, plain: put, count by count; how often a timestamp is there; right counts are told by that. -/
import Derived.Test.YtmngjifcgfnogaaFr1
namespace Go.Proofs.Ytmngjifcgfnogaa.Fr
set_option linter.unusedSimpArgs false
set_option linter.unusedVariables false
set_option maxRecDepth 100000

instance : DecidableRel keyLt := fun s t => by unfold keyLt; infer_instance
instance : DecidableEq Tm := fun a b => decidable_of_iff _ (eqT_iff a b)
def ordR (a b : Tm) : Int := if a = b then 0 else if keyLt a b then -1 else 1
theorem ltK_irrefl (a : Tm) : ¬ keyLt a a := by unfold keyLt; omega
theorem ltK_trans {a b c : Tm} (h : keyLt a b) (k : keyLt b c) : keyLt a c := by unfold keyLt at *; omega
theorem ltK_total {a b : Tm} (h : a ≠ b) (k : ¬ keyLt a b) : keyLt b a := by
  obtain ⟨d, p, q, r, s⟩ := a
  obtain ⟨d', p', q', r', s'⟩ := b
  have h' : ¬ (d = d' ∧ p = p' ∧ q = q' ∧ r = r' ∧ s = s') := fun ⟨e1, e2, e3, e4, e5⟩ => h (by rw [e1, e2, e3, e4, e5])
  unfold keyLt at *
  dsimp only at *
  omega
theorem ordR_lt (a b : Tm) : ordR a b < 0 ↔ keyLt a b := by
  unfold ordR
  by_cases h : a = b
  · subst h
    simp [ltK_irrefl]
  · rw [if_neg h]
    by_cases k : keyLt a b <;> simp [k]
theorem ordR_zero (a b : Tm) : ordR a b = 0 ↔ a = b := by
  unfold ordR
  by_cases h : a = b
  · simp [h]
  · rw [if_neg h]
    by_cases k : keyLt a b <;> simp [k, h]
theorem ordR_gt (a b : Tm) (h1 : ¬ ordR a b < 0) (h2 : ordR a b ≠ 0) : keyLt b a := by
  rw [ordR_lt] at h1
  exact ltK_total (fun e => h2 ((ordR_zero a b).2 e)) h1
def okN (x : Ct) : Bool := !(x.n == 0) && mayB x.n
def lessI (x y : Ct) : Bool := decide (ordR x.t y.t < 0)
theorem lessI_lt (x y : Ct) : lessI x y = true ↔ keyLt x.t y.t := by unfold lessI; rw [decide_eq_true_eq]; exact ordR_lt _ _
def chainK : List Ct → Bool
  | x :: y :: l => lessI x y && chainK (y :: l)
  | _ => true
def rightK (l : List Ct) : Bool := l.all okN && chainK l
/-- Where a record stands, or would stand. -/
def posI : List Ct → (Tm) → Nat
  | [], _ => 0
  | x :: l, r => if ordR x.t r < 0 then posI l r + 1 else 0
theorem posI_le (r : Tm) : ∀ l : List Ct, posI l r ≤ l.length
  | [] => Nat.le_refl _
  | x :: l => by
    unfold posI
    have := posI_le r l
    split <;> simp <;> omega
/-- So many times more. -/
def putI (l : List Ct) (r : Tm) (q : Int) : List Ct :=
  if (q == 0 || !mayB q) then l
  else match l[posI l r]? with
    | some x => if ordR x.t r = 0 then (if x.n + q = 0 then l.eraseIdx (posI l r) else if mayB (x.n + q) then l.set (posI l r) { x with n := x.n + q } else l) else l.take (posI l r) ++ (ctOf r q) :: l.drop (posI l r)
    | none => l.take (posI l r) ++ (ctOf r q) :: l.drop (posI l r)
def SrtK (l : List Ct) : Prop := l.Pairwise (fun x y => keyLt x.t y.t)
theorem srt_iff : ∀ l : List Ct, chainK l = true ↔ SrtK l
  | [] => by simp [chainK, SrtK]
  | [x] => by simp [chainK, SrtK]
  | x :: y :: l => by
    rw [chainK, Bool.and_eq_true, lessI_lt, srt_iff (y :: l)]
    unfold SrtK
    rw [List.pairwise_cons (l := y :: l)]
    constructor
    · rintro ⟨h1, h2⟩
      refine ⟨fun z hz => ?_, h2⟩
      rcases List.mem_cons.1 hz with rfl | hz
      · exact h1
      · exact ltK_trans h1 ((List.pairwise_cons.1 h2).1 z hz)
    · exact fun h => ⟨h.1 y (List.mem_cons_self), h.2⟩
theorem right_iff (l : List Ct) : rightK l = true ↔ (∀ x ∈ l, okN x = true) ∧ SrtK l := by
  unfold rightK
  rw [Bool.and_eq_true, List.all_eq_true, srt_iff]
/-- What is put, item by item. -/
def insR (r : Tm) (q : Int) : List Ct → List Ct
  | [] => [(ctOf r q)]
  | x :: l => if ordR x.t r < 0 then x :: insR r q l else if ordR x.t r = 0 then (if x.n + q = 0 then l else { x with n := x.n + q } :: l) else (ctOf r q) :: x :: l
/-- How often a record is there. -/
def cnt : List Ct → (Tm) → Int
  | [], _ => 0
  | x :: l, r => (if x.t = r then x.n else 0) + cnt l r
theorem cnt_none {l : List Ct} {r : Tm} (h : ∀ x ∈ l, x.t ≠ r) : cnt l r = 0 := by
  induction l with
  | nil => rfl
  | cons x l ih => rw [cnt, if_neg (h x (List.mem_cons_self)), ih (fun y hy => h y (List.mem_cons_of_mem _ hy)), Int.add_zero]
theorem srt_ne {x : Ct} {l : List Ct} (h : SrtK (x :: l)) : ∀ y ∈ l, y.t ≠ x.t := fun y hy e => ltK_irrefl _ (e ▸ (List.pairwise_cons.1 h).1 y hy)
theorem cnt_head {x : Ct} {l : List Ct} (h : SrtK (x :: l)) : cnt (x :: l) x.t = x.n := by rw [cnt, if_pos rfl, cnt_none (srt_ne h), Int.add_zero]
theorem cnt_app (l m : List Ct) (r : Tm) : cnt (l ++ m) r = cnt l r + cnt m r := by
  induction l with
  | nil => simp [cnt]
  | cons x l ih => rw [List.cons_append, cnt, cnt, ih, Int.add_assoc]
theorem ins_mem {r : Tm} {q : Int} {l : List Ct} {y : Ct} (h : y ∈ insR r q l) : y ∈ l ∨ y.t = r := by
  induction l with
  | nil =>
    rw [insR, List.mem_singleton] at h
    subst h
    exact .inr rfl
  | cons x l ih =>
    rw [insR] at h
    split at h
    · rcases List.mem_cons.1 h with rfl | h
      · exact .inl List.mem_cons_self
      · exact (ih h).imp (List.mem_cons_of_mem _) id
    · split at h
      · next h0 =>
        split at h
        · exact .inl (List.mem_cons_of_mem _ h)
        · rcases List.mem_cons.1 h with rfl | h
          · exact .inr ((ordR_zero _ _).1 h0)
          · exact .inl (List.mem_cons_of_mem _ h)
      · rcases List.mem_cons.1 h with rfl | h
        · exact .inr rfl
        · exact .inl h
theorem ins_srt {r : Tm} {q : Int} {l : List Ct} (h : SrtK l) : SrtK (insR r q l) := by
  induction l with
  | nil => exact List.pairwise_singleton _ _
  | cons x l ih =>
    obtain ⟨h1, h2⟩ := List.pairwise_cons.1 h
    rw [insR]
    split
    · next hlt =>
      refine List.pairwise_cons.2 ⟨fun y hy => ?_, ih h2⟩
      rcases ins_mem hy with hy | rfl
      · exact h1 y hy
      · exact (ordR_lt _ _).1 hlt
    · next hlt =>
      split
      · split
        · exact h2
        · exact List.pairwise_cons.2 ⟨h1, h2⟩
      · next h0 =>
        have hgt := ordR_gt _ _ hlt h0
        refine List.pairwise_cons.2 ⟨fun y hy => ?_, h⟩
        rcases List.mem_cons.1 hy with rfl | hy
        · exact hgt
        · exact ltK_trans hgt (h1 y hy)
theorem ins_cnt {r : Tm} {q : Int} {l : List Ct} (s : Tm) : cnt (insR r q l) s = cnt l s + (if r = s then q else 0) := by
  induction l with
  | nil =>
    show (if (Ct.t (ctOf r q)) = s then q else 0) + 0 = 0 + _
    rw [show Ct.t (ctOf r q) = r from rfl]
    omega
  | cons x l ih =>
    rw [insR]
    split
    · rw [cnt, ih, cnt, Int.add_assoc]
    · split
      · next h0 =>
        have e := (ordR_zero _ _).1 h0
        split
        · next hz =>
          rw [cnt, e]
          split <;> omega
        · rw [cnt, cnt, show Ct.t { x with n := x.n + q } = x.t from rfl, e]
          split <;> simp <;> omega
      · rw [cnt, show Ct.t (ctOf r q) = r from rfl, show (ctOf r q).n = q from rfl]
        omega
theorem ins_ok {r : Tm} {q : Int} {l : List Ct} (h : rightK l = true) (hq : q ≠ 0) (hm : mayB (cnt l r + q) = true) (hs : mayB q = true) : rightK (insR r q l) = true := by
  rw [right_iff] at h ⊢
  refine ⟨?_, ins_srt h.2⟩
  obtain ⟨h1, h2⟩ := h
  induction l with
  | nil =>
    intro x hx
    rw [insR, List.mem_singleton] at hx
    subst hx
    unfold okN
    rw [show (ctOf r q).n = q from rfl, hs]
    simp [hq]
  | cons x l ih =>
    obtain ⟨k1, k2⟩ := List.pairwise_cons.1 h2
    have hx := h1 x List.mem_cons_self
    have hl := fun y hy => h1 y (List.mem_cons_of_mem _ hy)
    have hit : okN (ctOf r q) = true := by
      unfold okN
      rw [show (ctOf r q).n = q from rfl, hs]
      simp [hq]
    rw [insR]
    split
    · next hlt =>
      have hne : x.t ≠ r := fun e => by rw [(ordR_zero _ _).2 e] at hlt; omega
      rw [cnt, if_neg hne, Int.zero_add] at hm
      intro y hy
      rcases List.mem_cons.1 hy with rfl | hy
      · exact hx
      · exact ih hm hl k2 y hy
    · split
      · next h0 =>
        have e := (ordR_zero _ _).1 h0
        have hc := cnt_head h2
        rw [e] at hc
        rw [hc] at hm
        split
        · exact hl
        · next hz =>
          intro y hy
          rcases List.mem_cons.1 hy with rfl | hy
          · unfold okN
            rw [show (Ct.mk x.d x.a x.b x.c x.e (x.n + q)).n = x.n + q from rfl, hm]
            simp [hz]
          · exact hl y hy
      · intro y hy
        rcases List.mem_cons.1 hy with rfl | hy
        · exact hit
        · exact h1 y hy
theorem ins_app_yes {r : Tm} {q : Int} : ∀ {l : List Ct} (m : List Ct), (∃ y ∈ l, ¬ ordR y.t r < 0) → insR r q (l ++ m) = insR r q l ++ m
  | [], m, h => by obtain ⟨y, hy, -⟩ := h; cases hy
  | x :: l, m, h => by
    rw [List.cons_append, insR, insR]
    split
    · next hlt =>
      rw [ins_app_yes m, List.cons_append]
      obtain ⟨y, hy, hn⟩ := h
      rcases List.mem_cons.1 hy with rfl | hy
      · exact absurd hlt hn
      · exact ⟨y, hy, hn⟩
    · split
      · split <;> simp
      · simp
theorem ins_app_no {r : Tm} {q : Int} : ∀ {l : List Ct} (m : List Ct), (∀ y ∈ l, ordR y.t r < 0) → insR r q (l ++ m) = l ++ insR r q m
  | [], m, h => rfl
  | x :: l, m, h => by
    rw [List.cons_append, insR, if_pos (h x List.mem_cons_self), ins_app_no m (fun y hy => h y (List.mem_cons_of_mem _ hy)), List.cons_append]
theorem pos_split (r : Tm) : ∀ l : List Ct, (∀ y ∈ l.take (posI l r), ordR y.t r < 0) ∧ (∀ x, l[posI l r]? = some x → ¬ ordR x.t r < 0)
  | [] => by simp [posI]
  | x :: l => by
    obtain ⟨h1, h2⟩ := pos_split r l
    rw [posI]
    split
    · next hlt =>
      refine ⟨fun y hy => ?_, fun y hy => h2 y (by simpa using hy)⟩
      rw [List.take_succ_cons] at hy
      rcases List.mem_cons.1 hy with rfl | hy
      · exact hlt
      · exact h1 y hy
    · next hlt =>
      refine ⟨fun y hy => by simp at hy, fun y hy => ?_⟩
      obtain rfl : x = y := by simpa using hy
      exact hlt
theorem cnt_pos {l : List Ct} (h : SrtK l) (r : Tm) : cnt l r = match l[posI l r]? with
    | some x => if ordR x.t r = 0 then x.n else 0
    | none => 0 := by
  induction l with
  | nil => rfl
  | cons x l ih =>
    obtain ⟨h1, h2⟩ := List.pairwise_cons.1 h
    rw [posI]
    by_cases hlt : ordR x.t r < 0
    · have hne : x.t ≠ r := fun e => by rw [(ordR_zero _ _).2 e] at hlt; omega
      rw [cnt, if_neg hne, Int.zero_add, ih h2, if_pos hlt]
      simp
    · rw [if_neg hlt]
      simp only [List.getElem?_cons_zero]
      by_cases h0 : ordR x.t r = 0
      · rw [if_pos h0]
        have e := (ordR_zero _ _).1 h0
        rw [← e, cnt_head h]
      · rw [if_neg h0]
        have hgt := ordR_gt _ _ hlt h0
        refine cnt_none fun y hy e => ?_
        rcases List.mem_cons.1 hy with rfl | hy
        · exact h0 ((ordR_zero _ _).2 e)
        · have := h1 y hy
          rw [e] at this
          exact ltK_irrefl _ (ltK_trans hgt this)
/-- What put makes of a right bag. -/
theorem put_eq {l : List Ct} (h : rightK l = true) (r : Tm) (q : Int) : putI l r q = if (q == 0 || !mayB q || !mayB (cnt l r + q)) then l else insR r q l := by
  obtain ⟨ho, hs⟩ := (right_iff l).1 h
  obtain ⟨h1, h2⟩ := pos_split r l
  have hc := cnt_pos hs r
  have hd : l.take (posI l r) ++ l.drop (posI l r) = l := List.take_append_drop _ _
  unfold putI
  by_cases hq : (q == 0 || !mayB q) = true
  · rw [hq]; simp
  have hq : (q == 0 || !mayB q) = false := by simpa using hq
  rw [hq, if_neg (by decide), Bool.false_or]
  have hmq : mayB q = true := by
    simp only [Bool.or_eq_false_iff, Bool.not_eq_false'] at hq
    exact hq.2
  have hins : insR r q l = l.take (posI l r) ++ insR r q (l.drop (posI l r)) := by
    conv => lhs; rw [← hd]
    exact ins_app_no _ h1
  cases hx : l[posI l r]? with
  | none =>
    rw [hx] at hc
    dsimp only at hc ⊢
    rw [hc, Int.zero_add, hmq, hins]
    have hlen : l.length ≤ posI l r := List.getElem?_eq_none_iff.1 hx
    rw [List.drop_of_length_le hlen]
    rfl
  | some x =>
    rw [hx] at hc
    dsimp only at hc ⊢
    obtain ⟨hlt, hxe⟩ := List.getElem?_eq_some_iff.1 hx
    have hdr : l.drop (posI l r) = x :: l.drop (posI l r + 1) := by rw [List.drop_eq_getElem_cons hlt, hxe]
    have hn := h2 x hx
    by_cases h0 : ordR x.t r = 0
    · rw [if_pos h0] at hc
      rw [if_pos h0, hc, hins, hdr, insR, if_neg hn, if_pos h0]
      by_cases hz : x.n + q = 0
      · rw [if_pos hz, if_pos hz, hz, show mayB 0 = true from by decide]
        rw [List.eraseIdx_eq_take_drop_succ]
        rfl
      · rw [if_neg hz, if_neg hz]
        cases hm : mayB (x.n + q)
        · rfl
        · simp only [if_true, Bool.not_true]
          rw [List.set_eq_take_append_cons_drop, if_pos hlt]
          rfl
    · rw [if_neg h0] at hc
      rw [if_neg h0, hc, Int.zero_add, hmq, hins, hdr, insR, if_neg hn, if_neg h0]
      rfl
theorem put_right {l : List Ct} (h : rightK l = true) (r : Tm) (q : Int) : rightK (putI l r q) = true := by
  rw [put_eq h]
  split
  · exact h
  · next hq =>
    simp only [Bool.not_eq_true, Bool.or_eq_false_iff, Bool.not_eq_false', beq_eq_false_iff_ne] at hq
    exact ins_ok h hq.1.1 hq.2 hq.1.2
theorem put_cnt {l : List Ct} (h : rightK l = true) (r : Tm) (q : Int) (hq : mayB q = true) (hm : mayB (cnt l r + q) = true) (s : Tm) : cnt (putI l r q) s = cnt l s + (if r = s then q else 0) := by
  rw [put_eq h, hq, hm]
  by_cases h0 : q = 0
  · subst h0
    simp
  · simp only [show (q == 0) = false by simp [h0], Bool.not_true, Bool.or_self, Bool.false_eq_true, if_false]
    exact ins_cnt s
theorem ins_len (r : Tm) (q : Int) (l : List Ct) : (insR r q l).length ≤ l.length + 1 := by
  induction l with
  | nil => simp [insR]
  | cons x l ih =>
    rw [insR]
    split
    · simp only [List.length_cons]; omega
    · split
      · split <;> simp <;> omega
      · simp
theorem put_len {l : List Ct} (h : rightK l = true) (r : Tm) (q : Int) : (putI l r q).length ≤ l.length + 1 := by
  rw [put_eq h]
  split
  · omega
  · exact ins_len r q l
/-- Right bags in which each record is as often are one. -/
theorem bag_ext : ∀ {l m : List Ct}, (∀ x ∈ l, x.n ≠ 0) → (∀ x ∈ m, x.n ≠ 0) → SrtK l → SrtK m → (∀ s, cnt l s = cnt m s) → l = m
  | [], [], _, _, _, _, _ => rfl
  | [], y :: m, _, h2, _, h4, h => by
    have := h y.t
    rw [cnt_head h4] at this
    exact absurd this.symm (h2 y List.mem_cons_self)
  | x :: l, [], h1, _, h3, _, h => by
    have := h x.t
    rw [cnt_head h3] at this
    exact absurd this (h1 x List.mem_cons_self)
  | x :: l, y :: m, h1, h2, h3, h4, h => by
    have far : ∀ {x y : Ct} {m : List Ct}, SrtK (y :: m) → keyLt x.t y.t → cnt (y :: m) x.t = 0 := fun {x y m} hs hl => cnt_none fun z hz e => by
      rcases List.mem_cons.1 hz with rfl | hz
      · rw [e] at hl; exact ltK_irrefl _ hl
      · have := ltK_trans hl ((List.pairwise_cons.1 hs).1 z hz)
        rw [e] at this
        exact ltK_irrefl _ this
    have hr : x.t = y.t := by
      rcases Classical.em (keyLt x.t y.t) with hl | hl
      · have := h x.t
        rw [cnt_head h3, far h4 hl] at this
        exact absurd this (h1 x List.mem_cons_self)
      · by_cases e : ordR x.t y.t = 0
        · exact (ordR_zero _ _).1 e
        · have hg := ordR_gt _ _ (fun k => hl ((ordR_lt _ _).1 k)) e
          have := h y.t
          rw [cnt_head h4, far h3 hg] at this
          exact absurd this.symm (h2 y List.mem_cons_self)
    have hn : x.n = y.n := by
      have := h x.t
      rw [cnt_head h3, hr, cnt_head h4] at this
      exact this
    have hxy : x = y := by
      obtain ⟨d, a, b, c, e, n⟩ := x
      obtain ⟨d', a', b', c', e', n'⟩ := y
      simp only [Ct.t, Tm.mk.injEq] at hr
      simp only at hn
      rw [hr.1, hr.2.1, hr.2.2.1, hr.2.2.2.1, hr.2.2.2.2, hn]
    subst hxy
    congr 1
    refine bag_ext (fun z hz => h1 z (List.mem_cons_of_mem _ hz)) (fun z hz => h2 z (List.mem_cons_of_mem _ hz)) (List.pairwise_cons.1 h3).2 (List.pairwise_cons.1 h4).2 (fun s => ?_)
    have := h s
    rw [cnt, cnt] at this
    omega
/-- Right counts, told apart. -/
theorem rightC_iff (l : List Ct) : rightC l = true ↔ rightK l = true ∧ ∀ x ∈ l, _root_.Go.Proofs.Ytmngjifcgfnogaa.rightB x.t = true := by
  have hch : (∀ x ∈ l, _root_.Go.Proofs.Ytmngjifcgfnogaa.rightB x.t = true) → (chainB l = true ↔ chainK l = true) := by
    intro h
    induction l with
    | nil => simp [chainB, chainK]
    | cons x l ih =>
      cases l with
      | nil => simp [chainB, chainK]
      | cons y l =>
        rw [chainB, chainK, Bool.and_eq_true, Bool.and_eq_true, ih (fun z hz => h z (List.mem_cons_of_mem _ hz)), lessI_lt]
        unfold lessC
        rw [lessB_iff]
        have h1 := h x List.mem_cons_self
        have h2 := h y (List.mem_cons_of_mem _ List.mem_cons_self)
        simp [h1, h2]
  unfold rightC rightK
  rw [Bool.and_eq_true, Bool.and_eq_true, List.all_eq_true, List.all_eq_true]
  constructor
  · rintro ⟨h1, h2⟩
    have hr : ∀ x ∈ l, _root_.Go.Proofs.Ytmngjifcgfnogaa.rightB x.t = true := fun x hx => by
      have := h1 x hx
      unfold okC at this
      rw [Bool.and_eq_true] at this
      exact this.1
    refine ⟨⟨fun x hx => ?_, (hch hr).1 h2⟩, hr⟩
    have := h1 x hx
    unfold okC at this
    rw [Bool.and_eq_true] at this
    exact this.2
  · rintro ⟨⟨h1, h2⟩, hr⟩
    refine ⟨fun x hx => ?_, (hch hr).2 h2⟩
    unfold okC
    rw [Bool.and_eq_true]
    exact ⟨hr x hx, h1 x hx⟩
theorem posC_eq {l : List Ct} {t : Tm} (hl : ∀ x ∈ l, _root_.Go.Proofs.Ytmngjifcgfnogaa.rightB x.t = true) (ht : _root_.Go.Proofs.Ytmngjifcgfnogaa.rightB t = true) : posC l t = posI l t := by
  unfold posC ts
  induction l with
  | nil => rfl
  | cons x l ih =>
    rw [List.map_cons, posT, posI, ih (fun y hy => hl y (List.mem_cons_of_mem _ hy))]
    have : lessB x.t t = true ↔ ordR x.t t < 0 := by
      rw [lessB_iff, ordR_lt]
      have := hl x List.mem_cons_self
      simp [this, ht]
    by_cases h : ordR x.t t < 0
    · rw [if_pos h, if_pos (this.2 h)]
    · rw [if_neg h, if_neg (fun k => h (this.1 k))]
theorem putS_eq {l : List Ct} (h : rightC l = true) (t : Tm) (q : Int) : putS l t q = if _root_.Go.Proofs.Ytmngjifcgfnogaa.rightB t = true then putI l t q else l := by
  obtain ⟨-, hr⟩ := (rightC_iff l).1 h
  unfold putS
  cases ht : _root_.Go.Proofs.Ytmngjifcgfnogaa.rightB t
  · simp
  · rw [if_pos rfl]
    unfold putI
    rw [posC_eq hr ht, Bool.not_true, Bool.or_false]
    by_cases hq : (q == 0 || !mayB q) = true
    · rw [if_pos hq, if_pos hq]
    · rw [if_neg hq, if_neg hq]
      cases l[posI l t]? with
      | none => rfl
      | some x =>
        dsimp only
        have : eqT x.t t = true ↔ ordR x.t t = 0 := by rw [eqT_iff, ordR_zero]
        by_cases h0 : ordR x.t t = 0
        · rw [if_pos h0, if_pos (this.2 h0)]
        · rw [if_neg h0, if_neg (fun k => h0 (this.1 k))]
theorem ctOf_t (t : Tm) (q : Int) : (ctOf t q).t = t := rfl
theorem put_mem {l : List Ct} (h : rightK l = true) {t : Tm} {q : Int} {x : Ct} (hx : x ∈ putI l t q) : x ∈ l ∨ x.t = t := by
  rw [put_eq h] at hx
  split at hx
  · exact .inl hx
  · exact ins_mem hx
theorem putS_right {l : List Ct} (h : rightC l = true) (t : Tm) (q : Int) : rightC (putS l t q) = true := by
  rw [putS_eq h]
  split
  · next ht =>
    obtain ⟨h1, h2⟩ := (rightC_iff l).1 h
    refine (rightC_iff _).2 ⟨put_right h1 t q, fun x hx => ?_⟩
    rcases put_mem h1 hx with hx | hx
    · exact h2 x hx
    · rw [hx]; exact ht
  · exact h
theorem putS_len {l : List Ct} (h : rightC l = true) (t : Tm) (q : Int) : (putS l t q).length ≤ l.length + 1 := by
  rw [putS_eq h]
  split
  · exact put_len ((rightC_iff l).1 h).1 t q
  · omega
def addS (l : List Ct) (t : Tm) (q : Int) : List Ct := if rightC l then putS l t q else l
theorem take_snoc {α : Type} {l : List α} {j : Nat} {x : α} (h : l[j]? = some x) : l.take (j + 1) = l.take j ++ [x] := by rw [List.take_add_one, h]; rfl
def joinF (a l : List Ct) : List Ct := l.foldl (fun o x => putS o x.t x.n) a
theorem joinF_snoc (a l : List Ct) (x : Ct) : joinF a (l ++ [x]) = putS (joinF a l) x.t x.n := by unfold joinF; rw [List.foldl_append]; rfl
theorem joinF_right {a : List Ct} (h : rightC a = true) (l : List Ct) : rightC (joinF a l) = true := by
  induction l generalizing a with
  | nil => exact h
  | cons x l ih => exact ih (putS_right h x.t x.n)
theorem joinF_len {a : List Ct} (h : rightC a = true) (l : List Ct) : (joinF a l).length ≤ a.length + l.length := by
  induction l generalizing a with
  | nil => exact Nat.le_refl _
  | cons x l ih =>
    have h1 := ih (putS_right h x.t x.n)
    have h2 := putS_len h x.t x.n
    show (joinF (putS a x.t x.n) l).length ≤ _
    rw [List.length_cons]
    omega
def joinS (a b : List Ct) : List Ct := if (rightC a && rightC b) then joinF a b else a
theorem mayB_iff (n : Int) : mayB n = true ↔ -2147483648 ≤ n ∧ n ≤ 2147483648 := by unfold mayB; exact decide_eq_true_iff
theorem nOf {l : List Ct} (h : rightC l = true) {x : Ct} (hx : x ∈ l) : -2147483648 ≤ x.n ∧ x.n ≤ 2147483648 := by
  have := ((right_iff l).1 ((rightC_iff l).1 h).1).1 x hx
  unfold okN at this
  simp only [Bool.and_eq_true] at this
  exact (mayB_iff _).1 this.2
/-- How often a timestamp is there. -/
def atS (l : List Ct) (t : Tm) : Int := if rightC l then cnt l t else 0
theorem at_pos {l : List Ct} (h : rightC l = true) (t : Tm) : cnt l t = match l[posC l t]? with
    | some x => if eqT x.t t = true then x.n else 0
    | none => 0 := by
  obtain ⟨h1, h2⟩ := (rightC_iff l).1 h
  cases ht : _root_.Go.Proofs.Ytmngjifcgfnogaa.rightB t
  · have hne : ∀ x ∈ l, x.t ≠ t := fun x hx e => by have := h2 x hx; rw [e, ht] at this; cases this
    rw [cnt_none hne]
    cases hx : l[posC l t]? with
    | none => rfl
    | some x =>
      dsimp only
      rw [if_neg (fun k => hne x (List.mem_of_getElem? hx) ((eqT_iff _ _).1 k))]
  · rw [posC_eq h2 ht, cnt_pos ((right_iff l).1 h1).2 t]
    cases l[posI l t]? with
    | none => rfl
    | some x =>
      dsimp only
      by_cases e : x.t = t
      · rw [if_pos ((ordR_zero _ _).2 e), if_pos ((eqT_iff _ _).2 e)]
      · rw [if_neg (fun k => e ((ordR_zero _ _).1 k)), if_neg (fun k => e ((eqT_iff _ _).1 k))]
def tot (l : List Ct) : Int := (l.map (·.n)).sum
def totS (l : List Ct) : Int := if rightC l then tot l else 0
def posF (l : List Ct) : List Tm := ts (l.filter (fun x => decide (0 < x.n)))
def frontL (l : List Ct) : List Tm := if rightC l then posF l else []
theorem tot_cons (x : Ct) (l : List Ct) : tot (x :: l) = x.n + tot l := by unfold tot; rw [List.map_cons, List.sum_cons]
theorem ins_tot (r : Tm) (q : Int) (l : List Ct) : tot (insR r q l) = tot l + q := by
  induction l with
  | nil => show tot [(ctOf r q)] = tot [] + q; rw [tot_cons]; show q + 0 = 0 + q; omega
  | cons x l ih =>
    rw [insR]
    split
    · rw [tot_cons, tot_cons, ih]; omega
    · split
      · split
        · rw [tot_cons]; omega
        · rw [tot_cons, tot_cons]; dsimp only; omega
      · rw [tot_cons]; simp only [ctOf]; omega
end Go.Proofs.Ytmngjifcgfnogaa.Fr
