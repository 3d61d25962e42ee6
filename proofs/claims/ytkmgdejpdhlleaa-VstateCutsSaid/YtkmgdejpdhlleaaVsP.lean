/- State by versions, plain: sums of entries, what stands in order, what comes and is cut. No program in sight. -/
import Derived.Test.YtkmgdejpdhlleaaMem
namespace Go.Proofs.Ytkmgdejpdhlleaa.Vs
set_option linter.unusedSimpArgs false
set_option linter.unusedVariables false
set_option maxRecDepth 100000
open Go.RowKit

structure Rc where
  k : Int
  v : Int
deriving DecidableEq
structure En where
  at_ : Int
  k : Int
  v : Int
  n : Int
structure Vn where
  at_ : Int
  s : List Rc
structure Vs where
  log : List En
  kept : List Vn
  every : Int
  cut : Int
  rolled : Int
  again : Int
abbrev wr (x : Int) : Int := IntKind.i64.wrap x
theorem wr2 (x a b : Int) : wr (wr (x + a) + b) = wr (wr (x + b) + a) := by
  unfold wr
  simp only [IntKind.wrap_i64]
  omega
theorem wrA (a b : Int) : wr (wr a + wr b) = wr (wr b + wr a) := by rw [Int.add_comm]
/-- What an entry adds. -/
def mu (e : En) : Int := wr (e.v * e.n)
def plus (e : En) : List Rc → List Rc
  | [] => [⟨e.k, mu e⟩]
  | r :: s => if e.k = r.k then ⟨r.k, wr (r.v + mu e)⟩ :: s else if e.k < r.k then ⟨e.k, mu e⟩ :: r :: s else r :: plus e s
theorem plus_comm (e f : En) : ∀ s, plus e (plus f s) = plus f (plus e s)
  | [] => by
    have h := Int.add_comm (mu e) (mu f)
    by_cases h1 : e.k = f.k
    · simp [plus, h1, h]
    · by_cases h2 : e.k < f.k
      · have h3 : ¬ f.k = e.k := by omega
        have h4 : ¬ f.k < e.k := by omega
        simp [plus, h1, h2, h3, h4]
      · have h3 : ¬ f.k = e.k := by omega
        have h4 : f.k < e.k := by omega
        simp [plus, h1, h2, h3, h4]
  | r :: s => by
    have ih := plus_comm e f s
    rcases Int.lt_trichotomy e.k r.k with a | a | a <;> rcases Int.lt_trichotomy f.k r.k with b | b | b
    · have h := Int.add_comm (mu e) (mu f)
      have a' : ¬ e.k = r.k := by omega
      have b' : ¬ f.k = r.k := by omega
      by_cases h1 : e.k = f.k
      · have h1' : f.k = e.k := h1.symm
        simp [plus, a, b, a', b', h1, h]
      · by_cases h2 : e.k < f.k
        · have h3 : ¬ f.k = e.k := by omega
          have h4 : ¬ f.k < e.k := by omega
          simp [plus, a, b, a', b', h1, h2, h3, h4]
        · have h3 : ¬ f.k = e.k := by omega
          have h4 : f.k < e.k := by omega
          simp [plus, a, b, a', b', h1, h2, h3, h4]
    · have a' : ¬ e.k = r.k := by omega
      have c : ¬ r.k = e.k := by omega
      have c' : ¬ r.k < e.k := by omega
      simp [plus, a, b, a', c, c']
    · have a' : ¬ e.k = r.k := by omega
      have b' : ¬ f.k = r.k := by omega
      have b'' : ¬ f.k < r.k := by omega
      have c : ¬ f.k = e.k := by omega
      have c' : ¬ f.k < e.k := by omega
      simp [plus, a, b', b'', a', c, c']
    · have b' : ¬ f.k = r.k := by omega
      have c : ¬ r.k = f.k := by omega
      have c' : ¬ r.k < f.k := by omega
      simp [plus, a, b, b', c, c']
    · simp [plus, a, b, wr2]
    · have b' : ¬ f.k = r.k := by omega
      have b'' : ¬ f.k < r.k := by omega
      simp [plus, a, b', b'']
    · have b' : ¬ f.k = r.k := by omega
      have a' : ¬ e.k = r.k := by omega
      have a'' : ¬ e.k < r.k := by omega
      have c : ¬ e.k = f.k := by omega
      have c' : ¬ e.k < f.k := by omega
      simp [plus, b, b', a', a'', c, c']
    · have a' : ¬ e.k = r.k := by omega
      have a'' : ¬ e.k < r.k := by omega
      simp [plus, b, a', a'']
    · have a' : ¬ e.k = r.k := by omega
      have a'' : ¬ e.k < r.k := by omega
      have b' : ¬ f.k = r.k := by omega
      have b'' : ¬ f.k < r.k := by omega
      simp [plus, a', a'', b', b'', ih]
/-- What entries add up to, on top of some sums. -/
def sumsF (b : List Rc) (l : List En) : List Rc := l.foldl (fun s e => plus e s) b
theorem sumsF_app (b : List Rc) (l m : List En) : sumsF b (l ++ m) = sumsF (sumsF b l) m := List.foldl_append
theorem sumsF_snoc (b : List Rc) (l : List En) (e : En) : sumsF b (l ++ [e]) = plus e (sumsF b l) := sumsF_app b l [e]
theorem sumsF_perm {l m : List En} (h : l.Perm m) : ∀ b, sumsF b l = sumsF b m := by
  induction h with
  | nil => intro b; rfl
  | cons x _ ih => intro b; exact ih _
  | swap x y l => intro b; exact congrArg (fun b => sumsF b l) (plus_comm _ _ _)
  | trans _ _ h1 h2 => intro b; exact (h1 b).trans (h2 b)
/-- Keys stand in order, each once. -/
def Ord (s : List Rc) : Prop := s.Pairwise fun a b => a.k < b.k
theorem plus_keys {e : En} : ∀ {s : List Rc} {x : Rc}, x ∈ plus e s → x.k = e.k ∨ ∃ r ∈ s, r.k = x.k
  | [], x, h => by
    obtain rfl : x = _ := by simpa [plus] using h
    exact .inl rfl
  | r :: s, x, h => by
    unfold plus at h
    split at h
    · rcases List.mem_cons.1 h with rfl | h
      · exact .inr ⟨r, List.mem_cons_self, rfl⟩
      · exact .inr ⟨x, List.mem_cons_of_mem _ h, rfl⟩
    · split at h
      · rcases List.mem_cons.1 h with rfl | h
        · exact .inl rfl
        · exact .inr ⟨x, h, rfl⟩
      · rcases List.mem_cons.1 h with rfl | h
        · exact .inr ⟨x, List.mem_cons_self, rfl⟩
        · rcases plus_keys h with h | ⟨y, h1, h2⟩
          · exact .inl h
          · exact .inr ⟨y, List.mem_cons_of_mem _ h1, h2⟩
theorem plus_ord (e : En) : ∀ {s : List Rc}, Ord s → Ord (plus e s)
  | [], _ => List.pairwise_singleton _ _
  | r :: s, h => by
    obtain ⟨h1, h2⟩ := List.pairwise_cons.1 h
    unfold plus
    split
    · exact List.pairwise_cons.2 ⟨h1, h2⟩
    · split
      · next _ h3 => exact List.pairwise_cons.2 ⟨fun x hx => by
          rcases List.mem_cons.1 hx with rfl | hx
          · exact h3
          · have := h1 x hx; dsimp only; omega, h⟩
      · next h4 h3 => exact List.pairwise_cons.2 ⟨fun x hx => by
          rcases plus_keys hx with h | ⟨y, h5, h6⟩
          · rw [h]; omega
          · rw [← h6]; exact h1 y h5, plus_ord e h2⟩
theorem sumsF_ord : ∀ (l : List En) {b : List Rc}, Ord b → Ord (sumsF b l)
  | [], _, h => h
  | e :: l, _, h => sumsF_ord l (plus_ord e h)
theorem plus_len (e : En) : ∀ s : List Rc, (plus e s).length ≤ s.length + 1
  | [] => Nat.le_refl _
  | r :: s => by
    have := plus_len e s
    unfold plus
    split
    · simp
    · split
      · simp
      · simp only [List.length_cons]; omega
theorem sumsF_len : ∀ (l : List En) (b : List Rc), (sumsF b l).length ≤ b.length + l.length
  | [], b => Nat.le_refl _
  | e :: l, b => by
    have h1 := sumsF_len l (plus e b)
    have h2 := plus_len e b
    show (sumsF (plus e b) l).length ≤ _
    rw [List.length_cons]
    omega
/-- Where a key stands, or would stand. -/
def pos (k : Int) : List Rc → Nat
  | [] => 0
  | r :: s => if r.k < k then pos k s + 1 else 0
def fnd (k : Int) (s : List Rc) : Bool := match s[pos k s]? with
  | some r => decide (r.k = k)
  | none => false
theorem pos_le (k : Int) : ∀ s, pos k s ≤ s.length
  | [] => Nat.le_refl _
  | r :: s => by
    have := pos_le k s
    unfold pos
    split
    · simp only [List.length_cons]; omega
    · omega
theorem pos_lo {k : Int} : ∀ {s : List Rc} {i : Nat} {r : Rc}, i < pos k s → s[i]? = some r → r.k < k
  | [], i, r, h, _ => absurd h (Nat.not_lt_zero i)
  | a :: s, i, r, h, hr => by
    unfold pos at h
    split at h
    · next h1 =>
      cases i with
      | zero => obtain rfl : a = r := by simpa using hr
                exact h1
      | succ i => exact pos_lo (s := s) (i := i) (by omega) (by simpa using hr)
    · exact absurd h (Nat.not_lt_zero i)
theorem pos_hi {k : Int} : ∀ {s : List Rc} {i : Nat} {r : Rc}, Ord s → pos k s ≤ i → s[i]? = some r → k ≤ r.k
  | [], i, r, _, _, hr => by simp at hr
  | a :: s, i, r, ho, h, hr => by
    obtain ⟨h1, h2⟩ := List.pairwise_cons.1 ho
    unfold pos at h
    split at h
    · cases i with
      | zero => omega
      | succ i => exact pos_hi (s := s) (i := i) h2 (by omega) (by simpa using hr)
    · next h3 =>
      cases i with
      | zero => obtain rfl : a = r := by simpa using hr
                omega
      | succ i =>
        have := h1 r (List.mem_of_getElem? (by simpa using hr))
        omega
theorem pos_eq {k : Int} {s : List Rc} {p : Nat} (ho : Ord s) (hp : p ≤ s.length) (h1 : ∀ i r, i < p → s[i]? = some r → r.k < k) (h2 : ∀ i r, p ≤ i → s[i]? = some r → k ≤ r.k) : p = pos k s := by
  have hl := pos_le k s
  rcases Nat.lt_trichotomy p (pos k s) with h | h | h
  · have hg := List.getElem?_eq_getElem (l := s) (i := p) (by omega)
    have a := pos_lo h hg
    have b := h2 p _ (Nat.le_refl _) hg
    omega
  · exact h
  · have hg := List.getElem?_eq_getElem (l := s) (i := pos k s) (by omega)
    have a := pos_hi ho (Nat.le_refl _) hg
    have b := h1 _ _ h hg
    omega
theorem fnd_at {k : Int} {s : List Rc} (h : fnd k s = true) : ∃ r, s[pos k s]? = some r ∧ r.k = k := by
  unfold fnd at h
  split at h
  · next r e => exact ⟨r, e, of_decide_eq_true h⟩
  · cases h
theorem plus_at {e : En} : ∀ {s : List Rc} {r : Rc}, s[pos e.k s]? = some r → r.k = e.k → plus e s = s.set (pos e.k s) ⟨r.k, wr (r.v + mu e)⟩
  | [], r, h, _ => by simp at h
  | a :: s, r, h, hk => by
    unfold pos at h ⊢
    unfold plus
    split at h
    · next h1 =>
      rw [if_pos h1]
      have h2 := plus_at (by simpa using h) hk
      rw [if_neg (by omega), if_neg (by omega), h2, List.set_cons_succ]
    · next h1 =>
      rw [if_neg h1]
      obtain rfl : a = r := by simpa using h
      rw [if_pos hk.symm]
      rfl
theorem plus_new {e : En} : ∀ {s : List Rc}, fnd e.k s = false → plus e s = s.take (pos e.k s) ++ [⟨e.k, mu e⟩] ++ s.drop (pos e.k s)
  | [], _ => rfl
  | a :: s, h => by
    unfold fnd at h
    unfold pos at h ⊢
    unfold plus
    split
    · next h1 =>
      rw [h1, if_neg (by omega)] at h
      simp at h
    · split
      · next h1 h2 =>
        rw [if_neg (by omega)]
        rfl
      · next h1 h2 =>
        have h3 : a.k < e.k := by omega
        rw [if_pos h3] at h ⊢
        have := plus_new (e := e) (s := s) (by unfold fnd; simpa using h)
        rw [this]
        rfl
theorem set_mid {α : Type} (l : List α) (p : Nat) (x y : α) (hp : p ≤ l.length) : (l.take p ++ [x] ++ l.drop p).set p y = l.take p ++ [y] ++ l.drop p := by
  have h1 : (l.take p).length = p := by rw [List.length_take]; omega
  rw [List.append_assoc, List.append_assoc, List.set_append_right _ _ (by omega), h1, Nat.sub_self]
  rfl
theorem mid_get {α : Type} (l : List α) (p : Nat) (x : α) (hp : p ≤ l.length) : (l.take p ++ [x] ++ l.drop p)[p]? = some x := by
  have h1 : (l.take p).length = p := by rw [List.length_take]; omega
  rw [List.append_assoc, List.getElem?_append_right (by omega), h1, Nat.sub_self]
  rfl
/-- The last version of a moment up to one. -/
def lastV : List Vn → Int → Option Vn
  | [], _ => none
  | k :: l, t => match lastV l t with
    | some x => some x
    | none => if k.at_ ≤ t then some k else none
theorem lastV_some : ∀ {l : List Vn} {t : Int} {x : Vn}, lastV l t = some x → x ∈ l ∧ x.at_ ≤ t
  | [], _, _, h => by cases h
  | k :: l, t, x, h => by
    unfold lastV at h
    split at h
    · next y e =>
      obtain rfl := Option.some.inj h
      have := lastV_some e
      exact ⟨List.mem_cons_of_mem _ this.1, this.2⟩
    · split at h
      · next h1 => obtain rfl := Option.some.inj h; exact ⟨List.mem_cons_self, h1⟩
      · cases h
theorem lastV_none : ∀ {l : List Vn} {t : Int}, lastV l t = none → ∀ x ∈ l, t < x.at_
  | [], _, _, _, h => by cases h
  | k :: l, t, h, x, hx => by
    unfold lastV at h
    split at h
    · cases h
    · next e =>
      split at h
      · cases h
      · next h1 =>
        rcases List.mem_cons.1 hx with rfl | hx
        · omega
        · exact lastV_none e x hx
theorem lastV_cut {l : List Vn} {t : Int} {i : Nat} {x : Vn} (hx : l[i]? = some x) (hi : ∀ j y, i < j → l[j]? = some y → t < y.at_) (ht : x.at_ ≤ t) : lastV l t = some x := by
  induction l generalizing i with
  | nil => simp at hx
  | cons a l ih =>
    unfold lastV
    cases i with
    | zero =>
      obtain rfl : a = x := by simpa using hx
      have : lastV l t = none := by
        cases h : lastV l t with
        | none => rfl
        | some y =>
          obtain ⟨h1, h2⟩ := lastV_some h
          obtain ⟨j, hj⟩ := List.getElem?_of_mem h1
          have := hi (j + 1) y (by omega) (by simpa using hj)
          omega
      rw [this]
      exact if_pos ht
    | succ i =>
      rw [ih (i := i) (by simpa using hx) (fun j y hj hy => hi (j + 1) y (by omega) (by simpa using hy))]
theorem lastV_no {l : List Vn} {t : Int} (h : ∀ (j : Nat) y, l[j]? = some y → t < y.at_) : lastV l t = none := by
  cases e : lastV l t with
  | none => rfl
  | some y =>
    obtain ⟨h1, h2⟩ := lastV_some e
    obtain ⟨j, hj⟩ := List.getElem?_of_mem h1
    have := h j y hj
    omega
def fromV (l : List Vn) (t : Int) : Vn := (lastV l t).getD ⟨-1, []⟩
/-- The entries of a time. -/
def upto (t : Int) (l : List En) : List En := l.filter fun e => decide (e.at_ ≤ t)
def betw (a t : Int) (l : List En) : List En := l.filter fun e => decide (e.at_ > a) && decide (e.at_ ≤ t)
def upS (l : List Vn) (g : List En) (t : Int) : List Rc := sumsF (fromV l t).s (betw (fromV l t).at_ t g)
theorem upto_split {a t : Int} (h : a ≤ t) : ∀ l : List En, (upto a l ++ betw a t l).Perm (upto t l)
  | [] => List.Perm.refl _
  | e :: l => by
    have ih := upto_split h l
    unfold upto betw at ih ⊢
    by_cases h1 : e.at_ ≤ a
    · have h2 : e.at_ ≤ t := by omega
      have h3 : ¬ e.at_ > a := by omega
      simp only [List.filter_cons, h1, h2, h3, decide_true, decide_false, if_true, Bool.false_and, Bool.false_eq_true, if_false, List.cons_append]
      exact ih.cons _
    · have h3 : e.at_ > a := by omega
      by_cases h2 : e.at_ ≤ t
      · simp only [List.filter_cons, h1, h2, h3, decide_true, decide_false, if_true, Bool.and_self, Bool.false_eq_true, if_false]
        exact List.perm_middle.trans (ih.cons _)
      · simp only [List.filter_cons, h1, h2, h3, decide_true, decide_false, Bool.and_false, Bool.false_eq_true, if_false]
        exact ih
/-- What is kept, behind which entries. -/
def ends (e : En) : List En → Bool
  | [] => true
  | f :: _ => decide (f.at_ > e.at_)
def keepL (every a : Int) : List En → List Rc → Int → List Vn → List Vn
  | [], _, _, K => K
  | e :: l, s, m, K => if e.at_ ≤ a then keepL every a l s m K
    else if ends e l = true ∧ m + 1 ≥ every then keepL every a l (plus e s) 0 (K ++ [⟨e.at_, plus e s⟩])
    else keepL every a l (plus e s) (m + 1) K
def base (v : Vs) : List Rc := if v.cut > 0 then (match v.kept with
  | k :: _ => k.s
  | [] => []) else []
/-- Versions as they have to be. -/
structure Inv (v : Vs) : Prop where
  ev : 1 ≤ v.every ∧ v.every ≤ 100
  cut : 0 ≤ v.cut ∧ v.cut ≤ 1048577
  log : ∀ e ∈ v.log, v.cut ≤ e.at_ ∧ e.at_ ≤ 1048576
  lo : v.log.Pairwise fun a b => a.at_ ≤ b.at_
  kept : ∀ k ∈ v.kept, v.cut - 1 ≤ k.at_ ∧ 0 ≤ k.at_ ∧ k.at_ ≤ 1048576 ∧ k.s = sumsF (base v) (upto k.at_ v.log)
  ko : v.kept.Pairwise fun a b => a.at_ < b.at_
  fst : v.cut > 0 → ∃ k l, v.kept = k :: l ∧ k.at_ = v.cut - 1
  ord : Ord (base v)
def stS (v : Vs) (t : Int) : List Rc := sumsF (base v) (upto t v.log)
theorem upto_none {t : Int} {l : List En} (h : ∀ e ∈ l, t < e.at_) : upto t l = [] := by
  unfold upto
  rw [List.filter_eq_nil_iff]
  intro e he
  have := h e he
  simp only [decide_eq_true_eq]
  omega
theorem upto_all {t : Int} {l : List En} (h : ∀ e ∈ l, e.at_ ≤ t) : upto t l = l := by
  unfold upto
  rw [List.filter_eq_self]
  intro e he
  exact decide_eq_true (h e he)
theorem Inv.kord {v : Vs} (h : Inv v) : ∀ k ∈ v.kept, Ord k.s := fun k hk => by
  rw [(h.kept k hk).2.2.2]
  exact sumsF_ord _ h.ord
theorem Inv.up {v : Vs} (h : Inv v) {t : Int} (ht : v.cut - 1 ≤ t) : upS v.kept v.log t = stS v t := by
  unfold upS stS fromV
  cases e : lastV v.kept t with
  | some x =>
    obtain ⟨h1, h2⟩ := lastV_some e
    rw [Option.getD_some, (h.kept x h1).2.2.2, ← sumsF_app]
    exact sumsF_perm (upto_split h2 _) _
  | none =>
    have h1 := lastV_none e
    have hc : ¬ v.cut > 0 := fun hc => by
      obtain ⟨k, l, h2, h3⟩ := h.fst hc
      have := h1 k (by rw [h2]; exact List.mem_cons_self)
      omega
    rw [Option.getD_none]
    have hb : base v = [] := if_neg hc
    rw [hb]
    congr 1
    unfold betw upto
    apply List.filter_congr
    intro e he
    have := (h.log e he).1
    have h4 := h.cut.1
    rw [decide_eq_true (show e.at_ > -1 by omega), Bool.true_and]
/-- The first version, for the look at them. -/
def firstK (v : Vs) : List Vn := if v.cut > 0 then v.kept.take 1 else []
theorem Inv.first {v : Vs} (h : Inv v) {k : Vn} (hk : k ∈ v.kept) : upS (firstK v) v.log k.at_ = k.s := by
  obtain ⟨h1, h2, h3, h4⟩ := h.kept k hk
  unfold firstK upS fromV
  by_cases hc : v.cut > 0
  · obtain ⟨x, l, e1, e2⟩ := h.fst hc
    have hb : base v = x.s := by unfold base; rw [if_pos hc, e1]
    have h6 : x.at_ ≤ k.at_ := by omega
    have e3 : lastV [x] k.at_ = some x := if_pos h6
    rw [if_pos hc, e1, List.take_succ_cons, List.take_zero, e3, Option.getD_some, h4, hb]
    congr 1
    unfold betw upto
    apply List.filter_congr
    intro e he
    have := (h.log e he).1
    rw [decide_eq_true (show e.at_ > x.at_ by omega), Bool.true_and]
  · rw [if_neg hc, h4]
    have hb : base v = [] := if_neg hc
    rw [hb]
    show sumsF [] _ = _
    congr 1
    show betw (-1) _ _ = _
    unfold betw upto
    apply List.filter_congr
    intro e he
    have := (h.log e he).1
    have h4 := h.cut.1
    rw [decide_eq_true (show e.at_ > -1 by omega), Bool.true_and]
theorem asc_len : ∀ {l : List Vn} {a b : Int}, (∀ k ∈ l, a ≤ k.at_ ∧ k.at_ ≤ b) → l.Pairwise (fun x y => x.at_ < y.at_) → a ≤ b + 1 → (l.length : Int) ≤ b + 1 - a
  | [], a, b, _, _, h => by simp; omega
  | k :: l, a, b, h, hp, _ => by
    obtain ⟨h1, h2⟩ := List.pairwise_cons.1 hp
    have hk := h k List.mem_cons_self
    have := asc_len (l := l) (a := k.at_ + 1) (b := b) (fun x hx => ⟨by have := h1 x hx; omega, (h x (List.mem_cons_of_mem _ hx)).2⟩) h2 (by omega)
    rw [List.length_cons]
    omega
theorem Inv.klen {v : Vs} (h : Inv v) : v.kept.length ≤ 1048577 := by
  have := asc_len (l := v.kept) (a := 0) (b := 1048576) (fun k hk => (h.kept k hk).2.imp id fun h => h.1) h.ko (by decide)
  omega
/-- Not too great. -/
structure Bd (v : Vs) : Prop where
  log : v.log.length ≤ 1000
  base : (base v).length ≤ 1000
theorem Inv.slen {v : Vs} (h : Inv v) (hb : Bd v) : ∀ k ∈ v.kept, k.s.length ≤ 2000 := fun k hk => by
  rw [(h.kept k hk).2.2.2]
  have h1 := sumsF_len (upto k.at_ v.log) (base v)
  have h2 : (upto k.at_ v.log).length ≤ v.log.length := List.length_filter_le _ _
  have := hb.log
  have := hb.base
  omega
theorem fromV_ord {l : List Vn} (h : ∀ k ∈ l, Ord k.s) (t : Int) : Ord (fromV l t).s := by
  unfold fromV
  cases e : lastV l t with
  | none => exact List.Pairwise.nil
  | some x => exact h x (lastV_some e).1
theorem fromV_len {l : List Vn} {n : Nat} (h : ∀ k ∈ l, k.s.length ≤ n) (t : Int) : (fromV l t).s.length ≤ n := by
  unfold fromV
  cases e : lastV l t with
  | none => exact Nat.zero_le _
  | some x => exact h x (lastV_some e).1
theorem betw_snoc {a t : Int} {l : List En} {j : Nat} {e : En} (h : l[j]? = some e) : betw a t (l.take (j + 1)) = if (decide (e.at_ > a) && decide (e.at_ ≤ t)) = true then betw a t (l.take j) ++ [e] else betw a t (l.take j) := by
  unfold betw
  rw [List.take_add_one, h, Option.toList_some, List.filter_append]
  split
  · next h => rw [List.filter_cons, if_pos h]; rfl
  · next h => rw [List.filter_cons, if_neg h, List.filter_nil, List.append_nil]
end Go.Proofs.Ytkmgdejpdhlleaa.Vs
