/- Paths, plain: the least of some steps. No program in sight. -/
import Derived.Test.YtkmgdejpdhlleaaHopLaw2
namespace Go.Proofs.Ytkmgdejpdhlleaa.Pa
set_option linter.unusedSimpArgs false
set_option linter.unusedVariables false
set_option maxRecDepth 100000
open Go.RowKit

theorem le_trans {x y z : Hp} (h : leHB x y = true) (k : leHB y z = true) : leHB x z = true := by
  obtain ⟨h1, h2, h3, h4, h5⟩ := (leH_iff x y).1 h
  obtain ⟨k1, k2, k3, k4, k5⟩ := (leH_iff y z).1 k
  refine (leH_iff x z).2 ⟨h1, k2, h3.trans k3, h4.trans k4, fun i i0 i1 => ?_⟩
  obtain ⟨a1, a2⟩ := h5 i i0 i1
  obtain ⟨b1, b2⟩ := k5 i i0 (by omega)
  exact ⟨fun h => b1 (a1 h), by omega⟩
theorem le_anti {a b : Hp} (h1 : leHB a b = true) (h2 : leHB b a = true) : a = b := by
  obtain ⟨ha, hb, hf, hg, hv⟩ := (leH_iff a b).1 h1
  obtain ⟨-, -, -, -, hv2⟩ := (leH_iff b a).1 h2
  have p1 := hopB_bd ha
  have p2 := hopB_bd hb
  refine leH_anti h1 h2 ?_
  rcases Int.lt_trichotomy a.k b.k with h | h | h
  · have := (hv2 a.k (by omega) (by omega)).1 h
    omega
  · exact h
  · have := (hv b.k (by omega) (by omega)).1 h
    omega
def putS (l : List Hp) (h : Hp) : List Hp × Bool := if hopB h = false then (l, false) else if l.any (fun x => leHB x h) = true then (l, false) else (l.filter (fun x => !leHB h x) ++ [h], true)
def leastS (l : List Hp) : List Hp := l.foldl (fun o h => (putS o h).1) []
/-- Is a step low, as far as some of the others say? -/
def lowK (l : List Hp) (i : Nat) (x : Hp) : Nat → Bool
  | 0 => hopB x
  | k + 1 => lowK l i x k && (match l[k]? with
    | some y => decide (k = i) || !leHB y x || (leHB x y && !decide (k < i))
    | none => true)
def minO (l : List Hp) : Nat → List Hp
  | 0 => []
  | i + 1 => match l[i]? with
    | some x => if lowK l i x l.length = true then minO l i ++ [x] else minO l i
    | none => minO l i
def hasS (l : List Hp) (h : Hp) : Bool := l.any fun x => leHB x h && leHB h x
/-- Steps none of which is at or before another one, below all of a list. -/
structure Low (l A : List Hp) : Prop where
  r : ∀ a ∈ A, hopB a = true ∧ a ∈ l
  b : ∀ x ∈ l, hopB x = true → ∃ a ∈ A, leHB a x = true
  c : A.Pairwise fun a b => leHB a b = false ∧ leHB b a = false
theorem Low.put {l A : List Hp} (h : Low l A) (x : Hp) : Low (l ++ [x]) (putS A x).1 := by
  unfold putS
  split
  · next hx =>
    refine ⟨fun a ha => ⟨(h.r a ha).1, List.mem_append_left _ (h.r a ha).2⟩, fun y hy hr => ?_, h.c⟩
    rcases List.mem_append.1 hy with hy | hy
    · exact h.b y hy hr
    · obtain rfl := List.mem_singleton.1 hy
      rw [hx] at hr
      cases hr
  · next hx =>
    have hx : hopB x = true := by simpa using hx
    split
    · next hany =>
      obtain ⟨a, ha, hax⟩ := List.any_eq_true.1 hany
      refine ⟨fun a ha => ⟨(h.r a ha).1, List.mem_append_left _ (h.r a ha).2⟩, fun y hy hr => ?_, h.c⟩
      rcases List.mem_append.1 hy with hy | hy
      · exact h.b y hy hr
      · obtain rfl := List.mem_singleton.1 hy
        exact ⟨a, ha, hax⟩
    · next hany =>
      have hno : ∀ a ∈ A, leHB a x = false := fun a ha => by
        have := List.any_eq_false.1 (by simpa using hany : (A.any fun y => leHB y x) = false) a ha
        simpa using this
      refine ⟨fun a ha => ?_, fun y hy hr => ?_, List.pairwise_append.2 ⟨h.c.sublist List.filter_sublist, List.pairwise_singleton _ _, fun a ha b hb => ?_⟩⟩
      · rcases List.mem_append.1 ha with ha | ha
        · have := h.r a (List.mem_filter.1 ha).1
          exact ⟨this.1, List.mem_append_left _ this.2⟩
        · obtain rfl := List.mem_singleton.1 ha
          exact ⟨hx, List.mem_append_right _ List.mem_cons_self⟩
      · rcases List.mem_append.1 hy with hy | hy
        · obtain ⟨a, ha, hay⟩ := h.b y hy hr
          cases hxa : leHB x a
          · exact ⟨a, List.mem_append_left _ (List.mem_filter.2 ⟨ha, by rw [hxa]; rfl⟩), hay⟩
          · exact ⟨x, List.mem_append_right _ List.mem_cons_self, le_trans hxa hay⟩
        · obtain rfl := List.mem_singleton.1 hy
          exact ⟨y, List.mem_append_right _ List.mem_cons_self, leH_refl hx⟩
      · obtain rfl := List.mem_singleton.1 hb
        obtain ⟨h1, h2⟩ := List.mem_filter.1 ha
        exact ⟨hno a h1, by simpa using h2⟩
theorem leastS_low (l : List Hp) : Low l (leastS l) := by
  have : ∀ (m p : List Hp) (A : List Hp), Low p A → Low (p ++ m) (m.foldl (fun o h => (putS o h).1) A) := by
    intro m
    induction m with
    | nil => intro p A h; rw [List.append_nil]; exact h
    | cons x m ih =>
      intro p A h
      have := ih (p ++ [x]) _ (h.put x)
      rw [List.append_assoc] at this
      exact this
  exact this l [] [] ⟨nofun, nofun, List.Pairwise.nil⟩
theorem leastS_snoc {l : List Hp} {j : Nat} {x : Hp} (h : l[j]? = some x) : leastS (l.take (j + 1)) = (putS (leastS (l.take j)) x).1 := by
  unfold leastS
  rw [List.take_add_one, h, List.foldl_append]
  rfl
theorem putS_len (l : List Hp) (h : Hp) : (putS l h).1.length ≤ l.length + 1 := by
  unfold putS
  split
  · exact Nat.le_succ _
  · split
    · exact Nat.le_succ _
    · rw [List.length_append]
      have := List.length_filter_le (fun x => !leHB h x) l
      simp only [List.length_cons, List.length_nil]
      omega
theorem leastS_len : ∀ (l : List Hp), (leastS l).length ≤ l.length := fun l => by
  have : ∀ (m A : List Hp), (m.foldl (fun o h => (putS o h).1) A).length ≤ A.length + m.length := by
    intro m
    induction m with
    | nil => intro A; exact Nat.le_refl _
    | cons x m ih =>
      intro A
      have h1 := ih (putS A x).1
      have h2 := putS_len A x
      simp only [List.foldl_cons, List.length_cons]
      omega
  have h := this l []
  simp only [List.length_nil, Nat.zero_add] at h
  exact h
theorem minO_len (l : List Hp) : ∀ n, (minO l n).length ≤ n
  | 0 => Nat.le_refl _
  | n + 1 => by
    have := minO_len l n
    unfold minO
    split
    · split
      · rw [List.length_append]; simp only [List.length_cons, List.length_nil]; omega
      · omega
    · omega
theorem lowK_iff {l : List Hp} {i : Nat} {x : Hp} : ∀ n, lowK l i x n = true ↔ hopB x = true ∧ ∀ k y, k < n → l[k]? = some y → k ≠ i → leHB y x = true → leHB x y = true ∧ i ≤ k
  | 0 => by
    unfold lowK
    exact ⟨fun h => ⟨h, fun k y hk => absurd hk (Nat.not_lt_zero k)⟩, fun h => h.1⟩
  | n + 1 => by
    unfold lowK
    rw [Bool.and_eq_true, lowK_iff n]
    constructor
    · rintro ⟨⟨h1, h2⟩, h3⟩
      refine ⟨h1, fun k y hk hy hne hle => ?_⟩
      rcases Nat.lt_or_ge k n with h | h
      · exact h2 k y h hy hne hle
      · obtain rfl : k = n := by omega
        rw [hy] at h3
        dsimp only at h3
        rw [hle, decide_eq_false hne] at h3
        simp only [Bool.not_true, Bool.or_false, Bool.false_or, Bool.and_eq_true, Bool.not_eq_true', decide_eq_false_iff_not] at h3
        exact ⟨h3.1, by omega⟩
    · rintro ⟨h1, h2⟩
      refine ⟨⟨h1, fun k y hk hy => h2 k y (by omega) hy⟩, ?_⟩
      cases hy : l[n]? with
      | none => rfl
      | some y =>
        dsimp only
        by_cases hne : n = i
        · rw [decide_eq_true hne]; rfl
        · cases hle : leHB y x
          · simp
          · obtain ⟨g1, g2⟩ := h2 n y (Nat.lt_succ_self _) hy hne hle
            rw [g1, decide_eq_false hne, decide_eq_false (show ¬ n < i by omega)]
            rfl
/-- The least ones. -/
def Min (l : List Hp) (x : Hp) : Prop := hopB x = true ∧ x ∈ l ∧ ∀ y ∈ l, leHB y x = true → y = x
theorem minO_mem {l : List Hp} : ∀ n x, x ∈ minO l n ↔ ∃ i, i < n ∧ l[i]? = some x ∧ lowK l i x l.length = true
  | 0, x => by
    unfold minO
    exact ⟨fun h => absurd h List.not_mem_nil, fun ⟨i, hi, _⟩ => absurd hi (Nat.not_lt_zero i)⟩
  | n + 1, x => by
    have ih := minO_mem (l := l) n x
    have keep : (∃ i, i < n ∧ l[i]? = some x ∧ lowK l i x l.length = true) → ∃ i, i < n + 1 ∧ l[i]? = some x ∧ lowK l i x l.length = true := fun ⟨i, h1, h2⟩ => ⟨i, by omega, h2⟩
    unfold minO
    split
    · next y hy =>
      split
      · next hl =>
        rw [List.mem_append, ih, List.mem_singleton]
        constructor
        · rintro (h | rfl)
          · exact keep h
          · exact ⟨n, Nat.lt_succ_self _, hy, hl⟩
        · rintro ⟨i, h1, h2, h3⟩
          rcases Nat.lt_or_ge i n with h | h
          · exact .inl ⟨i, h, h2, h3⟩
          · obtain rfl : i = n := by omega
            rw [hy] at h2
            exact .inr (Option.some.inj h2).symm
      · next hl =>
        rw [ih]
        refine ⟨keep, fun ⟨i, h1, h2, h3⟩ => ?_⟩
        rcases Nat.lt_or_ge i n with h | h
        · exact ⟨i, h, h2, h3⟩
        · obtain rfl : i = n := by omega
          rw [hy] at h2
          obtain rfl := Option.some.inj h2
          exact absurd h3 hl
    · next hy =>
      rw [ih]
      refine ⟨keep, fun ⟨i, h1, h2, h3⟩ => ?_⟩
      rcases Nat.lt_or_ge i n with h | h
      · exact ⟨i, h, h2, h3⟩
      · obtain rfl : i = n := by omega
        rw [hy] at h2
        cases h2
theorem low_first {l : List Hp} {i j : Nat} {x : Hp} (hi : l[i]? = some x) (hj : l[j]? = some x) (h : lowK l j x l.length = true) : j ≤ i := by
  obtain ⟨h1, h2⟩ := (lowK_iff _).1 h
  by_cases e : i = j
  · omega
  · exact (h2 i x (List.getElem?_eq_some_iff.1 hi).1 hi e (leH_refl h1)).2
theorem minO_nodup (l : List Hp) : ∀ n, (minO l n).Nodup
  | 0 => List.nodup_nil
  | n + 1 => by
    have ih := minO_nodup l n
    unfold minO
    split
    · next y hy =>
      split
      · next hl =>
        refine List.nodup_append.2 ⟨ih, by simp, fun a ha b hb => ?_⟩
        obtain rfl := List.mem_singleton.1 hb
        rintro rfl
        obtain ⟨i, h1, h2, h3⟩ := (minO_mem n a).1 ha
        have := low_first h2 hy hl
        omega
      · exact ih
    · exact ih
theorem minO_min {l : List Hp} {x : Hp} : x ∈ minO l l.length ↔ Min l x := by
  rw [minO_mem]
  constructor
  · rintro ⟨i, h1, h2, h3⟩
    obtain ⟨g1, g2⟩ := (lowK_iff _).1 h3
    refine ⟨g1, List.mem_of_getElem? h2, fun y hy hle => ?_⟩
    obtain ⟨k, hk⟩ := List.getElem?_of_mem hy
    by_cases e : k = i
    · subst e
      rw [h2] at hk
      exact (Option.some.inj hk).symm
    · exact le_anti hle (g2 k y (List.getElem?_eq_some_iff.1 hk).1 hk e hle).1
  · rintro ⟨h1, h2, h3⟩
    -- the first place where it stands
    have first : ∀ m : List Hp, x ∈ m → ∃ i : Nat, m[i]? = some x ∧ ∀ k : Nat, m[k]? = some x → i ≤ k := by
      intro m
      induction m with
      | nil => intro h; cases h
      | cons a m ih =>
        intro h
        by_cases e : a = x
        · exact ⟨0, by rw [e]; rfl, fun k _ => Nat.zero_le k⟩
        · rcases List.mem_cons.1 h with h | h
          · exact absurd h.symm e
          · obtain ⟨i, g1, g2⟩ := ih h
            refine ⟨i + 1, by simpa using g1, fun k hk => ?_⟩
            cases k with
            | zero => exact absurd (by simpa using hk) e
            | succ k => exact Nat.succ_le_succ (g2 k (by simpa using hk))
    obtain ⟨i, g1, g2⟩ := first l h2
    refine ⟨i, (List.getElem?_eq_some_iff.1 g1).1, g1, (lowK_iff _).2 ⟨h1, fun k y _ hy _ hle => ?_⟩⟩
    obtain rfl := h3 y (List.mem_of_getElem? hy) hle
    exact ⟨hle, g2 k hy⟩
theorem Low.min {l A : List Hp} (h : Low l A) {x : Hp} : x ∈ A ↔ Min l x := by
  constructor
  · intro hx
    obtain ⟨h1, h2⟩ := h.r x hx
    refine ⟨h1, h2, fun y hy hle => ?_⟩
    obtain ⟨a, ha, hay⟩ := h.b y hy ((leH_iff y x).1 hle).1
    have hax := le_trans hay hle
    have hae : a = x := by
      apply Classical.byContradiction
      intro hne
      obtain ⟨i, hi⟩ := List.getElem?_of_mem ha
      obtain ⟨j, hj⟩ := List.getElem?_of_mem hx
      obtain ⟨i1, i2⟩ := List.getElem?_eq_some_iff.1 hi
      obtain ⟨j1, j2⟩ := List.getElem?_eq_some_iff.1 hj
      rcases Nat.lt_trichotomy i j with g | g | g
      · have := (List.pairwise_iff_getElem.1 h.c i j i1 j1 g).1
        rw [i2, j2, hax] at this
        cases this
      · subst g
        exact hne (i2.symm.trans j2)
      · have := (List.pairwise_iff_getElem.1 h.c j i j1 i1 g).2
        rw [i2, j2, hax] at this
        cases this
    subst hae
    exact le_anti hle hay
  · rintro ⟨h1, h2, h3⟩
    obtain ⟨a, ha, hax⟩ := h.b x h2 h1
    obtain rfl := h3 a (h.r a ha).2 hax
    exact ha
theorem Low.nodup {l A : List Hp} (h : Low l A) : A.Nodup := by
  have hr : ∀ a ∈ A, leHB a a = true := fun a ha => leH_refl (h.r a ha).1
  have hc := h.c
  clear h
  induction A with
  | nil => exact List.nodup_nil
  | cons a A ih =>
    obtain ⟨h1, h2⟩ := List.pairwise_cons.1 hc
    refine List.nodup_cons.2 ⟨fun hm => ?_, ih (fun b hb => hr b (List.mem_cons_of_mem _ hb)) h2⟩
    have := (h1 a hm).1
    rw [hr a List.mem_cons_self] at this
    cases this
theorem least_perm (l : List Hp) : (leastS l).Perm (minO l l.length) := by
  have h := leastS_low l
  exact (List.perm_ext_iff_of_nodup h.nodup (minO_nodup l _)).2 fun x => h.min.trans minO_min.symm
theorem has_self {l : List Hp} {x : Hp} (h : x ∈ l) (hr : hopB x = true) : hasS l x = true := List.any_eq_true.2 ⟨x, h, by rw [leH_refl hr]; rfl⟩
end Go.Proofs.Ytkmgdejpdhlleaa.Pa
