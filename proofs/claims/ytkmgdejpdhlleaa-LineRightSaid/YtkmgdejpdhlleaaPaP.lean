/- Paths, plain: the least of some steps. No program in sight. -/
import Derived.Test.YtkmgdejpdhlleaaHopLaw2
namespace Go.Proofs.Ytkmgdejpdhlleaa.Pa
set_option linter.unusedSimpArgs false
set_option linter.unusedVariables false
set_option maxRecDepth 100000
open Go.RowKit

theorem le_trans {x y z : Hp} (h : leHB x y = true) (k : leHB y z = true) : leHB x z = true := by
  obtain ⟨h1, h2, h3, h4, h5⟩ := (leH_iff x y).1 h
  obtain ⟨k1, k2, k3, k4, k5⟩ := (leH_iff y z).1 k
  refine (leH_iff x z).2 ⟨h1, k2, h3.trans k3, h4.trans k4, fun i i0 i1 => ?_⟩
  obtain ⟨a1, a2⟩ := h5 i i0 i1
  obtain ⟨b1, b2⟩ := k5 i i0 (by omega)
  exact ⟨fun h => b1 (a1 h), by omega⟩
theorem le_anti {a b : Hp} (h1 : leHB a b = true) (h2 : leHB b a = true) : a = b := by
  obtain ⟨ha, hb, hf, hg, hv⟩ := (leH_iff a b).1 h1
  obtain ⟨-, -, -, -, hv2⟩ := (leH_iff b a).1 h2
  have p1 := hopB_bd ha
  have p2 := hopB_bd hb
  refine leH_anti h1 h2 ?_
  rcases Int.lt_trichotomy a.k b.k with h | h | h
  · have := (hv2 a.k (by omega) (by omega)).1 h
    omega
  · exact h
  · have := (hv b.k (by omega) (by omega)).1 h
    omega
def putS (l : List Hp) (h : Hp) : List Hp × Bool := if hopB h = false then (l, false) else if l.any (fun x => leHB x h) = true then (l, false) else (l.filter (fun x => !leHB h x) ++ [h], true)
/-- Steps none of which is at or before another one, below all of a list. -/
structure Low (l A : List Hp) : Prop where
  r : ∀ a ∈ A, hopB a = true ∧ a ∈ l
  b : ∀ x ∈ l, hopB x = true → ∃ a ∈ A, leHB a x = true
  c : A.Pairwise fun a b => leHB a b = false ∧ leHB b a = false
theorem Low.put {l A : List Hp} (h : Low l A) (x : Hp) : Low (l ++ [x]) (putS A x).1 := by
  unfold putS
  split
  · next hx =>
    refine ⟨fun a ha => ⟨(h.r a ha).1, List.mem_append_left _ (h.r a ha).2⟩, fun y hy hr => ?_, h.c⟩
    rcases List.mem_append.1 hy with hy | hy
    · exact h.b y hy hr
    · obtain rfl := List.mem_singleton.1 hy
      rw [hx] at hr
      cases hr
  · next hx =>
    have hx : hopB x = true := by simpa using hx
    split
    · next hany =>
      obtain ⟨a, ha, hax⟩ := List.any_eq_true.1 hany
      refine ⟨fun a ha => ⟨(h.r a ha).1, List.mem_append_left _ (h.r a ha).2⟩, fun y hy hr => ?_, h.c⟩
      rcases List.mem_append.1 hy with hy | hy
      · exact h.b y hy hr
      · obtain rfl := List.mem_singleton.1 hy
        exact ⟨a, ha, hax⟩
    · next hany =>
      have hno : ∀ a ∈ A, leHB a x = false := fun a ha => by
        have := List.any_eq_false.1 (by simpa using hany : (A.any fun y => leHB y x) = false) a ha
        simpa using this
      refine ⟨fun a ha => ?_, fun y hy hr => ?_, List.pairwise_append.2 ⟨h.c.sublist List.filter_sublist, List.pairwise_singleton _ _, fun a ha b hb => ?_⟩⟩
      · rcases List.mem_append.1 ha with ha | ha
        · have := h.r a (List.mem_filter.1 ha).1
          exact ⟨this.1, List.mem_append_left _ this.2⟩
        · obtain rfl := List.mem_singleton.1 ha
          exact ⟨hx, List.mem_append_right _ List.mem_cons_self⟩
      · rcases List.mem_append.1 hy with hy | hy
        · obtain ⟨a, ha, hay⟩ := h.b y hy hr
          cases hxa : leHB x a
          · exact ⟨a, List.mem_append_left _ (List.mem_filter.2 ⟨ha, by rw [hxa]; rfl⟩), hay⟩
          · exact ⟨x, List.mem_append_right _ List.mem_cons_self, le_trans hxa hay⟩
        · obtain rfl := List.mem_singleton.1 hy
          exact ⟨y, List.mem_append_right _ List.mem_cons_self, leH_refl hx⟩
      · obtain rfl := List.mem_singleton.1 hb
        obtain ⟨h1, h2⟩ := List.mem_filter.1 ha
        exact ⟨hno a h1, by simpa using h2⟩
/-- The least ones. -/
def Min (l : List Hp) (x : Hp) : Prop := hopB x = true ∧ x ∈ l ∧ ∀ y ∈ l, leHB y x = true → y = x
theorem Low.min {l A : List Hp} (h : Low l A) {x : Hp} : x ∈ A ↔ Min l x := by
  constructor
  · intro hx
    obtain ⟨h1, h2⟩ := h.r x hx
    refine ⟨h1, h2, fun y hy hle => ?_⟩
    obtain ⟨a, ha, hay⟩ := h.b y hy ((leH_iff y x).1 hle).1
    have hax := le_trans hay hle
    have hae : a = x := by
      apply Classical.byContradiction
      intro hne
      obtain ⟨i, hi⟩ := List.getElem?_of_mem ha
      obtain ⟨j, hj⟩ := List.getElem?_of_mem hx
      obtain ⟨i1, i2⟩ := List.getElem?_eq_some_iff.1 hi
      obtain ⟨j1, j2⟩ := List.getElem?_eq_some_iff.1 hj
      rcases Nat.lt_trichotomy i j with g | g | g
      · have := (List.pairwise_iff_getElem.1 h.c i j i1 j1 g).1
        rw [i2, j2, hax] at this
        cases this
      · subst g
        exact hne (i2.symm.trans j2)
      · have := (List.pairwise_iff_getElem.1 h.c j i j1 i1 g).2
        rw [i2, j2, hax] at this
        cases this
    subst hae
    exact le_anti hle hay
  · rintro ⟨h1, h2, h3⟩
    obtain ⟨a, ha, hax⟩ := h.b x h2 h1
    obtain rfl := h3 a (h.r a ha).2 hax
    exact ha
end Go.Proofs.Ytkmgdejpdhlleaa.Pa
