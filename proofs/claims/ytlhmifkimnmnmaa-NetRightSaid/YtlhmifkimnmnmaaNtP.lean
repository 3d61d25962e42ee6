/- Net: what is put in and taken out, plain. -/
import Derived.Test.YtlhmifkimnmnmaaLaw14a
namespace Go.Proofs.Ytlhmifkimnmnmaa
set_option linter.unusedSimpArgs false
set_option linter.unusedVariables false
open Go.RowKit

def ltBx (x y : Bx) : Prop := lt3 x.e x.f x.t y.e y.f y.t
theorem right_iff (l : List Bx) : rightB l = true ↔ (∀ x ∈ l, okB x = true) ∧ l.Pairwise ltBx := by
  unfold rightB
  rw [Bool.and_eq_true, List.all_eq_true]
  refine and_congr_right fun _ => ⟨fun h => ?_, fun h => ?_⟩
  · rw [List.pairwise_iff_getElem]
    intro i j hi hj hij
    obtain ⟨d, rfl⟩ : ∃ d, j = i + d + 1 := ⟨j - i - 1, by omega⟩
    exact chain_lt h d i _ _ (List.getElem?_eq_getElem hi) (List.getElem?_eq_getElem hj)
  · rw [chain_iff]
    intro j x y hx hy
    rw [List.pairwise_iff_getElem] at h
    obtain ⟨h1, rfl⟩ := List.getElem?_eq_some_iff.1 hx
    obtain ⟨h2, rfl⟩ := List.getElem?_eq_some_iff.1 hy
    exact (ltB_lt _ _).2 (h j (j + 1) h1 h2 (by omega))
theorem posB_before {e f t : Int} : ∀ {l : List Bx} {i : Nat} {x : Bx}, i < posB l e f t → l[i]? = some x → ltX x e f t
  | [], i, x, h, hx => by simp at hx
  | y :: l, i, x, h, hx => by
    unfold posB at h
    split at h
    · next hy =>
      cases i with
      | zero =>
        obtain rfl : y = x := by simpa using hx
        exact (ord3_lt _ _ _ _ _ _).1 hy
      | succ i => exact posB_before (l := l) (i := i) (by omega) (by simpa using hx)
    · omega
theorem posB_here {e f t : Int} : ∀ {l : List Bx} {x : Bx}, l[posB l e f t]? = some x → ¬ ltX x e f t
  | [], x, hx => by simp [posB] at hx
  | y :: l, x, hx => by
    unfold posB at hx
    split at hx
    · exact posB_here (by simpa using hx)
    · next hy =>
      obtain rfl : y = x := by simpa using hx
      exact fun h => hy ((ord3_lt _ _ _ _ _ _).2 h)
theorem lt3_tri (e f t e' f' t' : Int) : lt3 e f t e' f' t' ∨ (e = e' ∧ f = f' ∧ t = t') ∨ lt3 e' f' t' e f t := by unfold lt3; omega
theorem okB_iff (x : Bx) : okB x = true ↔ 0 ≤ x.e ∧ 0 ≤ x.f ∧ 0 ≤ x.t ∧ 1 ≤ x.l.length ∧ x.l.length ≤ 4096 ∧ ∀ m ∈ x.l, m.e = x.e := by
  unfold okB
  simp only [Bool.and_eq_true, Bool.not_eq_true', Bool.or_eq_false_iff, decide_eq_false_iff_not, List.any_eq_false, bne_iff_ne, ne_eq, Decidable.not_not]
  constructor
  · rintro ⟨⟨⟨⟨⟨h1, h2⟩, h3⟩, h4⟩, h5⟩, h6⟩
    exact ⟨by omega, by omega, by omega, by omega, by omega, h6⟩
  · rintro ⟨h1, h2, h3, h4, h5, h6⟩
    exact ⟨⟨⟨⟨⟨by omega, by omega⟩, by omega⟩, by omega⟩, by omega⟩, h6⟩
theorem pw_set {l : List Bx} {p : Nat} {x y : Bx} (hx : l[p]? = some x) (he : y.e = x.e) (hf : y.f = x.f) (ht : y.t = x.t) (h : l.Pairwise ltBx) : (l.set p y).Pairwise ltBx := by
  rw [List.pairwise_iff_getElem] at h ⊢
  intro i j hi hj hij
  obtain ⟨hp, rfl⟩ := List.getElem?_eq_some_iff.1 hx
  rw [List.length_set] at hi hj
  have h1 := h i j hi hj hij
  unfold ltBx at h1 ⊢
  rw [List.getElem_set, List.getElem_set]
  split
  · next e1 =>
    subst e1
    rw [if_neg (by omega), he, hf, ht]
    exact h1
  · split
    · next e2 =>
      subst e2
      rw [he, hf, ht]
      exact h1
    · exact h1
theorem pw_ins {l : List Bx} {e f t : Int} {y : Bx} (he : y.e = e) (hf : y.f = f) (ht : y.t = t) (hh : hasB l e f t = false) (h : l.Pairwise ltBx) : (l.take (posB l e f t) ++ y :: l.drop (posB l e f t)).Pairwise ltBx := by
  have hsplit : l = l.take (posB l e f t) ++ l.drop (posB l e f t) := (List.take_append_drop _ _).symm
  have h' := h
  rw [hsplit, List.pairwise_append] at h'
  obtain ⟨h1, h2, h3⟩ := h'
  have hbef : ∀ x ∈ l.take (posB l e f t), ltBx x y := fun x hx => by
    obtain ⟨i, hi⟩ := List.getElem?_of_mem hx
    rw [List.getElem?_take] at hi
    split at hi
    · next hlt =>
      have := posB_before hlt hi
      unfold ltX at this
      unfold ltBx
      rw [he, hf, ht]
      exact this
    · cases hi
  have haft : ∀ x ∈ l.drop (posB l e f t), ltBx y x := by
    cases hd : l.drop (posB l e f t) with
    | nil => intro x hx; cases hx
    | cons z zs =>
      have hz : l[posB l e f t]? = some z := by
        have : (l.drop (posB l e f t))[0]? = some z := by rw [hd]; rfl
        rwa [List.getElem?_drop, Nat.add_zero] at this
      have hyz : ltBx y z := by
        unfold ltBx
        rw [he, hf, ht]
        rcases lt3_tri e f t z.e z.f z.t with h | ⟨h1, h2, h3⟩ | h
        · exact h
        · exfalso
          unfold hasB at hh
          rw [hz] at hh
          dsimp only at hh
          rw [← h1, ← h2, ← h3, ord3_self] at hh
          cases hh
        · exact absurd h (posB_here hz)
      intro x hx
      rcases List.mem_cons.1 hx with rfl | hx
      · exact hyz
      · rw [hd, List.pairwise_cons] at h2
        exact lt3_trans hyz (h2.1 x hx)
  rw [List.pairwise_append, List.pairwise_cons]
  refine ⟨h1, ⟨haft, h2⟩, fun a ha b hb => ?_⟩
  rcases List.mem_cons.1 hb with rfl | hb
  · exact hbef a ha
  · exact h3 a ha b hb
/-- What addB makes, in its two ways. -/
theorem addB_cases (l : List Bx) (f t : Int) (m : Mg) : (∃ x, l[posB l m.e f t]? = some x ∧ x.e = m.e ∧ x.f = f ∧ x.t = t ∧ inB l m.e f t = x.l ∧ addB l f t m = l.set (posB l m.e f t) { x with l := x.l ++ [m] }) ∨ (hasB l m.e f t = false ∧ inB l m.e f t = [] ∧ addB l f t m = l.take (posB l m.e f t) ++ ⟨m.e, f, t, [m]⟩ :: l.drop (posB l m.e f t)) := by
  cases hh : hasB l m.e f t
  · refine .inr ⟨rfl, hasB_none hh, ?_⟩
    unfold addB
    rw [hh]
    split <;> rfl
  · obtain ⟨x, hx, h1, h2, h3, h4⟩ := hasB_some hh
    refine .inl ⟨x, hx, h1, h2, h3, h4, ?_⟩
    unfold addB
    rw [hx]
    dsimp only
    rw [hh]
    rfl
theorem right_add {l : List Bx} {f t : Int} {m : Mg} (h : rightB l = true) (he : 0 ≤ m.e) (hf : 0 ≤ f) (ht : 0 ≤ t) (hl : (inB l m.e f t).length < 4096) : rightB (addB l f t m) = true := by
  rw [right_iff] at h ⊢
  obtain ⟨h1, h2⟩ := h
  rcases addB_cases l f t m with ⟨x, hx, e1, e2, e3, e4, e5⟩ | ⟨hh, e4, e5⟩
  · rw [e5]
    rw [e4] at hl
    refine ⟨fun y hy => ?_, pw_set hx rfl rfl rfl h2⟩
    rcases List.mem_or_eq_of_mem_set hy with hy | rfl
    · exact h1 y hy
    · have hxo := (okB_iff x).1 (h1 x (List.mem_of_getElem? hx))
      rw [okB_iff]
      refine ⟨hxo.1, hxo.2.1, hxo.2.2.1, by simp, by simp; omega, fun m' hm' => ?_⟩
      rcases List.mem_append.1 hm' with hm' | hm'
      · exact hxo.2.2.2.2.2 m' hm'
      · obtain rfl := List.mem_singleton.1 hm'
        exact e1.symm
  · rw [e5]
    refine ⟨fun y hy => ?_, pw_ins rfl rfl rfl hh h2⟩
    rcases List.mem_append.1 hy with hy | hy
    · exact h1 y (List.mem_of_mem_take hy)
    · rcases List.mem_cons.1 hy with rfl | hy
      · rw [okB_iff]
        exact ⟨he, hf, ht, by simp, by simp, fun m' hm' => by obtain rfl := List.mem_singleton.1 hm'; rfl⟩
      · exact h1 y (List.mem_of_mem_drop hy)
theorem flat_set {l : List Bx} {p : Nat} {x y : Bx} (hx : l[p]? = some x) {ms : List Mg} (hy : List.Perm y.l (ms ++ x.l)) : List.Perm ((l.set p y).flatMap (·.l)) (ms ++ l.flatMap (·.l)) := by
  induction l generalizing p with
  | nil => simp at hx
  | cons z l ih =>
    cases p with
    | zero =>
      obtain rfl : z = x := by simpa using hx
      simp only [List.set_cons_zero, List.flatMap_cons]
      rw [← List.append_assoc]
      exact hy.append_right _
    | succ p =>
      simp only [List.set_cons_succ, List.flatMap_cons]
      have := ih (p := p) (by simpa using hx)
      refine (this.append_left z.l).trans ?_
      rw [← List.append_assoc, ← List.append_assoc]
      exact List.perm_append_comm.append_right _
theorem flat_add (l : List Bx) (f t : Int) (m : Mg) : List.Perm ((addB l f t m).flatMap (·.l)) (m :: l.flatMap (·.l)) := by
  rcases addB_cases l f t m with ⟨x, hx, -, -, -, -, e5⟩ | ⟨-, -, e5⟩
  · rw [e5]
    exact flat_set (ms := [m]) hx List.perm_append_comm
  · rw [e5, List.flatMap_append, List.flatMap_cons]
    have hsplit : l.flatMap (·.l) = (l.take (posB l m.e f t)).flatMap (·.l) ++ (l.drop (posB l m.e f t)).flatMap (·.l) := by
      rw [← List.flatMap_append, List.take_append_drop]
    rw [hsplit]
    exact List.perm_middle
theorem right_cut {l : List Bx} {p i : Nat} (h : rightB l = true) : rightB (cutB l p i) = true := by
  rw [right_iff] at h ⊢
  obtain ⟨h1, h2⟩ := h
  unfold cutB
  split
  · next x hx =>
    split
    · exact ⟨fun y hy => h1 y (List.mem_of_mem_eraseIdx hy), h2.sublist (List.eraseIdx_sublist l p)⟩
    · next hne =>
      refine ⟨fun y hy => ?_, pw_set hx rfl rfl rfl h2⟩
      rcases List.mem_or_eq_of_mem_set hy with hy | rfl
      · exact h1 y hy
      · have hxo := (okB_iff x).1 (h1 x (List.mem_of_getElem? hx))
        rw [okB_iff]
        have hle : (x.l.eraseIdx i).length ≤ x.l.length := List.length_eraseIdx_le _ _
        exact ⟨hxo.1, hxo.2.1, hxo.2.2.1, by show 1 ≤ (x.l.eraseIdx i).length; omega, by show (x.l.eraseIdx i).length ≤ 4096; omega, fun m hm => hxo.2.2.2.2.2 m (List.mem_of_mem_eraseIdx hm)⟩
  · exact ⟨h1, h2⟩
theorem erase_perm {α : Type} {l : List α} {i : Nat} {x : α} (h : l[i]? = some x) : List.Perm l (x :: l.eraseIdx i) := by
  induction l generalizing i with
  | nil => simp at h
  | cons y l ih =>
    cases i with
    | zero =>
      obtain rfl : y = x := by simpa using h
      exact .refl _
    | succ i =>
      rw [List.eraseIdx_cons_succ]
      exact ((ih (by simpa using h)).cons y).trans (.swap x y _)
theorem flat_erase {l : List Bx} {p : Nat} {x : Bx} (hx : l[p]? = some x) : List.Perm (l.flatMap (·.l)) (x.l ++ (l.eraseIdx p).flatMap (·.l)) := by
  have := (erase_perm hx).flatMap_right (fun x : Bx => x.l)
  rwa [List.flatMap_cons] at this
theorem flat_cut {l : List Bx} {p i : Nat} {x : Bx} {m : Mg} (hx : l[p]? = some x) (hm : x.l[i]? = some m) : List.Perm (l.flatMap (·.l)) (m :: (cutB l p i).flatMap (·.l)) := by
  have hp := erase_perm hm
  unfold cutB
  rw [hx]
  dsimp only
  split
  · next h0 =>
    rw [List.eq_nil_of_length_eq_zero h0] at hp
    refine (flat_erase hx).trans ?_
    exact hp.append_right _
  · have h1 := flat_erase hx
    have hlt := (List.getElem?_eq_some_iff.1 hx).1
    have hx2 : (l.set p { x with l := x.l.eraseIdx i })[p]? = some { x with l := x.l.eraseIdx i } := List.getElem?_set_self hlt
    have h2 := flat_erase hx2
    rw [List.eraseIdx_set_eq] at h2
    refine h1.trans ((hp.append_right _).trans ?_)
    rw [List.cons_append]
    exact h2.symm.cons m
/-- In each box the numbers go up. -/
def Ups (l : List Bx) : Prop := ∀ x ∈ l, x.l.Pairwise (fun a b => a.n < b.n)
theorem ups_add {l : List Bx} {f t : Int} {m : Mg} (h : Ups l) (hm : ∀ x ∈ l, ∀ a ∈ x.l, a.n < m.n) : Ups (addB l f t m) := by
  intro y hy
  rcases addB_cases l f t m with ⟨x, hx, -, -, -, -, e5⟩ | ⟨-, -, e5⟩
  · rw [e5] at hy
    rcases List.mem_or_eq_of_mem_set hy with hy | rfl
    · exact h y hy
    · have hxm := List.mem_of_getElem? hx
      rw [List.pairwise_append]
      refine ⟨h x hxm, List.pairwise_singleton _ _, fun a ha b hb => ?_⟩
      obtain rfl := List.mem_singleton.1 hb
      exact hm x hxm a ha
  · rw [e5] at hy
    rcases List.mem_append.1 hy with hy | hy
    · exact h y (List.mem_of_mem_take hy)
    · rcases List.mem_cons.1 hy with rfl | hy
      · exact List.pairwise_singleton _ _
      · exact h y (List.mem_of_mem_drop hy)
theorem ups_cut {l : List Bx} {p i : Nat} (h : Ups l) : Ups (cutB l p i) := by
  unfold cutB
  split
  · next x hx =>
    split
    · exact fun y hy => h y (List.mem_of_mem_eraseIdx hy)
    · intro y hy
      rcases List.mem_or_eq_of_mem_set hy with hy | rfl
      · exact h y hy
      · exact (h x (List.mem_of_getElem? hx)).sublist (List.eraseIdx_sublist _ _)
  · exact h
end Go.Proofs.Ytlhmifkimnmnmaa
