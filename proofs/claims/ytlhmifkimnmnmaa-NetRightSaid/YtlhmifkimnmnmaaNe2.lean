/- A row copied, then each of its elements' lists copied. No program in sight. -/
import Derived.Test.YtlhmifkimnmnmaaNe1
namespace Go.Proofs.Ytlhmifkimnmnmaa
set_option linter.unusedSimpArgs false
set_option linter.unusedVariables false
open Go.RowKit

section
variable {α β : Type} (S : Sh α β)
/-- The first j lists are copied, the others are not yet. -/
def CopG (w0 : World) (ls : List α) (v : Value) (j : Nat) (w : World) : Prop :=
  Ext w0 w ∧ ∃ a c us, v = .slice a ls.length c ∧ us.length = ls.length ∧ w.ownsRow w0.heap.size S.T S.K (.slice a ls.length c) ls.length (rowC S ls us) ∧ (∀ (i : Nat) x u, i < j → ls[i]? = some x → us[i]? = some u → ElG S.TI S.KI S.f w w0.heap.size (S.inn x) u) ∧ (∀ (i : Nat) x u, j ≤ i → ls[i]? = some x → us[i]? = some u → RbG S.KI S.f w0 (S.inn x) u) ∧ ∀ (i i' : Nat) u u', i < j → i' < j → i ≠ i' → us[i]? = some u → us[i']? = some u' → Dif u u'
variable {S}
theorem RdsG.cells {w : World} {ls : List α} {v : Value} (h : RdsG S w ls v) : ∃ us, (∀ c ∈ rowC S ls us, c.oneCell' = true) ∧ Rd w S.K ls.length v (rowC S ls us) ∧ ∀ w' v', Ext w w' → w'.ownsRow w.heap.size S.T S.K v' ls.length (rowC S ls us) → CopG S w ls v' 0 w' := by
  obtain ⟨a, c, us, rfl, hl, hr, he⟩ := h
  refine ⟨us, rowC_one (fun u hu => ?_), hr, fun w' v' hx ho => ?_⟩
  · obtain ⟨i, hi⟩ := List.getElem?_of_mem hu
    obtain ⟨x, hx⟩ : ∃ x, ls[i]? = some x := ⟨ls[i]'(by have := (List.getElem?_eq_some_iff.1 hi).1; omega), List.getElem?_eq_getElem _⟩
    exact (he i x u hx hi).one
  · obtain ⟨a', c', rfl⟩ := (own_rd ho).form
    exact ⟨hx, a', c', us, rfl, hl, ho, fun i x u h => absurd h (Nat.not_lt_zero i), fun i x u _ hi hu => he i x u hi hu, fun i i' u u' h => absurd h (Nat.not_lt_zero i)⟩
theorem CopG.on {w0 w w' : World} {ls : List α} {v : Value} {j : Nat} (h : CopG S w0 ls v j w) (hx : Ext w w') : CopG S w0 ls v j w' := by
  obtain ⟨h1, a, c, us, rfl, hl, ho, he, hr, hd⟩ := h
  exact ⟨h1.trans hx, a, c, us, rfl, hl, own_of_extY ho hx, fun i x u hij hi hu => (he i x u hij hi hu).on hx, hr, hd⟩
theorem CopG.done {w0 w : World} {ls : List α} {v : Value} (h : CopG S w0 ls v ls.length w) : PtsG S w0 ls v w := by
  obtain ⟨h1, a, c, us, rfl, hl, ho, he, hr, hd⟩ := h
  exact ⟨h1, a, c, us, rfl, hl, ho, fun i x u hi hu => he i x u (List.getElem?_eq_some_iff.1 hi).1 hi hu, fun i i' u u' hne hu hu' => hd i i' u u' (by rw [← hl]; exact (List.getElem?_eq_some_iff.1 hu).1) (by rw [← hl]; exact (List.getElem?_eq_some_iff.1 hu').1) hne hu hu'⟩
theorem CopG.at {w0 w : World} {ls : List α} {a : Option Addr} {n c j : Nat} (h : CopG S w0 ls (.slice a n c) j w) {x : α} (hi : ls[j]? = some x) :
    ∃ g u, a = some ⟨g, 0, none⟩ ∧ RbG S.KI S.f w0 (S.inn x) u ∧ w.cell? ⟨g, j * S.K + S.D, none⟩ = some u ∧ n = ls.length ∧ j < ls.length ∧ g < w.heap.size ∧
      ∀ w' u', Ext w w' → ElG S.TI S.KI S.f w' w.heap.size (S.inn x) u' → w'.cell? ⟨g, j * S.K + S.D, none⟩ = some u ∧ w'.frozen? ⟨g, j * S.K + S.D, none⟩ = false ∧ CopG S w0 ls (.slice (some ⟨g, 0, none⟩) n c) (j + 1) (w'.setCell ⟨g, j * S.K + S.D, none⟩ u') := by
  obtain ⟨hx, a', c', us, hv, hln, ho, hel, hrs, hdf⟩ := h
  obtain ⟨rfl, rfl, rfl⟩ := Value.slice.inj hv
  have hlt := (List.getElem?_eq_some_iff.1 hi).1
  obtain ⟨u, hu⟩ : ∃ u, us[j]? = some u := ⟨us[j]'(by omega), List.getElem?_eq_getElem _⟩
  obtain ⟨g, rfl, hgb⟩ := own_form ho (by omega)
  obtain ⟨-, hb, -, -, hlen, cur, hg, hcs, htake⟩ := own_parts ho
  have hc : w.cell? ⟨g, j * S.K + S.D, none⟩ = some u := by
    have := ho.cells (g := g) rfl (j * S.K + S.D) u ((rowC_get hi hu S.hD).trans (S.at' x u))
    rwa [show (⟨g, 0, none⟩ : Addr).add (j * S.K + S.D) = ⟨g, 0 + (j * S.K + S.D), none⟩ by unfold Addr.add; split <;> simp_all, Nat.zero_add] at this
  have hgl := World.block_lt_of_cell? _ _ hc
  refine ⟨g, u, rfl, hrs j x u (Nat.le_refl _) hi hu, hc, rfl, hlt, hgl, fun w' u' hx' hel' => ?_⟩
  have ho' := own_of_extY ho hx'
  obtain ⟨-, -, -, -, -, cur', hg', -, -⟩ := own_parts ho'
  refine ⟨(keep_cell hc hx').2, frozen_row hg', ?_⟩
  have hgr2 := put_grown w' g (j * S.K + S.D) u'
  have hset := own_put ho' u' (off := j * S.K + S.D)
  have hupd := rowC_set (S := S) u' (S.inn x) hln hi
  have hself : S.cs (S.upd x (S.inn x)) u' = S.cs x u' := by
    have h1 := S.set' x u u' (S.inn x)
    have h2 := S.set' (S.upd x (S.inn x)) u' u' (S.inn x)
    have h3 := S.set' x u' u' (S.inn x)
    rw [← h3]
    apply List.ext_getElem?
    intro i
    by_cases he : S.D = i
    · subst he
      rw [List.getElem?_set_self (by rw [S.len]; exact S.hD)]
      exact (S.at' x u').symm
    · rw [List.getElem?_set_ne he]
  have hrow : rowC S (ls.set j (S.upd x (S.inn x))) (us.set j u') = rowC S ls (us.set j u') := by
    clear hupd hset hgr2 ho' hel' hc hrs hdf hel ho hlen htake hgl hv
    induction ls generalizing j us with
    | nil => rfl
    | cons y ls ih =>
      cases us with
      | nil => simp at hln
      | cons v us =>
        cases j with
        | zero =>
          obtain rfl : y = x := by simpa using hi
          simp only [List.set_cons_zero, rowC, hself]
        | succ j =>
          simp only [List.set_cons_succ, rowC]
          rw [ih (us := us) (j := j) (by simpa using hi) (by simpa using hln) (by simpa using hlt) (by simpa using hu)]
  rw [hupd, hrow] at hset
  refine ⟨(hx.trans hx').grown hgr2 (fun k hk => by obtain rfl : g = k := (by simpa using hk); exact hb), some ⟨g, 0, none⟩, c, us.set j u', rfl, by rw [List.length_set]; exact hln, hset, fun i y u2 hij hy hu2 => ?_, fun i y u2 hij hy hu2 => ?_, fun i i' p q h1 h2 hne hp hq => ?_⟩
  · by_cases hie : j = i
    · subst hie
      rw [List.getElem?_set_self (by omega)] at hu2
      cases hu2
      rw [hi] at hy
      cases hy
      exact (hel'.kept hgr2 (.inr (hel'.apart S.hT ho' g rfl))).base (by have := (Ext.grows hx none).size; omega)
    · rw [List.getElem?_set_ne hie] at hu2
      have h2 := (hel i y u2 (by omega) hy hu2).on hx'
      exact h2.kept hgr2 (.inr (h2.apart S.hT ho' g rfl))
  · rw [List.getElem?_set_ne (by omega)] at hu2
    exact hrs i y u2 (by omega) hy hu2
  · have old : ∀ (i : Nat) p, i < j → us[i]? = some p → Dif u' p ∧ Dif p u' := fun i p hij hp => by
      obtain ⟨y, hy⟩ : ∃ y, ls[i]? = some y := ⟨ls[i]'(by omega), List.getElem?_eq_getElem _⟩
      have h1 := (hel i y p hij hy hp).low
      have h2 := hel'.low
      exact ⟨fun k hk e => by have := (h1 k e).2; have := (h2 k hk).1; omega, fun k hk e => by have := (h1 k hk).2; have := (h2 k e).1; omega⟩
    by_cases e1 : j = i
    · subst e1
      rw [List.getElem?_set_self (by omega)] at hp
      rw [List.getElem?_set_ne hne] at hq
      cases hp
      exact (old i' q (by omega) hq).1
    · rw [List.getElem?_set_ne e1] at hp
      by_cases e2 : j = i'
      · subst e2
        rw [List.getElem?_set_self (by omega)] at hq
        cases hq
        exact (old i p (by omega) hp).2
      · rw [List.getElem?_set_ne e2] at hq
        exact hdf i i' p q (by omega) (by omega) hne hp hq
end
end Go.Proofs.Ytlhmifkimnmnmaa
