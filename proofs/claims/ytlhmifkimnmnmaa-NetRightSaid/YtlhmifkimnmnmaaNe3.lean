/- A row whose elements hold rows: one element put in, one taken out. No program in sight. -/
import Derived.Test.YtlhmifkimnmnmaaNe2
namespace Go.Proofs.Ytlhmifkimnmnmaa
set_option linter.unusedSimpArgs false
set_option linter.unusedVariables false
open Go.RowKit

section
variable {α β : Type} {S : Sh α β}
theorem pts_re {w0 w w' : World} {ls ls' : List α} {us us' : List Value} {v : Value} {b : Option Addr} {c' : Nat} (hx : Ext w0 w) (ho : w.ownsRow w0.heap.size S.T S.K v ls.length (rowC S ls us)) (he : ∀ (i : Nat) x u, ls[i]? = some x → us[i]? = some u → ElG S.TI S.KI S.f w w0.heap.size (S.inn x) u) (hd : ∀ (i i' : Nat) u u', i ≠ i' → us[i]? = some u → us[i']? = some u' → Dif u u')
    (hgr : w.grownBy w' v.ownBlock) (ho' : w'.ownsRow w0.heap.size S.T S.K (.slice b ls'.length c') ls'.length (rowC S ls' us')) (hl' : us'.length = ls'.length)
    (hel : ∀ (i : Nat) x u, ls'[i]? = some x → us'[i]? = some u → (u = .slice none 0 0 ∧ S.inn x = [] ∧ S.f [] = []) ∨ ∃ j : Nat, ls[j]? = some x ∧ us[j]? = some u)
    (hinj : ∀ (i i' : Nat) u u', i ≠ i' → us'[i]? = some u → us'[i']? = some u' → u = .slice none 0 0 ∨ u' = .slice none 0 0 ∨ ∃ j j' : Nat, j ≠ j' ∧ us[j]? = some u ∧ us[j']? = some u') : PtsG S w0 ls' (.slice b ls'.length c') w' := by
  refine ⟨hx.grown hgr (fun k hk => (ho.lt k hk).1), b, c', us', rfl, hl', ho', fun i x u hi hu => ?_, fun i i' u u' hne hu hu' => ?_⟩
  · rcases hel i x u hi hu with ⟨rfl, h1, h0⟩ | ⟨j, hj, hju⟩
    · rw [h1]
      exact ElG.nil _ _ h0
    · have h2 := he j x u hj hju
      refine h2.kept hgr ?_
      cases hb : v.ownBlock with
      | none =>
        cases hu2 : u.ownBlock with
        | none => exact .inl rfl
        | some k => exact .inr (by simp)
      | some g => exact .inr (h2.apart S.hT ho g hb)
  · rcases hinj i i' u u' hne hu hu' with rfl | rfl | ⟨j, j', h1, h2, h3⟩
    · intro k hk; cases hk
    · intro k hk e; cases e
    · exact hd j j' u u' h1 h2 h3
theorem get_ins {γ : Type} {l : List γ} {p k : Nat} {x0 x : γ} (hp : p ≤ l.length) (h : (l.take p ++ x0 :: l.drop p)[k]? = some x) : (k = p ∧ x = x0) ∨ (k < p ∧ l[k]? = some x) ∨ (p < k ∧ l[k - 1]? = some x) := by
  have ht : (l.take p).length = p := by rw [List.length_take]; omega
  rcases Nat.lt_trichotomy k p with hk | hk | hk
  · rw [List.getElem?_append_left (by omega), List.getElem?_take, if_pos hk] at h
    exact .inr (.inl ⟨hk, h⟩)
  · subst hk
    rw [List.getElem?_append_right (by omega), ht, Nat.sub_self] at h
    exact .inl ⟨rfl, by simpa using h.symm⟩
  · rw [List.getElem?_append_right (by omega), ht] at h
    obtain ⟨d, hd⟩ : ∃ d, k - p = d + 1 := ⟨k - p - 1, by omega⟩
    rw [hd, List.getElem?_cons_succ, List.getElem?_drop, show p + d = k - 1 by omega] at h
    exact .inr (.inr ⟨hk, h⟩)
theorem ins_at {γ : Type} {l : List γ} {p : Nat} {x0 : γ} (hp : p ≤ l.length) : (l.take p ++ x0 :: l.drop p)[p]? = some x0 := by
  rw [List.getElem?_append_right (by rw [List.length_take]; omega), show p - (l.take p).length = 0 by rw [List.length_take]; omega]
  rfl
theorem one_of {w w0 : World} {ls : List α} {us : List Value} (hl : us.length = ls.length) (he : ∀ (i : Nat) x u, ls[i]? = some x → us[i]? = some u → ElG S.TI S.KI S.f w w0.heap.size (S.inn x) u) : ∀ u ∈ us, u.oneCell' = true := fun u hu => by
  obtain ⟨i, hi⟩ := List.getElem?_of_mem hu
  obtain ⟨x, hx⟩ : ∃ x, ls[i]? = some x := ⟨ls[i]'(by have := (List.getElem?_eq_some_iff.1 hi).1; omega), List.getElem?_eq_getElem _⟩
  exact (he i x u hx hi).rb.one
/-- One element more, whose list is nil. -/
theorem pts_ins {w0 w w' : World} {ls : List α} {us : List Value} {v : Value} {b : Option Addr} {c' p : Nat} {x0 : α} (h0 : S.inn x0 = []) (hf : S.f [] = []) (hp : p ≤ ls.length) (hln : us.length = ls.length) (hx : Ext w0 w) (ho : w.ownsRow w0.heap.size S.T S.K v ls.length (rowC S ls us)) (he : ∀ (i : Nat) x u, ls[i]? = some x → us[i]? = some u → ElG S.TI S.KI S.f w w0.heap.size (S.inn x) u) (hd : ∀ (i i' : Nat) u u', i ≠ i' → us[i]? = some u → us[i']? = some u' → Dif u u')
    (hgr : w.grownBy w' v.ownBlock) (ho' : w'.ownsRow w0.heap.size S.T S.K (.slice b (ls.length + 1) c') (ls.length + 1) ((rowC S ls us).take (p * S.K) ++ S.cs x0 (.slice none 0 0) ++ (rowC S ls us).drop (p * S.K))) : PtsG S w0 (ls.take p ++ x0 :: ls.drop p) (.slice b (ls.length + 1) c') w' := by
  have hlen : (ls.take p ++ x0 :: ls.drop p).length = ls.length + 1 := by simp; omega
  have hrow : rowC S (ls.take p ++ x0 :: ls.drop p) (us.take p ++ .slice none 0 0 :: us.drop p) = (rowC S ls us).take (p * S.K) ++ S.cs x0 (.slice none 0 0) ++ (rowC S ls us).drop (p * S.K) := by
    rw [rowC_append (by simp; omega), rowC, rowC_take hln, rowC_drop hln, List.append_assoc]
  rw [← hrow, ← hlen] at ho'
  rw [← hlen]
  refine pts_re hx ho he hd hgr ho' (by simp; omega) (fun i x u hi hu => ?_) (fun i i' u u' hne hu hu' => ?_)
  · rcases get_ins hp hi with ⟨rfl, rfl⟩ | ⟨h1, h2⟩ | ⟨h1, h2⟩
    · rcases get_ins (by omega) hu with ⟨-, rfl⟩ | ⟨h3, -⟩ | ⟨h3, -⟩
      · exact .inl ⟨rfl, h0, hf⟩
      · omega
      · omega
    · rcases get_ins (by omega) hu with ⟨h3, -⟩ | ⟨-, h4⟩ | ⟨h3, -⟩
      · omega
      · exact .inr ⟨i, h2, h4⟩
      · omega
    · rcases get_ins (by omega) hu with ⟨h3, -⟩ | ⟨h3, -⟩ | ⟨-, h4⟩
      · omega
      · omega
      · exact .inr ⟨i - 1, h2, h4⟩
  · rcases get_ins (by omega) hu with ⟨-, rfl⟩ | ⟨h1, h2⟩ | ⟨h1, h2⟩
    · exact .inl rfl
    · rcases get_ins (by omega) hu' with ⟨-, rfl⟩ | ⟨h3, h4⟩ | ⟨h3, h4⟩
      · exact .inr (.inl rfl)
      · exact .inr (.inr ⟨i, i', hne, h2, h4⟩)
      · exact .inr (.inr ⟨i, i' - 1, by omega, h2, h4⟩)
    · rcases get_ins (by omega) hu' with ⟨-, rfl⟩ | ⟨h3, h4⟩ | ⟨h3, h4⟩
      · exact .inr (.inl rfl)
      · exact .inr (.inr ⟨i - 1, i', by omega, h2, h4⟩)
      · exact .inr (.inr ⟨i - 1, i' - 1, by omega, h2, h4⟩)
/-- One element less. -/
theorem pts_del {w0 w w' : World} {ls : List α} {us : List Value} {v : Value} {b : Option Addr} {c' p : Nat} (hp : p < ls.length) (hln : us.length = ls.length) (hx : Ext w0 w) (ho : w.ownsRow w0.heap.size S.T S.K v ls.length (rowC S ls us)) (he : ∀ (i : Nat) x u, ls[i]? = some x → us[i]? = some u → ElG S.TI S.KI S.f w w0.heap.size (S.inn x) u) (hd : ∀ (i i' : Nat) u u', i ≠ i' → us[i]? = some u → us[i']? = some u' → Dif u u')
    (hgr : w.grownBy w' v.ownBlock) (ho' : w'.ownsRow w0.heap.size S.T S.K (.slice b (ls.length - 1) c') (ls.length - 1) ((rowC S ls us).take (p * S.K) ++ (rowC S ls us).drop ((p + 1) * S.K))) : PtsG S w0 (ls.eraseIdx p) (.slice b (ls.length - 1) c') w' := by
  have hlen : (ls.eraseIdx p).length = ls.length - 1 := List.length_eraseIdx_of_lt hp
  have hlen' : (us.eraseIdx p).length = us.length - 1 := List.length_eraseIdx_of_lt (by omega)
  have hrow : rowC S (ls.eraseIdx p) (us.eraseIdx p) = (rowC S ls us).take (p * S.K) ++ (rowC S ls us).drop ((p + 1) * S.K) := by
    rw [List.eraseIdx_eq_take_drop_succ, List.eraseIdx_eq_take_drop_succ, rowC_append (by simp; omega), rowC_take hln, rowC_drop hln]
  rw [← hrow, ← hlen] at ho'
  rw [← hlen]
  refine pts_re hx ho he hd hgr ho' (by omega) (fun i x u hi hu => .inr ?_) (fun i i' u u' hne hu hu' => .inr (.inr ?_))
  · rw [List.getElem?_eraseIdx] at hi hu
    split at hi
    · next h => rw [if_pos h] at hu; exact ⟨i, hi, hu⟩
    · next h => rw [if_neg h] at hu; exact ⟨i + 1, hi, hu⟩
  · rw [List.getElem?_eraseIdx] at hu hu'
    split at hu <;> split at hu'
    · exact ⟨i, i', hne, hu, hu'⟩
    · exact ⟨i, i' + 1, by omega, hu, hu'⟩
    · exact ⟨i + 1, i', by omega, hu, hu'⟩
    · exact ⟨i + 1, i' + 1, by omega, hu, hu'⟩
end
end Go.Proofs.Ytlhmifkimnmnmaa
