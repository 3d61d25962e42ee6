/- Rows of the call's own whose elements have depth: copied, stored into, appended to. No program in sight. -/
import Derived.Test.YtmngjifcgfnogaaEn
import Derived.Test.YtmngjifcgfnogaaOwnG
namespace Go.Proofs.Ytmngjifcgfnogaa
set_option linter.unusedSimpArgs false
set_option linter.unusedVariables false
set_option maxRecDepth 100000
open Go.RowKit

theorem ow_parts {w : World} {b : Nat} {e : TypeId} {k n m c g : Nat} {xs : List Value} (h : w.ownsRow b e k (.slice (some ⟨g, 0, none⟩) m c) n xs) : m = n ∧ b ≤ g ∧ n ≤ c ∧ c ≤ maxLen ∧ xs.length = n * k ∧ ∃ cur : Array Value, w.heap[g]? = some (.cells cur e (0, 0)) ∧ cur.size = c * k ∧ cur.toList.take (n * k) = xs := by
  obtain ⟨h1, h2⟩ := h
  rcases h2 with ⟨h2, _⟩ | ⟨g', cap, cur, hv, hg, hh, hnc, hcm, hcs, htake⟩
  · cases h2
  · obtain ⟨hg', rfl, rfl⟩ := Value.slice.inj hv
    obtain rfl : g = g' := by simpa using hg'
    exact ⟨rfl, hg, hnc, hcm, h1, cur, hh, hcs, htake⟩
theorem ow_put {w : World} {b g k n c off : Nat} {e : TypeId} {xs : List Value} (h : w.ownsRow b e k (.slice (some ⟨g, 0, none⟩) n c) n xs) (u : Value) : (w.setCell ⟨g, off, none⟩ u).ownsRow b e k (.slice (some ⟨g, 0, none⟩) n c) n (xs.set off u) := by
  obtain ⟨-, hb, hnc, hcm, hlen, cur, hg, hcs, htake⟩ := ow_parts h
  refine ⟨by rw [List.length_set, hlen], .inr ⟨g, c, cur.setIfInBounds off u, rfl, hb, ?_, hnc, hcm, by rw [Array.size_setIfInBounds, hcs], ?_⟩⟩
  · simp [World.setCell, Array.getElem?_modify, hg]
  · rw [Array.toList_setIfInBounds, List.take_set, htake]
section
variable {α β : Type} {E : En α}
/-- A slice that reads is copied. -/
theorem Rs.cloned {A : Nat → Prop} {w : World} {l : List α} {v : Value} (h : Rs E A w l v) : ∃ cs, Rd w E.K l.length v cs ∧ (∀ c ∈ cs, c.oneCell' = true) ∧ ∀ w' v' T, Ext w w' → w'.ownsRow w.heap.size T E.K v' l.length cs → Ow E T w.heap.size A w' l v' := by
  obtain ⟨cs, h1, h2, h3⟩ := h.cells
  refine ⟨cs, h1, h2, fun w' v' T hx ho => ?_⟩
  obtain ⟨a, c, rfl⟩ := (own_rd ho).form
  refine ⟨a, c, cs, rfl, ho, fun i x hi => E.weak (E.keep (E.low (h3 i x hi)) (Keeps.ext hx)) (fun b hb => ?_)⟩
  rcases hb with hb | hb
  · exact .inl hb
  · exact .inr (ho.lt b hb).1
/-- One of the elements of a row of the call's own. -/
theorem Ow.at {T : TypeId} {base : Nat} {A : Nat → Prop} {w : World} {l : List α} {a : Option Addr} {n c : Nat} (h : Ow E T base A w l (.slice a n c)) {i : Nat} {x : α} (hi : l[i]? = some x) :
    ∃ g cs, a = some ⟨g, 0, none⟩ ∧ base ≤ g ∧ g < w.heap.size ∧ n = l.length ∧ i < l.length ∧ E.rd (fun b => A b ∨ b = g) w x cs ∧ (∀ (j : Nat) u, cs[j]? = some u → w.cell? ⟨g, i * E.K + j, none⟩ = some u) ∧ ∀ j, w.frozen? ⟨g, j, none⟩ = false := by
  obtain ⟨a', c', cs, he, ho, hr⟩ := h
  obtain ⟨rfl, rfl, rfl⟩ := Value.slice.inj he
  have hlt := (List.getElem?_eq_some_iff.1 hi).1
  obtain ⟨g, rfl⟩ : ∃ g, a = some ⟨g, 0, none⟩ := by
    rcases ho.2 with ⟨h2, h0⟩ | ⟨g', cap, cur, hv, _⟩
    · omega
    · exact ⟨g', (Value.slice.inj hv).1⟩
  obtain ⟨-, hb, -, -, hlen, cur, hg, hcs, htake⟩ := ow_parts ho
  refine ⟨g, _, rfl, hb, (Array.getElem?_eq_some_iff.1 hg).1, rfl, hlt, E.weak (hr i x hi) (fun b hb => ?_), fun j u hj => ?_, fun j => frozen_of_row _ _ _ _ _ hg⟩
  · rcases hb with hb | hb
    · exact .inl hb
    · exact .inr (by rw [hb]; rfl)
  · rw [List.getElem?_take] at hj
    split at hj
    · rw [List.getElem?_drop] at hj
      have := ho.cells (g := g) rfl _ u hj
      rwa [show (⟨g, 0, none⟩ : Addr).add (i * E.K + j) = ⟨g, 0 + (i * E.K + j), none⟩ by unfold Addr.add; split <;> simp_all, Nat.zero_add] at this
    · cases hj
/-- A store of one cell of an element. -/
theorem Ow.put {T : TypeId} {base : Nat} {A : Nat → Prop} {w : World} {l : List α} {g n c : Nat} (h : Ow E T base A w l (.slice (some ⟨g, 0, none⟩) n c)) {i : Nat} {x x' : α} (hi : l[i]? = some x) {j : Nat} (hj : j < E.K) (u : Value)
    (hrd : ∀ cs, E.rd (fun b => A b ∨ b = g) w x cs → E.rd (fun b => A b ∨ b = g) w x' (cs.set j u)) : Ow E T base A (w.setCell ⟨g, i * E.K + j, none⟩ u) (l.set i x') (.slice (some ⟨g, 0, none⟩) n c) := by
  obtain ⟨a', c', cs, he, ho, hr⟩ := h
  obtain ⟨rfl, rfl, rfl⟩ := Value.slice.inj he
  have hlt := (List.getElem?_eq_some_iff.1 hi).1
  obtain ⟨-, hb, -, -, hlen, cur, hg, hcs, htake⟩ := ow_parts ho
  have hk : Keeps (fun b => A b ∨ b = g) w (w.setCell ⟨g, i * E.K + j, none⟩ u) := Keeps.set (.inr rfl) u
  have hown : ∀ b, (Value.slice (some ⟨g, 0, none⟩) l.length c).ownBlock = some b ↔ b = g := fun b => ⟨fun e => (Option.some.inj e).symm, fun e => by rw [e]; rfl⟩
  refine ⟨some ⟨g, 0, none⟩, c, cs.set (i * E.K + j) u, by rw [List.length_set], by rw [List.length_set]; exact ow_put ho u, fun i' y hi' => ?_⟩
  rw [List.length_set]
  refine E.weak (A := fun b => A b ∨ b = g) ?_ (fun b hb => hb.imp id (hown b).1)
  have hir : i * E.K + E.K ≤ l.length * E.K := by rw [← Nat.succ_mul]; exact Nat.mul_le_mul_right _ hlt
  by_cases hii : i = i'
  · subst hii
    rw [List.getElem?_set_self hlt] at hi'
    obtain rfl := Option.some.inj hi'
    have h1 := hrd _ (E.weak (hr i x hi) (fun b hb => hb.imp id (hown b).2))
    have : ((cs.set (i * E.K + j) u).drop (i * E.K)).take E.K = ((cs.drop (i * E.K)).take E.K).set j u := by
      rw [List.drop_set, if_neg (by omega), Nat.add_sub_cancel_left, List.take_set]
    rw [this]
    exact E.keep h1 hk
  · rw [List.getElem?_set_ne hii] at hi'
    have h1 := E.keep (E.weak (hr i' y hi') (fun b hb => hb.imp id (hown b).2)) hk
    have : ((cs.set (i * E.K + j) u).drop (i' * E.K)).take E.K = (cs.drop (i' * E.K)).take E.K := by
      apply List.ext_getElem?
      intro q
      rw [List.getElem?_take, List.getElem?_take]
      split
      · next hq =>
        rw [List.getElem?_drop, List.getElem?_drop, List.getElem?_set_ne]
        intro e
        rcases Nat.lt_or_ge i i' with h | h
        · have := Nat.mul_le_mul_right E.K h
          rw [Nat.succ_mul] at this
          omega
        · have := Nat.mul_le_mul_right E.K (show i' + 1 ≤ i by omega)
          rw [Nat.succ_mul] at this
          omega
      · rfl
    rw [this]
    exact h1
/-- A list is put in place of another one. -/
theorem Ow.putl {T : TypeId} {base : Nat} {A : Nat → Prop} {w : World} {l : List (List α)} {g n c : Nat} (h : Ow E.list T base A w l (.slice (some ⟨g, 0, none⟩) n c)) {i : Nat} (hi : i < l.length) {x' : List α} {u : Value} (hu : Rs E (fun b => A b ∨ b = g) w x' u) : Ow E.list T base A (w.setCell ⟨g, i, none⟩ u) (l.set i x') (.slice (some ⟨g, 0, none⟩) n c) := by
  have := h.put (List.getElem?_eq_getElem hi) (x' := x') (j := 0) Nat.one_pos u (fun cs ⟨v, hv, _⟩ => ⟨u, by rw [hv]; rfl, hu⟩)
  rwa [show E.list.K = 1 from rfl, Nat.mul_one, Nat.add_zero] at this
/-- Behind an append: the row with the new elements. -/
theorem Ow.app {T : TypeId} {base : Nat} {A A' : Nat → Prop} {w : World} {l m : List α} {v u : Value} (h : Ow E T base A w l v) (hu : Rs E A' w m u) (hA : ∀ b, A b ∨ v.ownBlock = some b → A' b) :
    ∃ cs cs2, w.ownsRow base T E.K v l.length cs ∧ Rd w E.K m.length u cs2 ∧ (∀ c ∈ cs2, c.oneCell' = true) ∧ ∀ w' b c', w'.ownsRow base T E.K (.slice b (l.length + m.length) c') (l.length + m.length) (cs ++ cs2) → w.grownBy w' v.ownBlock → (v.ownBlock = (Value.slice b (l.length + m.length) c').ownBlock ∨ (Value.slice b (l.length + m.length) c').ownBlock = some w.heap.size) → Ow E T base A w' (l ++ m) (.slice b (l.length + m.length) c') := by
  obtain ⟨a, c, cs, rfl, ho, hr⟩ := h
  obtain ⟨cs2, h1, h2, h3⟩ := hu.cells
  refine ⟨cs, cs2, ho, h1, h2, fun w' b c' ho' hgr hat => ?_⟩
  refine ⟨b, c', cs ++ cs2, by rw [List.length_append], by rw [List.length_append]; exact ho', fun i x hi => ?_⟩
  rw [List.length_append]
  have hk : ∀ B : Nat → Prop, (∀ k, (Value.slice a l.length c).ownBlock = some k → B k) → Keeps B w w' := fun B hB => Keeps.grown hgr hB
  have fin : ∀ B cs', E.rd B w x cs' → (∀ k, A k ∨ (Value.slice a l.length c).ownBlock = some k → B k) → E.rd (fun k => A k ∨ (Value.slice b (l.length + m.length) c').ownBlock = some k) w' x cs' := fun B cs' hrd hB => by
    refine E.weak (E.keep (E.low hrd) (hk _ (fun k hk => .inl (hB k (.inr hk))))) (fun k hk => ?_)
    rcases hk with hk | hk
    · exact .inl (hB k (.inl hk))
    · rcases hat with h4 | h4
      · exact .inl (hB k (.inr (h4.trans hk)))
      · rw [h4] at hk
        exact .inr (Nat.le_of_eq (Option.some.inj hk))
  have hl1 : cs.length = l.length * E.K := ho.1
  by_cases hlt : i < l.length
  · rw [List.getElem?_append_left hlt] at hi
    have : ((cs ++ cs2).drop (i * E.K)).take E.K = (cs.drop (i * E.K)).take E.K := by
      have hir : i * E.K + E.K ≤ l.length * E.K := by rw [← Nat.succ_mul]; exact Nat.mul_le_mul_right _ hlt
      rw [List.drop_append_of_le_length (by omega), List.take_append_of_le_length (by rw [List.length_drop]; omega)]
    rw [this]
    exact fin _ _ (hr i x hi) (fun k hk => hk)
  · rw [List.getElem?_append_right (by omega)] at hi
    have hle : l.length * E.K ≤ i * E.K := Nat.mul_le_mul_right _ (by omega)
    have : ((cs ++ cs2).drop (i * E.K)).take E.K = (cs2.drop ((i - l.length) * E.K)).take E.K := by
      rw [List.drop_append, List.drop_of_length_le (by omega), List.nil_append, hl1, Nat.sub_mul]
    rw [this]
    exact fin _ _ (h3 _ x hi) hA
end
end Go.Proofs.Ytmngjifcgfnogaa
