/- law 13: the parts of a bag, plain; rows of bags in which one is appended to. -/
import Derived.Test.YtbglfaomebokhaaDf9
import Derived.Test.YtbglfaomebokhaaNew
namespace Go.Proofs.Ytbglfaomebokhaa
set_option linter.unusedSimpArgs false
set_option linter.unusedVariables false
open Go.RowKit

def partE (l : List It) (n : Int) (e : Nat) : List It := l.filter (fun x => x.k % n == (e : Int))
def partF (l : List It) (m : Nat) : List (List It) := (List.range m).map (fun e => partE l (m : Int) e)
theorem partF_length (l : List It) (m : Nat) : (partF l m).length = m := by unfold partF; simp
theorem partF_get (l : List It) {m e : Nat} (h : e < m) : (partF l m)[e]? = some (partE l m e) := by unfold partF; simp [h]
theorem partF_nil (m : Nat) : partF [] m = List.replicate m [] := by
  apply List.ext_getElem?
  intro i
  by_cases h : i < m
  · rw [partF_get [] h, List.getElem?_replicate, if_pos h]; rfl
  · rw [List.getElem?_eq_none (by rw [partF_length]; omega), List.getElem?_eq_none (by rw [List.length_replicate]; omega)]
theorem partE_snoc {l : List It} {j : Nat} {x : It} (h : l[j]? = some x) (n : Int) (e : Nat) : partE (l.take (j + 1)) n e = partE (l.take j) n e ++ (if (x.k % n == (e : Int)) then [x] else []) := by
  rw [take_snoc h]
  unfold partE
  rw [List.filter_append]
  congr 1
  cases hc : (x.k % n == (e : Int))
  · rw [List.filter_cons_of_neg (by rw [hc]; decide)]; rfl
  · rw [List.filter_cons_of_pos (by rw [hc])]; rfl
theorem partF_yes {l : List It} {j : Nat} {x : It} (h : l[j]? = some x) {m e0 : Nat} (he : x.k % (m : Int) = (e0 : Int)) (hlt : e0 < m) : partF (l.take (j + 1)) m = (partF (l.take j) m).set e0 (partE (l.take j) m e0 ++ [x]) := by
  apply List.ext_getElem?
  intro i
  by_cases hi : i < m
  · have e := partE_snoc h (m : Int) i
    by_cases hie : e0 = i
    · subst hie
      rw [if_pos (by simp [he])] at e
      rw [partF_get _ hi, e, List.getElem?_set_self (by rw [partF_length]; exact hi)]
    · rw [if_neg (by simp [he]; omega), List.append_nil] at e
      rw [partF_get _ hi, e, List.getElem?_set_ne hie, partF_get _ hi]
  · rw [List.getElem?_eq_none (by rw [partF_length]; omega), List.getElem?_eq_none (by rw [List.length_set, partF_length]; omega)]
theorem partE_len (l : List It) (n : Int) (e : Nat) : (partE l n e).length ≤ l.length := List.length_filter_le _ _
theorem partE_right {l : List It} (h : rightB l = true) (n : Int) (e : Nat) : rightB (partE l n e) = true := by
  rw [right_iff] at h ⊢
  exact ⟨fun x hx => h.1 x (List.mem_filter.1 hx).1, h.2.filter _⟩
/-- The item looked at stands in its part behind those that were looked at. -/
theorem partE_at {l : List It} {j : Nat} {x : It} (h : l[j]? = some x) {n : Int} {e : Nat} (he : (x.k % n == (e : Int)) = true) : (partE l n e)[(partE (l.take j) n e).length]? = some x := by
  have e1 : l = l.take (j + 1) ++ l.drop (j + 1) := (List.take_append_drop _ _).symm
  have e2 := partE_snoc h n e
  rw [he, if_pos rfl] at e2
  have e3 : partE l n e = partE (l.take (j + 1)) n e ++ partE (l.drop (j + 1)) n e := by
    conv => lhs; rw [e1]
    unfold partE
    rw [List.filter_append]
  rw [e3, e2, List.append_assoc, List.getElem?_append_right (Nat.le_refl _), Nat.sub_self]
  rfl
theorem cnt_part (l : List It) (n : Int) (e : Nat) (s : Int × Int) : cnt (partE l n e) s = if s.1 % n = (e : Int) then cnt l s else 0 := by
  unfold partE
  induction l with
  | nil => simp [cnt]
  | cons x l ih =>
    cases hx : (x.k % n == (e : Int))
    · rw [List.filter_cons_of_neg (by rw [hx]; decide), cnt, ih]
      have hx' : ¬ x.k % n = (e : Int) := fun h => by rw [h] at hx; simp at hx
      by_cases hs : x.r = s
      · have : ¬ s.1 % n = (e : Int) := by rw [← hs]; exact hx'
        rw [if_neg this, if_neg this]
      · rw [if_neg hs, Int.zero_add]
    · rw [List.filter_cons_of_pos (by rw [hx]), cnt, cnt, ih]
      have hx' : x.k % n = (e : Int) := eq_of_beq hx
      by_cases hs : x.r = s
      · have : s.1 % n = (e : Int) := by rw [← hs]; exact hx'
        simp only [if_pos hs, if_pos this]
      · simp only [if_neg hs, Int.zero_add]
def accP (ls : List (List It)) : List It := ls.foldl (fun s p => joinS s p 1) []
theorem accP_snoc {ls : List (List It)} {j : Nat} {b : List It} (h : ls[j]? = some b) : accP (ls.take (j + 1)) = joinS (accP (ls.take j)) b 1 := by rw [take_snoc h]; unfold accP; rw [List.foldl_append]; rfl
theorem accP_len {N : Nat} (ls : List (List It)) : ∀ acc : List It, (∀ b ∈ ls, b.length ≤ N) → (ls.foldl (fun s p => joinS s p 1) acc).length ≤ acc.length + ls.length * N := by
  induction ls with
  | nil => intro acc _; simp
  | cons b l ih =>
    intro acc hb
    have h1 := ih (joinS acc b 1) (fun x hx => hb x (List.mem_cons_of_mem _ hx))
    have h2 := joinS_lenA acc b 1
    have h4 := hb b List.mem_cons_self
    rw [List.foldl_cons, List.length_cons, Nat.succ_mul]
    omega
theorem acc_cnt {l : List It} (hr : rightB l = true) (m : Nat) : ∀ e : Nat, e ≤ m → rightB (accP ((partF l m).take e)) = true ∧ ∀ s, 0 ≤ s.1 % (m : Int) → cnt (accP ((partF l m).take e)) s = if s.1 % (m : Int) < (e : Int) then cnt l s else 0
  | 0, _ => ⟨rfl, fun s h => by rw [if_neg (by omega)]; rfl⟩
  | e + 1, h => by
    obtain ⟨h1, h2⟩ := acc_cnt hr m e (by omega)
    have hp := partF_get l (show e < m by omega)
    rw [accP_snoc hp]
    have hpr := partE_right hr (m : Int) e
    have mm : ∀ s : Int × Int, 0 ≤ s.1 % (m : Int) := fun s => Int.emod_nonneg _ (by omega)
    have hc : ∀ s, mayB (cnt (accP ((partF l m).take e)) s + 1 * cnt (partE l m e) s) = true := fun s => by
      rw [h2 s (mm s), cnt_part]
      have := (mayB_iff _).1 (cnt_may hr s)
      rw [mayB_iff]
      split <;> split <;> omega
    refine ⟨join_right h1 _ _, fun s hs => ?_⟩
    rw [joinS_cnt (.inl rfl) h1 hpr hc s, h2 s hs, cnt_part]
    split <;> split <;> split <;> omega
theorem acc_all {l : List It} (hr : rightB l = true) {m : Nat} (hm : 1 ≤ m) : accP (partF l m) = l := by
  obtain ⟨h1, h2⟩ := acc_cnt hr m m (Nat.le_refl _)
  rw [List.take_of_length_le (by rw [partF_length]; omega)] at h1 h2
  refine right_ext h1 hr fun s => ?_
  rw [h2 s (Int.emod_nonneg _ (by omega)), if_pos (Int.emod_lt_of_pos _ (by omega))]
/-- A bag in an own row that is new above 'b'. -/
def ElB (w : World) (b : Nat) (l : List It) (v : Value) : Prop := ∃ a c, v = .slice a l.length c ∧ w.ownsRow b 30 3 (.slice a l.length c) l.length (its l)
theorem ElB.on {w w' : World} {b : Nat} {l : List It} {v : Value} (h : ElB w b l v) (hx : Ext w w') : ElB w' b l v := by
  obtain ⟨a, c, rfl, ho⟩ := h
  exact ⟨a, c, rfl, own_of_extY ho hx⟩
theorem ElB.rb {w : World} {b : Nat} {l : List It} {v : Value} (h : ElB w b l v) : Rb w l v := by
  obtain ⟨a, c, rfl, ho⟩ := h
  exact ⟨a, c, rfl, own_rd ho⟩
theorem ElB.kept {w w' : World} {b : Nat} {l : List It} {v : Value} (h : ElB w b l v) {row : Option Nat} (hgr : w.grownBy w' row) (hne : v.ownBlock = none ∨ v.ownBlock ≠ row) : ElB w' b l v := by
  obtain ⟨a, c, rfl, ho⟩ := h
  exact ⟨a, c, rfl, ho.kept hgr hne⟩
theorem ElB.low {w : World} {b : Nat} {l : List It} {v : Value} (h : ElB w b l v) : ∀ k, v.ownBlock = some k → b ≤ k ∧ k < w.heap.size := by
  obtain ⟨a, c, rfl, ho⟩ := h
  exact ho.lt
/-- A bag's row is no row of bags. -/
theorem ElB.apart {w : World} {b b' g n c : Nat} {l : List It} {v : Value} {xs : List Value} (h : ElB w b l v) (hrow : w.ownsRow b' 22 1 (.slice (some ⟨g, 0, none⟩) n c) n xs) : v.ownBlock ≠ some g := by
  obtain ⟨a, c, rfl, ho⟩ := h
  obtain ⟨-, -, -, -, -, cur', hg', -, -⟩ := own_parts hrow
  rcases ho.2 with ⟨h0, -⟩ | ⟨g2, cap, cur, h0, -, hg, -⟩
  · obtain ⟨rfl, -, -⟩ := Value.slice.inj h0
    intro e
    cases e
  · obtain ⟨rfl, -, -⟩ := Value.slice.inj h0
    intro e
    obtain rfl : g2 = g := by simpa [Value.ownBlock] using e
    rw [hg] at hg'
    simp at hg'
/-- The row of the parts: each part in a row of its own. -/
def Pts (w0 : World) (g n : Nat) (ls : List (List It)) (w : World) : Prop :=
  Ext w0 w ∧ ∃ vs, w.ownsRow w0.heap.size 22 1 (.slice (some ⟨g, 0, none⟩) n n) n vs ∧ ls.length = n ∧ (∀ (i : Nat) l u, ls[i]? = some l → vs[i]? = some u → ElB w w0.heap.size l u) ∧ ∀ (i i' : Nat) u u', i ≠ i' → vs[i]? = some u → vs[i']? = some u' → Dif u u'
theorem Pts.on {w0 w w' : World} {g n : Nat} {ls : List (List It)} (h : Pts w0 g n ls w) (hx : Ext w w') : Pts w0 g n ls w' := by
  obtain ⟨h1, vs, h2, h3, h4, h5⟩ := h
  exact ⟨h1.trans hx, vs, own_of_extY h2 hx, h3, fun i l u hi hu => (h4 i l u hi hu).on hx, h5⟩
theorem Pts.rbs {w0 w : World} {g n : Nat} {ls : List (List It)} (h : Pts w0 g n ls w) : Rbs w ls (.slice (some ⟨g, 0, none⟩) n n) := by
  obtain ⟨h1, vs, h2, h3, h4, h5⟩ := h
  subst h3
  exact ⟨_, _, vs, rfl, own_rd h2, fun i l u hi hu => (h4 i l u hi hu).rb⟩
theorem made_pts (w : World) (n : Nat) (hn : n ≤ 1000000) : Pts w w.heap.size n (List.replicate n []) (w.alloc (.cells (madeCells #[.slice none 0 0] n) 22)) := by
  have hm : (madeCells #[Value.slice none 0 0] n).toList = List.replicate n (.slice none 0 0) := toList_madeCells_one _ n
  have hs : (madeCells #[Value.slice none 0 0] n).size = n := size_madeCells _ n
  refine ⟨(Ext.refl w).alloc _, List.replicate n (.slice none 0 0), ⟨by rw [List.length_replicate, Nat.mul_one], .inr ⟨w.heap.size, n, _, rfl, Nat.le_refl _, heap_alloc_new w _, Nat.le_refl _, by unfold maxLen; omega, by rw [hs, Nat.mul_one], by rw [hm, Nat.mul_one, List.take_of_length_le (by rw [List.length_replicate]; omega)]⟩⟩, by rw [List.length_replicate], fun i l u hi hu => ?_, fun i i' u u' _ hu _ k hk => ?_⟩
  · rw [List.getElem?_replicate] at hi hu
    split at hi
    · next h =>
      rw [if_pos h] at hu
      cases hi
      cases hu
      exact ⟨none, 0, rfl, World.ownsRow_nil _ _ _ _⟩
    · cases hi
  · rw [List.getElem?_replicate] at hu
    split at hu
    · cases hu
      cases hk
    · cases hu
/-- One of the parts, as its value lies in its cell. -/
theorem Pts.at {w0 w : World} {g n : Nat} {ls : List (List It)} (h : Pts w0 g n ls w) {e0 : Nat} {l : List It} (hl : ls[e0]? = some l) :
    ∃ u, ElB w w0.heap.size l u ∧ w.cell? ⟨g, e0, none⟩ = some u ∧ u.ownBlock ≠ some g ∧ (∀ i, w.frozen? ⟨g, i, none⟩ = false) ∧
      ∀ w' l' u', w.grownBy w' u.ownBlock → Ext w0 w' → ElB w' w0.heap.size l' u' → (∀ k, u'.ownBlock = some k → u.ownBlock = some k ∨ w.heap.size ≤ k) → w'.cell? ⟨g, e0, none⟩ = some u ∧ w'.frozen? ⟨g, e0, none⟩ = false ∧ Pts w0 g n (ls.set e0 l') (w'.setCell ⟨g, e0, none⟩ u') := by
  obtain ⟨hx, vs, ho, hln, hel, hdf⟩ := h
  have hlt := (List.getElem?_eq_some_iff.1 hl).1
  obtain ⟨-, hb, -, -, hlen, cur, hg, hcs, htake⟩ := own_parts ho
  rw [Nat.mul_one] at hlen
  obtain ⟨u, hu⟩ : ∃ u, vs[e0]? = some u := ⟨vs[e0]'(by omega), List.getElem?_eq_getElem _⟩
  have hc := ho.cells (g := g) rfl e0 u hu
  rw [show (⟨g, 0, none⟩ : Addr).add e0 = ⟨g, 0 + e0, none⟩ by unfold Addr.add; split <;> simp_all, Nat.zero_add] at hc
  have hu1 := hel e0 l u hl hu
  have hap := hu1.apart ho
  refine ⟨u, hu1, hc, hap, fun i => frozen_row hg, fun w' l' u' hgr hx' hel' hat => ?_⟩
  have ho' : w'.ownsRow w0.heap.size 22 1 (.slice (some ⟨g, 0, none⟩) n n) n vs := ho.kept hgr (.inr (fun e => hap e.symm))
  have hglt : g < w.heap.size := World.block_lt_of_cell? _ _ hc
  have hbl := hgr.block g hglt (fun e => hap e.symm)
  obtain ⟨-, -, -, -, -, cur', hg', -, -⟩ := own_parts ho'
  have hc' : w'.cell? ⟨g, e0, none⟩ = some u := by rw [World.cell?_of_block (a := ⟨g, e0, none⟩) hbl]; exact hc
  refine ⟨hc', frozen_row hg', ?_⟩
  have hgr2 := put_grown w' g e0 u'
  have hu'g : u'.ownBlock ≠ some g := hel'.apart ho'
  have keep : ∀ l2 u2, ElB w' w0.heap.size l2 u2 → u2.ownBlock ≠ some g → ElB (w'.setCell ⟨g, e0, none⟩ u') w0.heap.size l2 u2 := fun l2 u2 h2 hne => h2.kept hgr2 (.inr hne)
  refine ⟨hx'.grown hgr2 (fun k hk => by obtain rfl : g = k := (by simpa using hk); exact hb), vs.set e0 u', own_put ho' u' (off := e0), by rw [List.length_set]; exact hln, fun i l2 u2 hi hu2 => ?_, fun i i' a b hne ha hb2 => ?_⟩
  · by_cases hie : e0 = i
    · subst hie
      rw [List.getElem?_set_self (by omega)] at hi hu2
      cases hi
      cases hu2
      exact keep _ _ hel' hu'g
    · rw [List.getElem?_set_ne hie] at hi hu2
      have h2 := hel i l2 u2 hi hu2
      have hdif := hdf i e0 u2 u (fun e => hie e.symm) hu2 hu
      refine keep _ _ (h2.kept hgr ?_) (h2.apart ho)
      cases hb : u2.ownBlock with
      | none => exact .inl rfl
      | some k => exact .inr (fun e => hdif k hb e.symm)
  · have old : ∀ (i : Nat) a, e0 ≠ i → vs[i]? = some a → Dif u' a ∧ Dif a u' := fun i a hie ha => by
      have hdif := hdf e0 i u a hie hu ha
      obtain ⟨la, hla⟩ : ∃ la, ls[i]? = some la := ⟨ls[i]'(by have := (List.getElem?_eq_some_iff.1 ha).1; omega), List.getElem?_eq_getElem _⟩
      have hlow := (hel i la a hla ha).low
      have h1 : Dif u' a := fun k hk e => by
        rcases hat k hk with h3 | h3
        · exact hdif k h3 e
        · have := (hlow k e).2
          omega
      exact ⟨h1, fun k hk e => h1 k e hk⟩
    by_cases h1 : e0 = i
    · subst h1
      rw [List.getElem?_set_self (by omega)] at ha
      rw [List.getElem?_set_ne hne] at hb2
      cases ha
      exact (old i' b hne hb2).1
    · rw [List.getElem?_set_ne h1] at ha
      by_cases h2 : e0 = i'
      · subst h2
        rw [List.getElem?_set_self (by omega)] at hb2
        cases hb2
        exact (old i a h1 ha).2
      · rw [List.getElem?_set_ne h2] at hb2
        exact hdf i i' a b hne ha hb2
end Go.Proofs.Ytbglfaomebokhaa
