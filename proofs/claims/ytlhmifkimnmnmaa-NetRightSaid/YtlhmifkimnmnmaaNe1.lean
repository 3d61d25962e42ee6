/- Rows whose elements hold a row each, of any shape: what they read; rows of the call's own. No program in sight. -/
import Derived.Test.YtlhmifkimnmnmaaRk
namespace Go.Proofs.Ytlhmifkimnmnmaa
set_option linter.unusedSimpArgs false
set_option linter.unusedVariables false
open Go.RowKit

section
variable {α : Type}
def idxN (P : α → Bool) : List α → Nat
  | [] => 0
  | x :: l => if P x then 0 else idxN P l + 1
theorem idxN_at {P : α → Bool} : ∀ {l : List α} {j : Nat} {x : α}, l[j]? = some x → P x = true → (∀ (k : Nat) y, k < j → l[k]? = some y → P y = false) → idxN P l = j
  | [], j, x, h, _, _ => by simp at h
  | y :: l, 0, x, h, hp, _ => by
    obtain rfl : y = x := by simpa using h
    rw [idxN, if_pos hp]
  | y :: l, j + 1, x, h, hp, hn => by
    rw [idxN, if_neg (by rw [hn 0 y (by omega) rfl]; decide), idxN_at (j := j) (by simpa using h) hp (fun k z hk hz => hn (k + 1) z (by omega) (by simpa using hz))]
theorem any_at {P : α → Bool} {l : List α} {j : Nat} {x : α} (h : l[j]? = some x) (hp : P x = true) : l.any P = true := List.any_eq_true.2 ⟨x, List.mem_of_getElem? h, hp⟩
theorem any_no {P : α → Bool} {l : List α} (h : ∀ (k : Nat) y, l[k]? = some y → P y = false) : l.any P = false := by
  rw [List.any_eq_false]
  intro x hx
  obtain ⟨k, hk⟩ := List.getElem?_of_mem hx
  rw [h k x hk]
  decide
def idxI (P : α → Bool) (l : List α) : Int := if l.any P then (idxN P l : Int) else -1
end
theorem keep_cell {w w' : World} {b i : Nat} {u : Value} (h : w.cell? ⟨b, i, none⟩ = some u) (hx : Ext w w') : (∀ z, (ext w' z).cell? ⟨b, i, none⟩ = some u) ∧ w'.cell? ⟨b, i, none⟩ = some u := by
  obtain ⟨x, rfl⟩ := hx
  have h1 : (ext w x).cell? ⟨b, i, none⟩ = some u := by rw [cell_ext_a _ _ _ (World.block_lt_of_cell? _ _ h), h]
  exact ⟨fun z => by rw [cell_ext_a _ _ _ (World.block_lt_of_cell? _ _ h1), h1], h1⟩
theorem nat_up {n k : Nat} {e : Int} {P : Nat → Prop} (he : e = ((k + 1 : Nat) : Int)) (hk : k < n) (hP : P (k + 1)) : (∃ k' : Nat, k' ≤ n ∧ Value.int .i64 e = .int .i64 k' ∧ P k') ∧ n - (intOf (Value.int .i64 e)).toNat < n - (intOf (Value.int .i64 (k : Int))).toNat := by
  subst he
  exact ⟨⟨k + 1, hk, rfl, hP⟩, by simp only [intOf]; omega⟩
/-- Two slices are not in one block. -/
def Dif (u u' : Value) : Prop := ∀ k, u.ownBlock = some k → u'.ownBlock ≠ some k
section
variable {β : Type} (TI : TypeId) (KI : Nat) (f : List β → List Value)
/-- A list in a row of its own, new above 'b'. -/
def ElG (w : World) (b : Nat) (l : List β) (v : Value) : Prop := ∃ a c, v = .slice a l.length c ∧ w.ownsRow b TI KI (.slice a l.length c) l.length (f l)
/-- The value reads as this list. -/
def RbG (w : World) (l : List β) (v : Value) : Prop := ∃ a c, v = .slice a l.length c ∧ Rd w KI l.length (.slice a l.length c) (f l)
variable {TI KI f}
theorem RbG.on {w w' : World} {l : List β} {v : Value} (h : RbG KI f w l v) (hx : Ext w w') : RbG KI f w' l v := by
  obtain ⟨a, c, rfl, ho⟩ := h
  exact ⟨a, c, rfl, ho.of_ext hx⟩
theorem RbG.one {w : World} {l : List β} {v : Value} (h : RbG KI f w l v) : v.oneCell' = true := by
  obtain ⟨a, c, rfl, -⟩ := h
  rfl
theorem ElG.on {w w' : World} {b : Nat} {l : List β} {v : Value} (h : ElG TI KI f w b l v) (hx : Ext w w') : ElG TI KI f w' b l v := by
  obtain ⟨a, c, rfl, ho⟩ := h
  exact ⟨a, c, rfl, own_of_extY ho hx⟩
theorem ElG.rb {w : World} {b : Nat} {l : List β} {v : Value} (h : ElG TI KI f w b l v) : RbG KI f w l v := by
  obtain ⟨a, c, rfl, ho⟩ := h
  exact ⟨a, c, rfl, own_rd ho⟩
theorem ElG.base {w : World} {b b' : Nat} {l : List β} {v : Value} (h : ElG TI KI f w b l v) (hb : b' ≤ b) : ElG TI KI f w b' l v := by
  obtain ⟨a, c, rfl, ho⟩ := h
  exact ⟨a, c, rfl, own_base ho hb⟩
theorem ElG.kept {w w' : World} {b : Nat} {l : List β} {v : Value} (h : ElG TI KI f w b l v) {row : Option Nat} (hgr : w.grownBy w' row) (hne : v.ownBlock = none ∨ v.ownBlock ≠ row) : ElG TI KI f w' b l v := by
  obtain ⟨a, c, rfl, ho⟩ := h
  exact ⟨a, c, rfl, ho.kept hgr hne⟩
theorem ElG.low {w : World} {b : Nat} {l : List β} {v : Value} (h : ElG TI KI f w b l v) : ∀ k, v.ownBlock = some k → b ≤ k ∧ k < w.heap.size := by
  obtain ⟨a, c, rfl, ho⟩ := h
  exact ho.lt
theorem ElG.nil (w : World) (b : Nat) (h0 : f [] = []) : ElG TI KI f w b ([] : List β) (.slice none 0 0) := ⟨none, 0, rfl, by rw [h0]; exact World.ownsRow_nil _ _ _ _⟩
/-- A row of one type is no row of another. -/
theorem ElG.apart {w : World} {b b' n K : Nat} {l : List β} {v u : Value} {xs : List Value} {T : TypeId} (h : ElG TI KI f w b l v) (hT : T ≠ TI) (hrow : w.ownsRow b' T K u n xs) (g : Nat) (hu : u.ownBlock = some g) : v.ownBlock ≠ some g := by
  obtain ⟨a, c, rfl, ho⟩ := h
  rcases hrow.2 with ⟨rfl, -⟩ | ⟨g', cap', cur', rfl, -, hg', -⟩
  · cases hu
  · obtain rfl : g' = g := by simpa [Value.ownBlock] using hu
    rcases ho.2 with ⟨h0, -⟩ | ⟨g2, cap, cur, h0, -, hg, -⟩
    · obtain ⟨rfl, -, -⟩ := Value.slice.inj h0
      intro e
      cases e
    · obtain ⟨rfl, -, -⟩ := Value.slice.inj h0
      intro e
      obtain rfl : g2 = g' := by simpa [Value.ownBlock] using e
      rw [hg] at hg'
      have := Option.some.inj hg'
      simp only [Obj.cells.injEq] at this
      exact hT this.2.1.symm
end
/-- How an element that holds a list lies in cells. -/
structure Sh (α β : Type) where
  T : TypeId
  TI : TypeId
  K : Nat
  D : Nat
  KI : Nat
  f : List β → List Value
  cs : α → Value → List Value
  inn : α → List β
  upd : α → List β → α
  len : ∀ x u, (cs x u).length = K
  at' : ∀ x u, (cs x u)[D]? = some u
  set' : ∀ x u u' l, (cs x u).set D u' = cs (upd x l) u'
  iu : ∀ x l, inn (upd x l) = l
  hD : D < K
  hT : T ≠ TI
  one : ∀ x u, u.oneCell' = true → ∀ c ∈ cs x u, c.oneCell' = true
section
variable {α β : Type} (S : Sh α β)
def rowC : List α → List Value → List Value
  | x :: l, u :: us => S.cs x u ++ rowC l us
  | _, _ => []
variable {S}
theorem rowC_length : ∀ {l : List α} {us : List Value}, us.length = l.length → (rowC S l us).length = l.length * S.K
  | [], [], _ => by simp [rowC]
  | x :: l, u :: us, h => by
    rw [rowC, List.length_append, S.len, rowC_length (by simpa using h), List.length_cons, Nat.succ_mul]
    omega
theorem rowC_one : ∀ {l : List α} {us : List Value}, (∀ u ∈ us, u.oneCell' = true) → ∀ c ∈ rowC S l us, c.oneCell' = true
  | [], _, _, c, hc => by simp [rowC] at hc
  | _ :: _, [], _, c, hc => by simp [rowC] at hc
  | x :: l, u :: us, h, c, hc => by
    rw [rowC, List.mem_append] at hc
    rcases hc with hc | hc
    · exact S.one x u (h u List.mem_cons_self) c hc
    · exact rowC_one (fun u hu => h u (List.mem_cons_of_mem _ hu)) c hc
theorem rowC_get : ∀ {l : List α} {us : List Value} {i : Nat} {x : α} {u : Value} {j : Nat}, l[i]? = some x → us[i]? = some u → j < S.K → (rowC S l us)[i * S.K + j]? = (S.cs x u)[j]?
  | y :: l, v :: us, 0, x, u, j, hx, hu, hj => by
    obtain rfl : y = x := by simpa using hx
    obtain rfl : v = u := by simpa using hu
    rw [rowC, Nat.zero_mul, Nat.zero_add, List.getElem?_append_left (by rw [S.len]; exact hj)]
  | y :: l, v :: us, i + 1, x, u, j, hx, hu, hj => by
    rw [rowC, List.getElem?_append_right (by rw [S.len, Nat.succ_mul]; omega), S.len, show (i + 1) * S.K + j - S.K = i * S.K + j by rw [Nat.succ_mul]; omega]
    exact rowC_get (by simpa using hx) (by simpa using hu) hj
  | [], _, i, _, _, _, hx, _, _ => by simp at hx
  | _ :: _, [], i, _, _, _, _, hu, _ => by simp at hu
theorem rowC_append : ∀ {l m : List α} {us vs : List Value}, us.length = l.length → rowC S (l ++ m) (us ++ vs) = rowC S l us ++ rowC S m vs
  | [], m, [], vs, _ => by simp [rowC]
  | x :: l, m, u :: us, vs, h => by
    simp only [List.cons_append, rowC, rowC_append (l := l) (us := us) (by simpa using h), List.append_assoc]
theorem rowC_take {l : List α} {us : List Value} (h : us.length = l.length) (m : Nat) : rowC S (l.take m) (us.take m) = (rowC S l us).take (m * S.K) := by
  induction m generalizing l us with
  | zero => simp [rowC]
  | succ m ih =>
    match l, us, h with
    | [], [], _ => simp [rowC]
    | x :: l, u :: us, h =>
      simp only [List.take_succ_cons, rowC]
      rw [Nat.succ_mul, Nat.add_comm, List.take_append, S.len, List.take_of_length_le (l := S.cs x u) (by rw [S.len]; omega), Nat.add_sub_cancel_left, ih (by simpa using h)]
theorem rowC_drop {l : List α} {us : List Value} (h : us.length = l.length) (m : Nat) : rowC S (l.drop m) (us.drop m) = (rowC S l us).drop (m * S.K) := by
  induction m generalizing l us with
  | zero => simp
  | succ m ih =>
    match l, us, h with
    | [], [], _ => simp [rowC]
    | x :: l, u :: us, h =>
      simp only [List.drop_succ_cons, rowC]
      rw [Nat.succ_mul, Nat.add_comm, List.drop_append, S.len, List.drop_of_length_le (l := S.cs x u) (by rw [S.len]; omega), Nat.add_sub_cancel_left, ih (by simpa using h), List.nil_append]
theorem rowC_set : ∀ {l : List α} {us : List Value} {i : Nat} {x : α} (u' : Value) (m : List β), us.length = l.length → l[i]? = some x → (rowC S l us).set (i * S.K + S.D) u' = rowC S (l.set i (S.upd x m)) (us.set i u')
  | y :: l, v :: us, 0, x, u', m, h, hx => by
    obtain rfl : y = x := by simpa using hx
    rw [Nat.zero_mul, Nat.zero_add]
    simp only [rowC, List.set_cons_zero]
    rw [List.set_append_left _ _ (by rw [S.len]; exact S.hD), S.set' y v u' m]
  | y :: l, v :: us, i + 1, x, u', m, h, hx => by
    simp only [rowC, List.set_cons_succ]
    rw [List.set_append_right _ _ (by rw [S.len, Nat.succ_mul]; omega), S.len, show (i + 1) * S.K + S.D - S.K = i * S.K + S.D by rw [Nat.succ_mul]; omega, rowC_set u' m (by simpa using h) (by simpa using hx)]
  | [], _, i, _, _, _, _, hx => by simp at hx
  | _ :: _, [], i, _, _, _, h, _ => by simp at h
variable (S)
/-- The value reads as this list of elements. -/
def RdsG (w : World) (ls : List α) (v : Value) : Prop := ∃ a c us, v = .slice a ls.length c ∧ us.length = ls.length ∧ Rd w S.K ls.length (.slice a ls.length c) (rowC S ls us) ∧ ∀ (i : Nat) x u, ls[i]? = some x → us[i]? = some u → RbG S.KI S.f w (S.inn x) u
/-- A row of the call's own, each element's list in a row of its own. -/
def PtsG (w0 : World) (ls : List α) (v : Value) (w : World) : Prop :=
  Ext w0 w ∧ ∃ a c us, v = .slice a ls.length c ∧ us.length = ls.length ∧ w.ownsRow w0.heap.size S.T S.K (.slice a ls.length c) ls.length (rowC S ls us) ∧ (∀ (i : Nat) x u, ls[i]? = some x → us[i]? = some u → ElG S.TI S.KI S.f w w0.heap.size (S.inn x) u) ∧ ∀ (i i' : Nat) u u', i ≠ i' → us[i]? = some u → us[i']? = some u' → Dif u u'
variable {S}
theorem RdsG.on {w w' : World} {ls : List α} {v : Value} (h : RdsG S w ls v) (hx : Ext w w') : RdsG S w' ls v := by
  obtain ⟨a, c, us, rfl, hl, hr, he⟩ := h
  exact ⟨a, c, us, rfl, hl, hr.of_ext hx, fun i x u hi hu => (he i x u hi hu).on hx⟩
theorem RdsG.nil (w : World) (a : Option Addr) (c : Nat) : RdsG S w [] (.slice a 0 c) := ⟨a, c, [], rfl, rfl, by simpa [rowC] using Rd.nil w S.K a c, fun i x u h => by simp at h⟩
theorem PtsG.on {w0 w w' : World} {ls : List α} {v : Value} (h : PtsG S w0 ls v w) (hx : Ext w w') : PtsG S w0 ls v w' := by
  obtain ⟨h1, a, c, us, rfl, hl, ho, he, hd⟩ := h
  exact ⟨h1.trans hx, a, c, us, rfl, hl, own_of_extY ho hx, fun i x u hi hu => (he i x u hi hu).on hx, hd⟩
theorem PtsG.rds {w0 w : World} {ls : List α} {v : Value} (h : PtsG S w0 ls v w) : RdsG S w ls v := by
  obtain ⟨h1, a, c, us, rfl, hl, ho, he, hd⟩ := h
  exact ⟨a, c, us, rfl, hl, own_rd ho, fun i x u hi hu => (he i x u hi hu).rb⟩
theorem PtsG.up {w0 w1 w : World} {ls : List α} {v : Value} (h : PtsG S w1 ls v w) (hx : Ext w0 w1) : PtsG S w0 ls v w := by
  obtain ⟨h1, a, c, us, rfl, hl, ho, he, hd⟩ := h
  have hz := (Ext.grows hx none).size
  exact ⟨hx.trans h1, a, c, us, rfl, hl, own_base ho hz, fun i x u hi hu => (he i x u hi hu).base hz, hd⟩
/-- One of the elements, its cells. -/
theorem RdsG.at {w : World} {ls : List α} {a : Option Addr} {n c : Nat} (h : RdsG S w ls (.slice a n c)) {i : Nat} {x : α} (hi : ls[i]? = some x) :
    ∃ b off u, a = some ⟨b, off, none⟩ ∧ RbG S.KI S.f w (S.inn x) u ∧ (∀ j c, j < S.K → (S.cs x u)[j]? = some c → w.cell? ⟨b, off + i * S.K + j, none⟩ = some c) ∧ n = ls.length ∧ i < ls.length := by
  obtain ⟨a', c', us, he, hl, hr, hel⟩ := h
  obtain ⟨rfl, rfl, rfl⟩ := Value.slice.inj he
  have hlt := (List.getElem?_eq_some_iff.1 hi).1
  obtain ⟨u, hu⟩ : ∃ u, us[i]? = some u := ⟨us[i]'(by omega), List.getElem?_eq_getElem _⟩
  obtain ⟨b, off, rfl, hc⟩ := hr.cells (by omega)
  refine ⟨b, off, u, rfl, hel i x u hi hu, fun j c hj hcj => ?_, rfl, hlt⟩
  rw [Nat.add_assoc]
  exact hc _ _ ((rowC_get hi hu hj).trans hcj)
/-- One of the elements of an own row: its cells; what becomes of the whole when its list has become another. -/
theorem PtsG.at {w0 w : World} {ls : List α} {a : Option Addr} {n c : Nat} (h : PtsG S w0 ls (.slice a n c) w) {i : Nat} {x : α} (hi : ls[i]? = some x) :
    ∃ g u, a = some ⟨g, 0, none⟩ ∧ w0.heap.size ≤ g ∧ ElG S.TI S.KI S.f w w0.heap.size (S.inn x) u ∧ (∀ j c, j < S.K → (S.cs x u)[j]? = some c → w.cell? ⟨g, i * S.K + j, none⟩ = some c) ∧ u.ownBlock ≠ some g ∧ (∀ i, w.frozen? ⟨g, i, none⟩ = false) ∧ n = ls.length ∧ i < ls.length ∧
      ∀ w' m u', w.grownBy w' u.ownBlock → Ext w0 w' → ElG S.TI S.KI S.f w' w0.heap.size m u' → (∀ k, u'.ownBlock = some k → u.ownBlock = some k ∨ w.heap.size ≤ k) → w'.cell? ⟨g, i * S.K + S.D, none⟩ = some u ∧ w'.frozen? ⟨g, i * S.K + S.D, none⟩ = false ∧ PtsG S w0 (ls.set i (S.upd x m)) (.slice (some ⟨g, 0, none⟩) n c) (w'.setCell ⟨g, i * S.K + S.D, none⟩ u') := by
  obtain ⟨hx, a', c', us, hv, hln, ho, hel, hdf⟩ := h
  obtain ⟨rfl, rfl, rfl⟩ := Value.slice.inj hv
  have hlt := (List.getElem?_eq_some_iff.1 hi).1
  obtain ⟨u, hu⟩ : ∃ u, us[i]? = some u := ⟨us[i]'(by omega), List.getElem?_eq_getElem _⟩
  obtain ⟨g, rfl, hgb⟩ := own_form ho (by omega)
  obtain ⟨-, hb, -, -, hlen, cur, hg, hcs, htake⟩ := own_parts ho
  have hcell : ∀ j c, j < S.K → (S.cs x u)[j]? = some c → w.cell? ⟨g, i * S.K + j, none⟩ = some c := fun j c hj hcj => by
    have := ho.cells (g := g) rfl (i * S.K + j) c ((rowC_get hi hu hj).trans hcj)
    rwa [show (⟨g, 0, none⟩ : Addr).add (i * S.K + j) = ⟨g, 0 + (i * S.K + j), none⟩ by unfold Addr.add; split <;> simp_all, Nat.zero_add] at this
  have hu1 := hel i x u hi hu
  have hap := hu1.apart S.hT ho g rfl
  have hc := hcell S.D u S.hD (S.at' x u)
  refine ⟨g, u, rfl, hgb, hu1, hcell, hap, fun i => frozen_row hg, rfl, hlt, fun w' m u' hgr hx' hel' hat => ?_⟩
  have ho' := ho.kept hgr (.inr (fun e => hap e.symm))
  have hglt : g < w.heap.size := World.block_lt_of_cell? _ _ hc
  have hbl := hgr.block g hglt (fun e => hap e.symm)
  obtain ⟨-, -, -, -, -, cur', hg', -, -⟩ := own_parts ho'
  have hc' : w'.cell? ⟨g, i * S.K + S.D, none⟩ = some u := by rw [World.cell?_of_block (a := ⟨g, i * S.K + S.D, none⟩) hbl]; exact hc
  refine ⟨hc', frozen_row hg', ?_⟩
  have hgr2 := put_grown w' g (i * S.K + S.D) u'
  have hu'g : u'.ownBlock ≠ some g := hel'.apart S.hT ho' g rfl
  have keep : ∀ l2 u2, ElG S.TI S.KI S.f w' w0.heap.size l2 u2 → u2.ownBlock ≠ some g → ElG S.TI S.KI S.f (w'.setCell ⟨g, i * S.K + S.D, none⟩ u') w0.heap.size l2 u2 := fun l2 u2 h2 hne => h2.kept hgr2 (.inr hne)
  have hset := own_put ho' u' (off := i * S.K + S.D)
  rw [rowC_set u' m hln hi] at hset
  refine ⟨hx'.grown hgr2 (fun k hk => by obtain rfl : g = k := (by simpa using hk); exact hb), some ⟨g, 0, none⟩, c, us.set i u', by rw [List.length_set], by rw [List.length_set, List.length_set]; exact hln, by rw [List.length_set]; exact hset, fun j y u2 hj hu2 => ?_, fun j j' p q hne hp hq => ?_⟩
  · by_cases hie : i = j
    · subst hie
      rw [List.getElem?_set_self (by omega)] at hj hu2
      cases hj
      cases hu2
      rw [S.iu]
      exact keep _ _ hel' hu'g
    · rw [List.getElem?_set_ne hie] at hj hu2
      have h2 := hel j y u2 hj hu2
      have hdif := hdf j i u2 u (fun e => hie e.symm) hu2 hu
      refine keep _ _ (h2.kept hgr ?_) (h2.apart S.hT ho g rfl)
      cases hb : u2.ownBlock with
      | none => exact .inl rfl
      | some k => exact .inr (fun e => hdif k hb e.symm)
  · have old : ∀ (j : Nat) p, i ≠ j → us[j]? = some p → Dif u' p ∧ Dif p u' := fun j p hie hp => by
      have hdif := hdf i j u p hie hu hp
      obtain ⟨y, hy⟩ : ∃ y, ls[j]? = some y := ⟨ls[j]'(by have := (List.getElem?_eq_some_iff.1 hp).1; omega), List.getElem?_eq_getElem _⟩
      have hlow := (hel j y p hy hp).low
      have h1 : Dif u' p := fun k hk e => by
        rcases hat k hk with h3 | h3
        · exact hdif k h3 e
        · have := (hlow k e).2
          omega
      exact ⟨h1, fun k hk e => h1 k e hk⟩
    by_cases h1 : i = j
    · subst h1
      rw [List.getElem?_set_self (by omega)] at hp
      rw [List.getElem?_set_ne hne] at hq
      cases hp
      exact (old j' q hne hq).1
    · rw [List.getElem?_set_ne h1] at hp
      by_cases h2 : i = j'
      · subst h2
        rw [List.getElem?_set_self (by omega)] at hq
        cases hq
        exact (old j p h1 hp).2
      · rw [List.getElem?_set_ne h2] at hq
        exact hdf j j' p q hne hp hq
/-- Another outer row with some of the elements, or with a new one. -/
theorem PtsG.re {w0 w w' : World} {ls ls' : List α} {v : Value} (h : PtsG S w0 ls v w) (hgr : w.grownBy w' v.ownBlock) {b : Option Addr} {c' : Nat} {F : List Value → List Value} (hF : ∀ us, us.length = ls.length → (F us).length = ls'.length)
    (hrow : ∀ us, us.length = ls.length → w.ownsRow w0.heap.size S.T S.K v ls.length (rowC S ls us) → w'.ownsRow w0.heap.size S.T S.K (.slice b ls'.length c') ls'.length (rowC S ls' (F us)))
    (hel : ∀ us, us.length = ls.length → ∀ (i : Nat) x u, ls'[i]? = some x → (F us)[i]? = some u → (u = .slice none 0 0 ∧ S.inn x = [] ∧ S.f [] = []) ∨ ∃ j : Nat, ls[j]? = some x ∧ us[j]? = some u)
    (hinj : ∀ us, us.length = ls.length → ∀ (i i' : Nat) u u', i ≠ i' → (F us)[i]? = some u → (F us)[i']? = some u' → u = .slice none 0 0 ∨ u' = .slice none 0 0 ∨ ∃ j j' : Nat, j ≠ j' ∧ us[j]? = some u ∧ us[j']? = some u') : PtsG S w0 ls' (.slice b ls'.length c') w' := by
  obtain ⟨hx, a, c, us, rfl, hln, ho, he, hd⟩ := h
  refine ⟨hx.grown hgr (fun k hk => (ho.lt k hk).1), b, c', F us, rfl, hF us hln, hrow us hln ho, fun i x u hi hu => ?_, fun i i' u u' hne hu hu' => ?_⟩
  · rcases hel us hln i x u hi hu with ⟨rfl, h1, h0⟩ | ⟨j, hj, hju⟩
    · rw [h1]
      exact ElG.nil _ _ h0
    · have h2 := he j x u hj hju
      refine h2.kept hgr ?_
      cases hb : (Value.slice a ls.length c).ownBlock with
      | none =>
        cases hu2 : u.ownBlock with
        | none => exact .inl rfl
        | some k => exact .inr (by simp)
      | some g => exact .inr (h2.apart S.hT ho g hb)
  · rcases hinj us hln i i' u u' hne hu hu' with rfl | rfl | ⟨j, j', h1, h2, h3⟩
    · intro k hk; cases hk
    · intro k hk e; cases e
    · exact hd j j' u u' h1 h2 h3
end
end Go.Proofs.Ytlhmifkimnmnmaa
