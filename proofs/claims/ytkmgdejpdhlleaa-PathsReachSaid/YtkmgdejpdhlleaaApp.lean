/- Slices, own rows, new rows, append. -/
import Derived.Test.YtkmgdejpdhlleaaMem
import Derived.OwnWalk
import Derived.Deep.AppendLies
import Derived.Deep.RegionLaw
import Derived.Maps.AppendAt
namespace Go.Proofs.Ytkmgdejpdhlleaa
set_option linter.unusedSimpArgs false
set_option linter.unusedVariables false
set_option maxRecDepth 100000
open Go.RowKit

theorem own_base {w : World} {b b' : Nat} {e : TypeId} {size n : Nat} {v : Value} {xs : List Value} (h : w.ownsRow b e size v n xs) (hb : b' ≤ b) : w.ownsRow b' e size v n xs := by
  obtain ⟨h1, h2⟩ := h
  refine ⟨h1, ?_⟩
  rcases h2 with h2 | ⟨g, cap, cur, hv, hg, r⟩
  · exact .inl h2
  · exact .inr ⟨g, cap, cur, hv, by omega, r⟩
theorem own_ext {w : World} {b : Nat} {e : TypeId} {size n : Nat} {v : Value} {xs : List Value} (h : w.ownsRow b e size v n xs) (x : Inc) : (ext w x).ownsRow b e size v n xs :=
  h.kept (row := none) ⟨rfl, rfl, rfl, by simp, fun k hk _ => ext_get w x k hk⟩ (by cases hv : v.ownBlock <;> simp)

section
variable {P : Program} {ops : Array Oper} {rest : List Oper} {o : Oper} {a : Act} {Q : Exit → Act → World → Prop}

/-- 'append(v, x..)' onto a row of the call's own, what is appended lying in a block that was just laid. -/
theorem wpList_push (hgd : o.guard = none) (s x : Operand) (t : TypeId)
    (ho : o.op = .call { callee := .builtin .append, args := #[s, x], argTypes := #[t, t] })
    (e : TypeId) (z : Value) (size bytes : Nat) (ht : P.underlying t = some (.slice e)) (hi : (P.info? e).map (fun i => (i.zero, i.size, i.bytes)) = some (some z, size, bytes))
    (hzs : z.cells.size = size) (hsz : 0 < size)
    (w0 : World) (i : Inc) (base : Nat) (v : Value) (n : Nat) (xs : List Value) (hown : (ext w0 i).ownsRow base e size v n xs)
    (h m c : Nat) (cs : Array Value) (hs : a.eval s = v) (hx : a.eval x = .slice (some ⟨h, 0, none⟩) m c) (hcs : cs.size = m * size) (hone : ∀ u ∈ cs.toList, u.oneCell' = true)
    (hm : 0 < m) (hh : h = (ext w0 i).heap.size) (h63 : n + m ≤ maxLen) (hbytes : (n + m) * bytes ≤ 140737488355328) (hb : base ≤ (ext w0 i).heap.size) (hb0 : w0.heap.size ≤ base)
    (k : ∀ g cap y, (ext w0 y).ownsRow base e size (.slice (some ⟨g, 0, none⟩) (n + m) cap) (n + m) (xs ++ cs.toList) → wpList P ops Q rest (a.put o.dst (.slice (some ⟨g, 0, none⟩) (n + m) cap)) (ext w0 y)) :
    wpList P ops Q (o :: rest) a ((ext w0 i).alloc (.cells cs e)) := by
  obtain ⟨i0, hi0, hz0, hz1, hz2⟩ := info_parts hi
  subst hh
  refine wpList_plain hgd fun K hK => ?_
  refine wp_append_lies _ s x t ho base e i0 z size bytes ht hi0 hz0 hz1 hz2 hzs hsz v n xs hs (hown.alloc _) ⟨(ext w0 i).heap.size, 0, none⟩ m c cs.toList hx (by simpa using hcs) ?_ hone hm h63 hbytes
    (by rw [World.size_alloc]; omega) _ rfl ?_
  · exact World.news_of_block (cs := cs) (t := e) (fr := (0, 0)) (heap_alloc_new (ext w0 i) _)
  · intro g cap w1 hown1 hgrow _ _
    obtain ⟨y, rfl⟩ : Ext w0 w1 := (((Ext.refl w0).ext i).alloc _).grown hgrow (fun k hk => by
      have := (hown.lt k hk).1
      omega)
    exact hK _ _ (k g cap y hown1)

end
section
variable {P : Program} {ops : Array Oper} {rest : List Oper} {o : Oper} {a : Act} {Q : Exit → Act → World → Prop}

/-- 'append(v, x..)' onto a row of the call's own, what is appended lying in a block that was just laid. -/
theorem wpList_pushF (hgd : o.guard = none) (s x : Operand) (t : TypeId)
    (ho : o.op = .call { callee := .builtin .append, args := #[s, x], argTypes := #[t, t] })
    (e : TypeId) (z : Value) (size bytes : Nat) (ht : P.underlying t = some (.slice e)) (hi : (P.info? e).map (fun i => (i.zero, i.size, i.bytes)) = some (some z, size, bytes))
    (hzs : z.cells.size = size) (hsz : 0 < size)
    (w0 : World) (i : Inc) (base : Nat) (v : Value) (n : Nat) (xs : List Value) (hown : (ext w0 i).ownsRow base e size v n xs)
    (h m c : Nat) (cs : Array Value) (hs : a.eval s = v) (hx : a.eval x = .slice (some ⟨h, 0, none⟩) m c) (hcs : cs.size = m * size) (hone : ∀ u ∈ cs.toList, u.oneCell' = true)
    (hm : 0 < m) (hh : h = (ext w0 i).heap.size) (h63 : n + m ≤ maxLen) (hbytes : (n + m) * bytes ≤ 140737488355328) (hb : base ≤ (ext w0 i).heap.size) (hb0 : w0.heap.size ≤ base)
    (k : ∀ g cap y, (ext w0 y).ownsRow base e size (.slice (some ⟨g, 0, none⟩) (n + m) cap) (n + m) (xs ++ cs.toList) → (ext w0 i).grownBy (ext w0 y) v.ownBlock → (v.ownBlock = some g ∨ (ext w0 i).heap.size ≤ g) → wpList P ops Q rest (a.put o.dst (.slice (some ⟨g, 0, none⟩) (n + m) cap)) (ext w0 y)) :
    wpList P ops Q (o :: rest) a ((ext w0 i).alloc (.cells cs e)) := by
  obtain ⟨i0, hi0, hz0, hz1, hz2⟩ := info_parts hi
  subst hh
  refine wpList_plain hgd fun K hK => ?_
  refine wp_append_lies _ s x t ho base e i0 z size bytes ht hi0 hz0 hz1 hz2 hzs hsz v n xs hs (hown.alloc _) ⟨(ext w0 i).heap.size, 0, none⟩ m c cs.toList hx (by simpa using hcs) ?_ hone hm h63 hbytes
    (by rw [World.size_alloc]; omega) _ rfl ?_
  · exact World.news_of_block (cs := cs) (t := e) (fr := (0, 0)) (heap_alloc_new (ext w0 i) _)
  · intro g cap w1 hown1 hgrow hat _
    obtain ⟨y, rfl⟩ : Ext w0 w1 := (((Ext.refl w0).ext i).alloc _).grown hgrow (fun k hk => by
      have := (hown.lt k hk).1
      omega)
    refine hK _ _ (k g cap y hown1 ⟨hgrow.os, hgrow.tape, hgrow.output, Nat.le_trans (by simp) hgrow.size, fun b hb' hne => ?_⟩ ?_)
    · rw [hgrow.block b (by rw [World.size_alloc]; omega) hne, Below.heap_alloc _ _ _ hb']
    · rcases hat with h | h
      · exact .inl h
      · rw [World.size_alloc] at h; exact .inr (by omega)

end
/-- 'v' is a slice of 'n' elements of 'k' cells each, and its cells are 'cs'. -/
def Rd (w : World) (k n : Nat) (v : Value) (cs : List Value) : Prop :=
  cs.length = n * k ∧ ∃ a cap, v = .slice a n cap ∧ (0 < n → ∃ b off, a = some ⟨b, off, none⟩ ∧ ∀ i u, cs[i]? = some u → w.cell? ⟨b, off + i, none⟩ = some u)
theorem Rd.len {w : World} {k n : Nat} {v : Value} {cs : List Value} (h : Rd w k n v cs) : cs.length = n * k := h.1
theorem Rd.form {w : World} {k n : Nat} {v : Value} {cs : List Value} (h : Rd w k n v cs) : ∃ a cap, v = .slice a n cap := by
  obtain ⟨_, a, cap, hv, _⟩ := h
  exact ⟨a, cap, hv⟩
theorem Rd.of_ext {w w' : World} {k n : Nat} {v : Value} {cs : List Value} (h : Rd w k n v cs) (hx : Ext w w') : Rd w' k n v cs := by
  obtain ⟨h1, a, cap, hv, h2⟩ := h
  obtain ⟨x, rfl⟩ := hx
  refine ⟨h1, a, cap, hv, fun hn => ?_⟩
  obtain ⟨b, off, ha, hc⟩ := h2 hn
  refine ⟨b, off, ha, fun i u hu => ?_⟩
  have := hc i u hu
  rw [cell_ext_a _ _ _ (World.block_lt_of_cell? _ _ this), this]
theorem Rd.nil (w : World) (k : Nat) (a : Option Addr) (cap : Nat) : Rd w k 0 (.slice a 0 cap) [] := ⟨by simp, a, cap, rfl, fun h => absurd h (Nat.lt_irrefl 0)⟩
/-- The cells of a slice that is not empty. -/
theorem Rd.cells {w : World} {k n : Nat} {a : Option Addr} {cap : Nat} {cs : List Value} (h : Rd w k n (.slice a n cap) cs) (hn : 0 < n) : ∃ b off, a = some ⟨b, off, none⟩ ∧ ∀ i u, cs[i]? = some u → w.cell? ⟨b, off + i, none⟩ = some u := by
  obtain ⟨_, a', cap', hv, h2⟩ := h
  obtain ⟨rfl, _, rfl⟩ := Value.slice.inj hv
  exact h2 hn
/-- A row of the call's own reads. -/
theorem own_rd {w : World} {b : Nat} {e : TypeId} {k n : Nat} {v : Value} {cs : List Value} (h : w.ownsRow b e k v n cs) : Rd w k n v cs := by
  obtain ⟨h1, h2⟩ := id h
  rcases h2 with ⟨rfl, rfl⟩ | ⟨g, cap, cur, rfl, hg, _⟩
  · obtain rfl : cs = [] := by simpa using h1
    exact Rd.nil _ _ _ _
  · refine ⟨h1, _, _, rfl, fun _ => ⟨g, 0, rfl, fun i u hu => ?_⟩⟩
    have := World.ownsRow.cells h (g := g) rfl i u hu
    rwa [show (⟨g, 0, none⟩ : Addr).add i = ⟨g, 0 + i, none⟩ by unfold Addr.add; split <;> simp_all] at this
/-- The tail of a slice. -/
theorem Rd.tail {w : World} {k n : Nat} {b off cap : Nat} {cs : List Value} (h : Rd w k (n + 1) (.slice (some ⟨b, off, none⟩) (n + 1) cap) cs) (a : Option Addr) (cap' : Nat) (ha : 0 < n → a = some ⟨b, off + k, none⟩) : Rd w k n (.slice a n cap') (cs.drop k) := by
  have hl := h.len
  obtain ⟨b', off', hb, hc⟩ := h.cells (by omega)
  obtain ⟨rfl, rfl⟩ : b = b' ∧ off = off' := by simpa using hb
  refine ⟨by rw [List.length_drop, hl, Nat.succ_mul]; omega, a, cap', rfl, fun hn => ⟨b, off + k, ha hn, fun i u hu => ?_⟩⟩
  rw [List.getElem?_drop] at hu
  have := hc _ _ hu
  rwa [show off + (k + i) = off + k + i by omega] at this
/-- A slice of numbers. -/
def Ri (w : World) (k : IntKind) (v : Value) (xs : List Int) : Prop := Rd w 1 xs.length v (xs.map (Value.int k))
theorem Ri.of_ext {w w' : World} {k : IntKind} {v : Value} {xs : List Int} (h : Ri w k v xs) (hx : Ext w w') : Ri w' k v xs := Rd.of_ext h hx
theorem Ri.cell {w : World} {k : IntKind} {b off n cap : Nat} {xs : List Int} (h : Ri w k (.slice (some ⟨b, off, none⟩) n cap) xs) (i : Nat) (hi : i < xs.length) : w.cell? ⟨b, off + i, none⟩ = some (.int k xs[i]) := by
  obtain ⟨a, cap', hv⟩ := Rd.form h
  obtain ⟨rfl, rfl, rfl⟩ := Value.slice.inj hv
  obtain ⟨b', off', hb, hc⟩ := Rd.cells h (by omega)
  obtain ⟨rfl, rfl⟩ : b = b' ∧ off = off' := by simpa using hb
  exact hc i _ (by simp [hi])
theorem Ri.form {w : World} {k : IntKind} {v : Value} {xs : List Int} (h : Ri w k v xs) : ∃ a cap, v = .slice a xs.length cap ∧ (0 < xs.length → ∃ b off, a = some ⟨b, off, none⟩) := by
  obtain ⟨a, cap, rfl⟩ := Rd.form h
  exact ⟨a, cap, rfl, fun hn => by obtain ⟨b, off, h1, _⟩ := Rd.cells h hn; exact ⟨b, off, h1⟩⟩

section
variable {P : Program} {ops : Array Oper} {rest : List Oper} {o : Oper} {a : Act} {Q : Exit → Act → World → Prop}
end
theorem ext_get_new (w : World) (x : Inc) (g : Nat) (hg : w.heap.size ≤ g) : (ext w x).heap[g]? = x.hs[g - w.heap.size]? := by
  rw [heap_ext, Array.getElem?_append_right hg]
  simp
/-- The block 'g' is one of the new ones, and its first cells are 'cs'. -/
class InNew (N : Nat) (x : Inc) (g : Nat) (cs : outParam (List Value)) : Prop where
  low : N ≤ g
  out : ∃ (cur : Array Value) (t : TypeId), x.hs[g - N]? = some (.cells cur t (0, 0)) ∧ ∃ n, cur.toList.take n = cs
instance inNew_add (N : Nat) (x y : Inc) (g : Nat) (cs : List Value) [h : InNew N x g cs] : InNew N (x.add y) g cs := ⟨h.low, by
  obtain ⟨cur, t, h1, h2⟩ := h.out
  refine ⟨cur, t, ?_, h2⟩
  have hl := (List.getElem?_eq_some_iff.1 h1).1
  simp only [Inc.add]
  rw [List.getElem?_append_left hl, h1]⟩
instance inNew_later (N : Nat) (x y : Inc) (g : Nat) (cs : List Value) [h : InNew (N + x.hs.length) y g cs] : InNew N (x.add y) g cs := ⟨by have := h.low; omega, by
  obtain ⟨cur, t, h1, h2⟩ := h.out
  refine ⟨cur, t, ?_, h2⟩
  have := h.low
  simp only [Inc.add]
  rw [List.getElem?_append_right (by omega), show g - N - x.hs.length = g - (N + x.hs.length) by omega, h1]⟩
@[go_sem] theorem cell_new (w : World) (x : Inc) (g i : Nat) {N : Nat} {cs : List Value} [hs : SizeIs w N] [h : InNew N x g cs] (hi : i < cs.length) : (ext w x).cell? ⟨g, i, none⟩ = some cs[i] := by
  obtain ⟨cur, t, h1, n, h2⟩ := h.out
  have hb : (ext w x).heap[g]? = some (.cells cur t (0, 0)) := by
    rw [ext_get_new _ _ _ (by rw [hs.out]; exact h.low), hs.out, h1]
  rw [cell_of_row _ g i cur t (0, 0) hb]
  subst h2
  simp only [List.length_take, Array.length_toList] at hi
  simp only [List.getElem_take, Array.getElem_toList]
  exact Array.getElem?_eq_getElem (by omega)
/-- The form of a row of the call's own that is not empty. -/
theorem own_form {w : World} {b : Nat} {e : TypeId} {k n c : Nat} {a : Option Addr} {cs : List Value} (h : w.ownsRow b e k (.slice a n c) n cs) (hn : 0 < n) : ∃ g, a = some ⟨g, 0, none⟩ ∧ b ≤ g := by
  obtain ⟨g, cap, hv, h1, _⟩ := h.form hn
  obtain ⟨rfl, _, _⟩ := Value.slice.inj hv
  exact ⟨g, rfl, h1⟩

/-- A slice's block is none below 'B'. -/
def New (B : Nat) : Value → Prop
  | .slice (some a) _ _ => B ≤ a.block
  | _ => True
theorem New.low {B B' : Nat} {v : Value} (h : New B v) (hb : B' ≤ B) : New B' v := by
  cases v with
  | slice a n c =>
    cases a with
    | none => trivial
    | some a => exact Nat.le_trans hb h
  | _ => trivial
section
variable {P : Program} {ops : Array Oper} {rest : List Oper} {o : Oper} {a : Act} {Q : Exit → Act → World → Prop}
end
section
variable {P : Program}
theorem run_app_nil {w : World} {base n size c : Nat} {t ty e : TypeId} {i : TypeInfo} {v : Value} {xs : List Value} (ht : P.underlying t = some (.slice e)) (hi : P.info? e = some i) (hown : w.ownsRow base e size v n xs) :
    (Builtin.append_ #[t, t] ty #[v, .slice none 0 c]).run P w = .ok v w := by
  rcases hown.2 with ⟨rfl, _⟩ | ⟨g, cap, cur, rfl, _, _, hnc, _⟩
  · simp [Builtin.append_, run_underlying ht, sizeOf, typeInfo, hi, Builtin.lenOf, Builtin.firstCells]
  · simp [Builtin.append_, run_underlying ht, sizeOf, typeInfo, hi, Builtin.lenOf, Builtin.firstCells, hnc, storeCells]

theorem run_app {w : World} (t ty : TypeId) (e : TypeId) (z : Value) (size bytes : Nat) (ht : P.underlying t = some (.slice e)) (hi : (P.info? e).map (fun i => (i.zero, i.size, i.bytes)) = some (some z, size, bytes)) (hzs : z.cells.size = size) (hsz : 0 < size)
    (w0 : World) (hx0 : Ext w0 w) (base : Nat) (v : Value) (n : Nat) (xs : List Value) (hown : w.ownsRow base e size v n xs)
    (m : Nat) (u : Value) (cs : List Value) (hr : Rd w size m u cs) (hone : ∀ u ∈ cs, u.oneCell' = true) (h63 : n + m ≤ maxLen) (hbytes : (n + m) * bytes ≤ 140737488355328) (hb : base ≤ w.heap.size) (hb0 : w0.heap.size ≤ base) :
    ∃ a c w', (Builtin.append_ #[t, t] ty #[v, u]).run P w = .ok (.slice a (n + m) c) w' ∧ (∃ y, w' = ext w0 y) ∧ w'.ownsRow base e size (.slice a (n + m) c) (n + m) (xs ++ cs) ∧ w.grownBy w' v.ownBlock ∧ (v.ownBlock = (Value.slice a (n + m) c).ownBlock ∨ (Value.slice a (n + m) c).ownBlock = some w.heap.size) := by
  obtain ⟨i0, hi0, hz0, hz1, hz2⟩ := info_parts hi
  obtain ⟨ad, c, rfl⟩ := hr.form
  have fin : ∀ v' w', (Builtin.append_ #[t, t] ty #[v, .slice ad m c]).run P w = .ok v' w' → w'.ownsRow base e size v' (n + m) (xs ++ cs) → w.grownBy w' v.ownBlock → (v'.ownBlock = v.ownBlock ∨ v'.ownBlock = some w.heap.size) →
      ∃ a c_1 w', (Builtin.append_ #[t, t] ty #[v, .slice ad m c]).run P w = .ok (.slice a (n + m) c_1) w' ∧ (∃ y, w' = ext w0 y) ∧ w'.ownsRow base e size (.slice a (n + m) c_1) (n + m) (xs ++ cs) ∧ w.grownBy w' v.ownBlock ∧ (v.ownBlock = (Value.slice a (n + m) c_1).ownBlock ∨ (Value.slice a (n + m) c_1).ownBlock = some w.heap.size) := by
    intro v' w' hrun h2 h3 h4
    obtain ⟨a, c', rfl⟩ := (own_rd h2).form
    obtain ⟨y, rfl⟩ : Ext w0 w' := hx0.grown h3 (fun k hk => by
      have := (hown.lt k hk).1
      omega)
    exact ⟨a, c', _, hrun, ⟨y, rfl⟩, h2, h3, h4.imp Eq.symm id⟩
  rcases Nat.eq_zero_or_pos m with h0 | h0
  · subst h0
    obtain rfl : cs = [] := by simpa using hr.len
    cases ad with
    | none => exact fin _ _ (run_app_nil ht hi0 hown) (by simpa using hown) (World.grownBy.refl w _) (.inl rfl)
    | some ad =>
      obtain ⟨v', w', hrun, h2, h3, _, h5⟩ := run_append_own_at (P := P) w base t ty e i0 z size bytes ht hi0 hz0 hz1 hz2 hzs hsz v n xs hown ad 0 c [] (by simp) (by simp) (by simp) h63 hbytes hb
      exact fin _ _ hrun h2 h3 h5
  · obtain ⟨b, off, rfl, hc⟩ := hr.cells h0
    obtain ⟨v', w', hrun, h2, h3, _, h5⟩ := run_append_own_at (P := P) w base t ty e i0 z size bytes ht hi0 hz0 hz1 hz2 hzs hsz v n xs hown ⟨b, off, none⟩ m c cs hr.len (fun j u hu => by
      rw [show (⟨b, off, none⟩ : Addr).add j = ⟨b, off + j, none⟩ by unfold Addr.add; split <;> simp_all]
      exact hc j u hu) hone h63 hbytes hb
    exact fin _ _ hrun h2 h3 h5

variable {ops : Array Oper} {rest : List Oper} {o : Oper} {a : Act} {Q : Exit → Act → World → Prop}
theorem wp_app {w : World} {K : Act → World → Prop} (s x : Operand) (t : TypeId)
    (ho : o.op = .call { callee := .builtin .append, args := #[s, x], argTypes := #[t, t] })
    (e : TypeId) (z : Value) (size bytes : Nat) (ht : P.underlying t = some (.slice e)) (hi : (P.info? e).map (fun i => (i.zero, i.size, i.bytes)) = some (some z, size, bytes)) (hzs : z.cells.size = size) (hsz : 0 < size)
    (w0 : World) (hx0 : Ext w0 w) (base : Nat) (v : Value) (n : Nat) (xs : List Value) (hown : w.ownsRow base e size v n xs)
    (m : Nat) (u : Value) (cs : List Value) (hs : a.eval s = v) (hx : a.eval x = u) (hr : Rd w size m u cs) (hone : ∀ u ∈ cs, u.oneCell' = true) (h63 : n + m ≤ maxLen) (hbytes : (n + m) * bytes ≤ 140737488355328) (hb : base ≤ w.heap.size) (hb0 : w0.heap.size ≤ base)
    (k : ∀ b c y, (ext w0 y).ownsRow base e size (.slice b (n + m) c) (n + m) (xs ++ cs) → w.grownBy (ext w0 y) v.ownBlock → (v.ownBlock = (Value.slice b (n + m) c).ownBlock ∨ (Value.slice b (n + m) c).ownBlock = some w.heap.size) → K (a.put o.dst (.slice b (n + m) c)) (ext w0 y)) : o.wp P a w K Q := by
  obtain ⟨b, c, w', hr, ⟨y, rfl⟩, h2, h3, h4⟩ := run_app (P := P) t o.type e z size bytes ht hi hzs hsz w0 hx0 base v n xs hown m u cs hr hone h63 hbytes hb hb0
  unfold Oper.wp execOp
  simp only [ho, resolve, invoke, builtin, Sem.run_bind, Sem.run_pure, Result.andThen_ok, List.map_toArray, List.map_cons, List.map_nil, hs, hx, hr]
  exact k b c y h2 h3 h4
/-- In a plain region. -/
theorem wpList_app (hgd : o.guard = none) {w : World} (s x : Operand) (t : TypeId)
    (ho : o.op = .call { callee := .builtin .append, args := #[s, x], argTypes := #[t, t] })
    (e : TypeId) (z : Value) (size bytes : Nat) (ht : P.underlying t = some (.slice e)) (hi : (P.info? e).map (fun i => (i.zero, i.size, i.bytes)) = some (some z, size, bytes)) (hzs : z.cells.size = size) (hsz : 0 < size)
    (w0 : World) (hx0 : Ext w0 w) (base : Nat) (v : Value) (n : Nat) (xs : List Value) (hown : w.ownsRow base e size v n xs)
    (m : Nat) (u : Value) (cs : List Value) (hs : a.eval s = v) (hx : a.eval x = u) (hr : Rd w size m u cs) (hone : ∀ u ∈ cs, u.oneCell' = true) (h63 : n + m ≤ maxLen) (hbytes : (n + m) * bytes ≤ 140737488355328) (hb : base ≤ w.heap.size) (hb0 : w0.heap.size ≤ base)
    (k : ∀ b c y, (ext w0 y).ownsRow base e size (.slice b (n + m) c) (n + m) (xs ++ cs) → w.grownBy (ext w0 y) v.ownBlock → (v.ownBlock = (Value.slice b (n + m) c).ownBlock ∨ (Value.slice b (n + m) c).ownBlock = some w.heap.size) → wpList P ops Q rest (a.put o.dst (.slice b (n + m) c)) (ext w0 y)) :
    wpList P ops Q (o :: rest) a w :=
  wpList_plain hgd fun _ hK => wp_app s x t ho e z size bytes ht hi hzs hsz w0 hx0 base v n xs hown m u cs hs hx hr hone h63 hbytes hb hb0 fun b c y h1 h2 h3 => hK _ _ (k b c y h1 h2 h3)
end
end Go.Proofs.Ytkmgdejpdhlleaa
