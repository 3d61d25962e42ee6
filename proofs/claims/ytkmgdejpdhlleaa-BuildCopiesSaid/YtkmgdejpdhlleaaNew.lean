/- Cells of rows that a callee made: read by the walk. No program in sight. -/
import Derived.Test.YtkmgdejpdhlleaaOwnG
import Derived.Test.YtkmgdejpdhlleaaStop
import Derived.Deep.RegionLaw
namespace Go.Proofs.Ytkmgdejpdhlleaa
set_option linter.unusedSimpArgs false
set_option linter.unusedVariables false
set_option maxRecDepth 100000
open Go.RowKit

/-- The block 'g' is one of the new ones, and its first cells are 'cs'. -/
class InNew (N : Nat) (x : Inc) (g : Nat) (cs : outParam (List Value)) : Prop where
  low : N ≤ g
  out : ∃ (cur : Array Value) (t : TypeId), x.hs[g - N]? = some (.cells cur t (0, 0)) ∧ ∃ n, cur.toList.take n = cs
instance inNew_add (N : Nat) (x y : Inc) (g : Nat) (cs : List Value) [h : InNew N x g cs] : InNew N (x.add y) g cs := ⟨h.low, by
  obtain ⟨cur, t, h1, h2⟩ := h.out
  refine ⟨cur, t, ?_, h2⟩
  have hl := (List.getElem?_eq_some_iff.1 h1).1
  simp only [Inc.add]
  rw [List.getElem?_append_left hl, h1]⟩
instance inNew_later (N : Nat) (x y : Inc) (g : Nat) (cs : List Value) [h : InNew (N + x.hs.length) y g cs] : InNew N (x.add y) g cs := ⟨by have := h.low; omega, by
  obtain ⟨cur, t, h1, h2⟩ := h.out
  refine ⟨cur, t, ?_, h2⟩
  have := h.low
  simp only [Inc.add]
  rw [List.getElem?_append_right (by omega), show g - N - x.hs.length = g - (N + x.hs.length) by omega, h1]⟩
@[go_sem] theorem cell_new (w : World) (x : Inc) (g i : Nat) {N : Nat} {cs : List Value} [hs : SizeIs w N] [h : InNew N x g cs] (hi : i < cs.length) : (ext w x).cell? ⟨g, i, none⟩ = some cs[i] := by
  obtain ⟨cur, t, h1, n, h2⟩ := h.out
  have hb : (ext w x).heap[g]? = some (.cells cur t (0, 0)) := by
    rw [ext_get_new _ _ _ (by rw [hs.out]; exact h.low), hs.out, h1]
  rw [cell_of_row _ g i cur t (0, 0) hb]
  subst h2
  simp only [List.length_take, Array.length_toList] at hi
  simp only [List.getElem_take, Array.getElem_toList]
  exact Array.getElem?_eq_getElem (by omega)
theorem own_new {W : World} {x : Inc} {b : Nat} {e : TypeId} {k n cap g N : Nat} {cs : List Value} (h : (ext W x).ownsRow b e k (.slice (some ⟨g, 0, none⟩) n cap) n cs) (hN : W.heap.size = N) (hb : W.heap.size ≤ b) : InNew N x g cs := by
  obtain ⟨h1, h2⟩ := h
  rcases h2 with ⟨h2, _⟩ | ⟨g', cap', cur, hv, hg, hh, r⟩
  · cases h2
  · obtain ⟨hg', _, _⟩ := Value.slice.inj hv
    obtain rfl : g = g' := by simpa using hg'
    refine ⟨by omega, cur, e, ?_, n * k, r.2.2.2⟩
    rw [ext_get_new _ _ _ (by omega), hN] at hh
    exact hh
theorem own_new_as {W : World} {x : Inc} {b : Nat} {e : TypeId} {k n cap g N : Nat} {cs cs' : List Value} (h : (ext W x).ownsRow b e k (.slice (some ⟨g, 0, none⟩) n cap) n cs) (hN : W.heap.size = N) (hb : W.heap.size ≤ b) (hcs : cs = cs') : InNew N x g cs' := hcs ▸ own_new h hN hb
/-- The form of a row of the call's own that is not empty. -/
theorem own_form {w : World} {b : Nat} {e : TypeId} {k n c : Nat} {a : Option Addr} {cs : List Value} (h : w.ownsRow b e k (.slice a n c) n cs) (hn : 0 < n) : ∃ g, a = some ⟨g, 0, none⟩ ∧ b ≤ g := by
  obtain ⟨g, cap, hv, h1, _⟩ := h.form hn
  obtain ⟨rfl, _, _⟩ := Value.slice.inj hv
  exact ⟨g, rfl, h1⟩

/-- A slice's block is none below 'B'. -/
def New (B : Nat) : Value → Prop
  | .slice (some a) _ _ => B ≤ a.block
  | _ => True
theorem own_newB {w : World} {b b' : Nat} {e : TypeId} {k n : Nat} {v : Value} {xs : List Value} (h : w.ownsRow b e k v n xs) (hb : b' ≤ b) : New b' v := by
  rcases h.2 with ⟨rfl, _⟩ | ⟨g, cap, cur, rfl, hg, _⟩
  · trivial
  · exact Nat.le_trans hb hg
theorem new_same {B : Nat} {b o o' n n' c c' : Nat} (h : New B (.slice (some ⟨b, o, none⟩) n c)) : New B (.slice (some ⟨b, o', none⟩) n' c') := h
theorem new_len {B : Nat} {a : Option Addr} {n n' c c' : Nat} (h : New B (.slice a n c)) : New B (.slice a n' c') := by
  cases a <;> exact h
theorem New.low {B B' : Nat} {v : Value} (h : New B v) (hb : B' ≤ B) : New B' v := by
  cases v with
  | slice a n c =>
    cases a with
    | none => trivial
    | some a => exact Nat.le_trans hb h
  | _ => trivial
/-- What lies in the new blocks lies there, whatever became of the old ones. -/
theorem rd_swap {W1 W2 : World} {x z : Inc} {B k n : Nat} {v : Value} {cs : List Value} (h : Rd (ext W1 x) k n v cs) (hn : New B v) (hs : W1.heap.size = W2.heap.size) (hb : W1.heap.size ≤ B) (hz : z = x ∨ ∃ y, z = x.add y) : Rd (ext W2 z) k n v cs := by
  obtain ⟨h1, a, cap, rfl, h2⟩ := h
  refine ⟨h1, a, cap, rfl, fun h0 => ?_⟩
  obtain ⟨b, off, rfl, hc⟩ := h2 h0
  refine ⟨b, off, rfl, fun i u hu => ?_⟩
  have hc := hc i u hu
  have hB : B ≤ b := hn
  have hlt := World.block_lt_of_cell? _ _ hc
  have hg : (ext W2 z).heap[b]? = (ext W1 x).heap[b]? := by
    rw [ext_get_new _ _ _ (by omega), ext_get_new _ _ _ (by omega), ← hs]
    rcases hz with rfl | ⟨y, rfl⟩
    · rfl
    · simp only [Inc.add]
      rw [List.getElem?_append_left (by simp at hlt; omega)]
  rw [← hc]
  exact World.cell?_of_block hg
theorem ri_swap {W1 W2 : World} {x z : Inc} {B : Nat} {k : IntKind} {v : Value} {xs : List Int} (h : Ri (ext W1 x) k v xs) (hn : New B v) (hs : W1.heap.size = W2.heap.size) (hb : W1.heap.size ≤ B) (hz : z = x ∨ ∃ y, z = x.add y) : Ri (ext W2 z) k v xs := rd_swap h hn hs hb hz

section
variable {P : Program} {ops : Array Oper} {rest : List Oper} {o : Oper} {a : Act} {Q : Exit → Act → World → Prop}
/-- XOwnF's 'wpList_pushF' at a step of a region that draws its order. -/
theorem step_pushF {K : Act → World → Prop} {E : Prop} (hgd : o.guard = none) (s x : Operand) (t : TypeId)
    (ho : o.op = .call { callee := .builtin .append, args := #[s, x], argTypes := #[t, t] })
    (e : TypeId) (z : Value) (size bytes : Nat) (ht : P.underlying t = some (.slice e)) (hi : (P.info? e).map (fun i => (i.zero, i.size, i.bytes)) = some (some z, size, bytes))
    (hzs : z.cells.size = size) (hsz : 0 < size)
    (w0 : World) (i : Inc) (base : Nat) (v : Value) (n : Nat) (xs : List Value) (hown : (ext w0 i).ownsRow base e size v n xs)
    (h m c : Nat) (cs : Array Value) (hs : a.eval s = v) (hx : a.eval x = .slice (some ⟨h, 0, none⟩) m c) (hcs : cs.size = m * size) (hone : ∀ u ∈ cs.toList, u.oneCell' = true)
    (hm : 0 < m) (hh : h = (ext w0 i).heap.size) (h63 : n + m ≤ maxLen) (hbytes : (n + m) * bytes ≤ 140737488355328) (hb : base ≤ (ext w0 i).heap.size) (hb0 : w0.heap.size ≤ base)
    (k : ∀ g cap y, (ext w0 y).ownsRow base e size (.slice (some ⟨g, 0, none⟩) (n + m) cap) (n + m) (xs ++ cs.toList) → (ext w0 i).grownBy (ext w0 y) v.ownBlock → (v.ownBlock = some g ∨ (ext w0 i).heap.size ≤ g) → K (a.put o.dst (.slice (some ⟨g, 0, none⟩) (n + m) cap)) (ext w0 y)) :
    if Region.wanted o (yielded ops a.tmps) = true then Oper.wp P o a ((ext w0 i).alloc (.cells cs e)) K Q else E := by
  obtain ⟨i0, hi0, hz0, hz1, hz2⟩ := info_parts hi
  subst hh
  refine step_append_lies _ hgd s x t ho base e i0 z size bytes ht hi0 hz0 hz1 hz2 hzs hsz v n xs hs (hown.alloc _) ⟨(ext w0 i).heap.size, 0, none⟩ m c cs.toList hx (by simpa using hcs) ?_ hone hm h63 hbytes
    (by rw [World.size_alloc]; omega) _ rfl ?_
  · exact World.news_of_block (cs := cs) (t := e) (fr := (0, 0)) (heap_alloc_new (ext w0 i) _)
  · intro g cap w1 hown1 hgrow hat _
    obtain ⟨y, rfl⟩ : Ext w0 w1 := (((Ext.refl w0).ext i).alloc _).grown hgrow (fun k hk => by
      have := (hown.lt k hk).1
      omega)
    refine k g cap y hown1 ⟨hgrow.os, hgrow.tape, hgrow.output, Nat.le_trans (by simp) hgrow.size, fun b hb' hne => ?_⟩ ?_
    · rw [hgrow.block b (by rw [World.size_alloc]; omega) hne, Below.heap_alloc _ _ _ hb']
    · rcases hat with h | h
      · exact .inl h
      · rw [World.size_alloc] at h; exact .inr (by omega)
end
end Go.Proofs.Ytkmgdejpdhlleaa
