/- Net: Put. -/
import Derived.Test.YtlhmifkimnmnmaaNt6
import Derived.Test.YtlhmifkimnmnmaaNe3
import Derived.Deep.RegionLaw
import Derived.Deep.AppendLies
namespace Go.Proofs.Ytlhmifkimnmnmaa
set_option linter.unusedSimpArgs false
set_option linter.unusedVariables false
open Go.RowKit

/-- The cells of one element lie in a box. -/
def BoxG (w : World) (p : Nat) (cs : List Value) : Prop := ∀ i u, cs[i]? = some u → w.cell? ⟨p, i, none⟩ = some u
theorem BoxG.on {w w' : World} {p : Nat} {cs : List Value} (h : BoxG w p cs) (hx : Ext w w') : BoxG w' p cs := fun i u hu => (keep_cell (h i u hu) hx).2
theorem BoxG.new {w : World} {p : Nat} (cs : List Value) (e : TypeId) (hp : p = w.heap.size) : BoxG (w.alloc (.cells cs.toArray e)) p cs := fun i u hu => cell_lit _ _ _ _ _ _ hp (by simpa using hu)
section
variable {ops : Array Oper} {o : Oper} {a : Act} {Q : Exit → Act → World → Prop}
/-- The append of one message to a list, in a region that draws its order. -/
theorem step_msg {K : Act → World → Prop} {E : Prop} (hgd : o.guard = none) (s x : Operand) (ho : o.op = .call { callee := .builtin .append, args := #[s, x], argTypes := #[32, 32] })
    (w0 W W1 : World) (hx0 : Ext w0 W) (hW : Ext W W1) (l : List Mg) (u : Value) (h : ElG 29 10 mgs W w0.heap.size l u) (b c : Nat) (m : Mg) (hs : a.eval s = u) (hx : a.eval x = .slice (some ⟨b, 0, none⟩) 1 c) (hlit : W1.heap[b]? = some (.cells m.cs.toArray 29 (0, 0))) (hl : l.length ≤ 1073741823)
    (k : ∀ v' W', Ext w0 W' → ElG 29 10 mgs W' w0.heap.size (l ++ [m]) v' → W.grownBy W' u.ownBlock → (∀ kk, v'.ownBlock = some kk → u.ownBlock = some kk ∨ W.heap.size ≤ kk) → K (a.put o.dst v') W') :
    if Region.wanted o (yielded ops a.tmps) = true then Oper.wp Try.prog o a W1 K Q else E := by
  obtain ⟨i0, hi0, hz0, hz1, hz2⟩ := info_parts mg_info
  have hsz := (Ext.grows (hx0.trans hW) none).size
  obtain ⟨a1, c1, rfl, hown⟩ := h
  refine step_append_lies _ hgd s x 32 ho w0.heap.size 29 i0 _ 10 80 Try.underlying32 hi0 hz0 hz1 hz2 rfl (by decide) _ l.length (mgs l) hs (own_of_extY hown hW) ⟨b, 0, none⟩ 1 c m.cs hx rfl (World.news_of_block (cs := m.cs.toArray) hlit) (mgs_one [m]) (by decide) (by unfold maxLen; omega) (by omega) hsz W1.heap.size rfl ?_
  intro g cap W' hown1 hgr hat hlt
  have g1 := Ext.grows hW (Value.slice a1 l.length c1).ownBlock
  have hgr' : W.grownBy W' (Value.slice a1 l.length c1).ownBlock := ⟨hgr.os.trans g1.os, hgr.tape.trans g1.tape, hgr.output.trans g1.output, Nat.le_trans g1.size hgr.size, fun k hk hne => (hgr.block k (Nat.lt_of_lt_of_le hk g1.size) hne).trans (g1.block k hk hne)⟩
  refine k _ _ (hx0.grown hgr' (fun k hk => (hown.lt k hk).1)) ⟨some ⟨g, 0, none⟩, cap, by rw [List.length_append]; rfl, ?_⟩ hgr' (fun kk hk => ?_)
  · rw [List.length_append, mgs_append]
    exact hown1
  · obtain rfl : g = kk := by simpa [Value.ownBlock] using hk
    rcases hat with h | h
    · exact .inl h
    · exact .inr (by rw [h]; exact g1.size)
end
def putOk (l : List Bx) (f t room : Int) (m : Mg) : Bool := rightB l && !(decide (f < 0)) && !(decide (t < 0)) && !(decide (m.e < 0)) && !(decide (min room 4096 ≤ ((inB l m.e f t).length : Int)))
/-- A message more, behind the others of its box. -/
def addB (l : List Bx) (f t : Int) (m : Mg) : List Bx := match l[posB l m.e f t]? with
  | some x => if hasB l m.e f t then l.set (posB l m.e f t) { x with l := x.l ++ [m] } else l.take (posB l m.e f t) ++ ⟨m.e, f, t, [m]⟩ :: l.drop (posB l m.e f t)
  | none => l.take (posB l m.e f t) ++ ⟨m.e, f, t, [m]⟩ :: l.drop (posB l m.e f t)
def putS (l : List Bx) (f t room : Int) (m : Mg) : List Bx := if putOk l f t room m then addB l f t m else l
/-- slices.Insert of a box without messages into an own row. -/
theorem ins_box {w0 W w : World} {l : List Bx} {a : Option Addr} {n c : Nat} (h : PtsG shB w0 l (.slice a n c) W) (hxw : Ext W w) (hn : n ≤ 1073741823) (e f t : Int) (p : Nat) (hp : p ≤ l.length) (vb : Nat) (hvb : W.heap.size ≤ vb) (hv : w.heap[vb]? = some (.cells #[.int .i64 e, .int .i64 f, .int .i64 t, .slice none 0 0] 34 (0, 0))) :
    Calls Try.prog 21 #[.slice a n c, .int .i64 p, .slice (some ⟨vb, 0, none⟩) 1 1] w fun r w' => ∃ b c', r = .returned (.slice b (n + 1) c') ∧ PtsG shB w0 (l.take p ++ ⟨e, f, t, []⟩ :: l.drop p) (.slice b (n + 1) c') w' := by
  have hw := h.on hxw
  obtain ⟨hx, a', c', us, hv', hln, ho, he, hd⟩ := hw
  obtain ⟨rfl, rfl, rfl⟩ := Value.slice.inj hv'
  obtain ⟨-, a2, c2, us2, hv2, -, ho2, -, -⟩ := h
  obtain ⟨rfl, -, rfl⟩ := Value.slice.inj hv2
  have hlow := (Ext.grows hx none).size
  refine (bx_ins (rowC shB l us) (rowC_one (one_of hln he)) [.int .i64 e, .int .i64 f, .int .i64 t, .slice none 0 0] rfl (by simp [Value.oneCell']) a l.length c w0.heap.size vb p w0 w hx (Nat.le_refl _) hlow ho hn hp (fun e => by have := (ho2.lt _ e).2; omega) hv).mono ?_
  rintro r w' ⟨b, c', rfl, hgr, ho', -⟩
  exact ⟨b, c', rfl, pts_ins (S := shB) (x0 := ⟨e, f, t, []⟩) rfl rfl hp hln hx ho he hd hgr ho'⟩
end Go.Proofs.Ytlhmifkimnmnmaa
