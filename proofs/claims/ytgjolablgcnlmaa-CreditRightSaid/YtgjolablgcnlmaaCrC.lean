/- Credit: a row copied by append onto an empty literal; two fields of a lane's box stored. -/
import Derived.Test.YtgjolablgcnlmaaCrB
namespace Go.Proofs.Ytgjolablgcnlmaa
set_option linter.unusedSimpArgs false
set_option linter.unusedVariables false
open Go.RowKit

theorem put_gr (w : World) (g off : Nat) (u : Value) : w.grownBy (w.setCell ⟨g, off, none⟩ u) (some g) := by
  refine ⟨rfl, rfl, rfl, by rw [World.size_setCell]; exact Nat.le_refl _, fun k hk hne => ?_⟩
  simp only [World.setCell, Array.getElem?_modify]
  rw [if_neg (fun e => hne (by rw [e]))]
def i64s (l : List Int) : List Value := l.map (Value.int .i64)
theorem own_zero {W : World} {g base : Nat} {t : TypeId} (hg : W.heap[g]? = some (.cells #[] t (0, 0))) (hb : base ≤ g) : W.ownsRow base t 1 (.slice (some ⟨g, 0, none⟩) 0 0) 0 [] :=
  ⟨by simp, .inr ⟨g, 0, #[], rfl, hb, hg, Nat.le_refl _, Nat.zero_le _, rfl, by simp⟩⟩
/-- All blocks but one are as they were. -/
def Same1 (W W' : World) (g : Nat) : Prop := ∀ g' o', W.heap[g']? = some o' → g' ≠ g → W'.heap[g']? = some o'
theorem own_same1 {W W' : World} {g base n : Nat} {t : TypeId} {v : Value} {xs : List Value} (h : W.ownsRow base t 1 v n xs) (hk : Same1 W W' g) (hne : v.ownBlock ≠ some g) : W'.ownsRow base t 1 v n xs := by
  refine ⟨h.1, ?_⟩
  rcases h.2 with hn | ⟨g', cap, cur, rfl, hb, hgg, rest⟩
  · exact .inl hn
  · exact .inr ⟨g', cap, cur, rfl, hb, hk g' _ hgg (fun e => hne (by subst e; rfl)), rest⟩
section
variable {ops : Array Oper} {o : Oper} {a : Act} {K : Act → World → Prop} {Q : Exit → Act → World → Prop} {E : Prop}
theorem step_copy (hgd : o.guard = none) (s x : Operand) (ho : o.op = .call { callee := .builtin .append, args := #[s, x], argTypes := #[22, 22] })
    (w1 W : World) (hx1 : Ext w1 W) (g : Nat) (hg : W.heap[g]? = some (.cells #[] 2 (0, 0))) (hgl : w1.heap.size ≤ g) (l : List Int) (ad : Option Addr) (c : Nat)
    (hs : a.eval s = .slice (some ⟨g, 0, none⟩) 0 0) (hxv : a.eval x = .slice ad l.length c) (hr : Ri w1 .i64 (.slice ad l.length c) l) (hl : l.length ≤ 100)
    (k : ∀ b c' y, (ext w1 y).ownsRow w1.heap.size 2 1 (.slice b l.length c') l.length (i64s l) → Same1 W (ext w1 y) g → ((Value.slice b l.length c').ownBlock = some g ∨ (Value.slice b l.length c').ownBlock = some W.heap.size) → W.heap.size ≤ (ext w1 y).heap.size → K (a.put o.dst (.slice b l.length c')) (ext w1 y)) :
    if Region.wanted o (yielded ops a.tmps) = true then Oper.wp Try.prog o a W K Q else E := by
  have hlt := (Array.getElem?_eq_some_iff.1 hg).1
  refine step_app hgd s x 22 ho 2 (.int .i64 0) 1 8 Try.underlying22 info_i64e rfl (by decide) w1 hx1 w1.heap.size _ 0 [] (own_zero hg hgl) l.length _ (i64s l) hs hxv (hr.of_ext hx1) (by unfold i64s; simp [Value.oneCell']) (by unfold maxLen; omega) (by omega) (by omega) (Nat.le_refl _) ?_
  intro b c' y hown hgr hat
  rw [Nat.zero_add] at *
  refine k b c' y (by simpa using hown) (fun g' o' h' hne => ?_) (by rcases hat with h | h; exact .inl h.symm; exact .inr h) hgr.size
  rw [hgr.block g' (Array.getElem?_eq_some_iff.1 h').1 (fun e => hne (Option.some.inj e)), h']
end
/-- Two rows of new blocks. -/
def Copied (w1 W : World) (v1 v2 : Value) (xs ys : List Int) : Prop := Ext w1 W ∧ W.ownsRow w1.heap.size 2 1 v1 xs.length (i64s xs) ∧ W.ownsRow w1.heap.size 2 1 v2 ys.length (i64s ys)
theorem Bx.two {w w1 W : World} {p q : Nat} {a1 a2 a3 a4 : Option Addr} {c1 c2 c3 c4 : Nat} {s m b : Int} {xs ys : List Int} (hV : LaneV w a1 c1 a2 c2 ⟨s, m, b, xs, ys⟩) (hp : Bx w w1 p a1 c1 a2 c2 ⟨s, m, b, xs, ys⟩) (hq : Bx w w1 q a1 c1 a2 c2 ⟨s, m, b, xs, ys⟩) (hpq : p ≠ q)
    (h : Copied w1 W (.slice a3 xs.length c3) (.slice a4 ys.length c4) xs ys) :
    Bx w ((W.setCell ⟨q, 2, none⟩ (.slice a3 xs.length c3)).setCell ⟨q, 3, none⟩ (.slice a4 ys.length c4)) p a1 c1 a2 c2 ⟨s, m, b, xs, ys⟩ ∧ Bx w ((W.setCell ⟨q, 2, none⟩ (.slice a3 xs.length c3)).setCell ⟨q, 3, none⟩ (.slice a4 ys.length c4)) q a3 c3 a4 c4 ⟨s, m, b, xs, ys⟩ := by
  obtain ⟨hx, h1, h2⟩ := h
  have hp' := hp.on hx
  have hq' := hq.on hx
  have hqs : q < w1.heap.size := (Array.getElem?_eq_some_iff.1 hq.2.2.1).1
  have hX : Ext w ((W.setCell ⟨q, 2, none⟩ (.slice a3 xs.length c3)).setCell ⟨q, 3, none⟩ (.slice a4 ys.length c4)) := (hq'.1.setCell hq.2.1 _).setCell hq.2.1 _
  have n1 : ∀ g, (Value.slice a3 xs.length c3).ownBlock = some g → g ≠ q := fun g hg => by have := (h1.lt g hg).1; omega
  have n2 : ∀ g, (Value.slice a4 ys.length c4).ownBlock = some g → g ≠ q := fun g hg => by have := (h2.lt g hg).1; omega
  refine ⟨⟨hX, hp.2.1, ?_, hV.of_ext hX⟩, ⟨hX, hq.2.1, ?_, ?_, ?_⟩⟩
  · simp [World.setCell, Array.getElem?_modify, hp'.2.2.1, Ne.symm hpq]
  · simp [World.setCell, Array.getElem?_modify, hq'.2.2.1]
  · exact own_rd ((h1.kept (put_gr W q 2 _) (by cases hv : (Value.slice a3 xs.length c3).ownBlock with | none => exact .inl rfl | some k => exact .inr (fun e => n1 k hv (Option.some.inj e)))).kept (put_gr _ q 3 _) (by cases hv : (Value.slice a3 xs.length c3).ownBlock with | none => exact .inl rfl | some k => exact .inr (fun e => n1 k hv (Option.some.inj e))))
  · exact own_rd ((h2.kept (put_gr W q 2 _) (by cases hv : (Value.slice a4 ys.length c4).ownBlock with | none => exact .inl rfl | some k => exact .inr (fun e => n2 k hv (Option.some.inj e)))).kept (put_gr _ q 3 _) (by cases hv : (Value.slice a4 ys.length c4).ownBlock with | none => exact .inl rfl | some k => exact .inr (fun e => n2 k hv (Option.some.inj e))))
end Go.Proofs.Ytgjolablgcnlmaa
