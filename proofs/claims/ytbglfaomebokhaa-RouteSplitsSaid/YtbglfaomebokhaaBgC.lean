/- Bag: Plus, Minus, There, Of. -/
import Derived.Test.YtbglfaomebokhaaBgB
namespace Go.Proofs.Ytbglfaomebokhaa
set_option linter.unusedSimpArgs false
set_option linter.unusedVariables false
open Go.RowKit

theorem Bag.nil (w : World) (b : Nat) : Bag w b [] (.slice none 0 0) w := ⟨Ext.refl w, none, 0, rfl, World.ownsRow_nil _ _ _ _⟩
section
variable {ops : Array Oper} {rest : List Oper} {o : Oper} {a : Act} {Q : Exit → Act → World → Prop}
/-- 'append(v, x)' of one item onto a bag of the call's own. -/
theorem push_bag (hgd : o.guard = none) (s x : Operand) (ho : o.op = .call { callee := .builtin .append, args := #[s, x], argTypes := #[22, 22] })
    (w0 w1 : World) (l : List It) (v : Value) (h : Bag w0 w0.heap.size l v w1) (b c : Nat) (hs : a.eval s = v) (hx : a.eval x = .slice (some ⟨b, 0, none⟩) 1 c) (hb : b = w1.heap.size) (hl : l.length ≤ 1073741823) (it : It)
    (k : ∀ v' w', Bag w0 w0.heap.size (l ++ [it]) v' w' → wpList Try.prog ops Q rest (a.put o.dst v') w') :
    wpList Try.prog ops Q (o :: rest) a (w1.alloc (.cells #[.int .i64 it.k, .int .i64 it.v, .int .i64 it.n] 30)) := by
  obtain ⟨⟨i, rfl⟩, a', c', rfl, hown⟩ := h
  refine wpList_pushF hgd s x 22 ho 30 (.agg #[.int .i64 0, .int .i64 0, .int .i64 0]) 3 24 Try.underlying22 info_its3 rfl (by decide) w0 i w0.heap.size _ l.length (its l) hown b 1 c #[.int .i64 it.k, .int .i64 it.v, .int .i64 it.n] hs hx rfl (by simp [Value.oneCell']) (by decide) hb (by unfold maxLen; omega) (by omega) (by simp) (Nat.le_refl _) ?_
  intro g cap y hown1 hgr hat
  refine k _ _ ⟨⟨y, rfl⟩, some ⟨g, 0, none⟩, cap, ?_, ?_⟩
  · rw [List.length_append]; rfl
  · rw [List.length_append, its_append]
    exact hown1
end
theorem plus_any (l m : List It) (a a' : Option Addr) (c c' : Nat) (w : World) (h : Rd w 3 l.length (.slice a l.length c) (its l)) (h' : Rd w 3 m.length (.slice a' m.length c') (its m)) (hn : l.length + m.length ≤ 1073741823) :
    Calls Try.prog 15 #[.slice a l.length c, .slice a' m.length c'] w fun e w' => ∃ v', e = .returned v' ∧ Bag w w.heap.size (joinS l m 1) v' w' := by
  have J := Lib.hid (joined_any l m a a' c c' w h h' hn 1 (.inl rfl))
  clear h h' hn
  go_enter Try.func15, Try.ntmps15
  go_wp2_with (go_at_call 42; refine J.out.mono ?_; rintro e w' ⟨v', rfl, hb⟩; have HB := Lib.hid hb; clear hb)
  go_returns
  exact ⟨_, rfl, HB.out⟩
theorem minus_any (l m : List It) (a a' : Option Addr) (c c' : Nat) (w : World) (h : Rd w 3 l.length (.slice a l.length c) (its l)) (h' : Rd w 3 m.length (.slice a' m.length c') (its m)) (hn : l.length + m.length ≤ 1073741823) :
    Calls Try.prog 33 #[.slice a l.length c, .slice a' m.length c'] w fun e w' => ∃ v', e = .returned v' ∧ Bag w w.heap.size (joinS l m (-1)) v' w' := by
  have J := Lib.hid (joined_any l m a a' c c' w h h' hn (-1) (.inr rfl))
  clear h h' hn
  go_enter Try.func33, Try.ntmps33
  go_wp2_with (go_at_call 42; refine J.out.mono ?_; rintro e w' ⟨v', rfl, hb⟩; have HB := Lib.hid hb; clear hb)
  go_returns
  exact ⟨_, rfl, HB.out⟩
def posF (l : List It) : List It := l.filter (fun x => decide (0 < x.n))
theorem posF_yes {l : List It} {j : Nat} {x : It} (h : l[j]? = some x) (hx : decide (0 < x.n) = true) : posF (l.take (j + 1)) = posF (l.take j) ++ [x] := by
  rw [take_snoc h]; unfold posF; rw [List.filter_append, List.filter_cons_of_pos (by simpa using hx)]; rfl
theorem posF_no {l : List It} {j : Nat} {x : It} (h : l[j]? = some x) (hx : decide (0 < x.n) = false) : posF (l.take (j + 1)) = posF (l.take j) := by
  rw [take_snoc h]; unfold posF; rw [List.filter_append, List.filter_cons_of_neg (by simpa using hx)]; simp
theorem posF_len (l : List It) (j : Nat) : (posF (l.take j)).length ≤ l.length := Nat.le_trans (List.length_filter_le _ _) (by rw [List.length_take]; omega)
def thereS (l : List It) : List It := if rightB l then posF l else []
set_option maxHeartbeats 4000000 in
theorem there_any (l : List It) (a : Option Addr) (c : Nat) (w : World) (h : Rd w 3 l.length (.slice a l.length c) (its l)) (hn : l.length ≤ 1073741823) :
    Calls Try.prog 32 #[.slice a l.length c] w fun e w' => ∃ v', e = .returned v' ∧ Bag w w.heap.size (thereS l) v' w' := by
  have RT := Lib.hid (fun w' (hx : Ext w w') => bagRight_any l a _ c w' (h.of_ext hx) rfl (by omega))
  have H := Lib.hid h
  have HN := Lib.hid hn
  obtain ⟨R, hR⟩ : ∃ R, R = thereS l := ⟨_, rfl⟩
  rw [← hR]
  have HR := Lib.hid hR
  clear h hn hR
  go_enter Try.func32, Try.ntmps32
  go_wp2
  go_loopw [3, 8] (fun v i wr => ∃ j : Nat, j ≤ l.length ∧ i = .int .i64 j ∧ Bag w w.heap.size (posF (l.take j)) v wr) (fun _ i _ => l.length - (intOf i).toNat)
  case atStart => exact ⟨0, by omega, rfl, Bag.nil _ _⟩
  case round =>
    obtain ⟨j, hj, rfl, hb⟩ := hrel
    obtain ⟨z', rfl⟩ := hb.1
    have HB := Lib.hid hb
    clear hb
    by_cases hlt : j < l.length
    · obtain ⟨x, hx⟩ : ∃ x, l[j]? = some x := ⟨l[j], List.getElem?_eq_getElem _⟩
      obtain ⟨b, off, rfl, -⟩ := H.out.cells (by omega)
      have q := it_cells H.out j x hx z'
      have q0 := keep_add q.1
      have q1 := keep_add q.2.1
      have q2 := keep_add q.2.2
      have i1 : (0 : Int) ≤ j := by omega
      have i2 : (j : Int) < l.length := by omega
      have ew : wrap64 ((j : Int) + 1) = ((j + 1 : Nat) : Int) := (IntWalk.wrap64_in _ ⟨by omega, by have := HN.out; omega⟩).trans (by omega)
      obtain ⟨bp, hp⟩ : ∃ b, decide (0 < x.n) = b := ⟨_, rfl⟩
      have PL := Lib.hid (posF_len l j)
      cases bp
      · have e := posF_no hx hp
        rw [← e] at HB
        obtain ⟨xk, xv, xn⟩ := x
        dsimp only at q0 q1 q2 hp
        clear q hx e
        go_wp2
        exact ⟨⟨j + 1, by omega, congrArg (Value.int .i64) ew, HB.out.on (by (first | (with_reducible exact ext_more2 _ _ _) | (repeat' (first | with_reducible exact Ext.refl _ | with_reducible refine Ext.ext ?_ _ | with_reducible refine Ext.alloc ?_ _ | with_reducible refine Ext.drew ?_ | with_reducible refine Ext.drewN ?_ _ | with_reducible assumption))))⟩, by rw [ew]; simp only [intOf]; omega⟩
      · have e := posF_yes hx hp
        obtain ⟨xk, xv, xn⟩ := x
        dsimp only at q0 q1 q2 hp
        have HE := Lib.hid e
        clear q hx e
        go_wp2_with (at_builtin; refine push_bag rfl _ _ rfl w _ (posF (l.take j)) _ (by exact HB.out.on (by (first | (with_reducible exact ext_more2 _ _ _) | (repeat' (first | with_reducible exact Ext.refl _ | with_reducible refine Ext.ext ?_ _ | with_reducible refine Ext.alloc ?_ _ | with_reducible refine Ext.drew ?_ | with_reducible refine Ext.drewN ?_ _ | with_reducible assumption))))) _ _ rfl rfl (by simp) (Nat.le_trans PL.out HN.out) ⟨xk, xv, xn⟩ ?_; intro v2 w2 hb2; rw [← HE.out] at hb2; obtain ⟨z2, rfl⟩ := hb2.1; have HB2 := Lib.hid hb2; clear hb2)
        exact ⟨⟨j + 1, by omega, congrArg (Value.int .i64) ew, HB2.out⟩, by rw [ew]; simp only [intOf]; omega⟩
    · obtain rfl : j = l.length := by omega
      rw [List.take_length] at HB
      obtain ⟨b, f⟩ : ∃ b, rightB l = b := ⟨_, rfl⟩
      have HF : R = if b then posF l else [] := by rw [HR.out, thereS, f]
      rw [f] at RT
      clear f
      cases b
      all_goals
        subst HF
      · clear HR
        go_wp2_with (go_at_call 14; (with_reducible refine (RT.out _ (by (repeat' (first | with_reducible exact Ext.refl _ | with_reducible refine Ext.ext ?_ _ | with_reducible refine Ext.alloc ?_ _ | with_reducible refine Ext.drew ?_ | with_reducible refine Ext.drewN ?_ _ | with_reducible assumption)))).mono ?_); rintro e w' ⟨rfl, x1, rfl⟩)
        go_returns
        exact ⟨_, rfl, (Bag.nil w _).on (by (first | (with_reducible exact ext_more2 _ _ _) | (repeat' (first | with_reducible exact Ext.refl _ | with_reducible refine Ext.ext ?_ _ | with_reducible refine Ext.alloc ?_ _ | with_reducible refine Ext.drew ?_ | with_reducible refine Ext.drewN ?_ _ | with_reducible assumption))))⟩
      · clear HR
        go_wp2_with (go_at_call 14; (with_reducible refine (RT.out _ (by (repeat' (first | with_reducible exact Ext.refl _ | with_reducible refine Ext.ext ?_ _ | with_reducible refine Ext.alloc ?_ _ | with_reducible refine Ext.drew ?_ | with_reducible refine Ext.drewN ?_ _ | with_reducible assumption)))).mono ?_); rintro e w' ⟨rfl, x1, rfl⟩)
        go_returns
        exact ⟨_, rfl, HB.out.on (by (first | (with_reducible exact ext_more2 _ _ _) | (repeat' (first | with_reducible exact Ext.refl _ | with_reducible refine Ext.ext ?_ _ | with_reducible refine Ext.alloc ?_ _ | with_reducible refine Ext.drew ?_ | with_reducible refine Ext.drewN ?_ _ | with_reducible assumption))))⟩
end Go.Proofs.Ytbglfaomebokhaa
