/- Chain: rows as values that read; slices.Grow, Concat, Clone. -/
import Derived.Test.YtmngjifcgfnogaaChG
import Derived.Lib.AppendZeros
namespace Go.Proofs.Ytmngjifcgfnogaa
set_option linter.unusedSimpArgs false
set_option linter.unusedVariables false
set_option maxRecDepth 100000
open Go.RowKit

/-- The value reads as these timestamps. -/
def Rb (w : World) (l : List Tm) (v : Value) : Prop := ∃ a c, v = .slice a l.length c ∧ Rd w 5 l.length (.slice a l.length c) (tms l)
theorem Rb.on {w w' : World} {l : List Tm} {v : Value} (h : Rb w l v) (hx : Ext w w') : Rb w' l v := by
  obtain ⟨a, c, rfl, h⟩ := h
  exact ⟨a, c, rfl, h.of_ext hx⟩
theorem Rb.nil (w : World) : Rb w [] (.slice none 0 0) := ⟨none, 0, rfl, Rd.nil _ _ _ _⟩
theorem Row.rb {w0 w : World} {b : Nat} {l : List Tm} {v : Value} (h : Row w0 b l v w) : Ext w0 w ∧ Rb w l v := by
  obtain ⟨hx, a, c, rfl, ho⟩ := h
  exact ⟨hx, a, c, rfl, own_rd ho⟩
theorem Row.on {w0 w w' : World} {base : Nat} {l : List Tm} {v : Value} (h : Row w0 base l v w) (hx : Ext w w') : Row w0 base l v w' := by
  obtain ⟨h1, a, c, rfl, ho⟩ := h
  exact ⟨h1.trans hx, a, c, rfl, own_of_extY ho hx⟩
theorem Row.up {w0 w1 w : World} {base : Nat} {l : List Tm} {v : Value} (h : Row w1 base l v w) (hx : Ext w0 w1) : Row w0 base l v w := ⟨hx.trans h.1, h.2⟩
theorem Row.low {w0 w : World} {b b' : Nat} {l : List Tm} {v : Value} (h : Row w0 b l v w) (hb : b' ≤ b) : Row w0 b' l v w := by
  obtain ⟨hx, a, c, rfl, ho⟩ := h
  exact ⟨hx, a, c, rfl, own_base ho hb⟩
theorem Row.from0 {w0 w1 w : World} {l : List Tm} {v : Value} (h : Row w1 w1.heap.size l v w) (hx : Ext w0 w1) : Row w0 w0.heap.size l v w := (h.up hx).low ((Ext.grows hx none).size)
section
variable {ops : Array Oper} {rest : List Oper} {o : Oper} {a : Act} {Q : Exit → Act → World → Prop}
theorem app_row {w : World} (hgd : o.guard = none) (s x : Operand) (ho : o.op = .call { callee := .builtin .append, args := #[s, x], argTypes := #[38, 38] })
    (w0 : World) (base : Nat) (l m : List Tm) (v u : Value) (hs : a.eval s = v) (hx : a.eval x = u) (hr : Row w0 base l v w) (hu : Rb w m u) (hb0 : w0.heap.size ≤ base) (hb : base ≤ w.heap.size) (hl : l.length + m.length ≤ 1073741823)
    (k : ∀ v' w', Row w0 base (l ++ m) v' w' → wpList Try.prog ops Q rest (a.put o.dst v') w') :
    wpList Try.prog ops Q (o :: rest) a w := by
  obtain ⟨a0, c0, rfl, hu⟩ := hu
  obtain ⟨hx0, a1, c1, rfl, hown⟩ := hr
  refine wpList_app hgd s x 38 ho 47 (.agg #[.int .i64 0, .int .i64 0, .int .i64 0, .int .i64 0, .int .i64 0]) 5 40 Try.underlying38 info_item' rfl (by decide) w0 hx0 base _ l.length (tms l) hown m.length _ (tms m) hs hx hu (tms_one m) (by unfold maxLen; omega) (by omega) hb hb0 ?_
  intro b c y hown1 hgr hat
  rw [← tms_append, ← List.length_append] at hown1
  rw [← List.length_append]
  exact k _ _ ⟨⟨y, rfl⟩, b, c, rfl, hown1⟩
/-- 'append(T{}, x...)'. -/
theorem app_new (w1 : World) (hgd : o.guard = none) (s x : Operand) (ho : o.op = .call { callee := .builtin .append, args := #[s, x], argTypes := #[38, 38] })
    (b : Nat) (hs : a.eval s = .slice (some ⟨b, 0, none⟩) 0 0) (hb : b = w1.heap.size) (l : List Tm) (u : Value) (hx : a.eval x = u) (hr : Rb w1 l u) (hl : l.length ≤ 1073741823)
    (k : ∀ v' w', Row w1 w1.heap.size l v' w' → wpList Try.prog ops Q rest (a.put o.dst v') w') :
    wpList Try.prog ops Q (o :: rest) a (w1.alloc (.cells #[] 47)) := by
  subst hb
  have hx0 : Ext w1 (w1.alloc (.cells #[] 47)) := (Ext.refl w1).alloc _
  exact app_row hgd s x ho w1 w1.heap.size [] l _ u hs hx ⟨hx0, _, 0, rfl, World.ownsRow_made w1 #[] 0 (Nat.le_refl _) (by decide) (by simp)⟩ (hr.on hx0) (Nat.le_refl _) (by rw [World.size_alloc]; omega) (by simpa using hl) k
end
theorem info_tms5 : (Try.prog.info? 47).map (fun i => (i.zero, i.size, i.bytes)) = some (some (.agg #[.int .i64 0, .int .i64 0, .int .i64 0, .int .i64 0, .int .i64 0]), 5, 40) := by kernel_rfl

theorem clone_tms5 (v : Value) (n : Nat) (cs : List Value) (w : World) (h : Rd w 5 n v cs) (hl : n ≤ 1073741824) (hone : ∀ u ∈ cs, u.oneCell' = true) :
    Calls Try.prog 53 #[v] w fun e w' => ∃ v', e = .returned v' ∧ Ext w w' ∧ w'.ownsRow w.heap.size 47 5 v' n cs := by
  have q : ∀ (w : World) (a : Option Addr) (n c n' c' : Nat), (binOp .eql 38 (.slice a n c) (.slice none n' c')).run Try.prog w = .ok (.bool a.isNone) w := fun w a n c n' c' => Lib.run_eql_slice_nil w _ _ a n c n' c' Try.underlying38
  have q' : (binOp .eql 38 (.slice none 0 0) (.slice none 0 0)).run Try.prog w = .ok (.bool true) w := q w none 0 0 0 0
  obtain ⟨a, cap, rfl⟩ := h.form
  rcases Nat.eq_zero_or_pos n with h0 | h0
  · subst h0
    obtain rfl : cs = [] := by simpa using h.len
    cases a with
    | none =>
      go_enter Try.func53, Try.ntmps53
      go_wp2
      all_goals (go_ret; exact ⟨_, rfl, by (repeat' (first | with_reducible exact Ext.refl _ | with_reducible refine Ext.ext ?_ _ | with_reducible refine Ext.alloc ?_ _ | with_reducible refine Ext.drew ?_ | with_reducible refine Ext.drewN ?_ _ | with_reducible assumption)), World.ownsRow_nil _ _ _ _⟩)
    | some ad =>
      obtain ⟨i0, hi0, hz0, hz1, hz2⟩ := info_parts info_tms5
      go_enter Try.func53, Try.ntmps53
      go_wp2_with (at_builtin; refine wpList_append_own _ rfl _ _ 38 rfl w.heap.size 47 i0 _ 5 40 Try.underlying38 hi0 hz0 hz1 hz2 rfl (by decide) _ 0 [] rfl (World.ownsRow_made w #[] 0 (Nat.le_refl _) (by decide) (by simp)) ad 0 cap [] rfl (by simp) (by simp) (by simp) (by decide) (by decide) (by simp) ?_; intro v' w1 hown1 hgrow1 hnil1)
      go_ret
      refine ⟨_, rfl, Ext.grown (by (repeat' (first | with_reducible exact Ext.refl _ | with_reducible refine Ext.ext ?_ _ | with_reducible refine Ext.alloc ?_ _ | with_reducible refine Ext.drew ?_ | with_reducible refine Ext.drewN ?_ _ | with_reducible assumption))) hgrow1 (fun k hk => Nat.le_of_eq (Option.some.inj hk)), by simpa using hown1⟩
  · obtain ⟨b, off, rfl, hc⟩ := h.cells h0
    have HC := Lib.hid hc
    have HH := Lib.hid h
    have HO := Lib.hid hone
    clear hc h hone
    go_enter Try.func53, Try.ntmps53
    go_wp2_with (at_builtin; refine wpList_pushS rfl _ _ 38 rfl 47 (.agg #[.int .i64 0, .int .i64 0, .int .i64 0, .int .i64 0, .int .i64 0]) 5 40 Try.underlying38 info_tms5 rfl (by decide) w _ (by (repeat' (first | with_reducible exact Ext.refl _ | with_reducible refine Ext.ext ?_ _ | with_reducible refine Ext.alloc ?_ _ | with_reducible refine Ext.drew ?_ | with_reducible refine Ext.drewN ?_ _ | with_reducible assumption))) w.heap.size _ 0 [] (World.ownsRow_made w #[] 0 (Nat.le_refl _) (by decide) (by simp)) n _ cs rfl rfl (HH.out.of_ext (by (repeat' (first | with_reducible exact Ext.refl _ | with_reducible refine Ext.ext ?_ _ | with_reducible refine Ext.alloc ?_ _ | with_reducible refine Ext.drew ?_ | with_reducible refine Ext.drewN ?_ _ | with_reducible assumption)))) HO.out h0 (by unfold maxLen; omega) (by omega) (by simp) (Nat.le_refl _) ?_; intro g cap1 y hown1 hgrow1 hat)
    go_ret
    simp only [Nat.zero_add, List.nil_append] at hown1 ⊢
    exact ⟨_, rfl, by (repeat' (first | with_reducible exact Ext.refl _ | with_reducible refine Ext.ext ?_ _ | with_reducible refine Ext.alloc ?_ _ | with_reducible refine Ext.drew ?_ | with_reducible refine Ext.drewN ?_ _ | with_reducible assumption)), hown1⟩
theorem clone_row {w : World} {l : List Tm} {v : Value} (h : Rb w l v) (hn : l.length ≤ 1073741823) :
    Calls Try.prog 53 #[v] w fun e w' => ∃ v', e = .returned v' ∧ Row w w.heap.size l v' w' := by
  obtain ⟨a, c, rfl, h⟩ := h
  refine (clone_tms5 _ _ _ w h (by omega) (tms_one l)).mono ?_
  rintro e w' ⟨v', rfl, hx, ho⟩
  obtain ⟨a', c', rfl⟩ := (own_rd ho).form
  exact ⟨_, rfl, hx, a', c', rfl, ho⟩
set_option maxHeartbeats 1000000 in
theorem grow_any (n : Nat) (hn : n ≤ 2147483648) (w : World) :
    Calls Try.prog 88 #[.slice none 0 0, .int .i64 n] w fun e w' => ∃ v', e = .returned v' ∧ Row w w.heap.size [] v' w' := by
  have i0 : (0 : Int) ≤ n := by omega
  rcases Nat.eq_zero_or_pos n with rfl | h0
  · go_enter Try.func88, Try.ntmps88
    go_wp2
    go_returns
    exact ⟨_, rfl, by (repeat' (first | with_reducible exact Ext.refl _ | with_reducible refine Ext.ext ?_ _ | with_reducible refine Ext.alloc ?_ _ | with_reducible refine Ext.drew ?_ | with_reducible refine Ext.drewN ?_ _ | with_reducible assumption)), none, 0, rfl, World.ownsRow_nil _ _ _ _⟩
  · obtain ⟨ti, hi0, hz0, hz1, hz2⟩ := info_parts info_item'
    have hr := fun ty => Lib.run_append_nil_zeros w 38 3 ty 47 ti _ .i64 .i64 Try.underlying38 Try.underlying3 hi0 hz0 n h0 (by rw [hz1]; decide) (by omega) (by rw [hz2]; omega)
    have hG := grownCap_le_maxLen w n 0 47 (by unfold maxLen; omega)
    have hge := grownCap_ge w n 0 47
    generalize grownCap w n 0 47 = G at *
    obtain ⟨ROW, hROW⟩ : ∃ ROW : Array Value, ROW = Builtin.zeroCells (Value.agg #[.int .i64 0, .int .i64 0, .int .i64 0, .int .i64 0, .int .i64 0]).cells n ++ Builtin.zeroCells (Value.agg #[.int .i64 0, .int .i64 0, .int .i64 0, .int .i64 0, .int .i64 0]).cells (G - n) := ⟨_, rfl⟩
    rw [← hROW] at hr
    have hRS : ROW.size = G * 5 := by
      rw [hROW]
      simp only [Array.size_append, size_zeroCells]
      show n * 5 + (G - n) * 5 = G * 5
      omega
    have HG := Lib.hid (And.intro hG hRS)
    have HR := Lib.hid hr
    clear hG hge hROW hRS hr
    have i1 : (0 : Int) < n := by omega
    go_enter Try.func88, Try.ntmps88
    go_wp2_with (at_builtin; apply stop_here)
    unfold Stop
    refine Lib.wpList_append_run _ rfl _ _ 38 3 rfl _ _ rfl rfl _ _ (HR.out _) ?_
    clear HR
    go_wp2
    go_returns
    exact ⟨_, rfl, by (repeat' (first | with_reducible exact Ext.refl _ | with_reducible refine Ext.ext ?_ _ | with_reducible refine Ext.alloc ?_ _ | with_reducible refine Ext.drew ?_ | with_reducible refine Ext.drewN ?_ _ | with_reducible assumption)), some ⟨w.heap.size, 0, none⟩, G, rfl, World.ownsRow_made w.drew ROW G (Nat.le_refl _) HG.out.1 HG.out.2⟩
/-- The two rows, one behind the other. -/
theorem concat_two (l m : List Tm) (v u : Value) (q : Nat) (w : World) (h : Rb w l v) (h' : Rb w m u) (hn : l.length + m.length ≤ 1073741823) (c0 : w.cell? ⟨q, 0, none⟩ = some v) (c1 : w.cell? ⟨q, 1, none⟩ = some u) :
    Calls Try.prog 76 #[.slice (some ⟨q, 0, none⟩) 2 2] w fun e w' => ∃ v', e = .returned v' ∧ Row w w.heap.size (l ++ m) v' w' := by
  have H := Lib.hid h
  have H' := Lib.hid h'
  have HN := Lib.hid hn
  haveI : LtSz q w.heap.size := ⟨World.block_lt_of_cell? _ _ c0⟩
  have GR := Lib.hid (fun W => grow_any (l.length + m.length) (by omega) W)
  obtain ⟨a0, k0, rfl, -⟩ := h
  obtain ⟨a1, k1, rfl, -⟩ := h'
  obtain ⟨n0, hn0⟩ : ∃ n, l.length = n := ⟨_, rfl⟩
  obtain ⟨n1, hn1⟩ : ∃ n, m.length = n := ⟨_, rfl⟩
  rw [hn0] at c0 H
  rw [hn1] at c1 H'
  rw [hn0, hn1] at GR
  have b0 : (n0 : Int) + n1 ≤ 1073741823 := by omega
  have b1 : (0 : Int) ≤ n0 := by omega
  have b2 : (0 : Int) ≤ n1 := by omega
  have b3 : (0 : Int) ≤ (n0 : Int) + n1 := by omega
  have hca : ((n0 + n1 : Nat) : Int) = (n0 : Int) + n1 := by omega
  rw [hca] at GR
  have LN := Lib.hid (And.intro hn0 hn1)
  clear hn hn0 hn1 hca
  go_enter Try.func76, Try.ntmps76
  go_wp2
  refine wp_loop_rounds 3 ?_
  rw [rounds_succ]
  go_wp2
  rw [rounds_succ]
  go_wp2
  rw [rounds_succ]
  go_wp2_with (go_at_call 88; refine (GR.out _).mono ?_; rintro e w1 ⟨v1, rfl, hr1⟩; obtain ⟨⟨z1, rfl⟩, -⟩ := id hr1; obtain ⟨-, a1', c1', rfl, -⟩ := id hr1; have HR1 := Lib.hid (hr1.from0 (w0 := w) (by (repeat' (first | with_reducible exact Ext.refl _ | with_reducible refine Ext.ext ?_ _ | with_reducible refine Ext.alloc ?_ _ | with_reducible refine Ext.drew ?_ | with_reducible refine Ext.drewN ?_ _ | with_reducible assumption)))); clear hr1)
  refine wp_loop_rounds 3 ?_
  rw [rounds_succ]
  go_wp2_with (at_builtin; refine app_row rfl _ _ rfl w w.heap.size [] l _ _ rfl rfl HR1.out (H.out.on (by (repeat' (first | with_reducible exact Ext.refl _ | with_reducible refine Ext.ext ?_ _ | with_reducible refine Ext.alloc ?_ _ | with_reducible refine Ext.drew ?_ | with_reducible refine Ext.drewN ?_ _ | with_reducible assumption)))) (Nat.le_refl _) (by simp) (by have := HN.out; simp; omega) ?_; intro v2 w2 hr2; obtain ⟨⟨z2, rfl⟩, -⟩ := id hr2; obtain ⟨-, a2', c2', rfl, -⟩ := id hr2; have HR2 := Lib.hid hr2; clear hr2)
  rw [rounds_succ]
  go_wp2_with (at_builtin; refine app_row rfl _ _ rfl w w.heap.size ([] ++ l) m _ _ rfl rfl HR2.out (H'.out.on (by (repeat' (first | with_reducible exact Ext.refl _ | with_reducible refine Ext.ext ?_ _ | with_reducible refine Ext.alloc ?_ _ | with_reducible refine Ext.drew ?_ | with_reducible refine Ext.drewN ?_ _ | with_reducible assumption)))) (Nat.le_refl _) (by simp) (by have := HN.out; simp; omega) ?_; intro v3 w3 hr3; obtain ⟨⟨z3, rfl⟩, -⟩ := id hr3; obtain ⟨-, a3', c3', rfl, -⟩ := id hr3; have HR3 := Lib.hid hr3; clear hr3)
  rw [rounds_succ]
  go_wp2
  go_returns
  exact ⟨_, rfl, by have := HR3.out; simp only [List.nil_append, List.length_append] at this; exact this⟩
end Go.Proofs.Ytmngjifcgfnogaa
