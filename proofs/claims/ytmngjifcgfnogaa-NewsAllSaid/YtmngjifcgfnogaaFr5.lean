/- Front: Add, All, At, Total, Frontier. -/
import Derived.Test.YtmngjifcgfnogaaFrP
import Derived.Test.YtmngjifcgfnogaaFr1
import Derived.Test.YtmngjifcgfnogaaChP
import Derived.Test.YtmngjifcgfnogaaChI
namespace Go.Proofs.Ytmngjifcgfnogaa.Fr
set_option linter.unusedSimpArgs false
set_option linter.unusedVariables false
set_option maxRecDepth 100000
open Go.RowKit

theorem info_cts6 : (Try.prog.info? 65).map (fun i => (i.zero, i.size, i.bytes)) = some (some (.agg #[.int .i64 0, .int .i64 0, .int .i64 0, .int .i64 0, .int .i64 0, .int .i64 0]), 6, 48) := by kernel_rfl

theorem clone_cts6 (v : Value) (n : Nat) (cs : List Value) (w : World) (h : Rd w 6 n v cs) (hl : n ≤ 1073741824) (hone : ∀ u ∈ cs, u.oneCell' = true) :
    Calls Try.prog 59 #[v] w fun e w' => ∃ v', e = .returned v' ∧ Ext w w' ∧ w'.ownsRow w.heap.size 65 6 v' n cs := by
  have q : ∀ (w : World) (a : Option Addr) (n c n' c' : Nat), (binOp .eql 56 (.slice a n c) (.slice none n' c')).run Try.prog w = .ok (.bool a.isNone) w := fun w a n c n' c' => Lib.run_eql_slice_nil w _ _ a n c n' c' Try.underlying56
  have q' : (binOp .eql 56 (.slice none 0 0) (.slice none 0 0)).run Try.prog w = .ok (.bool true) w := q w none 0 0 0 0
  obtain ⟨a, cap, rfl⟩ := h.form
  rcases Nat.eq_zero_or_pos n with h0 | h0
  · subst h0
    obtain rfl : cs = [] := by simpa using h.len
    cases a with
    | none =>
      go_enter Try.func59, Try.ntmps59
      go_wp2
      all_goals (go_ret; exact ⟨_, rfl, by (repeat' (first | with_reducible exact Ext.refl _ | with_reducible refine Ext.ext ?_ _ | with_reducible refine Ext.alloc ?_ _ | with_reducible refine Ext.drew ?_ | with_reducible refine Ext.drewN ?_ _ | with_reducible assumption)), World.ownsRow_nil _ _ _ _⟩)
    | some ad =>
      obtain ⟨i0, hi0, hz0, hz1, hz2⟩ := info_parts info_cts6
      go_enter Try.func59, Try.ntmps59
      go_wp2_with (at_builtin; refine wpList_append_own _ rfl _ _ 56 rfl w.heap.size 65 i0 _ 6 48 Try.underlying56 hi0 hz0 hz1 hz2 rfl (by decide) _ 0 [] rfl (World.ownsRow_made w #[] 0 (Nat.le_refl _) (by decide) (by simp)) ad 0 cap [] rfl (by simp) (by simp) (by simp) (by decide) (by decide) (by simp) ?_; intro v' w1 hown1 hgrow1 hnil1)
      go_ret
      refine ⟨_, rfl, Ext.grown (by (repeat' (first | with_reducible exact Ext.refl _ | with_reducible refine Ext.ext ?_ _ | with_reducible refine Ext.alloc ?_ _ | with_reducible refine Ext.drew ?_ | with_reducible refine Ext.drewN ?_ _ | with_reducible assumption))) hgrow1 (fun k hk => Nat.le_of_eq (Option.some.inj hk)), by simpa using hown1⟩
  · obtain ⟨b, off, rfl, hc⟩ := h.cells h0
    have HC := Lib.hid hc
    have HH := Lib.hid h
    have HO := Lib.hid hone
    clear hc h hone
    go_enter Try.func59, Try.ntmps59
    go_wp2_with (at_builtin; refine wpList_pushS rfl _ _ 56 rfl 65 (.agg #[.int .i64 0, .int .i64 0, .int .i64 0, .int .i64 0, .int .i64 0, .int .i64 0]) 6 48 Try.underlying56 info_cts6 rfl (by decide) w _ (by (repeat' (first | with_reducible exact Ext.refl _ | with_reducible refine Ext.ext ?_ _ | with_reducible refine Ext.alloc ?_ _ | with_reducible refine Ext.drew ?_ | with_reducible refine Ext.drewN ?_ _ | with_reducible assumption))) w.heap.size _ 0 [] (World.ownsRow_made w #[] 0 (Nat.le_refl _) (by decide) (by simp)) n _ cs rfl rfl (HH.out.of_ext (by (repeat' (first | with_reducible exact Ext.refl _ | with_reducible refine Ext.ext ?_ _ | with_reducible refine Ext.alloc ?_ _ | with_reducible refine Ext.drew ?_ | with_reducible refine Ext.drewN ?_ _ | with_reducible assumption)))) HO.out h0 (by unfold maxLen; omega) (by omega) (by simp) (Nat.le_refl _) ?_; intro g cap1 y hown1 hgrow1 hat)
    go_ret
    simp only [Nat.zero_add, List.nil_append] at hown1 ⊢
    exact ⟨_, rfl, by (repeat' (first | with_reducible exact Ext.refl _ | with_reducible refine Ext.ext ?_ _ | with_reducible refine Ext.alloc ?_ _ | with_reducible refine Ext.drew ?_ | with_reducible refine Ext.drewN ?_ _ | with_reducible assumption)), hown1⟩
theorem ext_more2 (w : World) (x y : Inc) : Ext (ext w x) (ext w (x.add y)) := ⟨y, (ext_ext _ _ _).symm⟩
theorem clone_row {w : World} {l : List Ct} {v : Value} (h : Rb w l v) (hn : l.length ≤ 1073741823) :
    Calls Try.prog 59 #[v] w fun e w' => ∃ v', e = .returned v' ∧ Row w w.heap.size l v' w' := by
  obtain ⟨a, c, rfl, h⟩ := h
  refine (clone_cts6 _ _ _ w h (by omega) (cts_one l)).mono ?_
  rintro e w' ⟨v', rfl, hx, ho⟩
  obtain ⟨a', c', rfl⟩ := (own_rd ho).form
  exact ⟨_, rfl, hx, a', c', rfl, ho⟩
theorem right_rb {w : World} {l : List Ct} {v : Value} (h : Rb w l v) (hn : l.length ≤ 1073741823) (b : Bool) (hb : rightC l = b) :
    Calls Try.prog 56 #[v] w fun e w' => e = .returned (.bool b) ∧ Ext w w' := by
  obtain ⟨a, c, rfl, h⟩ := h
  subst hb
  exact right_any l a _ c w h rfl (by omega)
/-- 'put', the row being new since w0. -/
theorem put_row (l : List Ct) (w0 w : World) (v : Value) (h : Row w0 w0.heap.size l v w) (hn : l.length ≤ 1073741823) (hr : rightC l = true) (t : Tm) (q : Int) :
    Calls Try.prog 85 #[v, .agg #[.int .i64 t.d, .int .i64 t.a, .int .i64 t.b, .int .i64 t.c, .int .i64 t.e], .int .i64 q] w fun e w' => ∃ v', e = .returned v' ∧ Row w0 w0.heap.size (putS l t q) v' w' := by
  obtain ⟨hx, a, c, rfl, ho⟩ := h
  exact (put_any l a _ c w0.heap.size w0 w hx (Nat.le_refl _) (by have := (Ext.grows hx none).size; omega) ho rfl hn hr t q).mono (fun e w' hg => Row.of_grows hx (fun k hk => (ho.lt k hk).1) hg)
theorem add_row {w : World} {l : List Ct} {v : Value} (h : Rb w l v) (hn : l.length ≤ 1073741823) (t : Tm) (q : Int) (r : List Ct) (hr : addS l t q = r) :
    Calls Try.prog 68 #[v, .agg #[.int .i64 t.d, .int .i64 t.a, .int .i64 t.b, .int .i64 t.c, .int .i64 t.e], .int .i64 q] w fun e w' => ∃ v', e = .returned v' ∧ Row w w.heap.size r v' w' := by
  subst hr
  have CL := Lib.hid (fun w' (hx : Ext w w') => clone_row (h.on hx) hn)
  have RT := Lib.hid (fun w' (hx : Ext w w') => right_rb (h.on hx) hn _ rfl)
  have PT := Lib.hid (fun w0 w v h hr => put_row l w0 w v h hn hr t q)
  obtain ⟨a, c, rfl, -⟩ := h
  unfold addS
  obtain ⟨b, f⟩ : ∃ b, rightC l = b := ⟨_, rfl⟩
  rw [f] at RT ⊢
  have F := Lib.hid f
  clear f hn
  obtain ⟨td, ta, tb, tc, te⟩ := t
  dsimp only at PT ⊢
  cases b
  all_goals
    go_enter Try.func68, Try.ntmps68
    go_wp2_with (first | (go_at_call 59; refine (CL.out _ (by (repeat' (first | with_reducible exact Ext.refl _ | with_reducible refine Ext.ext ?_ _ | with_reducible refine Ext.alloc ?_ _ | with_reducible refine Ext.drew ?_ | with_reducible refine Ext.drewN ?_ _ | with_reducible assumption)))).mono ?_; rintro e w' ⟨v', rfl, hb⟩; obtain ⟨z, rfl⟩ := hb.1; have HB := Lib.hid hb; clear hb) | (go_at_call 56; refine (RT.out _ (by (repeat' (first | with_reducible exact Ext.refl _ | with_reducible refine Ext.ext ?_ _ | with_reducible refine Ext.alloc ?_ _ | with_reducible refine Ext.drew ?_ | with_reducible refine Ext.drewN ?_ _ | with_reducible assumption)))).mono ?_; rintro e w' ⟨rfl, x1, rfl⟩) | (go_at_call 85; refine (PT.out (w.alloc (.cells #[.int .i64 td, .int .i64 ta, .int .i64 tb, .int .i64 tc, .int .i64 te] 47)) _ _ (by exact HB.out.on (by (first | (with_reducible exact ext_more2 _ _ _) | (repeat' (first | with_reducible exact Ext.refl _ | with_reducible refine Ext.ext ?_ _ | with_reducible refine Ext.alloc ?_ _ | with_reducible refine Ext.drew ?_ | with_reducible refine Ext.drewN ?_ _ | with_reducible assumption))))) F.out).mono ?_; rintro e w2 ⟨v2, rfl, hb2⟩; have HB2 := Lib.hid hb2; clear hb2))
    go_returns
    refine ⟨_, rfl, (Row.from0 (w1 := w.alloc (.cells #[.int .i64 td, .int .i64 ta, .int .i64 tb, .int .i64 tc, .int .i64 te] 47)) ?_ (by (repeat' (first | with_reducible exact Ext.refl _ | with_reducible refine Ext.ext ?_ _ | with_reducible refine Ext.alloc ?_ _ | with_reducible refine Ext.drew ?_ | with_reducible refine Ext.drewN ?_ _ | with_reducible assumption))))⟩
    first
      | exact HB2.out.on (by (first | (with_reducible exact ext_more2 _ _ _) | (repeat' (first | with_reducible exact Ext.refl _ | with_reducible refine Ext.ext ?_ _ | with_reducible refine Ext.alloc ?_ _ | with_reducible refine Ext.drew ?_ | with_reducible refine Ext.drewN ?_ _ | with_reducible assumption))))
      | exact HB.out.on (by (first | (with_reducible exact ext_more2 _ _ _) | (repeat' (first | with_reducible exact Ext.refl _ | with_reducible refine Ext.ext ?_ _ | with_reducible refine Ext.alloc ?_ _ | with_reducible refine Ext.drew ?_ | with_reducible refine Ext.drewN ?_ _ | with_reducible assumption))))
theorem add_rb {w : World} {l : List Ct} {v : Value} (h : Rb w l v) (hn : l.length ≤ 1073741823) (t : Tm) (q : Int) (r : List Ct) (hr : addS l t q = r) :
    Calls Try.prog 68 #[v, .agg #[.int .i64 t.d, .int .i64 t.a, .int .i64 t.b, .int .i64 t.c, .int .i64 t.e], .int .i64 q] w fun e w' => ∃ v', e = .returned v' ∧ Ext w w' ∧ Rb w' r v' :=
  (add_row h hn t q r hr).mono (fun e w' ⟨v', he, hb⟩ => ⟨v', he, hb.rb⟩)
set_option maxHeartbeats 4000000 in
theorem all_row {w : World} {l m : List Ct} {v u : Value} (h : Rb w l v) (h' : Rb w m u) (hn : l.length + m.length ≤ 1073741823) (r : List Ct) (hr : joinS l m = r) :
    Calls Try.prog 64 #[v, u] w fun e w' => ∃ v', e = .returned v' ∧ Row w w.heap.size r v' w' := by
  subst hr
  have CL := Lib.hid (fun w' (hx : Ext w w') => clone_row (h.on hx) (by omega))
  have R1 := Lib.hid (fun w' (hx : Ext w w') => right_rb (h.on hx) (by omega) _ rfl)
  have R2 := Lib.hid (fun w' (hx : Ext w w') => right_rb (h'.on hx) (by omega) _ rfl)
  obtain ⟨a, c, rfl, -⟩ := h
  obtain ⟨a', c', rfl, h'⟩ := h'
  have H := Lib.hid h'
  have HN := Lib.hid hn
  unfold joinS
  clear h' hn
  obtain ⟨b, f⟩ : ∃ b, rightC l = b := ⟨_, rfl⟩
  obtain ⟨b', f'⟩ : ∃ b, rightC m = b := ⟨_, rfl⟩
  rw [f, f']
  rw [f] at R1
  rw [f'] at R2
  have F := Lib.hid f
  have F' := Lib.hid f'
  clear f f'
  cases b
  · clear R2
    go_enter Try.func64, Try.ntmps64
    go_wp2_with (first | (go_at_call 59; refine (CL.out _ (by (repeat' (first | with_reducible exact Ext.refl _ | with_reducible refine Ext.ext ?_ _ | with_reducible refine Ext.alloc ?_ _ | with_reducible refine Ext.drew ?_ | with_reducible refine Ext.drewN ?_ _ | with_reducible assumption)))).mono ?_; rintro e w' ⟨v', rfl, hb⟩; obtain ⟨z, rfl⟩ := hb.1; have HB := Lib.hid hb; clear hb) | (go_at_call 56; (with_reducible refine (R1.out _ (by (repeat' (first | with_reducible exact Ext.refl _ | with_reducible refine Ext.ext ?_ _ | with_reducible refine Ext.alloc ?_ _ | with_reducible refine Ext.drew ?_ | with_reducible refine Ext.drewN ?_ _ | with_reducible assumption)))).mono ?_); rintro e w' ⟨rfl, x1, rfl⟩))
    go_returns
    exact ⟨_, rfl, (HB.out.on (by (first | (with_reducible exact ext_more2 _ _ _) | (repeat' (first | with_reducible exact Ext.refl _ | with_reducible refine Ext.ext ?_ _ | with_reducible refine Ext.alloc ?_ _ | with_reducible refine Ext.drew ?_ | with_reducible refine Ext.drewN ?_ _ | with_reducible assumption)))))⟩
  cases b'
  · go_enter Try.func64, Try.ntmps64
    go_wp2_with (first | (go_at_call 59; refine (CL.out _ (by (repeat' (first | with_reducible exact Ext.refl _ | with_reducible refine Ext.ext ?_ _ | with_reducible refine Ext.alloc ?_ _ | with_reducible refine Ext.drew ?_ | with_reducible refine Ext.drewN ?_ _ | with_reducible assumption)))).mono ?_; rintro e w' ⟨v', rfl, hb⟩; obtain ⟨z, rfl⟩ := hb.1; have HB := Lib.hid hb; clear hb) | (go_at_call 56; (with_reducible refine (R1.out _ (by (repeat' (first | with_reducible exact Ext.refl _ | with_reducible refine Ext.ext ?_ _ | with_reducible refine Ext.alloc ?_ _ | with_reducible refine Ext.drew ?_ | with_reducible refine Ext.drewN ?_ _ | with_reducible assumption)))).mono ?_); rintro e w' ⟨rfl, x1, rfl⟩) | (go_at_call 56; (with_reducible refine (R2.out _ (by (repeat' (first | with_reducible exact Ext.refl _ | with_reducible refine Ext.ext ?_ _ | with_reducible refine Ext.alloc ?_ _ | with_reducible refine Ext.drew ?_ | with_reducible refine Ext.drewN ?_ _ | with_reducible assumption)))).mono ?_); rintro e w' ⟨rfl, x2, rfl⟩))
    go_returns
    exact ⟨_, rfl, (HB.out.on (by (first | (with_reducible exact ext_more2 _ _ _) | (repeat' (first | with_reducible exact Ext.refl _ | with_reducible refine Ext.ext ?_ _ | with_reducible refine Ext.alloc ?_ _ | with_reducible refine Ext.drew ?_ | with_reducible refine Ext.drewN ?_ _ | with_reducible assumption)))))⟩
  rw [show (true && true) = true from rfl, if_pos rfl]
  go_enter Try.func64, Try.ntmps64
  go_wp2_with (first | (go_at_call 59; refine (CL.out _ (by (repeat' (first | with_reducible exact Ext.refl _ | with_reducible refine Ext.ext ?_ _ | with_reducible refine Ext.alloc ?_ _ | with_reducible refine Ext.drew ?_ | with_reducible refine Ext.drewN ?_ _ | with_reducible assumption)))).mono ?_; rintro e w' ⟨v', rfl, hb⟩; obtain ⟨z, rfl⟩ := hb.1; have HB := Lib.hid hb; clear hb) | (go_at_call 56; (with_reducible refine (R1.out _ (by (repeat' (first | with_reducible exact Ext.refl _ | with_reducible refine Ext.ext ?_ _ | with_reducible refine Ext.alloc ?_ _ | with_reducible refine Ext.drew ?_ | with_reducible refine Ext.drewN ?_ _ | with_reducible assumption)))).mono ?_); rintro e w' ⟨rfl, x1, rfl⟩) | (go_at_call 56; (with_reducible refine (R2.out _ (by (repeat' (first | with_reducible exact Ext.refl _ | with_reducible refine Ext.ext ?_ _ | with_reducible refine Ext.alloc ?_ _ | with_reducible refine Ext.drew ?_ | with_reducible refine Ext.drewN ?_ _ | with_reducible assumption)))).mono ?_); rintro e w' ⟨rfl, x2, rfl⟩))
  go_loopw [5, 21] (fun v i wr => ∃ j : Nat, j ≤ m.length ∧ i = .int .i64 j ∧ Row w w.heap.size (joinF l (m.take j)) v wr) (fun _ i _ => m.length - (intOf i).toNat)
  case atStart => exact ⟨0, by omega, rfl, HB.out.on (by (first | (with_reducible exact ext_more2 _ _ _) | (repeat' (first | with_reducible exact Ext.refl _ | with_reducible refine Ext.ext ?_ _ | with_reducible refine Ext.alloc ?_ _ | with_reducible refine Ext.drew ?_ | with_reducible refine Ext.drewN ?_ _ | with_reducible assumption))))⟩
  case round =>
    obtain ⟨j, hj, rfl, hb⟩ := hrel
    obtain ⟨z', rfl⟩ := hb.1
    have HB := Lib.hid hb
    clear hb
    by_cases hlt : j < m.length
    · obtain ⟨x, hx⟩ : ∃ x, m[j]? = some x := ⟨m[j], List.getElem?_eq_getElem _⟩
      obtain ⟨b, off, rfl, -⟩ := H.out.cells (by omega)
      obtain ⟨q0, q1, q2, q3, q4, q5⟩ := cts_at H.out j x hx
      haveI : LtSz b w.heap.size := ⟨World.block_lt_of_cell? _ _ q0⟩
      have i1 : (0 : Int) ≤ j := by omega
      have i2 : (j : Int) < m.length := by omega
      have ew : wrap64 ((j : Int) + 1) = ((j + 1 : Nat) : Int) := (IntWalk.wrap64_in _ ⟨by omega, by have := HN.out; omega⟩).trans (by omega)
      have PT := Lib.hid (fun w1 v h => put_row (joinF l (m.take j)) w w1 v h (by have := joinF_len F.out (m.take j); rw [List.length_take] at this; have := HN.out; omega) (joinF_right F.out _) x.t x.n)
      rw [← joinF_snoc, ← take_snoc hx] at PT
      obtain ⟨xd, xa, xb, xc, xe, xn⟩ := x
      dsimp only [Ct.t] at q0 q1 q2 q3 q4 q5 PT
      clear hx
      go_wp2_with (go_at_call 85; refine (PT.out _ _ (by exact HB.out.on (by (first | (with_reducible exact ext_more2 _ _ _) | (repeat' (first | with_reducible exact Ext.refl _ | with_reducible refine Ext.ext ?_ _ | with_reducible refine Ext.alloc ?_ _ | with_reducible refine Ext.drew ?_ | with_reducible refine Ext.drewN ?_ _ | with_reducible assumption)))))).mono ?_; rintro e w2 ⟨v2, rfl, hb2⟩; obtain ⟨z2, rfl⟩ := hb2.1; have HB2 := Lib.hid hb2; clear hb2)
      exact ⟨⟨j + 1, by omega, congrArg (Value.int .i64) ew, HB2.out⟩, by rw [ew]; simp only [intOf]; omega⟩
    · obtain rfl : j = m.length := by omega
      rw [List.take_length] at HB
      go_wp2
      go_returns
      exact ⟨_, rfl, (HB.out.on (by (first | (with_reducible exact ext_more2 _ _ _) | (repeat' (first | with_reducible exact Ext.refl _ | with_reducible refine Ext.ext ?_ _ | with_reducible refine Ext.alloc ?_ _ | with_reducible refine Ext.drew ?_ | with_reducible refine Ext.drewN ?_ _ | with_reducible assumption)))))⟩
theorem all_rb {w : World} {l m : List Ct} {v u : Value} (h : Rb w l v) (h' : Rb w m u) (hn : l.length + m.length ≤ 1073741823) (r : List Ct) (hr : joinS l m = r) :
    Calls Try.prog 64 #[v, u] w fun e w' => ∃ v', e = .returned v' ∧ Ext w w' ∧ Rb w' r v' :=
  (all_row h h' hn r hr).mono (fun e w' ⟨v', he, hb⟩ => ⟨v', he, hb.rb⟩)
theorem at_rb {w : World} {l : List Ct} {v : Value} (h : Rb w l v) (hn : l.length ≤ 1073741823) (t : Tm) (r : Int) (hr : atS l t = r) :
    Calls Try.prog 67 #[v, .agg #[.int .i64 t.d, .int .i64 t.a, .int .i64 t.b, .int .i64 t.c, .int .i64 t.e]] w fun e w' => e = .returned (.int .i64 r) ∧ Ext w w' := by
  subst hr
  have RT := Lib.hid (fun w' (hx : Ext w w') => right_rb (h.on hx) hn _ rfl)
  obtain ⟨a, c, rfl, h⟩ := h
  unfold atS
  obtain ⟨b, f⟩ : ∃ b, rightC l = b := ⟨_, rfl⟩
  rw [f] at RT ⊢
  cases b
  · obtain ⟨td, ta, tb, tc, te⟩ := t
    dsimp only
    clear f hn h
    rw [if_neg (by decide)]
    go_enter Try.func67, Try.ntmps67
    go_wp2_with (go_at_call 56; refine (RT.out _ (by (repeat' (first | with_reducible exact Ext.refl _ | with_reducible refine Ext.ext ?_ _ | with_reducible refine Ext.alloc ?_ _ | with_reducible refine Ext.drew ?_ | with_reducible refine Ext.drewN ?_ _ | with_reducible assumption)))).mono ?_; rintro e w' ⟨rfl, x1, rfl⟩)
    go_returns
    exact ⟨reti rfl rfl, by (repeat' (first | with_reducible exact Ext.refl _ | with_reducible refine Ext.ext ?_ _ | with_reducible refine Ext.alloc ?_ _ | with_reducible refine Ext.drew ?_ | with_reducible refine Ext.drewN ?_ _ | with_reducible assumption))⟩
  · rw [if_pos rfl, at_pos f]
    have PL := Lib.hid (fun w' (hx : Ext w w') => place_any l a _ c w' (h.of_ext hx) rfl (by omega) (right_srt f) t)
    have hhas : hasC l t = match l[posC l t]? with
      | some x => eqT x.t t
      | none => false := rfl
    cases hx : l[posC l t]? with
    | none =>
      rw [hx] at hhas
      dsimp only at hhas ⊢
      rw [hhas] at PL
      generalize posC l t = p at *
      obtain ⟨td, ta, tb, tc, te⟩ := t
      dsimp only at PL ⊢
      clear f hn h hx hhas
      go_enter Try.func67, Try.ntmps67
      go_wp2_with (first | (go_at_call 56; refine (RT.out _ (by (repeat' (first | with_reducible exact Ext.refl _ | with_reducible refine Ext.ext ?_ _ | with_reducible refine Ext.alloc ?_ _ | with_reducible refine Ext.drew ?_ | with_reducible refine Ext.drewN ?_ _ | with_reducible assumption)))).mono ?_; rintro e w' ⟨rfl, x1, rfl⟩) | (go_at_call 87; (with_reducible refine (PL.out _ (by (repeat' (first | with_reducible exact Ext.refl _ | with_reducible refine Ext.ext ?_ _ | with_reducible refine Ext.alloc ?_ _ | with_reducible refine Ext.drew ?_ | with_reducible refine Ext.drewN ?_ _ | with_reducible assumption)))).mono ?_); rintro e w' ⟨rfl, x2, rfl⟩))
      go_returns
      exact ⟨reti rfl rfl, by (repeat' (first | with_reducible exact Ext.refl _ | with_reducible refine Ext.ext ?_ _ | with_reducible refine Ext.alloc ?_ _ | with_reducible refine Ext.drew ?_ | with_reducible refine Ext.drewN ?_ _ | with_reducible assumption))⟩
    | some x =>
      rw [hx] at hhas
      dsimp only at hhas ⊢
      have hlt := (List.getElem?_eq_some_iff.1 hx).1
      rw [hhas] at PL
      obtain ⟨b, off, rfl, -⟩ := h.cells (by omega)
      obtain ⟨q0, q1, q2, q3, q4, q5⟩ := cts_at h (posC l t) x hx
      haveI : LtSz b w.heap.size := ⟨World.block_lt_of_cell? _ _ q0⟩
      generalize posC l t = p at *
      generalize eqT x.t t = be at *
      have i1 : (0 : Int) ≤ p := by omega
      have i2 : (p : Int) < l.length := by omega
      obtain ⟨td, ta, tb, tc, te⟩ := t
      obtain ⟨xd, xa, xb, xc, xe, xn⟩ := x
      dsimp only at PL q5 ⊢
      clear f hn h hx hhas q0 q1 q2 q3 q4 hlt
      cases be
      all_goals
        go_enter Try.func67, Try.ntmps67
        go_wp2_with (first | (go_at_call 56; refine (RT.out _ (by (repeat' (first | with_reducible exact Ext.refl _ | with_reducible refine Ext.ext ?_ _ | with_reducible refine Ext.alloc ?_ _ | with_reducible refine Ext.drew ?_ | with_reducible refine Ext.drewN ?_ _ | with_reducible assumption)))).mono ?_; rintro e w' ⟨rfl, x1, rfl⟩) | (go_at_call 87; (with_reducible refine (PL.out _ (by (repeat' (first | with_reducible exact Ext.refl _ | with_reducible refine Ext.ext ?_ _ | with_reducible refine Ext.alloc ?_ _ | with_reducible refine Ext.drew ?_ | with_reducible refine Ext.drewN ?_ _ | with_reducible assumption)))).mono ?_); rintro e w' ⟨rfl, x2, rfl⟩))
        go_returns
        exact ⟨reti rfl rfl, by (repeat' (first | with_reducible exact Ext.refl _ | with_reducible refine Ext.ext ?_ _ | with_reducible refine Ext.alloc ?_ _ | with_reducible refine Ext.drew ?_ | with_reducible refine Ext.drewN ?_ _ | with_reducible assumption))⟩
theorem tot_snoc {l : List Ct} {j : Nat} {x : Ct} (h : l[j]? = some x) : tot (l.take (j + 1)) = tot (l.take j) + x.n := by
  rw [take_snoc h]; unfold tot; simp
theorem tot_bound {l : List Ct} (h : rightC l = true) (j : Nat) : -2147483648 * (j : Int) ≤ tot (l.take j) ∧ tot (l.take j) ≤ 2147483648 * (j : Int) := by
  induction j with
  | zero => simp [tot]
  | succ j ih =>
    by_cases hlt : j < l.length
    · rw [tot_snoc (List.getElem?_eq_getElem hlt)]
      have := nOf h (List.getElem_mem hlt)
      omega
    · rw [List.take_of_length_le (by omega)] at ih ⊢
      omega
set_option maxHeartbeats 4000000 in
theorem total_rb {w : World} {l : List Ct} {v : Value} (h : Rb w l v) (hn : l.length ≤ 1073741823) (r : Int) (hr : totS l = r) :
    Calls Try.prog 34 #[v] w fun e w' => e = .returned (.int .i64 r) ∧ Ext w w' := by
  subst hr
  have RT := Lib.hid (fun w' (hx : Ext w w') => right_rb (h.on hx) hn _ rfl)
  obtain ⟨a, c, rfl, h⟩ := h
  unfold totS
  obtain ⟨b, f⟩ : ∃ b, rightC l = b := ⟨_, rfl⟩
  rw [f] at RT ⊢
  cases b
  · clear f hn h
    rw [if_neg (by decide)]
    go_enter Try.func34, Try.ntmps34
    go_wp2_with (go_at_call 56; refine (RT.out _ (by (repeat' (first | with_reducible exact Ext.refl _ | with_reducible refine Ext.ext ?_ _ | with_reducible refine Ext.alloc ?_ _ | with_reducible refine Ext.drew ?_ | with_reducible refine Ext.drewN ?_ _ | with_reducible assumption)))).mono ?_; rintro e w' ⟨rfl, x1, rfl⟩)
    go_returns
    exact ⟨reti rfl rfl, by (repeat' (first | with_reducible exact Ext.refl _ | with_reducible refine Ext.ext ?_ _ | with_reducible refine Ext.alloc ?_ _ | with_reducible refine Ext.drew ?_ | with_reducible refine Ext.drewN ?_ _ | with_reducible assumption))⟩
  · rw [if_pos rfl]
    have H := Lib.hid h
    have HN := Lib.hid hn
    have F := Lib.hid f
    obtain ⟨R, hR⟩ : ∃ R, R = tot l := ⟨_, rfl⟩
    rw [← hR]
    have HR := Lib.hid hR
    clear f hn h hR
    go_enter Try.func34, Try.ntmps34
    go_wp2_with (go_at_call 56; refine (RT.out _ (by (repeat' (first | with_reducible exact Ext.refl _ | with_reducible refine Ext.ext ?_ _ | with_reducible refine Ext.alloc ?_ _ | with_reducible refine Ext.drew ?_ | with_reducible refine Ext.drewN ?_ _ | with_reducible assumption)))).mono ?_; rintro e w' ⟨rfl, x1, rfl⟩)
    go_loopw [3, 10] (fun s i wr => ∃ j : Nat, j ≤ l.length ∧ i = .int .i64 j ∧ s = .int .i64 (tot (l.take j)) ∧ Ext w wr) (fun _ i _ => l.length - (intOf i).toNat)
    case atStart => exact ⟨0, by omega, rfl, rfl, by (repeat' (first | with_reducible exact Ext.refl _ | with_reducible refine Ext.ext ?_ _ | with_reducible refine Ext.alloc ?_ _ | with_reducible refine Ext.drew ?_ | with_reducible refine Ext.drewN ?_ _ | with_reducible assumption))⟩
    case round =>
      obtain ⟨j, hj, rfl, rfl, ⟨z', rfl⟩⟩ := hrel
      by_cases hlt : j < l.length
      · obtain ⟨x, hx⟩ : ∃ x, l[j]? = some x := ⟨l[j], List.getElem?_eq_getElem _⟩
        obtain ⟨b, off, rfl, -⟩ := H.out.cells (by omega)
        obtain ⟨q0, q1, q2, q3, q4, q5⟩ := cts_at H.out j x hx
        haveI : LtSz b w.heap.size := ⟨World.block_lt_of_cell? _ _ q0⟩
        have i1 : (0 : Int) ≤ j := by omega
        have i2 : (j : Int) < l.length := by omega
        have hb := tot_bound F.out (j + 1)
        have hs := tot_snoc hx
        rw [hs] at hb
        have HS := Lib.hid hs
        generalize tot (l.take j) = s at *
        obtain ⟨xd, xa, xb, xc, xe, xn⟩ := x
        dsimp only at q0 q1 q2 q3 q4 q5 hb HS
        have es : wrap64 (s + xn) = s + xn := IntWalk.wrap64_in _ ⟨by have := HN.out; omega, by have := HN.out; omega⟩
        clear hx hs hb
        have ew : wrap64 ((j : Int) + 1) = ((j + 1 : Nat) : Int) := (IntWalk.wrap64_in _ ⟨by omega, by have := HN.out; omega⟩).trans (by omega)
        go_wp2
        exact ⟨⟨j + 1, by omega, congrArg (Value.int .i64) ew, congrArg (Value.int .i64) (by first | exact HS.out.symm | exact es.trans HS.out.symm), by (repeat' (first | with_reducible exact Ext.refl _ | with_reducible refine Ext.ext ?_ _ | with_reducible refine Ext.alloc ?_ _ | with_reducible refine Ext.drew ?_ | with_reducible refine Ext.drewN ?_ _ | with_reducible assumption))⟩, by rw [ew]; simp only [intOf]; omega⟩
      · obtain rfl : j = l.length := by omega
        have HL := Lib.hid (show tot (l.take l.length) = R by rw [List.take_length, HR.out])
        go_wp2
        go_returns
        exact ⟨reti rfl HL.out, by (repeat' (first | with_reducible exact Ext.refl _ | with_reducible refine Ext.ext ?_ _ | with_reducible refine Ext.alloc ?_ _ | with_reducible refine Ext.drew ?_ | with_reducible refine Ext.drewN ?_ _ | with_reducible assumption))⟩
theorem posF_yes {l : List Ct} {j : Nat} {x : Ct} (h : l[j]? = some x) (hx : decide (0 < x.n) = true) : posF (l.take (j + 1)) = posF (l.take j) ++ [x.t] := by
  rw [take_snoc h]; unfold posF ts; rw [List.filter_append, List.filter_cons_of_pos (by simpa using hx), List.map_append]; rfl
theorem posF_no {l : List Ct} {j : Nat} {x : Ct} (h : l[j]? = some x) (hx : decide (0 < x.n) = false) : posF (l.take (j + 1)) = posF (l.take j) := by
  rw [take_snoc h]; unfold posF ts; rw [List.filter_append, List.filter_cons_of_neg (by simpa using hx)]; simp
theorem posF_len (l : List Ct) (j : Nat) : (posF (l.take j)).length ≤ l.length := by
  unfold posF
  rw [ts_len]
  exact Nat.le_trans (List.length_filter_le _ _) (by rw [List.length_take]; omega)
set_option maxHeartbeats 4000000 in
theorem frontier_row {w : World} {l : List Ct} {v : Value} (h : Rb w l v) (hn : l.length ≤ 1073741823) (r : List Tm) (hr : chT (frontL l) = r) :
    Calls Try.prog 35 #[v] w fun e w' => ∃ v', e = .returned v' ∧ _root_.Go.Proofs.Ytmngjifcgfnogaa.Row w w.heap.size r v' w' := by
  subst hr
  have RT := Lib.hid (fun w' (hx : Ext w w') => right_rb (h.on hx) hn _ rfl)
  obtain ⟨a, c, rfl, h⟩ := h
  unfold frontL
  obtain ⟨b, f⟩ : ∃ b, rightC l = b := ⟨_, rfl⟩
  rw [f] at RT ⊢
  cases b
  · clear f hn h
    rw [if_neg (by decide)]
    go_enter Try.func35, Try.ntmps35
    go_wp2_with (go_at_call 56; refine (RT.out _ (by (repeat' (first | with_reducible exact Ext.refl _ | with_reducible refine Ext.ext ?_ _ | with_reducible refine Ext.alloc ?_ _ | with_reducible refine Ext.drew ?_ | with_reducible refine Ext.drewN ?_ _ | with_reducible assumption)))).mono ?_; rintro e w' ⟨rfl, x1, rfl⟩)
    go_returns
    exact ⟨_, rfl, (_root_.Go.Proofs.Ytmngjifcgfnogaa.Row.nil _ _).on (by (repeat' (first | with_reducible exact Ext.refl _ | with_reducible refine Ext.ext ?_ _ | with_reducible refine Ext.alloc ?_ _ | with_reducible refine Ext.drew ?_ | with_reducible refine Ext.drewN ?_ _ | with_reducible assumption)))⟩
  · rw [if_pos rfl]
    have H := Lib.hid h
    have HN := Lib.hid hn
    have F := Lib.hid f
    have OF := Lib.hid (fun (W : World) (V : Value) (hb : _root_.Go.Proofs.Ytmngjifcgfnogaa.Rb W (posF l) V) => of_row hb (by have := posF_len l l.length; rw [List.take_length] at this; omega) _ rfl)
    clear f hn h
    go_enter Try.func35, Try.ntmps35
    go_wp2_with (go_at_call 56; refine (RT.out _ (by (repeat' (first | with_reducible exact Ext.refl _ | with_reducible refine Ext.ext ?_ _ | with_reducible refine Ext.alloc ?_ _ | with_reducible refine Ext.drew ?_ | with_reducible refine Ext.drewN ?_ _ | with_reducible assumption)))).mono ?_; rintro e w' ⟨rfl, x1, rfl⟩)
    go_loopw [3, 11] (fun v i wr => ∃ j : Nat, j ≤ l.length ∧ i = .int .i64 j ∧ _root_.Go.Proofs.Ytmngjifcgfnogaa.Row w w.heap.size (posF (l.take j)) v wr) (fun _ i _ => l.length - (intOf i).toNat)
    case atStart => exact ⟨0, by omega, rfl, (_root_.Go.Proofs.Ytmngjifcgfnogaa.Row.nil _ _).on (by (repeat' (first | with_reducible exact Ext.refl _ | with_reducible refine Ext.ext ?_ _ | with_reducible refine Ext.alloc ?_ _ | with_reducible refine Ext.drew ?_ | with_reducible refine Ext.drewN ?_ _ | with_reducible assumption)))⟩
    case round =>
      obtain ⟨j, hj, rfl, hb⟩ := hrel
      obtain ⟨z', rfl⟩ := hb.1
      obtain ⟨-, a3, c3, rfl, -⟩ := id hb
      have HB := Lib.hid hb
      clear hb
      by_cases hlt : j < l.length
      · obtain ⟨x, hx⟩ : ∃ x, l[j]? = some x := ⟨l[j], List.getElem?_eq_getElem _⟩
        obtain ⟨b, off, rfl, -⟩ := H.out.cells (by omega)
        obtain ⟨q0, q1, q2, q3, q4, q5⟩ := cts_at H.out j x hx
        haveI : LtSz b w.heap.size := ⟨World.block_lt_of_cell? _ _ q0⟩
        have i1 : (0 : Int) ≤ j := by omega
        have i2 : (j : Int) < l.length := by omega
        have ew : wrap64 ((j : Int) + 1) = ((j + 1 : Nat) : Int) := (IntWalk.wrap64_in _ ⟨by omega, by have := HN.out; omega⟩).trans (by omega)
        obtain ⟨bp, hp⟩ : ∃ b, decide (0 < x.n) = b := ⟨_, rfl⟩
        have PL := Lib.hid (posF_len l j)
        cases bp
        · have e := posF_no hx hp
          have HE := Lib.hid e
          obtain ⟨xd, xa, xb, xc, xe, xn⟩ := x
          dsimp only at q0 q1 q2 q3 q4 q5 hp
          clear hx e
          go_wp2
          exact ⟨⟨j + 1, by omega, congrArg (Value.int .i64) ew, by rw [HE.out]; exact HB.out.on (by (first | (with_reducible exact ext_more2 _ _ _) | (repeat' (first | with_reducible exact Ext.refl _ | with_reducible refine Ext.ext ?_ _ | with_reducible refine Ext.alloc ?_ _ | with_reducible refine Ext.drew ?_ | with_reducible refine Ext.drewN ?_ _ | with_reducible assumption))))⟩, by rw [ew]; simp only [intOf]; omega⟩
        · have e := posF_yes hx hp
          obtain ⟨xd, xa, xb, xc, xe, xn⟩ := x
          dsimp only at q0 q1 q2 q3 q4 q5 hp
          have HE := Lib.hid e
          clear hx e
          go_wp2_with (at_builtin; refine _root_.Go.Proofs.Ytmngjifcgfnogaa.push_row rfl _ _ rfl w _ (posF (l.take j)) _ (by exact HB.out.on (by (first | (with_reducible exact ext_more2 _ _ _) | (repeat' (first | with_reducible exact Ext.refl _ | with_reducible refine Ext.ext ?_ _ | with_reducible refine Ext.alloc ?_ _ | with_reducible refine Ext.drew ?_ | with_reducible refine Ext.drewN ?_ _ | with_reducible assumption))))) _ _ rfl rfl (by simp) (Nat.le_trans PL.out HN.out) ⟨xd, xa, xb, xc, xe⟩ ?_; intro v2 w2 hb2; rw [show posF (l.take j) ++ [⟨xd, xa, xb, xc, xe⟩] = posF (l.take (j + 1)) from HE.out.symm] at hb2; obtain ⟨z2, rfl⟩ := hb2.1; have HB2 := Lib.hid hb2; clear hb2)
          exact ⟨⟨j + 1, by omega, congrArg (Value.int .i64) ew, HB2.out⟩, by rw [ew]; simp only [intOf]; omega⟩
      · obtain rfl : j = l.length := by omega
        rw [List.take_length] at HB
        go_wp2_with (go_at_call 19; (with_reducible refine (OF.out _ _ ((HB.out.rb.2).on (by (repeat' (first | with_reducible exact Ext.refl _ | with_reducible refine Ext.ext ?_ _ | with_reducible refine Ext.alloc ?_ _ | with_reducible refine Ext.drew ?_ | with_reducible refine Ext.drewN ?_ _ | with_reducible assumption))))).mono ?_); rintro e w2 ⟨v2, rfl, hb2⟩; have HB2 := Lib.hid hb2; clear hb2)
        go_returns
        exact ⟨_, rfl, _root_.Go.Proofs.Ytmngjifcgfnogaa.Row.from0 HB2.out (by (repeat' (first | with_reducible exact Ext.refl _ | with_reducible refine Ext.ext ?_ _ | with_reducible refine Ext.alloc ?_ _ | with_reducible refine Ext.drew ?_ | with_reducible refine Ext.drewN ?_ _ | with_reducible assumption)))⟩
theorem frontier_rb {w : World} {l : List Ct} {v : Value} (h : Rb w l v) (hn : l.length ≤ 1073741823) (r : List Tm) (hr : chT (frontL l) = r) :
    Calls Try.prog 35 #[v] w fun e w' => ∃ v', e = .returned v' ∧ Ext w w' ∧ _root_.Go.Proofs.Ytmngjifcgfnogaa.Rb w' r v' :=
  (frontier_row h hn r hr).mono (fun e w' ⟨v', he, hb⟩ => ⟨v', he, hb.rb⟩)
end Go.Proofs.Ytmngjifcgfnogaa.Fr
