/- Bag: slices.Clone of items, Add. -/
import Derived.Test.YtbglfaomebokhaaBg9
import Derived.Test.YtbglfaomebokhaaApp
namespace Go.Proofs.Ytbglfaomebokhaa
set_option linter.unusedSimpArgs false
set_option linter.unusedVariables false
open Go.RowKit

theorem info_its3 : (Try.prog.info? 30).map (fun i => (i.zero, i.size, i.bytes)) = some (some (.agg #[.int .i64 0, .int .i64 0, .int .i64 0]), 3, 24) := by kernel_rfl

theorem clone_its3 (v : Value) (n : Nat) (cs : List Value) (w : World) (h : Rd w 3 n v cs) (hl : n ≤ 1073741824) (hone : ∀ u ∈ cs, u.oneCell' = true) :
    Calls Try.prog 46 #[v] w fun e w' => ∃ v', e = .returned v' ∧ Ext w w' ∧ w'.ownsRow w.heap.size 30 3 v' n cs := by
  have q : ∀ (w : World) (a : Option Addr) (n c n' c' : Nat), (binOp .eql 22 (.slice a n c) (.slice none n' c')).run Try.prog w = .ok (.bool a.isNone) w := fun w a n c n' c' => Lib.run_eql_slice_nil w _ _ a n c n' c' Try.underlying22
  have q' : (binOp .eql 22 (.slice none 0 0) (.slice none 0 0)).run Try.prog w = .ok (.bool true) w := q w none 0 0 0 0
  obtain ⟨a, cap, rfl⟩ := h.form
  rcases Nat.eq_zero_or_pos n with h0 | h0
  · subst h0
    obtain rfl : cs = [] := by simpa using h.len
    cases a with
    | none =>
      go_enter Try.func46, Try.ntmps46
      go_wp2
      all_goals (go_ret; exact ⟨_, rfl, by (repeat' (first | with_reducible exact Ext.refl _ | with_reducible refine Ext.ext ?_ _ | with_reducible refine Ext.alloc ?_ _ | with_reducible refine Ext.drew ?_ | with_reducible refine Ext.drewN ?_ _ | with_reducible assumption)), World.ownsRow_nil _ _ _ _⟩)
    | some ad =>
      obtain ⟨i0, hi0, hz0, hz1, hz2⟩ := info_parts info_its3
      go_enter Try.func46, Try.ntmps46
      go_wp2_with (at_builtin; refine wpList_append_own _ rfl _ _ 22 rfl w.heap.size 30 i0 _ 3 24 Try.underlying22 hi0 hz0 hz1 hz2 rfl (by decide) _ 0 [] rfl (World.ownsRow_made w #[] 0 (Nat.le_refl _) (by decide) (by simp)) ad 0 cap [] rfl (by simp) (by simp) (by simp) (by decide) (by decide) (by simp) ?_; intro v' w1 hown1 hgrow1 hnil1)
      go_ret
      refine ⟨_, rfl, Ext.grown (by (repeat' (first | with_reducible exact Ext.refl _ | with_reducible refine Ext.ext ?_ _ | with_reducible refine Ext.alloc ?_ _ | with_reducible refine Ext.drew ?_ | with_reducible refine Ext.drewN ?_ _ | with_reducible assumption))) hgrow1 (fun k hk => Nat.le_of_eq (Option.some.inj hk)), by simpa using hown1⟩
  · obtain ⟨b, off, rfl, hc⟩ := h.cells h0
    have HC := Lib.hid hc
    have HH := Lib.hid h
    have HO := Lib.hid hone
    clear hc h hone
    go_enter Try.func46, Try.ntmps46
    go_wp2_with (at_builtin; refine wpList_pushS rfl _ _ 22 rfl 30 (.agg #[.int .i64 0, .int .i64 0, .int .i64 0]) 3 24 Try.underlying22 info_its3 rfl (by decide) w _ (by (repeat' (first | with_reducible exact Ext.refl _ | with_reducible refine Ext.ext ?_ _ | with_reducible refine Ext.alloc ?_ _ | with_reducible refine Ext.drew ?_ | with_reducible refine Ext.drewN ?_ _ | with_reducible assumption))) w.heap.size _ 0 [] (World.ownsRow_made w #[] 0 (Nat.le_refl _) (by decide) (by simp)) n _ cs rfl rfl (HH.out.of_ext (by (repeat' (first | with_reducible exact Ext.refl _ | with_reducible refine Ext.ext ?_ _ | with_reducible refine Ext.alloc ?_ _ | with_reducible refine Ext.drew ?_ | with_reducible refine Ext.drewN ?_ _ | with_reducible assumption)))) HO.out h0 (by unfold maxLen; omega) (by omega) (by simp) (Nat.le_refl _) ?_; intro g cap1 y hown1 hgrow1 hat)
    go_ret
    simp only [Nat.zero_add, List.nil_append] at hown1 ⊢
    exact ⟨_, rfl, by (repeat' (first | with_reducible exact Ext.refl _ | with_reducible refine Ext.ext ?_ _ | with_reducible refine Ext.alloc ?_ _ | with_reducible refine Ext.drew ?_ | with_reducible refine Ext.drewN ?_ _ | with_reducible assumption)), hown1⟩
theorem ext_more2 (w : World) (x y : Inc) : Ext (ext w x) (ext w (x.add y)) := ⟨y, (ext_ext _ _ _).symm⟩
/-- An own row of items, new above 'base', in a world that 'w0' has grown into. -/
def Bag (w0 : World) (base : Nat) (l : List It) (v : Value) (w : World) : Prop :=
  Ext w0 w ∧ ∃ a c, v = .slice a l.length c ∧ w.ownsRow base 30 3 (.slice a l.length c) l.length (its l)
theorem Bag.of_grows {w0 w w' : World} {base : Nat} {v : Value} {l : List It} {e : Ending} (hx : Ext w0 w) (hv : ∀ k, v.ownBlock = some k → w0.heap.size ≤ k) (h : Grows w base v l e w') : ∃ v', e = .returned v' ∧ Bag w0 base l v' w' := by
  obtain ⟨b, c, rfl, hg, ho, -⟩ := h
  exact ⟨_, rfl, hx.grown hg hv, b, c, rfl, ho⟩
def addS (l : List It) (r : Int × Int) (q : Int) : List It := if rightB l then putS l r q else l
/-- 'put', the row being new since w0. -/
theorem put_bag (l : List It) (w0 w : World) (v : Value) (h : Bag w0 w0.heap.size l v w) (hn : l.length ≤ 1073741823) (hr : rightB l = true) (r : Int × Int) (q : Int) :
    Calls Try.prog 47 #[v, .agg #[.int .i64 r.1, .int .i64 r.2], .int .i64 q] w fun e w' => ∃ v', e = .returned v' ∧ Bag w0 w0.heap.size (putS l r q) v' w' := by
  obtain ⟨hx, a, c, rfl, ho⟩ := h
  exact (put_any l a _ c w0.heap.size w0 w hx (Nat.le_refl _) (by have := (Ext.grows hx none).size; omega) ho rfl hn hr r q).mono (fun e w' hg => Bag.of_grows hx (fun k hk => (ho.lt k hk).1) hg)
theorem clone_bag (l : List It) (a : Option Addr) (c : Nat) (w : World) (h : Rd w 3 l.length (.slice a l.length c) (its l)) (hn : l.length ≤ 1073741823) :
    Calls Try.prog 46 #[.slice a l.length c] w fun e w' => ∃ v', e = .returned v' ∧ Bag w w.heap.size l v' w' := by
  refine (clone_its3 _ _ _ w h (by omega) (its_one l)).mono ?_
  rintro e w' ⟨v', rfl, hx, ho⟩
  obtain ⟨a', c', rfl⟩ := (own_rd ho).form
  exact ⟨_, rfl, hx, a', c', rfl, ho⟩
theorem Bag.up {w0 w1 w : World} {base : Nat} {l : List It} {v : Value} (h : Bag w1 base l v w) (hx : Ext w0 w1) : Bag w0 base l v w := ⟨hx.trans h.1, h.2⟩
theorem Bag.low {w0 w : World} {b b' : Nat} {l : List It} {v : Value} (h : Bag w0 b l v w) (hb : b' ≤ b) : Bag w0 b' l v w := by
  obtain ⟨hx, a, c, rfl, ho⟩ := h
  exact ⟨hx, a, c, rfl, own_base ho hb⟩
theorem Bag.on {w0 w w' : World} {base : Nat} {l : List It} {v : Value} (h : Bag w0 base l v w) (hx : Ext w w') : Bag w0 base l v w' := by
  obtain ⟨h1, a, c, rfl, ho⟩ := h
  exact ⟨h1.trans hx, a, c, rfl, own_of_extY ho hx⟩
theorem Bag.from0 {w0 w1 w : World} {l : List It} {v : Value} (h : Bag w1 w1.heap.size l v w) (hx : Ext w0 w1) : Bag w0 w0.heap.size l v w := (h.up hx).low ((Ext.grows hx none).size)
theorem add_any (l : List It) (a : Option Addr) (c : Nat) (w : World) (h : Rd w 3 l.length (.slice a l.length c) (its l)) (hn : l.length ≤ 1073741823) (r : Int × Int) (q : Int) :
    Calls Try.prog 36 #[.slice a l.length c, .agg #[.int .i64 r.1, .int .i64 r.2], .int .i64 q] w fun e w' => ∃ v', e = .returned v' ∧ Bag w w.heap.size (addS l r q) v' w' := by
  obtain ⟨K, V⟩ := r
  have CL := Lib.hid (fun w' (hx : Ext w w') => clone_bag l a c w' (h.of_ext hx) hn)
  have RT := Lib.hid (fun w' (hx : Ext w w') => bagRight_any l a _ c w' (h.of_ext hx) rfl (by omega))
  have PT := Lib.hid (fun w0 w v h hr => put_bag l w0 w v h hn hr (K, V) q)
  unfold addS
  dsimp only
  clear h hn
  obtain ⟨b, f⟩ : ∃ b, rightB l = b := ⟨_, rfl⟩
  rw [f] at RT ⊢
  have F := Lib.hid f
  clear f
  cases b
  all_goals
    go_enter Try.func36, Try.ntmps36
    go_wp2_with (first | (go_at_call 46; refine (CL.out _ (by (repeat' (first | with_reducible exact Ext.refl _ | with_reducible refine Ext.ext ?_ _ | with_reducible refine Ext.alloc ?_ _ | with_reducible refine Ext.drew ?_ | with_reducible refine Ext.drewN ?_ _ | with_reducible assumption)))).mono ?_; rintro e w' ⟨v', rfl, hb⟩; obtain ⟨z, rfl⟩ := hb.1; have HB := Lib.hid hb; clear hb) | (go_at_call 14; refine (RT.out _ (by (repeat' (first | with_reducible exact Ext.refl _ | with_reducible refine Ext.ext ?_ _ | with_reducible refine Ext.alloc ?_ _ | with_reducible refine Ext.drew ?_ | with_reducible refine Ext.drewN ?_ _ | with_reducible assumption)))).mono ?_; rintro e w' ⟨rfl, x1, rfl⟩) | (go_at_call 47; refine (PT.out (w.alloc (.cells #[.int .i64 K, .int .i64 V] 28)) _ _ (by exact HB.out.on (by (first | (with_reducible exact ext_more2 _ _ _) | (repeat' (first | with_reducible exact Ext.refl _ | with_reducible refine Ext.ext ?_ _ | with_reducible refine Ext.alloc ?_ _ | with_reducible refine Ext.drew ?_ | with_reducible refine Ext.drewN ?_ _ | with_reducible assumption))))) F.out).mono ?_; rintro e w2 ⟨v2, rfl, hb2⟩; have HB2 := Lib.hid hb2; clear hb2))
    go_returns
    refine ⟨_, rfl, Bag.from0 (w1 := w.alloc (.cells #[.int .i64 K, .int .i64 V] 28)) ?_ (by (repeat' (first | with_reducible exact Ext.refl _ | with_reducible refine Ext.ext ?_ _ | with_reducible refine Ext.alloc ?_ _ | with_reducible refine Ext.drew ?_ | with_reducible refine Ext.drewN ?_ _ | with_reducible assumption)))⟩
    first
      | exact HB2.out.on (by (first | (with_reducible exact ext_more2 _ _ _) | (repeat' (first | with_reducible exact Ext.refl _ | with_reducible refine Ext.ext ?_ _ | with_reducible refine Ext.alloc ?_ _ | with_reducible refine Ext.drew ?_ | with_reducible refine Ext.drewN ?_ _ | with_reducible assumption))))
      | exact HB.out.on (by (first | (with_reducible exact ext_more2 _ _ _) | (repeat' (first | with_reducible exact Ext.refl _ | with_reducible refine Ext.ext ?_ _ | with_reducible refine Ext.alloc ?_ _ | with_reducible refine Ext.drew ?_ | with_reducible refine Ext.drewN ?_ _ | with_reducible assumption))))
end Go.Proofs.Ytbglfaomebokhaa
