/- slices.Clone at []int64. -/
import Derived.Test.YtgjolablgcnlmaaSl
import Derived.Test.YtgjolablgcnlmaaRows
namespace Go.Proofs.Ytgjolablgcnlmaa
set_option linter.unusedSimpArgs false
set_option linter.unusedVariables false
open Go.RowKit

theorem info_i64e : (Try.prog.info? 2).map (fun i => (i.zero, i.size, i.bytes)) = some (some (.int .i64 0), 1, 8) := by kernel_rfl

theorem clone_i64e (v : Value) (n : Nat) (cs : List Value) (w : World) (h : Rd w 1 n v cs) (hl : n ≤ 1073741824) (hone : ∀ u ∈ cs, u.oneCell' = true) :
    Calls Try.prog 32 #[v] w fun e w' => ∃ v', e = .returned v' ∧ Ext w w' ∧ w'.ownsRow w.heap.size 2 1 v' n cs := by
  have q : ∀ (w : World) (a : Option Addr) (n c n' c' : Nat), (binOp .eql 22 (.slice a n c) (.slice none n' c')).run Try.prog w = .ok (.bool a.isNone) w := fun w a n c n' c' => Lib.run_eql_slice_nil w _ _ a n c n' c' Try.underlying22
  have q' : (binOp .eql 22 (.slice none 0 0) (.slice none 0 0)).run Try.prog w = .ok (.bool true) w := q w none 0 0 0 0
  obtain ⟨a, cap, rfl⟩ := h.form
  rcases Nat.eq_zero_or_pos n with h0 | h0
  · subst h0
    obtain rfl : cs = [] := by simpa using h.len
    cases a with
    | none =>
      go_enter Try.func32, Try.ntmps32
      go_wp2
      all_goals (go_ret; exact ⟨_, rfl, by (repeat' (first | with_reducible exact Ext.refl _ | with_reducible refine Ext.ext ?_ _ | with_reducible refine Ext.alloc ?_ _ | with_reducible refine Ext.drew ?_ | with_reducible refine Ext.drewN ?_ _ | with_reducible assumption)), World.ownsRow_nil _ _ _ _⟩)
    | some ad =>
      obtain ⟨i0, hi0, hz0, hz1, hz2⟩ := info_parts info_i64e
      go_enter Try.func32, Try.ntmps32
      go_wp2_with (at_builtin; refine wpList_append_own _ rfl _ _ 22 rfl w.heap.size 2 i0 _ 1 8 Try.underlying22 hi0 hz0 hz1 hz2 rfl (by decide) _ 0 [] rfl (World.ownsRow_made w #[] 0 (Nat.le_refl _) (by decide) (by simp)) ad 0 cap [] rfl (by simp) (by simp) (by simp) (by decide) (by decide) (by simp) ?_; intro v' w1 hown1 hgrow1 hnil1)
      go_ret
      refine ⟨_, rfl, Ext.grown (by (repeat' (first | with_reducible exact Ext.refl _ | with_reducible refine Ext.ext ?_ _ | with_reducible refine Ext.alloc ?_ _ | with_reducible refine Ext.drew ?_ | with_reducible refine Ext.drewN ?_ _ | with_reducible assumption))) hgrow1 (fun k hk => Nat.le_of_eq (Option.some.inj hk)), by simpa using hown1⟩
  · obtain ⟨b, off, rfl, hc⟩ := h.cells h0
    have HC := Lib.hid hc
    have HH := Lib.hid h
    have HO := Lib.hid hone
    clear hc h hone
    go_enter Try.func32, Try.ntmps32
    go_wp2_with (at_builtin; refine wpList_pushS rfl _ _ 22 rfl 2 (.int .i64 0) 1 8 Try.underlying22 info_i64e rfl (by decide) w _ (by (repeat' (first | with_reducible exact Ext.refl _ | with_reducible refine Ext.ext ?_ _ | with_reducible refine Ext.alloc ?_ _ | with_reducible refine Ext.drew ?_ | with_reducible refine Ext.drewN ?_ _ | with_reducible assumption))) w.heap.size _ 0 [] (World.ownsRow_made w #[] 0 (Nat.le_refl _) (by decide) (by simp)) n _ cs rfl rfl (HH.out.of_ext (by (repeat' (first | with_reducible exact Ext.refl _ | with_reducible refine Ext.ext ?_ _ | with_reducible refine Ext.alloc ?_ _ | with_reducible refine Ext.drew ?_ | with_reducible refine Ext.drewN ?_ _ | with_reducible assumption)))) HO.out h0 (by unfold maxLen; omega) (by omega) (by simp) (Nat.le_refl _) ?_; intro g cap1 y hown1 hgrow1 hat)
    go_ret
    simp only [Nat.zero_add, List.nil_append] at hown1 ⊢
    exact ⟨_, rfl, by (repeat' (first | with_reducible exact Ext.refl _ | with_reducible refine Ext.ext ?_ _ | with_reducible refine Ext.alloc ?_ _ | with_reducible refine Ext.drew ?_ | with_reducible refine Ext.drewN ?_ _ | with_reducible assumption)), hown1⟩

theorem one_ints (k : IntKind) (xs : List Int) : ∀ u ∈ xs.map (Value.int k), u.oneCell' = true := by
  intro u hu
  obtain ⟨n, _, rfl⟩ := List.mem_map.1 hu
  rfl
theorem clone64_any (v : Value) (xs : List Int) (w : World) (h : Ri w .i64 v xs) (hl : xs.length ≤ 1073741824) :
    Calls Try.prog 32 #[v] w fun e w' => ∃ a c, e = .returned (.slice a xs.length c) ∧ Ext w w' ∧ w'.ownsRow w.heap.size 2 1 (.slice a xs.length c) xs.length (xs.map (Value.int .i64)) :=
  (clone_i64e v _ _ w h hl (one_ints _ _)).mono fun e w' ⟨v', he, hx, ho⟩ => by
    obtain ⟨a, c, rfl⟩ := (own_rd ho).form
    exact ⟨a, c, he, hx, ho⟩
end Go.Proofs.Ytgjolablgcnlmaa
