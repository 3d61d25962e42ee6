/- Credit: copied. -/
import Derived.Test.YtgjolablgcnlmaaCr1
import Derived.Test.YtgjolablgcnlmaaOwnG
namespace Go.Proofs.Ytgjolablgcnlmaa
set_option linter.unusedSimpArgs false
set_option linter.unusedVariables false
open Go.RowKit

/-- Two rows of the call's own, apart. -/
def Own2 (w : World) (b : Nat) (v u : Value) (xs ys : List Int) : Prop := w.ownsRow b 2 1 v xs.length (xs.map (Value.int .i64)) ∧ w.ownsRow b 2 1 u ys.length (ys.map (Value.int .i64)) ∧ (v.ownBlock = none ∨ v.ownBlock ≠ u.ownBlock)

set_option maxHeartbeats 1000000 in
theorem crCopied_any (s m b : Int) (a1 a2 : Option Addr) (c1 c2 : Nat) (xs ys : List Int) (w : World) (h1 : Ri w .i64 (.slice a1 xs.length c1) xs) (h2 : Ri w .i64 (.slice a2 ys.length c2) ys) (l1 : xs.length ≤ 1073741824) (l2 : ys.length ≤ 1073741824) :
    Calls Try.prog 25 #[.agg #[.int .i64 s, .int .i64 m, .slice a1 xs.length c1, .slice a2 ys.length c2, .int .i64 b]] w fun e w' => ∃ a1' c1' a2' c2', e = .returned (.agg #[.int .i64 s, .int .i64 m, .slice a1' xs.length c1', .slice a2' ys.length c2', .int .i64 b]) ∧ Ext w w' ∧ Own2 w' w.heap.size (.slice a1' xs.length c1') (.slice a2' ys.length c2') xs ys := by
  have H1 := Lib.hid h1
  have H2 := Lib.hid h2
  have L1 := Lib.hid l1
  have L2 := Lib.hid l2
  clear h1 h2 l1 l2
  go_enter Try.func25, Try.ntmps25
  go_wp2
  go_region_with
    (first | (go_at_call 32; (with_reducible refine (clone64_any (.slice a1 xs.length c1) _ _ (H1.out.of_ext (by (repeat' (first | with_reducible exact Ext.refl _ | with_reducible refine Ext.ext ?_ _ | with_reducible refine Ext.alloc ?_ _ | with_reducible refine Ext.drew ?_ | with_reducible refine Ext.drewN ?_ _ | with_reducible assumption)))) L1.out).mono ?_); rintro e w' ⟨a1', c1', rfl, ⟨x1, rfl⟩, hown1⟩; (try simp only [ext_ext, add_assoc, ext_drew, ext_drewN, drew_ext, drewN_ext] at hown1)) | (go_at_call 32; (with_reducible refine (clone64_any (.slice a2 ys.length c2) _ _ (H2.out.of_ext (by (repeat' (first | with_reducible exact Ext.refl _ | with_reducible refine Ext.ext ?_ _ | with_reducible refine Ext.alloc ?_ _ | with_reducible refine Ext.drew ?_ | with_reducible refine Ext.drewN ?_ _ | with_reducible assumption)))) L2.out).mono ?_); rintro e w' ⟨a2', c2', rfl, ⟨x2, rfl⟩, hown2⟩; (try simp only [ext_ext, add_assoc, ext_drew, ext_drewN, drew_ext, drewN_ext] at hown2)))
  all_goals
    go_wp2
    go_returns
    refine ⟨_, _, _, _, rfl, by (repeat' (first | with_reducible exact Ext.refl _ | with_reducible refine Ext.ext ?_ _ | with_reducible refine Ext.alloc ?_ _ | with_reducible refine Ext.drew ?_ | with_reducible refine Ext.drewN ?_ _ | with_reducible assumption)), own_swap hown1 (by simp) (by simp) (by simp; omega) (by first | exact .inl rfl | exact .inr ⟨_, rfl⟩), own_swap hown2 (by simp) (by simp) (by simp; omega) (by first | exact .inl rfl | exact .inr ⟨_, rfl⟩), own_apart hown1 hown2 (by simp)⟩
end Go.Proofs.Ytgjolablgcnlmaa
