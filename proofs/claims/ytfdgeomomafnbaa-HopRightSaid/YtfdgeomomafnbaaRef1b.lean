/- Contract of backwashref01.Of and Step. -/
import Derived.Test.YtfdgeomomafnbaaRef1
namespace Go.Proofs.Ytfdgeomomafnbaa
set_option linter.unusedSimpArgs false
set_option linter.unusedVariables false
open Go.RowKit

theorem list_no (d a b c e : Int) (w : World) (h : rightB ⟨d, a, b, c, e⟩ = false) :
    Calls Try.prog 22 #[.agg #[.int .i64 d, .int .i64 a, .int .i64 b, .int .i64 c, .int .i64 e]] w fun r w' => r = .returned (.tuple #[.slice none 0 0, .bool false]) ∧ Ext w w' := by
  by_cases hd : 1 ≤ d ∧ d ≤ 4
  · exact (list_in d a b c e w hd.1 hd.2).mono fun r w' hp => by
      unfold ListPost at hp
      rwa [if_neg (by rw [h]; simp)] at hp
  · exact list_out d a b c e w (by omega)
theorem list_yes (d a b c e : Int) (w : World) (h : rightB ⟨d, a, b, c, e⟩ = true) :
    Calls Try.prog 22 #[.agg #[.int .i64 d, .int .i64 a, .int .i64 b, .int .i64 c, .int .i64 e]] w fun r w' => ∃ g cap, r = .returned (.tuple #[.slice (some ⟨g, 0, none⟩) d.toNat cap, .bool true]) ∧ Ext w w' ∧
      w'.ownsRow w.heap.size 3 1 (.slice (some ⟨g, 0, none⟩) d.toNat cap) d.toNat (ints (pre ⟨d, a, b, c, e⟩ 4)) := by
  obtain ⟨h1, h2⟩ : 1 ≤ d ∧ d ≤ 4 := rightB_d h
  exact (list_in d a b c e w h1 h2).mono fun r w' hp => by
    unfold ListPost at hp
    rwa [if_pos h] at hp

/-- The timestamp of a list's numbers. -/
def tmOf (l : List Int) : Tm := ⟨l.length, l.getD 0 0, l.getD 1 0, l.getD 2 0, l.getD 3 0⟩
def ofT (l : List Int) : Tm := if rightB (tmOf l) then tmOf l else tz
def ofB (l : List Int) : Bool := rightB (tmOf l)

theorem of_out (A : Option Addr) (n cap : Nat) (w : World) (h : n < 1 ∨ 4 < n) :
    Calls Try.prog 45 #[.slice A n cap] w fun r w' => r = .returned (.tuple #[tv tz, .bool false]) ∧ Ext w w' := by
  by_cases h0 : n = 0
  · subst h0
    clear h
    go_enter Try.func45, Try.ntmps45
    go_wp2
    go_returns
    exact ⟨rett rfl rfl, by (repeat' (first | with_reducible exact Ext.refl _ | with_reducible refine Ext.ext ?_ _ | with_reducible refine Ext.alloc ?_ _ | with_reducible refine Ext.drew ?_ | with_reducible refine Ext.drewN ?_ _ | with_reducible assumption))⟩
  · obtain ⟨h1, h2⟩ : 1 ≤ (n : Int) ∧ 4 < (n : Int) := by omega
    clear h h0
    go_enter Try.func45, Try.ntmps45
    go_wp2
    go_returns
    exact ⟨rett rfl rfl, by (repeat' (first | with_reducible exact Ext.refl _ | with_reducible refine Ext.ext ?_ _ | with_reducible refine Ext.alloc ?_ _ | with_reducible refine Ext.drew ?_ | with_reducible refine Ext.drewN ?_ _ | with_reducible assumption))⟩

theorem of_1 (x0 : Int) (b o cap : Nat) (w : World) (hb : b < w.heap.size) (c0 : w.cell? ⟨b, o, none⟩ = some (.int .i64 x0)) :
    Calls Try.prog 45 #[.slice (some ⟨b, o, none⟩) 1 cap] w fun r w' => r = .returned (.tuple #[tv (ofT [x0]), .bool (ofB [x0])]) ∧ Ext w w' := by
  cases hr : rightB ⟨1, x0, 0, 0, 0⟩
  all_goals
    have HR := Lib.hid hr
    clear hr
    go_enter Try.func45, Try.ntmps45
    go_wp2
    refine wp_loop_rounds 2 ?_
    iterate 2
      rw [rounds_succ]
      go_wp2_with (first | (go_at_call 22; refine (list_no _ _ _ _ _ _ HR.out).mono ?_; rintro r w' ⟨rfl, x, rfl⟩) | (go_at_call 22; refine (list_yes _ _ _ _ _ _ HR.out).mono ?_; rintro r w' ⟨g, c, rfl, ⟨x, rfl⟩, ho⟩; clear ho))
    go_returns
    exact ⟨rett rfl (by simp [ofT, ofB, tmOf, HR.out, tv, tz]), by (repeat' (first | with_reducible exact Ext.refl _ | with_reducible refine Ext.ext ?_ _ | with_reducible refine Ext.alloc ?_ _ | with_reducible refine Ext.drew ?_ | with_reducible refine Ext.drewN ?_ _ | with_reducible assumption))⟩

theorem of_2 (x0 x1 : Int) (b o cap : Nat) (w : World) (hb : b < w.heap.size) (c0 : w.cell? ⟨b, o, none⟩ = some (.int .i64 x0)) (c1 : w.cell? ⟨b, o + 1, none⟩ = some (.int .i64 x1)) :
    Calls Try.prog 45 #[.slice (some ⟨b, o, none⟩) 2 cap] w fun r w' => r = .returned (.tuple #[tv (ofT [x0, x1]), .bool (ofB [x0, x1])]) ∧ Ext w w' := by
  cases hr : rightB ⟨2, x0, x1, 0, 0⟩
  all_goals
    have HR := Lib.hid hr
    clear hr
    go_enter Try.func45, Try.ntmps45
    go_wp2
    refine wp_loop_rounds 3 ?_
    iterate 3
      rw [rounds_succ]
      go_wp2_with (first | (go_at_call 22; refine (list_no _ _ _ _ _ _ HR.out).mono ?_; rintro r w' ⟨rfl, x, rfl⟩) | (go_at_call 22; refine (list_yes _ _ _ _ _ _ HR.out).mono ?_; rintro r w' ⟨g, c, rfl, ⟨x, rfl⟩, ho⟩; clear ho))
    go_returns
    exact ⟨rett rfl (by simp [ofT, ofB, tmOf, HR.out, tv, tz]), by (repeat' (first | with_reducible exact Ext.refl _ | with_reducible refine Ext.ext ?_ _ | with_reducible refine Ext.alloc ?_ _ | with_reducible refine Ext.drew ?_ | with_reducible refine Ext.drewN ?_ _ | with_reducible assumption))⟩

theorem of_3 (x0 x1 x2 : Int) (b o cap : Nat) (w : World) (hb : b < w.heap.size) (c0 : w.cell? ⟨b, o, none⟩ = some (.int .i64 x0)) (c1 : w.cell? ⟨b, o + 1, none⟩ = some (.int .i64 x1)) (c2 : w.cell? ⟨b, o + 2, none⟩ = some (.int .i64 x2)) :
    Calls Try.prog 45 #[.slice (some ⟨b, o, none⟩) 3 cap] w fun r w' => r = .returned (.tuple #[tv (ofT [x0, x1, x2]), .bool (ofB [x0, x1, x2])]) ∧ Ext w w' := by
  cases hr : rightB ⟨3, x0, x1, x2, 0⟩
  all_goals
    have HR := Lib.hid hr
    clear hr
    go_enter Try.func45, Try.ntmps45
    go_wp2
    refine wp_loop_rounds 4 ?_
    iterate 4
      rw [rounds_succ]
      go_wp2_with (first | (go_at_call 22; refine (list_no _ _ _ _ _ _ HR.out).mono ?_; rintro r w' ⟨rfl, x, rfl⟩) | (go_at_call 22; refine (list_yes _ _ _ _ _ _ HR.out).mono ?_; rintro r w' ⟨g, c, rfl, ⟨x, rfl⟩, ho⟩; clear ho))
    go_returns
    exact ⟨rett rfl (by simp [ofT, ofB, tmOf, HR.out, tv, tz]), by (repeat' (first | with_reducible exact Ext.refl _ | with_reducible refine Ext.ext ?_ _ | with_reducible refine Ext.alloc ?_ _ | with_reducible refine Ext.drew ?_ | with_reducible refine Ext.drewN ?_ _ | with_reducible assumption))⟩

theorem of_4 (x0 x1 x2 x3 : Int) (b o cap : Nat) (w : World) (hb : b < w.heap.size) (c0 : w.cell? ⟨b, o, none⟩ = some (.int .i64 x0)) (c1 : w.cell? ⟨b, o + 1, none⟩ = some (.int .i64 x1)) (c2 : w.cell? ⟨b, o + 2, none⟩ = some (.int .i64 x2)) (c3 : w.cell? ⟨b, o + 3, none⟩ = some (.int .i64 x3)) :
    Calls Try.prog 45 #[.slice (some ⟨b, o, none⟩) 4 cap] w fun r w' => r = .returned (.tuple #[tv (ofT [x0, x1, x2, x3]), .bool (ofB [x0, x1, x2, x3])]) ∧ Ext w w' := by
  cases hr : rightB ⟨4, x0, x1, x2, x3⟩
  all_goals
    have HR := Lib.hid hr
    clear hr
    go_enter Try.func45, Try.ntmps45
    go_wp2
    refine wp_loop_rounds 5 ?_
    iterate 5
      rw [rounds_succ]
      go_wp2_with (first | (go_at_call 22; refine (list_no _ _ _ _ _ _ HR.out).mono ?_; rintro r w' ⟨rfl, x, rfl⟩) | (go_at_call 22; refine (list_yes _ _ _ _ _ _ HR.out).mono ?_; rintro r w' ⟨g, c, rfl, ⟨x, rfl⟩, ho⟩; clear ho))
    go_returns
    exact ⟨rett rfl (by simp [ofT, ofB, tmOf, HR.out, tv, tz]), by (repeat' (first | with_reducible exact Ext.refl _ | with_reducible refine Ext.ext ?_ _ | with_reducible refine Ext.alloc ?_ _ | with_reducible refine Ext.drew ?_ | with_reducible refine Ext.drewN ?_ _ | with_reducible assumption))⟩

end Go.Proofs.Ytfdgeomomafnbaa
