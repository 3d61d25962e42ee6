/- Credit: the four functions in the law's words. -/
import Derived.Test.YtgjolablgcnlmaaCrE
namespace Go.Proofs.Ytgjolablgcnlmaa
set_option linter.unusedSimpArgs false
set_option linter.unusedVariables false
open Go.RowKit

section
variable (s m b : Int) (xs ys : List Int) (l1 : xs.length ≤ 100) (l2 : ys.length ≤ 100) (a a' : Option Addr) (c c' : Nat) (W : World) (h : LaneV W a c a' c' ⟨s, m, b, xs, ys⟩) (L : Ln) (es : Int)
include l1 l2 h
theorem send_let (v : Int) (hL : sendN ⟨s, m, b, xs, ys⟩ v = L) (he : mayN ⟨s, m, b, xs, ys⟩ m 9 = es) :
    Calls Try.prog 13 #[.agg #[.int .i64 s, .int .i64 m, .slice a xs.length c, .slice a' ys.length c', .int .i64 b], .int .i64 v] W fun e w' => ∃ a1 c1 a2 c2, e = .returned (.tuple #[.agg #[.int .i64 L.s, .int .i64 L.m, .slice a1 L.way.length c1, .slice a2 L.waits.length c2, .int .i64 L.b], .int .i64 es]) ∧ Ext W w' ∧ LaneV w' a1 c1 a2 c2 L := by
  subst hL he
  exact (send_any ⟨s, m, b, xs, ys⟩ a a' c c' W h (Nat.le_trans l1 (by decide)) (Nat.le_trans l2 (by decide)) v).mono fun e w' ⟨a1, c1, a2, c2, hf, hx, hv, _⟩ => ⟨a1, c1, a2, c2, hf, hx, hv⟩
theorem arrive_let (hL : arriveN ⟨s, m, b, xs, ys⟩ = L) (he : mayN ⟨s, m, b, xs, ys⟩ xs.length 12 = es) :
    Calls Try.prog 14 #[.agg #[.int .i64 s, .int .i64 m, .slice a xs.length c, .slice a' ys.length c', .int .i64 b]] W fun e w' => ∃ a1 c1 a2 c2, e = .returned (.tuple #[.agg #[.int .i64 L.s, .int .i64 L.m, .slice a1 L.way.length c1, .slice a2 L.waits.length c2, .int .i64 L.b], .int .i64 es]) ∧ Ext W w' ∧ LaneV w' a1 c1 a2 c2 L := by
  subst hL he
  exact (arrive_any ⟨s, m, b, xs, ys⟩ a a' c c' W h (Nat.le_trans l1 (by decide)) (Nat.le_trans l2 (by decide))).mono fun e w' ⟨a1, c1, a2, c2, hf, hx, hv, _⟩ => ⟨a1, c1, a2, c2, hf, hx, hv⟩
theorem take_let (x : Int) (hL : takeN ⟨s, m, b, xs, ys⟩ = L) (hx : tookN ⟨s, m, b, xs, ys⟩ = x) (he : mayN ⟨s, m, b, xs, ys⟩ ys.length 12 = es) :
    Calls Try.prog 15 #[.agg #[.int .i64 s, .int .i64 m, .slice a xs.length c, .slice a' ys.length c', .int .i64 b]] W fun e w' => ∃ a1 c1 a2 c2, e = .returned (.tuple #[.agg #[.int .i64 L.s, .int .i64 L.m, .slice a1 L.way.length c1, .slice a2 L.waits.length c2, .int .i64 L.b], .int .i64 x, .int .i64 es]) ∧ Ext W w' ∧ LaneV w' a1 c1 a2 c2 L := by
  subst hL he hx
  exact (take_any ⟨s, m, b, xs, ys⟩ a a' c c' W h (Nat.le_trans l1 (by decide)) (Nat.le_trans l2 (by decide))).mono fun e w' ⟨a1, c1, a2, c2, hf, hx, hv, _⟩ => ⟨a1, c1, a2, c2, hf, hx, hv⟩
theorem return_let (hL : returnN ⟨s, m, b, xs, ys⟩ = L) (he : mayN ⟨s, m, b, xs, ys⟩ b 12 = es) :
    Calls Try.prog 16 #[.agg #[.int .i64 s, .int .i64 m, .slice a xs.length c, .slice a' ys.length c', .int .i64 b]] W fun e w' => ∃ a1 c1 a2 c2, e = .returned (.tuple #[.agg #[.int .i64 L.s, .int .i64 L.m, .slice a1 L.way.length c1, .slice a2 L.waits.length c2, .int .i64 L.b], .int .i64 es]) ∧ Ext W w' ∧ LaneV w' a1 c1 a2 c2 L := by
  subst hL he
  exact (return_any ⟨s, m, b, xs, ys⟩ a a' c c' W h (Nat.le_trans l1 (by decide)) (Nat.le_trans l2 (by decide))).mono fun e w' ⟨a1, c1, a2, c2, hf, hx, hv, _⟩ => ⟨a1, c1, a2, c2, hf, hx, hv⟩
end
theorem bad_plain {l : Ln} (h : rightN l = false) (v n k : Int) : mayN l n k = 10 ∧ sendN l v = l ∧ arriveN l = l ∧ takeN l = l ∧ tookN l = 0 ∧ returnN l = l := by
  have hm : ∀ n k, mayN l n k = 10 := fun n k => by unfold mayN mayL; rw [h]; rfl
  refine ⟨hm n k, ?_, ?_, ?_, ?_, ?_⟩
  · unfold sendN; rw [hm, if_neg (by decide)]
  · unfold arriveN; rw [hm, if_neg (by decide)]
  · unfold takeN; rw [hm, if_neg (by decide)]
  · unfold tookN; rw [hm, if_neg (by decide)]
  · unfold returnN; rw [hm, if_neg (by decide)]
/-- A lane in the law's own words. -/
theorem same_let (L : Ln) (a1 a2 a3 a4 : Option Addr) (c1 c2 c3 c4 : Nat) (w : World) (h : LaneV w a1 c1 a2 c2 L) (h' : LaneV w a3 c3 a4 c4 L) (l1 : L.way.length ≤ 1073741823) (l2 : L.waits.length ≤ 1073741823) :
    Calls Try.prog 10 #[.agg #[.int .i64 L.s, .int .i64 L.m, .slice a1 L.way.length c1, .slice a2 L.waits.length c2, .int .i64 L.b], .agg #[.int .i64 L.s, .int .i64 L.m, .slice a3 L.way.length c3, .slice a4 L.waits.length c4, .int .i64 L.b]] w fun e w' => e = .returned (.bool true) ∧ Ext w w' :=
  crSame_yes L a1 a2 a3 a4 c1 c2 c3 c4 w h h' l1 l2
theorem same_ex (s m b : Int) (xs ys : List Int) {a1 a2 a3 a4 : Option Addr} {c1 c2 c3 c4 : Nat} {w : World} (h : LaneV w a1 c1 a2 c2 ⟨s, m, b, xs, ys⟩) (h' : LaneV w a3 c3 a4 c4 ⟨s, m, b, xs, ys⟩) (l1 : xs.length ≤ 1073741823) (l2 : ys.length ≤ 1073741823) :
    Calls Try.prog 10 #[.agg #[.int .i64 s, .int .i64 m, .slice a1 xs.length c1, .slice a2 ys.length c2, .int .i64 b], .agg #[.int .i64 s, .int .i64 m, .slice a3 xs.length c3, .slice a4 ys.length c4, .int .i64 b]] w fun e w' => e = .returned (.bool true) ∧ Ext w w' :=
  crSame_yes ⟨s, m, b, xs, ys⟩ a1 a2 a3 a4 c1 c2 c3 c4 w h h' l1 l2
end Go.Proofs.Ytgjolablgcnlmaa
