/- Contracts of ts.greatest and ts.Right. -/
import Derived.Test.YtmngjifcgfnogaaRows
import Derived.Test.YtmngjifcgfnogaaMem
namespace Go.Proofs.Ytmngjifcgfnogaa
set_option linter.unusedSimpArgs false
set_option linter.unusedVariables false
set_option maxRecDepth 100000
open Go.RowKit

/-- The greatest number of a coordinate. -/
def gr (k : Int) : Int := if k = 0 then 1048576 else 64
theorem gr_0 : gr 0 = 1048576 := rfl
theorem gr_pos (k : Int) (h : k ≠ 0) : gr k = 64 := if_neg h

theorem greatest_any (n : Int) (w : World) : Calls Try.prog 52 #[.int .i64 n] w fun e w' => e = .returned (.int .i64 (gr n)) ∧ w = w' := by
  by_cases h : n = 0
  · subst h
    go_enter Try.func52, Try.ntmps52
    go_wp2
    go_ret
    exact ⟨rfl, rfl⟩
  · have h' : (n == 0) = false := by simpa using h
    have hg := Lib.hid (gr_pos n h)
    clear h
    go_enter Try.func52, Try.ntmps52
    go_wp2
    go_ret
    exact ⟨reti rfl hg.out.symm, rfl⟩

/-- A coordinate by its place. -/
def cAt (a b c e k : Int) : Int := if k = 0 then a else if k = 1 then b else if k = 2 then c else e
/-- Is one coordinate as it has to be? -/
def okAt (d x k : Int) : Bool := decide (0 ≤ x ∧ (k < d → x ≤ gr k) ∧ (d ≤ k → x = 0))
def okTo (d a b c e : Int) : Nat → Bool
  | 0 => true
  | k + 1 => okTo d a b c e k && okAt d (cAt a b c e k) k
/-- A timestamp's five cells. -/
structure Tm where
  d : Int
  a : Int
  b : Int
  c : Int
  e : Int
  deriving DecidableEq
def rightB (t : Tm) : Bool := decide (1 ≤ t.d ∧ t.d ≤ 4) && okTo t.d t.a t.b t.c t.e 4

theorem okTo_false (d a b c e : Int) (k : Nat) (h : okAt d (cAt a b c e k) k = false) : ∀ n, k < n → okTo d a b c e n = false
  | 0, hn => absurd hn (by omega)
  | n + 1, hn => by
    by_cases hk : k = n
    · subst hk; simp [okTo, h]
    · simp [okTo, okTo_false d a b c e k h n (by omega)]
theorem rightB_false (d a b c e : Int) (k : Nat) (hk : k < 4) (h : okAt d (cAt a b c e k) k = false) : rightB ⟨d, a, b, c, e⟩ = false := by
  simp [rightB, okTo_false d a b c e k h 4 hk]
theorem okAt_neg (d x k : Int) (h : x < 0) : okAt d x k = false := decide_eq_false (by omega)
theorem okAt_big (d x k : Int) (h : gr k < x) (hk : k < d) : okAt d x k = false := decide_eq_false (by intro ⟨_, h2, _⟩; have := h2 hk; omega)
theorem okAt_not (d x k : Int) (h : x ≠ 0) (hk : d ≤ k) : okAt d x k = false := decide_eq_false (by intro ⟨_, _, h2⟩; exact h (h2 hk))
theorem okAt_in (d x k : Int) (h0 : 0 ≤ x) (hk : k < d) (h : x ≤ gr k) : okAt d x k = true := decide_eq_true ⟨h0, fun _ => h, fun h' => by omega⟩
theorem okAt_out (d x k : Int) (hk : d ≤ k) (h : x = 0) : okAt d x k = true := decide_eq_true ⟨by omega, fun h' => by omega, fun _ => h⟩

theorem right_out (d a b c e : Int) (w : World) (h : d < 1 ∨ 4 < d) :
    Calls Try.prog 20 #[.agg #[.int .i64 d, .int .i64 a, .int .i64 b, .int .i64 c, .int .i64 e]] w fun r w' => r = .returned (.bool (rightB ⟨d, a, b, c, e⟩)) ∧ Ext w w' := by
  go_enter Try.func20, Try.ntmps20
  go_wp2
  all_goals (go_returns; refine ⟨retb rfl ?_, by (repeat' (first | with_reducible exact Ext.refl _ | with_reducible refine Ext.ext ?_ _ | with_reducible refine Ext.alloc ?_ _ | with_reducible refine Ext.drew ?_ | with_reducible refine Ext.drewN ?_ _ | with_reducible assumption))⟩; simp only [rightB]; symm; rw [decide_eq_false (by omega)]; rfl)

theorem index_c (a b c e k : Int) (h0 : 0 ≤ k) (h4 : k < 4) (w : World) :
    (Instr.index 45 (.agg #[.int .i64 a, .int .i64 b, .int .i64 c, .int .i64 e]) (.int .i64 k)).run Try.prog w = .ok (.int .i64 (cAt a b c e k)) w := by
  obtain rfl | rfl | rfl | rfl : k = 0 ∨ k = 1 ∨ k = 2 ∨ k = 3 := by omega
  all_goals kernel_rfl

set_option maxHeartbeats 400000 in
theorem right_in (d a b c e : Int) (w : World) (h1 : 1 ≤ d) (h4 : d ≤ 4) :
    Calls Try.prog 20 #[.agg #[.int .i64 d, .int .i64 a, .int .i64 b, .int .i64 c, .int .i64 e]] w fun r w' => r = .returned (.bool (rightB ⟨d, a, b, c, e⟩)) ∧ Ext w w' := by
  have hix := index_c a b c e
  go_enter Try.func20, Try.ntmps20
  go_wp2
  go_loop [15] (fun i => ∃ k : Nat, k ≤ 4 ∧ i = .int .i64 k ∧ okTo d a b c e k = true) (fun i => 4 - (intOf i).toNat)
  case atStart => exact ⟨0, by omega, rfl, rfl⟩
  case round =>
    obtain ⟨k, hk, rfl, hok⟩ := hrel
    have HOK := Lib.hid hok
    clear hok
    go_wp2_with (go_at_call 52; refine (greatest_any _ _).mono ?_; rintro e w' ⟨rfl, rfl⟩)
    · have hc : okAt d (cAt a b c e k) k = true := okAt_in _ _ _ (by assumption) (by assumption) (by assumption)
      exact ⟨⟨k + 1, by omega, by go_num, by simp [okTo, HOK.out, hc]⟩, by simp [intOf]; omega⟩
    · go_returns
      exact ⟨retb rfl (rightB_false _ _ _ _ _ k (by omega) (okAt_big _ _ _ (by assumption) (by assumption))).symm, by (repeat' (first | with_reducible exact Ext.refl _ | with_reducible refine Ext.ext ?_ _ | with_reducible refine Ext.alloc ?_ _ | with_reducible refine Ext.drew ?_ | with_reducible refine Ext.drewN ?_ _ | with_reducible assumption))⟩
    · go_returns
      exact ⟨retb rfl (rightB_false _ _ _ _ _ k (by omega) (okAt_not _ _ _ (by intro h0; simp_all) (by assumption))).symm, by (repeat' (first | with_reducible exact Ext.refl _ | with_reducible refine Ext.ext ?_ _ | with_reducible refine Ext.alloc ?_ _ | with_reducible refine Ext.drew ?_ | with_reducible refine Ext.drewN ?_ _ | with_reducible assumption))⟩
    · have hc : okAt d (cAt a b c e k) k = true := okAt_out _ _ _ (by assumption) (by simp_all)
      exact ⟨⟨k + 1, by omega, by go_num, by simp [okTo, HOK.out, hc]⟩, by simp [intOf]; omega⟩
    · go_returns
      exact ⟨retb rfl (rightB_false _ _ _ _ _ k (by omega) (okAt_neg _ _ _ (by assumption))).symm, by (repeat' (first | with_reducible exact Ext.refl _ | with_reducible refine Ext.ext ?_ _ | with_reducible refine Ext.alloc ?_ _ | with_reducible refine Ext.drew ?_ | with_reducible refine Ext.drewN ?_ _ | with_reducible assumption))⟩
    · obtain rfl : k = 4 := by omega
      go_returns
      exact ⟨retb rfl (by simp [rightB, HOK.out]; omega), by (repeat' (first | with_reducible exact Ext.refl _ | with_reducible refine Ext.ext ?_ _ | with_reducible refine Ext.alloc ?_ _ | with_reducible refine Ext.drew ?_ | with_reducible refine Ext.drewN ?_ _ | with_reducible assumption))⟩

theorem right_any (d a b c e : Int) (w : World) :
    Calls Try.prog 20 #[.agg #[.int .i64 d, .int .i64 a, .int .i64 b, .int .i64 c, .int .i64 e]] w fun r w' => r = .returned (.bool (rightB ⟨d, a, b, c, e⟩)) ∧ Ext w w' := by
  by_cases h : 1 ≤ d ∧ d ≤ 4
  · exact right_in d a b c e w h.1 h.2
  · exact right_out d a b c e w (by omega)
end Go.Proofs.Ytmngjifcgfnogaa
