/- Contracts of hop.within, hop.gives, hop.Right: when a step is right. -/
import Derived.Test.YtfdgeomomafnbaaRows
import Derived.Test.YtfdgeomomafnbaaMem
import Derived.Test.YtfdgeomomafnbaaTs1
namespace Go.Proofs.Ytfdgeomomafnbaa
set_option linter.unusedSimpArgs false
set_option linter.unusedVariables false
open Go.RowKit

/-- A step's eleven cells. -/
structure Hp where
  f : Int
  k : Int
  l : Int
  a : Int
  b : Int
  c : Int
  e : Int
  p : Int
  q : Int
  r : Int
  s : Int
  deriving DecidableEq

def wiAt (n x k : Int) : Bool := decide (0 ≤ x ∧ x ≤ 1048576 ∧ (n ≤ k → x = 0))
def wiTo (n a b c e : Int) : Nat → Bool
  | 0 => true
  | k + 1 => wiTo n a b c e k && wiAt n (cAt a b c e k) k
def withinB (a b c e n : Int) : Bool := wiTo n a b c e 4
theorem wiTo_false (n a b c e : Int) (k : Nat) (h : wiAt n (cAt a b c e k) k = false) : ∀ m, k < m → wiTo n a b c e m = false
  | 0, hn => absurd hn (by omega)
  | m + 1, hn => by
    by_cases hk : k = m
    · subst hk; simp [wiTo, h]
    · simp [wiTo, wiTo_false n a b c e k h m (by omega)]
theorem withinB_false (a b c e n : Int) (k : Nat) (hk : k < 4) (h : ¬ (0 ≤ cAt a b c e k ∧ cAt a b c e k ≤ 1048576 ∧ (n ≤ k → cAt a b c e k = 0))) : withinB a b c e n = false :=
  wiTo_false n a b c e k (decide_eq_false h) 4 hk

theorem within_any (a b c e n : Int) (w : World) :
    Calls Try.prog 49 #[.agg #[.int .i64 a, .int .i64 b, .int .i64 c, .int .i64 e], .int .i64 n] w fun r w' => r = .returned (.bool (withinB a b c e n)) ∧ Ext w w' := by
  have hix := index_c a b c e
  go_enter Try.func49, Try.ntmps49
  go_wp2
  go_loop [8] (fun i => ∃ k : Nat, k ≤ 4 ∧ i = .int .i64 k ∧ wiTo n a b c e k = true) (fun i => 4 - (intOf i).toNat)
  case atStart => exact ⟨0, by omega, rfl, rfl⟩
  case round =>
    obtain ⟨k, hk, rfl, hok⟩ := hrel
    have HOK := Lib.hid hok
    clear hok
    go_wp2
    all_goals (try (have hlt : k < 4 := by omega))
    all_goals first
      | (have hc : wiAt n (cAt a b c e k) k = true := decide_eq_true (by (try simp only [bne_iff_ne, ne_eq, Bool.not_eq_true, bne_eq_false_iff_eq] at *); exact ⟨by omega, by omega, fun h => by omega⟩)
         exact ⟨⟨k + 1, by omega, by go_num, by simp [wiTo, HOK.out, hc]⟩, by simp [intOf]; omega⟩)
      | (have hc : ¬ (0 ≤ cAt a b c e k ∧ cAt a b c e k ≤ 1048576 ∧ (n ≤ k → cAt a b c e k = 0)) := by (try simp only [bne_iff_ne, ne_eq, Bool.not_eq_true, bne_eq_false_iff_eq] at *); omega
         go_returns
         exact ⟨retb rfl (withinB_false _ _ _ _ _ k hlt hc).symm, by (repeat' (first | with_reducible exact Ext.refl _ | with_reducible refine Ext.ext ?_ _ | with_reducible refine Ext.alloc ?_ _ | with_reducible refine Ext.drew ?_ | with_reducible refine Ext.drewN ?_ _ | with_reducible assumption))⟩)
      | (obtain rfl : k = 4 := by omega
         go_returns
         exact ⟨retb rfl HOK.out.symm, by (repeat' (first | with_reducible exact Ext.refl _ | with_reducible refine Ext.ext ?_ _ | with_reducible refine Ext.alloc ?_ _ | with_reducible refine Ext.drew ?_ | with_reducible refine Ext.drewN ?_ _ | with_reducible assumption))⟩)

theorem gives_in (f k l a b c e p q r s : Int) (w : World) (h0 : 0 ≤ k) (h1 : k ≤ 4) (h2 : 0 ≤ l) (h3 : l ≤ 4) :
    Calls Try.prog 48 #[.agg #[.int .i64 f, .int .i64 k, .int .i64 l, .int .i64 a, .int .i64 b, .int .i64 c, .int .i64 e, .int .i64 p, .int .i64 q, .int .i64 r, .int .i64 s]] w fun r w' => r = .returned (.int .i64 (k + l)) ∧ Ext w w' := by
  go_enter Try.func48, Try.ntmps48
  go_wp2
  go_returns
  exact ⟨reti rfl rfl, by (repeat' (first | with_reducible exact Ext.refl _ | with_reducible refine Ext.ext ?_ _ | with_reducible refine Ext.alloc ?_ _ | with_reducible refine Ext.drew ?_ | with_reducible refine Ext.drewN ?_ _ | with_reducible assumption))⟩

def hopB (h : Hp) : Bool := decide (1 ≤ h.f ∧ h.f ≤ 4 ∧ 0 ≤ h.k ∧ h.k ≤ h.f ∧ 0 ≤ h.l ∧ h.l ≤ 4 ∧ 1 ≤ h.k + h.l ∧ h.k + h.l ≤ 4) && (withinB h.a h.b h.c h.e h.k && withinB h.p h.q h.r h.s h.l)

set_option maxHeartbeats 2000000 in
theorem hopRight_out (f k l a b c e p q r s : Int) (w : World) (h : ¬ (1 ≤ f ∧ f ≤ 4 ∧ 0 ≤ k ∧ k ≤ f ∧ 0 ≤ l ∧ l ≤ 4)) :
    Calls Try.prog 35 #[.agg #[.int .i64 f, .int .i64 k, .int .i64 l, .int .i64 a, .int .i64 b, .int .i64 c, .int .i64 e, .int .i64 p, .int .i64 q, .int .i64 r, .int .i64 s]] w fun r' w' => r' = .returned (.bool (hopB ⟨f, k, l, a, b, c, e, p, q, r, s⟩)) ∧ Ext w w' := by
  have hb : hopB ⟨f, k, l, a, b, c, e, p, q, r, s⟩ = false := by
    simp only [hopB]
    rw [decide_eq_false (by omega)]
    rfl
  have HB := Lib.hid hb
  clear hb
  go_enter Try.func35, Try.ntmps35
  go_wp2
  all_goals first | (exfalso; omega; done) | skip
  all_goals (go_returns; exact ⟨retb rfl HB.out.symm, by (repeat' (first | with_reducible exact Ext.refl _ | with_reducible refine Ext.ext ?_ _ | with_reducible refine Ext.alloc ?_ _ | with_reducible refine Ext.drew ?_ | with_reducible refine Ext.drewN ?_ _ | with_reducible assumption))⟩)

set_option maxHeartbeats 2000000 in
theorem hopRight_in (f k l a b c e p q r s : Int) (w : World) (h1 : 1 ≤ f) (h2 : f ≤ 4) (h3 : 0 ≤ k) (h4 : k ≤ f) (h5 : 0 ≤ l) (h6 : l ≤ 4) :
    Calls Try.prog 35 #[.agg #[.int .i64 f, .int .i64 k, .int .i64 l, .int .i64 a, .int .i64 b, .int .i64 c, .int .i64 e, .int .i64 p, .int .i64 q, .int .i64 r, .int .i64 s]] w fun r' w' => r' = .returned (.bool (hopB ⟨f, k, l, a, b, c, e, p, q, r, s⟩)) ∧ Ext w w' := by
  have hk : k ≤ 4 := by omega
  have hb : hopB ⟨f, k, l, a, b, c, e, p, q, r, s⟩ = (decide (1 ≤ k + l) && (decide (k + l ≤ 4) && (withinB a b c e k && withinB p q r s l))) := by
    simp only [hopB]
    by_cases x1 : 1 ≤ k + l <;> by_cases x2 : k + l ≤ 4 <;> simp [h1, h2, h3, h4, h5, h6, x1, x2]
  rw [hb]
  clear hb
  by_cases x1 : 1 ≤ k + l
  · by_cases x2 : k + l ≤ 4
    · rw [decide_eq_true x1, decide_eq_true x2]
      go_enter Try.func35, Try.ntmps35
      go_wp2_with (first | (go_at_call 48; refine (gives_in _ _ _ _ _ _ _ _ _ _ _ _ h3 hk h5 h6).mono ?_; rintro r w' ⟨rfl, y, rfl⟩) | (go_at_call 49; refine (within_any _ _ _ _ _ _).mono ?_; rintro r w' ⟨rfl, y, rfl⟩))
      all_goals first
        | (go_returns; exact ⟨retb rfl (by simp [*]), by (repeat' (first | with_reducible exact Ext.refl _ | with_reducible refine Ext.ext ?_ _ | with_reducible refine Ext.alloc ?_ _ | with_reducible refine Ext.drew ?_ | with_reducible refine Ext.drewN ?_ _ | with_reducible assumption))⟩)
    · rw [decide_eq_true x1, decide_eq_false x2]
      go_enter Try.func35, Try.ntmps35
      go_wp2_with (first | (go_at_call 48; refine (gives_in _ _ _ _ _ _ _ _ _ _ _ _ h3 hk h5 h6).mono ?_; rintro r w' ⟨rfl, y, rfl⟩))
      all_goals first
        | (go_returns; exact ⟨retb rfl (by simp), by (repeat' (first | with_reducible exact Ext.refl _ | with_reducible refine Ext.ext ?_ _ | with_reducible refine Ext.alloc ?_ _ | with_reducible refine Ext.drew ?_ | with_reducible refine Ext.drewN ?_ _ | with_reducible assumption))⟩)
  · rw [decide_eq_false x1]
    go_enter Try.func35, Try.ntmps35
    go_wp2_with (first | (go_at_call 48; refine (gives_in _ _ _ _ _ _ _ _ _ _ _ _ h3 hk h5 h6).mono ?_; rintro r w' ⟨rfl, y, rfl⟩))
    all_goals first
      | (go_returns; exact ⟨retb rfl (by simp), by (repeat' (first | with_reducible exact Ext.refl _ | with_reducible refine Ext.ext ?_ _ | with_reducible refine Ext.alloc ?_ _ | with_reducible refine Ext.drew ?_ | with_reducible refine Ext.drewN ?_ _ | with_reducible assumption))⟩)

theorem hopRight_any (f k l a b c e p q r s : Int) (w : World) :
    Calls Try.prog 35 #[.agg #[.int .i64 f, .int .i64 k, .int .i64 l, .int .i64 a, .int .i64 b, .int .i64 c, .int .i64 e, .int .i64 p, .int .i64 q, .int .i64 r, .int .i64 s]] w fun r' w' => r' = .returned (.bool (hopB ⟨f, k, l, a, b, c, e, p, q, r, s⟩)) ∧ Ext w w' := by
  by_cases h : 1 ≤ f ∧ f ≤ 4 ∧ 0 ≤ k ∧ k ≤ f ∧ 0 ≤ l ∧ l ≤ 4
  · exact hopRight_in f k l a b c e p q r s w h.1 h.2.1 h.2.2.1 h.2.2.2.1 h.2.2.2.2.1 h.2.2.2.2.2
  · exact hopRight_out f k l a b c e p q r s w h
end Go.Proofs.Ytfdgeomomafnbaa
