/- Steps: the small functions. -/
import Derived.Test.YtkmgdejpdhlleaaRows
import Derived.Test.YtkmgdejpdhlleaaMem
import Derived.Test.YtkmgdejpdhlleaaTs1
namespace Go.Proofs.Ytkmgdejpdhlleaa
set_option linter.unusedSimpArgs false
set_option linter.unusedVariables false
set_option maxRecDepth 100000
open Go.RowKit

/-- A step's eleven cells. -/
structure Hp where
  f : Int
  k : Int
  l : Int
  a : Int
  b : Int
  c : Int
  e : Int
  p : Int
  q : Int
  r : Int
  s : Int
  deriving DecidableEq

def wiAt (n x k : Int) : Bool := decide (0 ≤ x ∧ x ≤ 1048576 ∧ (n ≤ k → x = 0))
def wiTo (n a b c e : Int) : Nat → Bool
  | 0 => true
  | k + 1 => wiTo n a b c e k && wiAt n (cAt a b c e k) k
def withinB (a b c e n : Int) : Bool := wiTo n a b c e 4
theorem wiTo_false (n a b c e : Int) (k : Nat) (h : wiAt n (cAt a b c e k) k = false) : ∀ m, k < m → wiTo n a b c e m = false
  | 0, hn => absurd hn (by omega)
  | m + 1, hn => by
    by_cases hk : k = m
    · subst hk; simp [wiTo, h]
    · simp [wiTo, wiTo_false n a b c e k h m (by omega)]
theorem withinB_false (a b c e n : Int) (k : Nat) (hk : k < 4) (h : ¬ (0 ≤ cAt a b c e k ∧ cAt a b c e k ≤ 1048576 ∧ (n ≤ k → cAt a b c e k = 0))) : withinB a b c e n = false :=
  wiTo_false n a b c e k (decide_eq_false h) 4 hk

theorem within_any (a b c e n : Int) (w : World) :
    Calls Try.prog 97 #[.agg #[.int .i64 a, .int .i64 b, .int .i64 c, .int .i64 e], .int .i64 n] w fun r w' => r = .returned (.bool (withinB a b c e n)) ∧ Ext w w' := by
  have hix := index_c a b c e
  go_enter Try.func97, Try.ntmps97
  go_wp2
  go_loop [8] (fun i => ∃ k : Nat, k ≤ 4 ∧ i = .int .i64 k ∧ wiTo n a b c e k = true) (fun i => 4 - (intOf i).toNat)
  case atStart => exact ⟨0, by omega, rfl, rfl⟩
  case round =>
    obtain ⟨k, hk, rfl, hok⟩ := hrel
    have HOK := Lib.hid hok
    clear hok
    go_wp2
    all_goals (try (have hlt : k < 4 := by omega))
    all_goals first
      | (have hc : wiAt n (cAt a b c e k) k = true := decide_eq_true (by (try simp only [bne_iff_ne, ne_eq, Bool.not_eq_true, bne_eq_false_iff_eq] at *); exact ⟨by omega, by omega, fun h => by omega⟩)
         exact ⟨⟨k + 1, by omega, by go_num, by simp [wiTo, HOK.out, hc]⟩, by simp [intOf]; omega⟩)
      | (have hc : ¬ (0 ≤ cAt a b c e k ∧ cAt a b c e k ≤ 1048576 ∧ (n ≤ k → cAt a b c e k = 0)) := by (try simp only [bne_iff_ne, ne_eq, Bool.not_eq_true, bne_eq_false_iff_eq] at *); omega
         go_returns
         exact ⟨retb rfl (withinB_false _ _ _ _ _ k hlt hc).symm, by (repeat' (first | with_reducible exact Ext.refl _ | with_reducible refine Ext.ext ?_ _ | with_reducible refine Ext.alloc ?_ _ | with_reducible refine Ext.drew ?_ | with_reducible refine Ext.drewN ?_ _ | with_reducible assumption))⟩)
      | (obtain rfl : k = 4 := by omega
         go_returns
         exact ⟨retb rfl HOK.out.symm, by (repeat' (first | with_reducible exact Ext.refl _ | with_reducible refine Ext.ext ?_ _ | with_reducible refine Ext.alloc ?_ _ | with_reducible refine Ext.drew ?_ | with_reducible refine Ext.drewN ?_ _ | with_reducible assumption))⟩)

theorem gives_in (f k l a b c e p q r s : Int) (w : World) (h0 : 0 ≤ k) (h1 : k ≤ 4) (h2 : 0 ≤ l) (h3 : l ≤ 4) :
    Calls Try.prog 94 #[.agg #[.int .i64 f, .int .i64 k, .int .i64 l, .int .i64 a, .int .i64 b, .int .i64 c, .int .i64 e, .int .i64 p, .int .i64 q, .int .i64 r, .int .i64 s]] w fun r w' => r = .returned (.int .i64 (k + l)) ∧ Ext w w' := by
  go_enter Try.func94, Try.ntmps94
  go_wp2
  go_returns
  exact ⟨reti rfl rfl, by (repeat' (first | with_reducible exact Ext.refl _ | with_reducible refine Ext.ext ?_ _ | with_reducible refine Ext.alloc ?_ _ | with_reducible refine Ext.drew ?_ | with_reducible refine Ext.drewN ?_ _ | with_reducible assumption))⟩

def hopB (h : Hp) : Bool := decide (1 ≤ h.f ∧ h.f ≤ 4 ∧ 0 ≤ h.k ∧ h.k ≤ h.f ∧ 0 ≤ h.l ∧ h.l ≤ 4 ∧ 1 ≤ h.k + h.l ∧ h.k + h.l ≤ 4) && (withinB h.a h.b h.c h.e h.k && withinB h.p h.q h.r h.s h.l)

set_option maxHeartbeats 2000000 in
theorem hopRight_out (f k l a b c e p q r s : Int) (w : World) (h : ¬ (1 ≤ f ∧ f ≤ 4 ∧ 0 ≤ k ∧ k ≤ f ∧ 0 ≤ l ∧ l ≤ 4)) :
    Calls Try.prog 40 #[.agg #[.int .i64 f, .int .i64 k, .int .i64 l, .int .i64 a, .int .i64 b, .int .i64 c, .int .i64 e, .int .i64 p, .int .i64 q, .int .i64 r, .int .i64 s]] w fun r' w' => r' = .returned (.bool (hopB ⟨f, k, l, a, b, c, e, p, q, r, s⟩)) ∧ Ext w w' := by
  have hb : hopB ⟨f, k, l, a, b, c, e, p, q, r, s⟩ = false := by
    simp only [hopB]
    rw [decide_eq_false (by omega)]
    rfl
  have HB := Lib.hid hb
  clear hb
  go_enter Try.func40, Try.ntmps40
  go_wp2
  all_goals first | (exfalso; omega; done) | skip
  all_goals (go_returns; exact ⟨retb rfl HB.out.symm, by (repeat' (first | with_reducible exact Ext.refl _ | with_reducible refine Ext.ext ?_ _ | with_reducible refine Ext.alloc ?_ _ | with_reducible refine Ext.drew ?_ | with_reducible refine Ext.drewN ?_ _ | with_reducible assumption))⟩)

set_option maxHeartbeats 2000000 in
theorem hopRight_in (f k l a b c e p q r s : Int) (w : World) (h1 : 1 ≤ f) (h2 : f ≤ 4) (h3 : 0 ≤ k) (h4 : k ≤ f) (h5 : 0 ≤ l) (h6 : l ≤ 4) :
    Calls Try.prog 40 #[.agg #[.int .i64 f, .int .i64 k, .int .i64 l, .int .i64 a, .int .i64 b, .int .i64 c, .int .i64 e, .int .i64 p, .int .i64 q, .int .i64 r, .int .i64 s]] w fun r' w' => r' = .returned (.bool (hopB ⟨f, k, l, a, b, c, e, p, q, r, s⟩)) ∧ Ext w w' := by
  have hk : k ≤ 4 := by omega
  have hb : hopB ⟨f, k, l, a, b, c, e, p, q, r, s⟩ = (decide (1 ≤ k + l) && (decide (k + l ≤ 4) && (withinB a b c e k && withinB p q r s l))) := by
    simp only [hopB]
    by_cases x1 : 1 ≤ k + l <;> by_cases x2 : k + l ≤ 4 <;> simp [h1, h2, h3, h4, h5, h6, x1, x2]
  rw [hb]
  clear hb
  by_cases x1 : 1 ≤ k + l
  · by_cases x2 : k + l ≤ 4
    · rw [decide_eq_true x1, decide_eq_true x2]
      go_enter Try.func40, Try.ntmps40
      go_wp2_with (first | (go_at_call 94; refine (gives_in _ _ _ _ _ _ _ _ _ _ _ _ h3 hk h5 h6).mono ?_; rintro r w' ⟨rfl, y, rfl⟩) | (go_at_call 97; refine (within_any _ _ _ _ _ _).mono ?_; rintro r w' ⟨rfl, y, rfl⟩))
      all_goals first
        | (go_returns; exact ⟨retb rfl (by simp [*]), by (repeat' (first | with_reducible exact Ext.refl _ | with_reducible refine Ext.ext ?_ _ | with_reducible refine Ext.alloc ?_ _ | with_reducible refine Ext.drew ?_ | with_reducible refine Ext.drewN ?_ _ | with_reducible assumption))⟩)
    · rw [decide_eq_true x1, decide_eq_false x2]
      go_enter Try.func40, Try.ntmps40
      go_wp2_with (first | (go_at_call 94; refine (gives_in _ _ _ _ _ _ _ _ _ _ _ _ h3 hk h5 h6).mono ?_; rintro r w' ⟨rfl, y, rfl⟩))
      all_goals first
        | (go_returns; exact ⟨retb rfl (by simp), by (repeat' (first | with_reducible exact Ext.refl _ | with_reducible refine Ext.ext ?_ _ | with_reducible refine Ext.alloc ?_ _ | with_reducible refine Ext.drew ?_ | with_reducible refine Ext.drewN ?_ _ | with_reducible assumption))⟩)
  · rw [decide_eq_false x1]
    go_enter Try.func40, Try.ntmps40
    go_wp2_with (first | (go_at_call 94; refine (gives_in _ _ _ _ _ _ _ _ _ _ _ _ h3 hk h5 h6).mono ?_; rintro r w' ⟨rfl, y, rfl⟩))
    all_goals first
      | (go_returns; exact ⟨retb rfl (by simp), by (repeat' (first | with_reducible exact Ext.refl _ | with_reducible refine Ext.ext ?_ _ | with_reducible refine Ext.alloc ?_ _ | with_reducible refine Ext.drew ?_ | with_reducible refine Ext.drewN ?_ _ | with_reducible assumption))⟩)

theorem hopRight_any (f k l a b c e p q r s : Int) (w : World) :
    Calls Try.prog 40 #[.agg #[.int .i64 f, .int .i64 k, .int .i64 l, .int .i64 a, .int .i64 b, .int .i64 c, .int .i64 e, .int .i64 p, .int .i64 q, .int .i64 r, .int .i64 s]] w fun r' w' => r' = .returned (.bool (hopB ⟨f, k, l, a, b, c, e, p, q, r, s⟩)) ∧ Ext w w' := by
  by_cases h : 1 ≤ f ∧ f ≤ 4 ∧ 0 ≤ k ∧ k ≤ f ∧ 0 ≤ l ∧ l ≤ 4
  · exact hopRight_in f k l a b c e p q r s w h.1 h.2.1 h.2.2.1 h.2.2.2.1 h.2.2.2.2.1 h.2.2.2.2.2
  · exact hopRight_out f k l a b c e p q r s w h
/-- A step's value, laid out as its cells. -/
def hv (h : Hp) : Value := .agg #[.int .i64 h.f, .int .i64 h.k, .int .i64 h.l, .int .i64 h.a, .int .i64 h.b, .int .i64 h.c, .int .i64 h.e, .int .i64 h.p, .int .i64 h.q, .int .i64 h.r, .int .i64 h.s]
@[go_sem] theorem hv_eq (h : Hp) : hv h = .agg #[.int .i64 h.f, .int .i64 h.k, .int .i64 h.l, .int .i64 h.a, .int .i64 h.b, .int .i64 h.c, .int .i64 h.e, .int .i64 h.p, .int .i64 h.q, .int .i64 h.r, .int .i64 h.s] := rfl
def hz : Hp := ⟨0, 0, 0, 0, 0, 0, 0, 0, 0, 0, 0⟩

theorem made_no (f k l a b c e p q r s : Int) (w : World) (h : hopB ⟨f, k, l, a, b, c, e, p, q, r, s⟩ = false) :
    Calls Try.prog 135 #[.agg #[.int .i64 f, .int .i64 k, .int .i64 l, .int .i64 a, .int .i64 b, .int .i64 c, .int .i64 e, .int .i64 p, .int .i64 q, .int .i64 r, .int .i64 s]] w fun r' w' => r' = .returned (.tuple #[hv hz, .bool false]) ∧ Ext w w' := by
  have H := Lib.hid h
  clear h
  go_enter Try.func135, Try.ntmps135
  go_wp2_with (go_at_call 40; refine (hopRight_any _ _ _ _ _ _ _ _ _ _ _ _).mono ?_; rw [H.out]; rintro r w' ⟨rfl, y, rfl⟩)
  go_returns
  exact ⟨rett rfl rfl, by (repeat' (first | with_reducible exact Ext.refl _ | with_reducible refine Ext.ext ?_ _ | with_reducible refine Ext.alloc ?_ _ | with_reducible refine Ext.drew ?_ | with_reducible refine Ext.drewN ?_ _ | with_reducible assumption))⟩
theorem made_yes (f k l a b c e p q r s : Int) (w : World) (h : hopB ⟨f, k, l, a, b, c, e, p, q, r, s⟩ = true) :
    Calls Try.prog 135 #[.agg #[.int .i64 f, .int .i64 k, .int .i64 l, .int .i64 a, .int .i64 b, .int .i64 c, .int .i64 e, .int .i64 p, .int .i64 q, .int .i64 r, .int .i64 s]] w fun r' w' => r' = .returned (.tuple #[hv ⟨f, k, l, a, b, c, e, p, q, r, s⟩, .bool true]) ∧ Ext w w' := by
  have H := Lib.hid h
  clear h
  go_enter Try.func135, Try.ntmps135
  go_wp2_with (go_at_call 40; refine (hopRight_any _ _ _ _ _ _ _ _ _ _ _ _).mono ?_; rw [H.out]; rintro r w' ⟨rfl, y, rfl⟩)
  go_returns
  exact ⟨rett rfl rfl, by (repeat' (first | with_reducible exact Ext.refl _ | with_reducible refine Ext.ext ?_ _ | with_reducible refine Ext.alloc ?_ _ | with_reducible refine Ext.drew ?_ | with_reducible refine Ext.drewN ?_ _ | with_reducible assumption))⟩
/-- What hop.made answers. -/
def madeR (h : Hp) : Hp × Bool := if hopB h then (h, true) else (hz, false)
theorem made_any (f k l a b c e p q r s : Int) (w : World) :
    Calls Try.prog 135 #[.agg #[.int .i64 f, .int .i64 k, .int .i64 l, .int .i64 a, .int .i64 b, .int .i64 c, .int .i64 e, .int .i64 p, .int .i64 q, .int .i64 r, .int .i64 s]] w fun r' w' => r' = .returned (.tuple #[hv (madeR ⟨f, k, l, a, b, c, e, p, q, r, s⟩).1, .bool (madeR ⟨f, k, l, a, b, c, e, p, q, r, s⟩).2]) ∧ Ext w w' := by
  cases h : hopB ⟨f, k, l, a, b, c, e, p, q, r, s⟩
  · have := made_no f k l a b c e p q r s w h
    simpa [madeR, h] using this
  · have := made_yes f k l a b c e p q r s w h
    simpa [madeR, h] using this
theorem hopSame_any (d : Int) (w : World) :
    Calls Try.prog 82 #[.int .i64 d] w fun r' w' => r' = .returned (.tuple #[hv (madeR ⟨d, d, 0, 0, 0, 0, 0, 0, 0, 0, 0⟩).1, .bool (madeR ⟨d, d, 0, 0, 0, 0, 0, 0, 0, 0, 0⟩).2]) ∧ Ext w w' := by
  go_enter Try.func82, Try.ntmps82
  go_wp2_with (go_at_call 135; refine (made_any _ _ _ _ _ _ _ _ _ _ _ _).mono ?_; rintro r w' ⟨rfl, y, rfl⟩)
  go_returns
  exact ⟨rett rfl rfl, by (repeat' (first | with_reducible exact Ext.refl _ | with_reducible refine Ext.ext ?_ _ | with_reducible refine Ext.alloc ?_ _ | with_reducible refine Ext.drew ?_ | with_reducible refine Ext.drewN ?_ _ | with_reducible assumption))⟩
theorem hopEnter_any (d : Int) (w : World) :
    Calls Try.prog 132 #[.int .i64 d] w fun r' w' => r' = .returned (.tuple #[hv (madeR ⟨d, d, 1, 0, 0, 0, 0, 0, 0, 0, 0⟩).1, .bool (madeR ⟨d, d, 1, 0, 0, 0, 0, 0, 0, 0, 0⟩).2]) ∧ Ext w w' := by
  go_enter Try.func132, Try.ntmps132
  go_wp2_with (go_at_call 135; refine (made_any _ _ _ _ _ _ _ _ _ _ _ _).mono ?_; rintro r w' ⟨rfl, y, rfl⟩)
  go_returns
  exact ⟨rett rfl rfl, by (repeat' (first | with_reducible exact Ext.refl _ | with_reducible refine Ext.ext ?_ _ | with_reducible refine Ext.alloc ?_ _ | with_reducible refine Ext.drew ?_ | with_reducible refine Ext.drewN ?_ _ | with_reducible assumption))⟩
theorem hopLeave_yes (d : Int) (w : World) (h : 2 ≤ d) (h2 : d ≤ 9223372036854775807) :
    Calls Try.prog 133 #[.int .i64 d] w fun r' w' => r' = .returned (.tuple #[hv (madeR ⟨d, d - 1, 0, 0, 0, 0, 0, 0, 0, 0, 0⟩).1, .bool (madeR ⟨d, d - 1, 0, 0, 0, 0, 0, 0, 0, 0, 0⟩).2]) ∧ Ext w w' := by
  go_enter Try.func133, Try.ntmps133
  go_wp2_with (go_at_call 135; refine (made_any _ _ _ _ _ _ _ _ _ _ _ _).mono ?_; rintro r w' ⟨rfl, y, rfl⟩)
  go_returns
  exact ⟨rett rfl rfl, by (repeat' (first | with_reducible exact Ext.refl _ | with_reducible refine Ext.ext ?_ _ | with_reducible refine Ext.alloc ?_ _ | with_reducible refine Ext.drew ?_ | with_reducible refine Ext.drewN ?_ _ | with_reducible assumption))⟩
def nextH (d : Int) : Hp := ⟨d, d, 0, if d = 1 then 1 else 0, if d = 2 then 1 else 0, if d = 3 then 1 else 0, if d = 4 then 1 else 0, 0, 0, 0, 0⟩
theorem hopNext_yes (d : Int) (w : World) (h : d = 1 ∨ d = 2 ∨ d = 3 ∨ d = 4) :
    Calls Try.prog 134 #[.int .i64 d] w fun r' w' => r' = .returned (.tuple #[hv (nextH d), .bool true]) ∧ Ext w w' := by
  rcases h with rfl | rfl | rfl | rfl
  all_goals
    go_enter Try.func134, Try.ntmps134
    go_wp2_with (go_at_call 40; refine (hopRight_any _ _ _ _ _ _ _ _ _ _ _ _).mono ?_; rw [show hopB _ = true by decide]; rintro r w' ⟨rfl, y, rfl⟩)
    go_returns
    exact ⟨rett rfl rfl, by (repeat' (first | with_reducible exact Ext.refl _ | with_reducible refine Ext.ext ?_ _ | with_reducible refine Ext.alloc ?_ _ | with_reducible refine Ext.drew ?_ | with_reducible refine Ext.drewN ?_ _ | with_reducible assumption))⟩
/-- What a step adds, or lays, at a place. -/
def atV (h : Hp) (i : Int) : Int := if i < h.k then cAt h.a h.b h.c h.e i else cAt h.p h.q h.r h.s (i - h.k)

set_option maxHeartbeats 1000000 in
theorem hopAt_kept (f k l a b c e p q r s i : Int) (w : World) (h0 : 0 ≤ i) (h4 : i < 4) (hk : i < k) :
    Calls Try.prog 98 #[.agg #[.int .i64 f, .int .i64 k, .int .i64 l, .int .i64 a, .int .i64 b, .int .i64 c, .int .i64 e, .int .i64 p, .int .i64 q, .int .i64 r, .int .i64 s], .int .i64 i] w fun r' w' => r' = .returned (.tuple #[.int .i64 (atV ⟨f, k, l, a, b, c, e, p, q, r, s⟩ i), .bool true]) ∧ Ext w w' := by
  have hv : atV ⟨f, k, l, a, b, c, e, p, q, r, s⟩ i = cAt a b c e i := if_pos hk
  rw [hv]
  clear hv
  obtain rfl | rfl | rfl | rfl : i = 0 ∨ i = 1 ∨ i = 2 ∨ i = 3 := by omega
  all_goals
    go_enter Try.func98, Try.ntmps98
    go_wp2
    go_returns
    exact ⟨rett rfl rfl, by (repeat' (first | with_reducible exact Ext.refl _ | with_reducible refine Ext.ext ?_ _ | with_reducible refine Ext.alloc ?_ _ | with_reducible refine Ext.drew ?_ | with_reducible refine Ext.drewN ?_ _ | with_reducible assumption))⟩

set_option maxHeartbeats 1000000 in
theorem hopAt_new (f k l a b c e p q r s j : Int) (w : World) (h0 : 0 ≤ j) (h4 : j < 4) (hk : 0 ≤ k) (hk4 : k ≤ 4) :
    Calls Try.prog 98 #[.agg #[.int .i64 f, .int .i64 k, .int .i64 l, .int .i64 a, .int .i64 b, .int .i64 c, .int .i64 e, .int .i64 p, .int .i64 q, .int .i64 r, .int .i64 s], .int .i64 (k + j)] w fun r' w' => r' = .returned (.tuple #[.int .i64 (atV ⟨f, k, l, a, b, c, e, p, q, r, s⟩ (k + j)), .bool false]) ∧ Ext w w' := by
  have hv : atV ⟨f, k, l, a, b, c, e, p, q, r, s⟩ (k + j) = cAt p q r s j := by
    have h : ¬ (k + j < k) := by omega
    simp only [atV]
    rw [if_neg h, show k + j - k = j by omega]
  rw [hv]
  clear hv
  obtain rfl | rfl | rfl | rfl : j = 0 ∨ j = 1 ∨ j = 2 ∨ j = 3 := by omega
  all_goals
    rcases (show k = 0 ∨ k = 1 ∨ k = 2 ∨ k = 3 ∨ k = 4 by omega) with rfl | rfl | rfl | rfl | rfl
  all_goals
    go_enter Try.func98, Try.ntmps98
    go_wp2
    go_returns
    exact ⟨rett rfl rfl, by (repeat' (first | with_reducible exact Ext.refl _ | with_reducible refine Ext.ext ?_ _ | with_reducible refine Ext.alloc ?_ _ | with_reducible refine Ext.drew ?_ | with_reducible refine Ext.drewN ?_ _ | with_reducible assumption))⟩
end Go.Proofs.Ytkmgdejpdhlleaa
