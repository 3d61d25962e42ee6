/- Bag: records in order: cmp.Compare, cmp.Or, order, Less, may. -/
import Derived.Test.YtbglfaomebokhaaRows
import Derived.Test.YtbglfaomebokhaaOwnG
import Derived.Test.YtbglfaomebokhaaNew
import Derived.Test.YtbglfaomebokhaaStop
import Derived.StillTailTactics
namespace Go.Proofs.Ytbglfaomebokhaa
set_option linter.unusedSimpArgs false
set_option linter.unusedVariables false
open Go.RowKit

/-- A region that draws its order: all but its last operations only read, or call what leaves the world alone. -/
theorem wp_region_tail {P : Program} {id : Nat} {Q : Exit → Act → World → Prop} {a : Act} {w : World} {l : List Oper} (n : Nat) (hm : P.follows .mixedOrders = true) (hB : Region.lexTailB .any l.toArray n = true)
    (h : wpStill P l.toArray w.drew (fun a' => wpList P l.toArray Q (l.drop n) a' w.drew) (l.take n) a) : (Code.region id l.toArray true).wp P Q a w := wp_region_still_tail n hm hB h
theorem cell_lit (w : World) (cs : Array Value) (e : TypeId) (g i : Nat) (u : Value) (hg : g = w.heap.size) (hu : cs[i]? = some u) : (w.alloc (.cells cs e)).cell? ⟨g, i, none⟩ = some u := by
  subst hg
  rw [cell_of_row _ _ _ cs e (0, 0) (heap_alloc_new w _), hu]
def cmpI (x y : Int) : Int := if x < y then -1 else if y < x then 1 else 0
/-- The order of two records. -/
def ordR (a b : Int × Int) : Int := if cmpI a.1 b.1 = 0 then cmpI a.2 b.2 else cmpI a.1 b.1
theorem isNaN_any (x : Int) (w : World) : Calls Try.prog 61 #[.int .i64 x] w fun e w' => e = .returned (.bool false) ∧ w' = w := by
  have e0 : (x != x) = false := by simp
  go_enter Try.func61, Try.ntmps61
  go_wp2
  go_returns
  exact ⟨retb rfl rfl, rfl⟩
theorem compare_any (x y : Int) (w : World) : Calls Try.prog 56 #[.int .i64 x, .int .i64 y] w fun e w' => e = .returned (.int .i64 (cmpI x y)) ∧ w' = w := by
  have N := Lib.hid isNaN_any
  obtain ⟨b1, f1⟩ : ∃ b, decide (x < y) = b := ⟨_, rfl⟩
  obtain ⟨b2, f2⟩ : ∃ b, decide (y < x) = b := ⟨_, rfl⟩
  have hc : cmpI x y = bif b1 then -1 else bif b2 then 1 else 0 := by
    subst f1 f2
    unfold cmpI
    by_cases h1 : x < y
    · simp [h1]
    · by_cases h2 : y < x <;> simp [h1, h2]
  rw [hc]
  clear hc
  cases b1 <;> cases b2
  all_goals
    go_enter Try.func56, Try.ntmps56
    go_wp2_with (go_at_call 61; refine (N.out _ _).mono ?_; rintro r w' ⟨rfl, rfl⟩)
    go_returns
    exact ⟨reti rfl rfl, rfl⟩
theorem or_any (x y : Int) (w : World) (g : Nat) (h0 : w.cell? ⟨g, 0, none⟩ = some (.int .i64 x)) (h1 : w.cell? ⟨g, 1, none⟩ = some (.int .i64 y)) :
    Calls Try.prog 55 #[.slice (some ⟨g, 0, none⟩) 2 2] w fun e w' => e = .returned (.int .i64 (if x = 0 then y else x)) ∧ w' = w := by
  have HC := Lib.hid (And.intro h0 h1)
  obtain ⟨R, hR⟩ : ∃ R, R = (if x = 0 then y else x) := ⟨_, rfl⟩
  rw [← hR]
  have HR := Lib.hid hR
  clear h0 h1 hR
  go_enter Try.func55, Try.ntmps55
  go_wp2
  go_loopw [8] (fun i wr => ∃ j : Nat, j ≤ 2 ∧ i = .int .i64 j ∧ wr = w ∧ (1 ≤ j → x = 0) ∧ (2 ≤ j → y = 0)) (fun i _ => 2 - (intOf i).toNat)
  case atStart => exact ⟨0, by omega, rfl, rfl, by omega, by omega⟩
  case round =>
    obtain ⟨j, hj, rfl, rfl, hx, hy⟩ := hrel
    obtain ⟨c0, c1⟩ := HC.out
    obtain rfl | rfl | rfl : j = 0 ∨ j = 1 ∨ j = 2 := by omega
    · by_cases h : x = 0
      · have HX := Lib.hid h
        have e : (x != 0) = false := by simp [h]
        clear h hx hy
        go_wp2
        exact ⟨⟨1, by omega, (by first | rfl | trivial | simp), (by first | rfl | trivial | simp), fun _ => HX.out, by omega⟩, by simp [intOf]⟩
      · have e : (x != 0) = true := by simp [h]
        have HX := Lib.hid (show x = R by rw [HR.out, if_neg h])
        clear h hx hy
        go_wp2
        go_returns
        exact ⟨reti rfl HX.out, rfl⟩
    · have h := hx (by decide)
      by_cases h2 : y = 0
      · have HX := Lib.hid (And.intro h h2)
        have e : (y != 0) = false := by simp [h2]
        clear h hx hy h2
        go_wp2
        exact ⟨⟨2, by omega, (by first | rfl | trivial | simp), (by first | rfl | trivial | simp), fun _ => HX.out.1, fun _ => HX.out.2⟩, by simp [intOf]⟩
      · have e : (y != 0) = true := by simp [h2]
        have HX := Lib.hid (show y = R by rw [HR.out, if_pos h])
        clear h hx hy h2
        go_wp2
        go_returns
        exact ⟨reti rfl HX.out, rfl⟩
    · have h := hx (by decide)
      have h2 := hy (by decide)
      have HX := Lib.hid (show 0 = R by rw [HR.out, if_pos h, h2])
      clear h hx hy h2
      go_wp2
      go_returns
      exact ⟨reti rfl HX.out, rfl⟩
theorem may_any (n : Int) (w : World) : Calls Try.prog 41 #[.int .i64 n] w fun e w' => e = .returned (.bool (decide (-2147483648 ≤ n ∧ n ≤ 2147483648))) ∧ w' = w := by
  obtain ⟨b1, f1⟩ : ∃ b, decide (-2147483648 ≤ n) = b := ⟨_, rfl⟩
  obtain ⟨b2, f2⟩ : ∃ b, decide (n ≤ 2147483648) = b := ⟨_, rfl⟩
  rw [Bool.decide_and, f1, f2]
  cases b1 <;> cases b2
  all_goals
    go_enter Try.func41, Try.ntmps41
    go_wp2
    go_returns
    exact ⟨retb rfl rfl, rfl⟩
theorem order_any (a b : Int × Int) (w : World) : Calls Try.prog 49 #[.agg #[.int .i64 a.1, .int .i64 a.2], .agg #[.int .i64 b.1, .int .i64 b.2]] w fun e w' => e = .returned (.int .i64 (ordR a b)) ∧ Ext w w' := by
  obtain ⟨x, y⟩ := a
  obtain ⟨x', y'⟩ := b
  dsimp only
  have C1 := fun w => compare_any x x' w
  have C2 := fun w => compare_any y y' w
  unfold ordR
  dsimp only
  generalize cmpI x x' = c1 at *
  generalize cmpI y y' = c2 at *
  have O := Lib.hid (fun (W : World) (g : Nat) (hg : g = W.heap.size) => or_any c1 c2 (W.alloc (.cells #[.int .i64 c1, .int .i64 c2] 3)).drew g (cell_lit _ _ _ _ _ _ hg rfl) (cell_lit _ _ _ _ _ _ hg rfl))
  generalize (if c1 = 0 then c2 else c1) = R at *
  go_enter Try.func49, Try.ntmps49
  go_wp2
  refine wp_region_tail 10 (by kernel_rfl) (by kernel_rfl) ?_
  simp only [List.take_succ_cons, List.take_zero, List.drop_succ_cons, List.drop_zero]
  repeat still_step
  still_call (C1 _)
  repeat still_step
  still_call (C2 _)
  repeat still_step
  refine wpStill_nil ?_
  go_wp2_with (go_at_call 55; refine (O.out _ _ (by simp)).mono ?_; rintro r w' ⟨rfl, rfl⟩)
  go_returns
  exact ⟨reti rfl rfl, by (repeat' (first | with_reducible exact Ext.refl _ | with_reducible refine Ext.ext ?_ _ | with_reducible refine Ext.alloc ?_ _ | with_reducible refine Ext.drew ?_ | with_reducible refine Ext.drewN ?_ _ | with_reducible assumption))⟩
theorem less_any (a b : Int × Int) (w : World) : Calls Try.prog 31 #[.agg #[.int .i64 a.1, .int .i64 a.2], .agg #[.int .i64 b.1, .int .i64 b.2]] w fun e w' => e = .returned (.bool (decide (ordR a b < 0))) ∧ Ext w w' := by
  have O := Lib.hid (fun w => order_any a b w)
  generalize ordR a b = q at *
  obtain ⟨x, y⟩ := a
  obtain ⟨x', y'⟩ := b
  dsimp only at *
  go_enter Try.func31, Try.ntmps31
  go_wp2_with (go_at_call 49; refine (O.out _).mono ?_; rintro r w' ⟨rfl, x1, rfl⟩)
  go_returns
  exact ⟨retb rfl rfl, by (repeat' (first | with_reducible exact Ext.refl _ | with_reducible refine Ext.ext ?_ _ | with_reducible refine Ext.alloc ?_ _ | with_reducible refine Ext.drew ?_ | with_reducible refine Ext.drewN ?_ _ | with_reducible assumption))⟩
theorem put1_any (a b : Int × Int) (n : Int) (w : World) : Calls Try.prog 51 #[.agg #[.int .i64 a.1, .int .i64 a.2, .int .i64 n], .agg #[.int .i64 b.1, .int .i64 b.2]] w fun e w' => e = .returned (.int .i64 (ordR a b)) ∧ Ext w w' := by
  have O := Lib.hid (fun w => order_any a b w)
  generalize ordR a b = q at *
  obtain ⟨x, y⟩ := a
  obtain ⟨x', y'⟩ := b
  dsimp only at *
  go_enter Try.func51, Try.ntmps51
  go_wp2_with (go_at_call 49; refine (O.out _).mono ?_; rintro r w' ⟨rfl, x1, rfl⟩)
  go_returns
  exact ⟨reti rfl rfl, by (repeat' (first | with_reducible exact Ext.refl _ | with_reducible refine Ext.ext ?_ _ | with_reducible refine Ext.alloc ?_ _ | with_reducible refine Ext.drew ?_ | with_reducible refine Ext.drewN ?_ _ | with_reducible assumption))⟩
end Go.Proofs.Ytbglfaomebokhaa
