/- law 17: TokenRounds' drawn regions. -/
import Derived.Test.YtmngjifcgfnogaaTk6
import Derived.Test.YtmngjifcgfnogaaInv5
namespace Go.Proofs.Ytmngjifcgfnogaa
set_option linter.unusedSimpArgs false
set_option linter.unusedVariables false
set_option maxRecDepth 100000
open Go.RowKit

noncomputable def ops_rgO : Array Oper := ((Try.f4.body.bind (regOf 18)).getD #[])
theorem rgO_size : ops_rgO.size = 16 := by kernel_rfl
theorem rgO_ac : acyc .any ops_rgO = true := by kernel_rfl
theorem rgO_once : once ops_rgO = true := by kernel_rfl
theorem rgO_fits : fits ops_rgO 119 = true := by kernel_rfl
def ts_rgO : List Nat := [53, 54, 55, 56, 57, 58, 59, 60, 61, 62, 63, 64, 65, 66, 67, 12]
theorem rgO_ts : ops_rgO.toList.filterMap (·.dst) = ts_rgO := by kernel_rfl
def F_rgO (w0 : World) (A : Nat → Prop) (low : List Tm) (k n m cl k1 p q x y : Nat) (al : Option Addr) : Nat → (Nat → Bool) → Value → World → Prop
  | 0, L, v, W => v = .slice al m cl
  | 1, L, v, W => v = .int .i64 k
  | 2, L, v, W => v = .slice al m cl
  | 3, L, v, W => v = .int .i64 m
  | 4, L, v, W => v = .int .i64 p
  | 5, L, v, W => v = .int .i64 n
  | 6, L, v, W => v = .int .i64 x
  | 7, L, v, W => v = .int .i64 k
  | 8, L, v, W => v = .int .i64 k1
  | 9, L, v, W => v = .slice al m cl
  | 10, L, v, W => v = .int .i64 m
  | 11, L, v, W => v = .int .i64 q
  | 12, L, v, W => v = .int .i64 n
  | 13, L, v, W => v = .int .i64 y
  | 14, L, v, W => ∃ ao co, v = .slice ao (y - x) co ∧ Rs tmE A w0 ((low.take y).drop x) v
  | 15, L, v, W => ∃ ao co, v = .slice ao (y - x) co ∧ Rs tmE A w0 ((low.take y).drop x) v
  | _, _, _, _ => True
theorem rgO_stays (w0 : World) (A : Nat → Prop) (low : List Tm) (k n m cl k1 p q x y : Nat) (al : Option Addr) : StaysF (F_rgO w0 A low k n m cl k1 p q x y al) 16 := by
  intro k hk L i v W W' hi hx h
  match k, h with
  | 0, h => exact h
  | 1, h => exact h
  | 2, h => exact h
  | 3, h => exact h
  | 4, h => exact h
  | 5, h => exact h
  | 6, h => exact h
  | 7, h => exact h
  | 8, h => exact h
  | 9, h => exact h
  | 10, h => exact h
  | 11, h => exact h
  | 12, h => exact h
  | 13, h => exact h
  | 14, h => exact h
  | 15, h => exact h
  | _ + 16, _ => exact trivial
set_option maxRecDepth 100000 in
set_option maxHeartbeats 4000000 in
theorem rgO_op0 (a0 : Act) (Q : Exit → Act → World → Prop) (w0 : World) (A : Nat → Prop) (low : List Tm) (k n m cl k1 p q x y : Nat) (al : Option Addr) (v1 : V a0 1 = .slice al m cl) (v11 : V a0 11 = .int .i64 k) (v5 : V a0 5 = .int .i64 n) (hr : Hid (Rs tmE A w0 low (.slice al m cl) ∧ m = low.length)) (hmc : m ≤ cl) (hm4 : m ≤ 40) (hn : 1 ≤ n ∧ n ≤ 8) (hk : k < n) (hp : Hid (p = k * m ∧ k1 = k + 1 ∧ q = k1 * m ∧ x = p / n ∧ y = q / n)) : StepF Try.prog Q ops_rgO a0 (fun (L : Nat → Bool) (W : World) => Ext w0 W) (F_rgO w0 A low k n m cl k1 p q x y al) 0 := by
  have ST : StaysF (F_rgO w0 A low k n m cl k1 p q x y al) ops_rgO.size := by rw [rgO_size]; exact rgO_stays w0 A low k n m cl k1 p q x y al
  obtain ⟨hp0, hk1, hq0, hx, hy⟩ := hp.out
  have hpb : p ≤ 8 * 40 := by rw [hp0]; exact Nat.mul_le_mul (by omega) hm4
  have hqb : q ≤ 8 * 40 := by rw [hq0]; exact Nat.mul_le_mul (by omega) hm4
  have hx0 : x ≤ y := by rw [hx, hy, hp0, hq0]; exact Nat.div_le_div_right (Nat.mul_le_mul_right _ (by omega))
  have hx1 : y ≤ m := by
    have h1 : q ≤ n * m := by rw [hq0]; exact Nat.mul_le_mul_right _ (by omega)
    have h2 := Nat.div_le_div_right (c := n) h1
    rw [Nat.mul_comm n, Nat.mul_div_cancel _ (by omega)] at h2
    rw [hy]
    exact h2
  have ekm : Hid (IntKind.i64.wrap ((k : Int) * (m : Int)) = (p : Int)) := Lib.hid (by rw [← Int.natCast_mul, ← hp0]; exact IntWalk.i64_in _ ⟨by omega, by omega⟩)
  have ekm1 : Hid (IntKind.i64.wrap ((k1 : Int) * (m : Int)) = (q : Int)) := Lib.hid (by rw [← Int.natCast_mul, ← hq0]; exact IntWalk.i64_in _ ⟨by omega, by omega⟩)
  have hqx : Hid (IntKind.i64.wrap (Int.tdiv (p : Int) (n : Int)) = (x : Int)) := Lib.hid (by rw [Int.tdiv_eq_ediv_of_nonneg (by omega), show (p : Int) / (n : Int) = ((p / n : Nat) : Int) from rfl, ← hx]; exact IntWalk.i64_in _ ⟨by omega, by omega⟩)
  have hqy : Hid (IntKind.i64.wrap (Int.tdiv (q : Int) (n : Int)) = (y : Int)) := Lib.hid (by rw [Int.tdiv_eq_ediv_of_nonneg (by omega), show (q : Int) / (n : Int) = ((q / n : Nat) : Int) from rfl, ← hy]; exact IntWalk.i64_in _ ⟨by omega, by omega⟩)
  have hk1' : Hid (IntKind.i64.wrap ((k : Int) + 1) = (k1 : Int)) := Lib.hid (by rw [hk1]; exact (IntWalk.i64_in _ ⟨by omega, by omega⟩).trans (by omega))
  have n0 : ¬ n = 0 := by omega
  have x0 : (0 : Int) ≤ x := by omega
  have y0 : (0 : Int) ≤ y := by omega
  have xy : (x : Int) ≤ y := by omega
  have yc : (y : Int) ≤ cl := by omega
  clear hp0 hk1 hq0 hx hy
  refine step_free fun o ho => ?_
  have ho' := ho
  cases ho'
  refine ⟨rfl, fun L a W hL hd hJ K hK => ?_⟩
  have f1 := hJ.old (t := 1) hL (by kernel_rfl) v1
  conv => arg 2; whnf
  go_simp
  exact hK _ _ hJ.inv (hJ.frame ST hL (Ext.refl _)) rfl
set_option maxRecDepth 100000 in
set_option maxHeartbeats 4000000 in
theorem rgO_op1 (a0 : Act) (Q : Exit → Act → World → Prop) (w0 : World) (A : Nat → Prop) (low : List Tm) (k n m cl k1 p q x y : Nat) (al : Option Addr) (v1 : V a0 1 = .slice al m cl) (v11 : V a0 11 = .int .i64 k) (v5 : V a0 5 = .int .i64 n) (hr : Hid (Rs tmE A w0 low (.slice al m cl) ∧ m = low.length)) (hmc : m ≤ cl) (hm4 : m ≤ 40) (hn : 1 ≤ n ∧ n ≤ 8) (hk : k < n) (hp : Hid (p = k * m ∧ k1 = k + 1 ∧ q = k1 * m ∧ x = p / n ∧ y = q / n)) : StepF Try.prog Q ops_rgO a0 (fun (L : Nat → Bool) (W : World) => Ext w0 W) (F_rgO w0 A low k n m cl k1 p q x y al) 1 := by
  have ST : StaysF (F_rgO w0 A low k n m cl k1 p q x y al) ops_rgO.size := by rw [rgO_size]; exact rgO_stays w0 A low k n m cl k1 p q x y al
  obtain ⟨hp0, hk1, hq0, hx, hy⟩ := hp.out
  have hpb : p ≤ 8 * 40 := by rw [hp0]; exact Nat.mul_le_mul (by omega) hm4
  have hqb : q ≤ 8 * 40 := by rw [hq0]; exact Nat.mul_le_mul (by omega) hm4
  have hx0 : x ≤ y := by rw [hx, hy, hp0, hq0]; exact Nat.div_le_div_right (Nat.mul_le_mul_right _ (by omega))
  have hx1 : y ≤ m := by
    have h1 : q ≤ n * m := by rw [hq0]; exact Nat.mul_le_mul_right _ (by omega)
    have h2 := Nat.div_le_div_right (c := n) h1
    rw [Nat.mul_comm n, Nat.mul_div_cancel _ (by omega)] at h2
    rw [hy]
    exact h2
  have ekm : Hid (IntKind.i64.wrap ((k : Int) * (m : Int)) = (p : Int)) := Lib.hid (by rw [← Int.natCast_mul, ← hp0]; exact IntWalk.i64_in _ ⟨by omega, by omega⟩)
  have ekm1 : Hid (IntKind.i64.wrap ((k1 : Int) * (m : Int)) = (q : Int)) := Lib.hid (by rw [← Int.natCast_mul, ← hq0]; exact IntWalk.i64_in _ ⟨by omega, by omega⟩)
  have hqx : Hid (IntKind.i64.wrap (Int.tdiv (p : Int) (n : Int)) = (x : Int)) := Lib.hid (by rw [Int.tdiv_eq_ediv_of_nonneg (by omega), show (p : Int) / (n : Int) = ((p / n : Nat) : Int) from rfl, ← hx]; exact IntWalk.i64_in _ ⟨by omega, by omega⟩)
  have hqy : Hid (IntKind.i64.wrap (Int.tdiv (q : Int) (n : Int)) = (y : Int)) := Lib.hid (by rw [Int.tdiv_eq_ediv_of_nonneg (by omega), show (q : Int) / (n : Int) = ((q / n : Nat) : Int) from rfl, ← hy]; exact IntWalk.i64_in _ ⟨by omega, by omega⟩)
  have hk1' : Hid (IntKind.i64.wrap ((k : Int) + 1) = (k1 : Int)) := Lib.hid (by rw [hk1]; exact (IntWalk.i64_in _ ⟨by omega, by omega⟩).trans (by omega))
  have n0 : ¬ n = 0 := by omega
  have x0 : (0 : Int) ≤ x := by omega
  have y0 : (0 : Int) ≤ y := by omega
  have xy : (x : Int) ≤ y := by omega
  have yc : (y : Int) ≤ cl := by omega
  clear hp0 hk1 hq0 hx hy
  refine step_free fun o ho => ?_
  have ho' := ho
  cases ho'
  refine ⟨rfl, fun L a W hL hd hJ K hK => ?_⟩
  have f11 := hJ.old (t := 11) hL (by kernel_rfl) v11
  conv => arg 2; whnf
  go_simp
  exact hK _ _ hJ.inv (hJ.frame ST hL (Ext.refl _)) rfl
set_option maxRecDepth 100000 in
set_option maxHeartbeats 4000000 in
theorem rgO_op2 (a0 : Act) (Q : Exit → Act → World → Prop) (w0 : World) (A : Nat → Prop) (low : List Tm) (k n m cl k1 p q x y : Nat) (al : Option Addr) (v1 : V a0 1 = .slice al m cl) (v11 : V a0 11 = .int .i64 k) (v5 : V a0 5 = .int .i64 n) (hr : Hid (Rs tmE A w0 low (.slice al m cl) ∧ m = low.length)) (hmc : m ≤ cl) (hm4 : m ≤ 40) (hn : 1 ≤ n ∧ n ≤ 8) (hk : k < n) (hp : Hid (p = k * m ∧ k1 = k + 1 ∧ q = k1 * m ∧ x = p / n ∧ y = q / n)) : StepF Try.prog Q ops_rgO a0 (fun (L : Nat → Bool) (W : World) => Ext w0 W) (F_rgO w0 A low k n m cl k1 p q x y al) 2 := by
  have ST : StaysF (F_rgO w0 A low k n m cl k1 p q x y al) ops_rgO.size := by rw [rgO_size]; exact rgO_stays w0 A low k n m cl k1 p q x y al
  obtain ⟨hp0, hk1, hq0, hx, hy⟩ := hp.out
  have hpb : p ≤ 8 * 40 := by rw [hp0]; exact Nat.mul_le_mul (by omega) hm4
  have hqb : q ≤ 8 * 40 := by rw [hq0]; exact Nat.mul_le_mul (by omega) hm4
  have hx0 : x ≤ y := by rw [hx, hy, hp0, hq0]; exact Nat.div_le_div_right (Nat.mul_le_mul_right _ (by omega))
  have hx1 : y ≤ m := by
    have h1 : q ≤ n * m := by rw [hq0]; exact Nat.mul_le_mul_right _ (by omega)
    have h2 := Nat.div_le_div_right (c := n) h1
    rw [Nat.mul_comm n, Nat.mul_div_cancel _ (by omega)] at h2
    rw [hy]
    exact h2
  have ekm : Hid (IntKind.i64.wrap ((k : Int) * (m : Int)) = (p : Int)) := Lib.hid (by rw [← Int.natCast_mul, ← hp0]; exact IntWalk.i64_in _ ⟨by omega, by omega⟩)
  have ekm1 : Hid (IntKind.i64.wrap ((k1 : Int) * (m : Int)) = (q : Int)) := Lib.hid (by rw [← Int.natCast_mul, ← hq0]; exact IntWalk.i64_in _ ⟨by omega, by omega⟩)
  have hqx : Hid (IntKind.i64.wrap (Int.tdiv (p : Int) (n : Int)) = (x : Int)) := Lib.hid (by rw [Int.tdiv_eq_ediv_of_nonneg (by omega), show (p : Int) / (n : Int) = ((p / n : Nat) : Int) from rfl, ← hx]; exact IntWalk.i64_in _ ⟨by omega, by omega⟩)
  have hqy : Hid (IntKind.i64.wrap (Int.tdiv (q : Int) (n : Int)) = (y : Int)) := Lib.hid (by rw [Int.tdiv_eq_ediv_of_nonneg (by omega), show (q : Int) / (n : Int) = ((q / n : Nat) : Int) from rfl, ← hy]; exact IntWalk.i64_in _ ⟨by omega, by omega⟩)
  have hk1' : Hid (IntKind.i64.wrap ((k : Int) + 1) = (k1 : Int)) := Lib.hid (by rw [hk1]; exact (IntWalk.i64_in _ ⟨by omega, by omega⟩).trans (by omega))
  have n0 : ¬ n = 0 := by omega
  have x0 : (0 : Int) ≤ x := by omega
  have y0 : (0 : Int) ≤ y := by omega
  have xy : (x : Int) ≤ y := by omega
  have yc : (y : Int) ≤ cl := by omega
  clear hp0 hk1 hq0 hx hy
  refine step_free fun o ho => ?_
  have ho' := ho
  cases ho'
  refine ⟨rfl, fun L a W hL hd hJ K hK => ?_⟩
  have f1 := hJ.old (t := 1) hL (by kernel_rfl) v1
  conv => arg 2; whnf
  go_simp
  exact hK _ _ hJ.inv (hJ.frame ST hL (Ext.refl _)) rfl
set_option maxRecDepth 100000 in
set_option maxHeartbeats 4000000 in
theorem rgO_op3 (a0 : Act) (Q : Exit → Act → World → Prop) (w0 : World) (A : Nat → Prop) (low : List Tm) (k n m cl k1 p q x y : Nat) (al : Option Addr) (v1 : V a0 1 = .slice al m cl) (v11 : V a0 11 = .int .i64 k) (v5 : V a0 5 = .int .i64 n) (hr : Hid (Rs tmE A w0 low (.slice al m cl) ∧ m = low.length)) (hmc : m ≤ cl) (hm4 : m ≤ 40) (hn : 1 ≤ n ∧ n ≤ 8) (hk : k < n) (hp : Hid (p = k * m ∧ k1 = k + 1 ∧ q = k1 * m ∧ x = p / n ∧ y = q / n)) : StepF Try.prog Q ops_rgO a0 (fun (L : Nat → Bool) (W : World) => Ext w0 W) (F_rgO w0 A low k n m cl k1 p q x y al) 3 := by
  have ST : StaysF (F_rgO w0 A low k n m cl k1 p q x y al) ops_rgO.size := by rw [rgO_size]; exact rgO_stays w0 A low k n m cl k1 p q x y al
  obtain ⟨hp0, hk1, hq0, hx, hy⟩ := hp.out
  have hpb : p ≤ 8 * 40 := by rw [hp0]; exact Nat.mul_le_mul (by omega) hm4
  have hqb : q ≤ 8 * 40 := by rw [hq0]; exact Nat.mul_le_mul (by omega) hm4
  have hx0 : x ≤ y := by rw [hx, hy, hp0, hq0]; exact Nat.div_le_div_right (Nat.mul_le_mul_right _ (by omega))
  have hx1 : y ≤ m := by
    have h1 : q ≤ n * m := by rw [hq0]; exact Nat.mul_le_mul_right _ (by omega)
    have h2 := Nat.div_le_div_right (c := n) h1
    rw [Nat.mul_comm n, Nat.mul_div_cancel _ (by omega)] at h2
    rw [hy]
    exact h2
  have ekm : Hid (IntKind.i64.wrap ((k : Int) * (m : Int)) = (p : Int)) := Lib.hid (by rw [← Int.natCast_mul, ← hp0]; exact IntWalk.i64_in _ ⟨by omega, by omega⟩)
  have ekm1 : Hid (IntKind.i64.wrap ((k1 : Int) * (m : Int)) = (q : Int)) := Lib.hid (by rw [← Int.natCast_mul, ← hq0]; exact IntWalk.i64_in _ ⟨by omega, by omega⟩)
  have hqx : Hid (IntKind.i64.wrap (Int.tdiv (p : Int) (n : Int)) = (x : Int)) := Lib.hid (by rw [Int.tdiv_eq_ediv_of_nonneg (by omega), show (p : Int) / (n : Int) = ((p / n : Nat) : Int) from rfl, ← hx]; exact IntWalk.i64_in _ ⟨by omega, by omega⟩)
  have hqy : Hid (IntKind.i64.wrap (Int.tdiv (q : Int) (n : Int)) = (y : Int)) := Lib.hid (by rw [Int.tdiv_eq_ediv_of_nonneg (by omega), show (q : Int) / (n : Int) = ((q / n : Nat) : Int) from rfl, ← hy]; exact IntWalk.i64_in _ ⟨by omega, by omega⟩)
  have hk1' : Hid (IntKind.i64.wrap ((k : Int) + 1) = (k1 : Int)) := Lib.hid (by rw [hk1]; exact (IntWalk.i64_in _ ⟨by omega, by omega⟩).trans (by omega))
  have n0 : ¬ n = 0 := by omega
  have x0 : (0 : Int) ≤ x := by omega
  have y0 : (0 : Int) ≤ y := by omega
  have xy : (x : Int) ≤ y := by omega
  have yc : (y : Int) ≤ cl := by omega
  clear hp0 hk1 hq0 hx hy
  refine step_free fun o ho => ?_
  have ho' := ho
  cases ho'
  refine ⟨rfl, fun L a W hL hd hJ K hK => ?_⟩
  have f55 : a.tmps[55]?.getD undef = _ := hJ.dep ho hd (k := 2) (t := 55) (by kernel_rfl) (by kernel_rfl)
  conv => arg 2; whnf
  go_simp
  exact hK _ _ hJ.inv (hJ.frame ST hL (Ext.refl _)) rfl
set_option maxRecDepth 100000 in
set_option maxHeartbeats 4000000 in
theorem rgO_op4 (a0 : Act) (Q : Exit → Act → World → Prop) (w0 : World) (A : Nat → Prop) (low : List Tm) (k n m cl k1 p q x y : Nat) (al : Option Addr) (v1 : V a0 1 = .slice al m cl) (v11 : V a0 11 = .int .i64 k) (v5 : V a0 5 = .int .i64 n) (hr : Hid (Rs tmE A w0 low (.slice al m cl) ∧ m = low.length)) (hmc : m ≤ cl) (hm4 : m ≤ 40) (hn : 1 ≤ n ∧ n ≤ 8) (hk : k < n) (hp : Hid (p = k * m ∧ k1 = k + 1 ∧ q = k1 * m ∧ x = p / n ∧ y = q / n)) : StepF Try.prog Q ops_rgO a0 (fun (L : Nat → Bool) (W : World) => Ext w0 W) (F_rgO w0 A low k n m cl k1 p q x y al) 4 := by
  have ST : StaysF (F_rgO w0 A low k n m cl k1 p q x y al) ops_rgO.size := by rw [rgO_size]; exact rgO_stays w0 A low k n m cl k1 p q x y al
  obtain ⟨hp0, hk1, hq0, hx, hy⟩ := hp.out
  have hpb : p ≤ 8 * 40 := by rw [hp0]; exact Nat.mul_le_mul (by omega) hm4
  have hqb : q ≤ 8 * 40 := by rw [hq0]; exact Nat.mul_le_mul (by omega) hm4
  have hx0 : x ≤ y := by rw [hx, hy, hp0, hq0]; exact Nat.div_le_div_right (Nat.mul_le_mul_right _ (by omega))
  have hx1 : y ≤ m := by
    have h1 : q ≤ n * m := by rw [hq0]; exact Nat.mul_le_mul_right _ (by omega)
    have h2 := Nat.div_le_div_right (c := n) h1
    rw [Nat.mul_comm n, Nat.mul_div_cancel _ (by omega)] at h2
    rw [hy]
    exact h2
  have ekm : Hid (IntKind.i64.wrap ((k : Int) * (m : Int)) = (p : Int)) := Lib.hid (by rw [← Int.natCast_mul, ← hp0]; exact IntWalk.i64_in _ ⟨by omega, by omega⟩)
  have ekm1 : Hid (IntKind.i64.wrap ((k1 : Int) * (m : Int)) = (q : Int)) := Lib.hid (by rw [← Int.natCast_mul, ← hq0]; exact IntWalk.i64_in _ ⟨by omega, by omega⟩)
  have hqx : Hid (IntKind.i64.wrap (Int.tdiv (p : Int) (n : Int)) = (x : Int)) := Lib.hid (by rw [Int.tdiv_eq_ediv_of_nonneg (by omega), show (p : Int) / (n : Int) = ((p / n : Nat) : Int) from rfl, ← hx]; exact IntWalk.i64_in _ ⟨by omega, by omega⟩)
  have hqy : Hid (IntKind.i64.wrap (Int.tdiv (q : Int) (n : Int)) = (y : Int)) := Lib.hid (by rw [Int.tdiv_eq_ediv_of_nonneg (by omega), show (q : Int) / (n : Int) = ((q / n : Nat) : Int) from rfl, ← hy]; exact IntWalk.i64_in _ ⟨by omega, by omega⟩)
  have hk1' : Hid (IntKind.i64.wrap ((k : Int) + 1) = (k1 : Int)) := Lib.hid (by rw [hk1]; exact (IntWalk.i64_in _ ⟨by omega, by omega⟩).trans (by omega))
  have n0 : ¬ n = 0 := by omega
  have x0 : (0 : Int) ≤ x := by omega
  have y0 : (0 : Int) ≤ y := by omega
  have xy : (x : Int) ≤ y := by omega
  have yc : (y : Int) ≤ cl := by omega
  clear hp0 hk1 hq0 hx hy
  refine step_free fun o ho => ?_
  have ho' := ho
  cases ho'
  refine ⟨rfl, fun L a W hL hd hJ K hK => ?_⟩
  have f54 : a.tmps[54]?.getD undef = _ := hJ.dep ho hd (k := 1) (t := 54) (by kernel_rfl) (by kernel_rfl)
  have f56 : a.tmps[56]?.getD undef = _ := hJ.dep ho hd (k := 3) (t := 56) (by kernel_rfl) (by kernel_rfl)
  conv => arg 2; whnf
  go_simp
  exact hK _ _ hJ.inv (hJ.frame ST hL (Ext.refl _)) (congrArg (Value.int .i64) ekm.out)
set_option maxRecDepth 100000 in
set_option maxHeartbeats 4000000 in
theorem rgO_op5 (a0 : Act) (Q : Exit → Act → World → Prop) (w0 : World) (A : Nat → Prop) (low : List Tm) (k n m cl k1 p q x y : Nat) (al : Option Addr) (v1 : V a0 1 = .slice al m cl) (v11 : V a0 11 = .int .i64 k) (v5 : V a0 5 = .int .i64 n) (hr : Hid (Rs tmE A w0 low (.slice al m cl) ∧ m = low.length)) (hmc : m ≤ cl) (hm4 : m ≤ 40) (hn : 1 ≤ n ∧ n ≤ 8) (hk : k < n) (hp : Hid (p = k * m ∧ k1 = k + 1 ∧ q = k1 * m ∧ x = p / n ∧ y = q / n)) : StepF Try.prog Q ops_rgO a0 (fun (L : Nat → Bool) (W : World) => Ext w0 W) (F_rgO w0 A low k n m cl k1 p q x y al) 5 := by
  have ST : StaysF (F_rgO w0 A low k n m cl k1 p q x y al) ops_rgO.size := by rw [rgO_size]; exact rgO_stays w0 A low k n m cl k1 p q x y al
  obtain ⟨hp0, hk1, hq0, hx, hy⟩ := hp.out
  have hpb : p ≤ 8 * 40 := by rw [hp0]; exact Nat.mul_le_mul (by omega) hm4
  have hqb : q ≤ 8 * 40 := by rw [hq0]; exact Nat.mul_le_mul (by omega) hm4
  have hx0 : x ≤ y := by rw [hx, hy, hp0, hq0]; exact Nat.div_le_div_right (Nat.mul_le_mul_right _ (by omega))
  have hx1 : y ≤ m := by
    have h1 : q ≤ n * m := by rw [hq0]; exact Nat.mul_le_mul_right _ (by omega)
    have h2 := Nat.div_le_div_right (c := n) h1
    rw [Nat.mul_comm n, Nat.mul_div_cancel _ (by omega)] at h2
    rw [hy]
    exact h2
  have ekm : Hid (IntKind.i64.wrap ((k : Int) * (m : Int)) = (p : Int)) := Lib.hid (by rw [← Int.natCast_mul, ← hp0]; exact IntWalk.i64_in _ ⟨by omega, by omega⟩)
  have ekm1 : Hid (IntKind.i64.wrap ((k1 : Int) * (m : Int)) = (q : Int)) := Lib.hid (by rw [← Int.natCast_mul, ← hq0]; exact IntWalk.i64_in _ ⟨by omega, by omega⟩)
  have hqx : Hid (IntKind.i64.wrap (Int.tdiv (p : Int) (n : Int)) = (x : Int)) := Lib.hid (by rw [Int.tdiv_eq_ediv_of_nonneg (by omega), show (p : Int) / (n : Int) = ((p / n : Nat) : Int) from rfl, ← hx]; exact IntWalk.i64_in _ ⟨by omega, by omega⟩)
  have hqy : Hid (IntKind.i64.wrap (Int.tdiv (q : Int) (n : Int)) = (y : Int)) := Lib.hid (by rw [Int.tdiv_eq_ediv_of_nonneg (by omega), show (q : Int) / (n : Int) = ((q / n : Nat) : Int) from rfl, ← hy]; exact IntWalk.i64_in _ ⟨by omega, by omega⟩)
  have hk1' : Hid (IntKind.i64.wrap ((k : Int) + 1) = (k1 : Int)) := Lib.hid (by rw [hk1]; exact (IntWalk.i64_in _ ⟨by omega, by omega⟩).trans (by omega))
  have n0 : ¬ n = 0 := by omega
  have x0 : (0 : Int) ≤ x := by omega
  have y0 : (0 : Int) ≤ y := by omega
  have xy : (x : Int) ≤ y := by omega
  have yc : (y : Int) ≤ cl := by omega
  clear hp0 hk1 hq0 hx hy
  refine step_free fun o ho => ?_
  have ho' := ho
  cases ho'
  refine ⟨rfl, fun L a W hL hd hJ K hK => ?_⟩
  have f5 := hJ.old (t := 5) hL (by kernel_rfl) v5
  conv => arg 2; whnf
  go_simp
  exact hK _ _ hJ.inv (hJ.frame ST hL (Ext.refl _)) rfl
set_option maxRecDepth 100000 in
set_option maxHeartbeats 4000000 in
theorem rgO_op6 (a0 : Act) (Q : Exit → Act → World → Prop) (w0 : World) (A : Nat → Prop) (low : List Tm) (k n m cl k1 p q x y : Nat) (al : Option Addr) (v1 : V a0 1 = .slice al m cl) (v11 : V a0 11 = .int .i64 k) (v5 : V a0 5 = .int .i64 n) (hr : Hid (Rs tmE A w0 low (.slice al m cl) ∧ m = low.length)) (hmc : m ≤ cl) (hm4 : m ≤ 40) (hn : 1 ≤ n ∧ n ≤ 8) (hk : k < n) (hp : Hid (p = k * m ∧ k1 = k + 1 ∧ q = k1 * m ∧ x = p / n ∧ y = q / n)) : StepF Try.prog Q ops_rgO a0 (fun (L : Nat → Bool) (W : World) => Ext w0 W) (F_rgO w0 A low k n m cl k1 p q x y al) 6 := by
  have ST : StaysF (F_rgO w0 A low k n m cl k1 p q x y al) ops_rgO.size := by rw [rgO_size]; exact rgO_stays w0 A low k n m cl k1 p q x y al
  obtain ⟨hp0, hk1, hq0, hx, hy⟩ := hp.out
  have hpb : p ≤ 8 * 40 := by rw [hp0]; exact Nat.mul_le_mul (by omega) hm4
  have hqb : q ≤ 8 * 40 := by rw [hq0]; exact Nat.mul_le_mul (by omega) hm4
  have hx0 : x ≤ y := by rw [hx, hy, hp0, hq0]; exact Nat.div_le_div_right (Nat.mul_le_mul_right _ (by omega))
  have hx1 : y ≤ m := by
    have h1 : q ≤ n * m := by rw [hq0]; exact Nat.mul_le_mul_right _ (by omega)
    have h2 := Nat.div_le_div_right (c := n) h1
    rw [Nat.mul_comm n, Nat.mul_div_cancel _ (by omega)] at h2
    rw [hy]
    exact h2
  have ekm : Hid (IntKind.i64.wrap ((k : Int) * (m : Int)) = (p : Int)) := Lib.hid (by rw [← Int.natCast_mul, ← hp0]; exact IntWalk.i64_in _ ⟨by omega, by omega⟩)
  have ekm1 : Hid (IntKind.i64.wrap ((k1 : Int) * (m : Int)) = (q : Int)) := Lib.hid (by rw [← Int.natCast_mul, ← hq0]; exact IntWalk.i64_in _ ⟨by omega, by omega⟩)
  have hqx : Hid (IntKind.i64.wrap (Int.tdiv (p : Int) (n : Int)) = (x : Int)) := Lib.hid (by rw [Int.tdiv_eq_ediv_of_nonneg (by omega), show (p : Int) / (n : Int) = ((p / n : Nat) : Int) from rfl, ← hx]; exact IntWalk.i64_in _ ⟨by omega, by omega⟩)
  have hqy : Hid (IntKind.i64.wrap (Int.tdiv (q : Int) (n : Int)) = (y : Int)) := Lib.hid (by rw [Int.tdiv_eq_ediv_of_nonneg (by omega), show (q : Int) / (n : Int) = ((q / n : Nat) : Int) from rfl, ← hy]; exact IntWalk.i64_in _ ⟨by omega, by omega⟩)
  have hk1' : Hid (IntKind.i64.wrap ((k : Int) + 1) = (k1 : Int)) := Lib.hid (by rw [hk1]; exact (IntWalk.i64_in _ ⟨by omega, by omega⟩).trans (by omega))
  have n0 : ¬ n = 0 := by omega
  have x0 : (0 : Int) ≤ x := by omega
  have y0 : (0 : Int) ≤ y := by omega
  have xy : (x : Int) ≤ y := by omega
  have yc : (y : Int) ≤ cl := by omega
  clear hp0 hk1 hq0 hx hy
  refine step_free fun o ho => ?_
  have ho' := ho
  cases ho'
  refine ⟨rfl, fun L a W hL hd hJ K hK => ?_⟩
  have f57 : a.tmps[57]?.getD undef = _ := hJ.dep ho hd (k := 4) (t := 57) (by kernel_rfl) (by kernel_rfl)
  have f58 : a.tmps[58]?.getD undef = _ := hJ.dep ho hd (k := 5) (t := 58) (by kernel_rfl) (by kernel_rfl)
  conv => arg 2; whnf
  go_simp
  exact hK _ _ hJ.inv (hJ.frame ST hL (Ext.refl _)) (congrArg (Value.int .i64) hqx.out)
set_option maxRecDepth 100000 in
set_option maxHeartbeats 4000000 in
theorem rgO_op7 (a0 : Act) (Q : Exit → Act → World → Prop) (w0 : World) (A : Nat → Prop) (low : List Tm) (k n m cl k1 p q x y : Nat) (al : Option Addr) (v1 : V a0 1 = .slice al m cl) (v11 : V a0 11 = .int .i64 k) (v5 : V a0 5 = .int .i64 n) (hr : Hid (Rs tmE A w0 low (.slice al m cl) ∧ m = low.length)) (hmc : m ≤ cl) (hm4 : m ≤ 40) (hn : 1 ≤ n ∧ n ≤ 8) (hk : k < n) (hp : Hid (p = k * m ∧ k1 = k + 1 ∧ q = k1 * m ∧ x = p / n ∧ y = q / n)) : StepF Try.prog Q ops_rgO a0 (fun (L : Nat → Bool) (W : World) => Ext w0 W) (F_rgO w0 A low k n m cl k1 p q x y al) 7 := by
  have ST : StaysF (F_rgO w0 A low k n m cl k1 p q x y al) ops_rgO.size := by rw [rgO_size]; exact rgO_stays w0 A low k n m cl k1 p q x y al
  obtain ⟨hp0, hk1, hq0, hx, hy⟩ := hp.out
  have hpb : p ≤ 8 * 40 := by rw [hp0]; exact Nat.mul_le_mul (by omega) hm4
  have hqb : q ≤ 8 * 40 := by rw [hq0]; exact Nat.mul_le_mul (by omega) hm4
  have hx0 : x ≤ y := by rw [hx, hy, hp0, hq0]; exact Nat.div_le_div_right (Nat.mul_le_mul_right _ (by omega))
  have hx1 : y ≤ m := by
    have h1 : q ≤ n * m := by rw [hq0]; exact Nat.mul_le_mul_right _ (by omega)
    have h2 := Nat.div_le_div_right (c := n) h1
    rw [Nat.mul_comm n, Nat.mul_div_cancel _ (by omega)] at h2
    rw [hy]
    exact h2
  have ekm : Hid (IntKind.i64.wrap ((k : Int) * (m : Int)) = (p : Int)) := Lib.hid (by rw [← Int.natCast_mul, ← hp0]; exact IntWalk.i64_in _ ⟨by omega, by omega⟩)
  have ekm1 : Hid (IntKind.i64.wrap ((k1 : Int) * (m : Int)) = (q : Int)) := Lib.hid (by rw [← Int.natCast_mul, ← hq0]; exact IntWalk.i64_in _ ⟨by omega, by omega⟩)
  have hqx : Hid (IntKind.i64.wrap (Int.tdiv (p : Int) (n : Int)) = (x : Int)) := Lib.hid (by rw [Int.tdiv_eq_ediv_of_nonneg (by omega), show (p : Int) / (n : Int) = ((p / n : Nat) : Int) from rfl, ← hx]; exact IntWalk.i64_in _ ⟨by omega, by omega⟩)
  have hqy : Hid (IntKind.i64.wrap (Int.tdiv (q : Int) (n : Int)) = (y : Int)) := Lib.hid (by rw [Int.tdiv_eq_ediv_of_nonneg (by omega), show (q : Int) / (n : Int) = ((q / n : Nat) : Int) from rfl, ← hy]; exact IntWalk.i64_in _ ⟨by omega, by omega⟩)
  have hk1' : Hid (IntKind.i64.wrap ((k : Int) + 1) = (k1 : Int)) := Lib.hid (by rw [hk1]; exact (IntWalk.i64_in _ ⟨by omega, by omega⟩).trans (by omega))
  have n0 : ¬ n = 0 := by omega
  have x0 : (0 : Int) ≤ x := by omega
  have y0 : (0 : Int) ≤ y := by omega
  have xy : (x : Int) ≤ y := by omega
  have yc : (y : Int) ≤ cl := by omega
  clear hp0 hk1 hq0 hx hy
  refine step_free fun o ho => ?_
  have ho' := ho
  cases ho'
  refine ⟨rfl, fun L a W hL hd hJ K hK => ?_⟩
  have f11 := hJ.old (t := 11) hL (by kernel_rfl) v11
  conv => arg 2; whnf
  go_simp
  exact hK _ _ hJ.inv (hJ.frame ST hL (Ext.refl _)) rfl
set_option maxRecDepth 100000 in
set_option maxHeartbeats 4000000 in
theorem rgO_op8 (a0 : Act) (Q : Exit → Act → World → Prop) (w0 : World) (A : Nat → Prop) (low : List Tm) (k n m cl k1 p q x y : Nat) (al : Option Addr) (v1 : V a0 1 = .slice al m cl) (v11 : V a0 11 = .int .i64 k) (v5 : V a0 5 = .int .i64 n) (hr : Hid (Rs tmE A w0 low (.slice al m cl) ∧ m = low.length)) (hmc : m ≤ cl) (hm4 : m ≤ 40) (hn : 1 ≤ n ∧ n ≤ 8) (hk : k < n) (hp : Hid (p = k * m ∧ k1 = k + 1 ∧ q = k1 * m ∧ x = p / n ∧ y = q / n)) : StepF Try.prog Q ops_rgO a0 (fun (L : Nat → Bool) (W : World) => Ext w0 W) (F_rgO w0 A low k n m cl k1 p q x y al) 8 := by
  have ST : StaysF (F_rgO w0 A low k n m cl k1 p q x y al) ops_rgO.size := by rw [rgO_size]; exact rgO_stays w0 A low k n m cl k1 p q x y al
  obtain ⟨hp0, hk1, hq0, hx, hy⟩ := hp.out
  have hpb : p ≤ 8 * 40 := by rw [hp0]; exact Nat.mul_le_mul (by omega) hm4
  have hqb : q ≤ 8 * 40 := by rw [hq0]; exact Nat.mul_le_mul (by omega) hm4
  have hx0 : x ≤ y := by rw [hx, hy, hp0, hq0]; exact Nat.div_le_div_right (Nat.mul_le_mul_right _ (by omega))
  have hx1 : y ≤ m := by
    have h1 : q ≤ n * m := by rw [hq0]; exact Nat.mul_le_mul_right _ (by omega)
    have h2 := Nat.div_le_div_right (c := n) h1
    rw [Nat.mul_comm n, Nat.mul_div_cancel _ (by omega)] at h2
    rw [hy]
    exact h2
  have ekm : Hid (IntKind.i64.wrap ((k : Int) * (m : Int)) = (p : Int)) := Lib.hid (by rw [← Int.natCast_mul, ← hp0]; exact IntWalk.i64_in _ ⟨by omega, by omega⟩)
  have ekm1 : Hid (IntKind.i64.wrap ((k1 : Int) * (m : Int)) = (q : Int)) := Lib.hid (by rw [← Int.natCast_mul, ← hq0]; exact IntWalk.i64_in _ ⟨by omega, by omega⟩)
  have hqx : Hid (IntKind.i64.wrap (Int.tdiv (p : Int) (n : Int)) = (x : Int)) := Lib.hid (by rw [Int.tdiv_eq_ediv_of_nonneg (by omega), show (p : Int) / (n : Int) = ((p / n : Nat) : Int) from rfl, ← hx]; exact IntWalk.i64_in _ ⟨by omega, by omega⟩)
  have hqy : Hid (IntKind.i64.wrap (Int.tdiv (q : Int) (n : Int)) = (y : Int)) := Lib.hid (by rw [Int.tdiv_eq_ediv_of_nonneg (by omega), show (q : Int) / (n : Int) = ((q / n : Nat) : Int) from rfl, ← hy]; exact IntWalk.i64_in _ ⟨by omega, by omega⟩)
  have hk1' : Hid (IntKind.i64.wrap ((k : Int) + 1) = (k1 : Int)) := Lib.hid (by rw [hk1]; exact (IntWalk.i64_in _ ⟨by omega, by omega⟩).trans (by omega))
  have n0 : ¬ n = 0 := by omega
  have x0 : (0 : Int) ≤ x := by omega
  have y0 : (0 : Int) ≤ y := by omega
  have xy : (x : Int) ≤ y := by omega
  have yc : (y : Int) ≤ cl := by omega
  clear hp0 hk1 hq0 hx hy
  refine step_free fun o ho => ?_
  have ho' := ho
  cases ho'
  refine ⟨rfl, fun L a W hL hd hJ K hK => ?_⟩
  have f60 : a.tmps[60]?.getD undef = _ := hJ.dep ho hd (k := 7) (t := 60) (by kernel_rfl) (by kernel_rfl)
  conv => arg 2; whnf
  go_simp
  exact hK _ _ hJ.inv (hJ.frame ST hL (Ext.refl _)) (congrArg (Value.int .i64) hk1'.out)
set_option maxRecDepth 100000 in
set_option maxHeartbeats 4000000 in
theorem rgO_op9 (a0 : Act) (Q : Exit → Act → World → Prop) (w0 : World) (A : Nat → Prop) (low : List Tm) (k n m cl k1 p q x y : Nat) (al : Option Addr) (v1 : V a0 1 = .slice al m cl) (v11 : V a0 11 = .int .i64 k) (v5 : V a0 5 = .int .i64 n) (hr : Hid (Rs tmE A w0 low (.slice al m cl) ∧ m = low.length)) (hmc : m ≤ cl) (hm4 : m ≤ 40) (hn : 1 ≤ n ∧ n ≤ 8) (hk : k < n) (hp : Hid (p = k * m ∧ k1 = k + 1 ∧ q = k1 * m ∧ x = p / n ∧ y = q / n)) : StepF Try.prog Q ops_rgO a0 (fun (L : Nat → Bool) (W : World) => Ext w0 W) (F_rgO w0 A low k n m cl k1 p q x y al) 9 := by
  have ST : StaysF (F_rgO w0 A low k n m cl k1 p q x y al) ops_rgO.size := by rw [rgO_size]; exact rgO_stays w0 A low k n m cl k1 p q x y al
  obtain ⟨hp0, hk1, hq0, hx, hy⟩ := hp.out
  have hpb : p ≤ 8 * 40 := by rw [hp0]; exact Nat.mul_le_mul (by omega) hm4
  have hqb : q ≤ 8 * 40 := by rw [hq0]; exact Nat.mul_le_mul (by omega) hm4
  have hx0 : x ≤ y := by rw [hx, hy, hp0, hq0]; exact Nat.div_le_div_right (Nat.mul_le_mul_right _ (by omega))
  have hx1 : y ≤ m := by
    have h1 : q ≤ n * m := by rw [hq0]; exact Nat.mul_le_mul_right _ (by omega)
    have h2 := Nat.div_le_div_right (c := n) h1
    rw [Nat.mul_comm n, Nat.mul_div_cancel _ (by omega)] at h2
    rw [hy]
    exact h2
  have ekm : Hid (IntKind.i64.wrap ((k : Int) * (m : Int)) = (p : Int)) := Lib.hid (by rw [← Int.natCast_mul, ← hp0]; exact IntWalk.i64_in _ ⟨by omega, by omega⟩)
  have ekm1 : Hid (IntKind.i64.wrap ((k1 : Int) * (m : Int)) = (q : Int)) := Lib.hid (by rw [← Int.natCast_mul, ← hq0]; exact IntWalk.i64_in _ ⟨by omega, by omega⟩)
  have hqx : Hid (IntKind.i64.wrap (Int.tdiv (p : Int) (n : Int)) = (x : Int)) := Lib.hid (by rw [Int.tdiv_eq_ediv_of_nonneg (by omega), show (p : Int) / (n : Int) = ((p / n : Nat) : Int) from rfl, ← hx]; exact IntWalk.i64_in _ ⟨by omega, by omega⟩)
  have hqy : Hid (IntKind.i64.wrap (Int.tdiv (q : Int) (n : Int)) = (y : Int)) := Lib.hid (by rw [Int.tdiv_eq_ediv_of_nonneg (by omega), show (q : Int) / (n : Int) = ((q / n : Nat) : Int) from rfl, ← hy]; exact IntWalk.i64_in _ ⟨by omega, by omega⟩)
  have hk1' : Hid (IntKind.i64.wrap ((k : Int) + 1) = (k1 : Int)) := Lib.hid (by rw [hk1]; exact (IntWalk.i64_in _ ⟨by omega, by omega⟩).trans (by omega))
  have n0 : ¬ n = 0 := by omega
  have x0 : (0 : Int) ≤ x := by omega
  have y0 : (0 : Int) ≤ y := by omega
  have xy : (x : Int) ≤ y := by omega
  have yc : (y : Int) ≤ cl := by omega
  clear hp0 hk1 hq0 hx hy
  refine step_free fun o ho => ?_
  have ho' := ho
  cases ho'
  refine ⟨rfl, fun L a W hL hd hJ K hK => ?_⟩
  have f1 := hJ.old (t := 1) hL (by kernel_rfl) v1
  conv => arg 2; whnf
  go_simp
  exact hK _ _ hJ.inv (hJ.frame ST hL (Ext.refl _)) rfl
set_option maxRecDepth 100000 in
set_option maxHeartbeats 4000000 in
theorem rgO_op10 (a0 : Act) (Q : Exit → Act → World → Prop) (w0 : World) (A : Nat → Prop) (low : List Tm) (k n m cl k1 p q x y : Nat) (al : Option Addr) (v1 : V a0 1 = .slice al m cl) (v11 : V a0 11 = .int .i64 k) (v5 : V a0 5 = .int .i64 n) (hr : Hid (Rs tmE A w0 low (.slice al m cl) ∧ m = low.length)) (hmc : m ≤ cl) (hm4 : m ≤ 40) (hn : 1 ≤ n ∧ n ≤ 8) (hk : k < n) (hp : Hid (p = k * m ∧ k1 = k + 1 ∧ q = k1 * m ∧ x = p / n ∧ y = q / n)) : StepF Try.prog Q ops_rgO a0 (fun (L : Nat → Bool) (W : World) => Ext w0 W) (F_rgO w0 A low k n m cl k1 p q x y al) 10 := by
  have ST : StaysF (F_rgO w0 A low k n m cl k1 p q x y al) ops_rgO.size := by rw [rgO_size]; exact rgO_stays w0 A low k n m cl k1 p q x y al
  obtain ⟨hp0, hk1, hq0, hx, hy⟩ := hp.out
  have hpb : p ≤ 8 * 40 := by rw [hp0]; exact Nat.mul_le_mul (by omega) hm4
  have hqb : q ≤ 8 * 40 := by rw [hq0]; exact Nat.mul_le_mul (by omega) hm4
  have hx0 : x ≤ y := by rw [hx, hy, hp0, hq0]; exact Nat.div_le_div_right (Nat.mul_le_mul_right _ (by omega))
  have hx1 : y ≤ m := by
    have h1 : q ≤ n * m := by rw [hq0]; exact Nat.mul_le_mul_right _ (by omega)
    have h2 := Nat.div_le_div_right (c := n) h1
    rw [Nat.mul_comm n, Nat.mul_div_cancel _ (by omega)] at h2
    rw [hy]
    exact h2
  have ekm : Hid (IntKind.i64.wrap ((k : Int) * (m : Int)) = (p : Int)) := Lib.hid (by rw [← Int.natCast_mul, ← hp0]; exact IntWalk.i64_in _ ⟨by omega, by omega⟩)
  have ekm1 : Hid (IntKind.i64.wrap ((k1 : Int) * (m : Int)) = (q : Int)) := Lib.hid (by rw [← Int.natCast_mul, ← hq0]; exact IntWalk.i64_in _ ⟨by omega, by omega⟩)
  have hqx : Hid (IntKind.i64.wrap (Int.tdiv (p : Int) (n : Int)) = (x : Int)) := Lib.hid (by rw [Int.tdiv_eq_ediv_of_nonneg (by omega), show (p : Int) / (n : Int) = ((p / n : Nat) : Int) from rfl, ← hx]; exact IntWalk.i64_in _ ⟨by omega, by omega⟩)
  have hqy : Hid (IntKind.i64.wrap (Int.tdiv (q : Int) (n : Int)) = (y : Int)) := Lib.hid (by rw [Int.tdiv_eq_ediv_of_nonneg (by omega), show (q : Int) / (n : Int) = ((q / n : Nat) : Int) from rfl, ← hy]; exact IntWalk.i64_in _ ⟨by omega, by omega⟩)
  have hk1' : Hid (IntKind.i64.wrap ((k : Int) + 1) = (k1 : Int)) := Lib.hid (by rw [hk1]; exact (IntWalk.i64_in _ ⟨by omega, by omega⟩).trans (by omega))
  have n0 : ¬ n = 0 := by omega
  have x0 : (0 : Int) ≤ x := by omega
  have y0 : (0 : Int) ≤ y := by omega
  have xy : (x : Int) ≤ y := by omega
  have yc : (y : Int) ≤ cl := by omega
  clear hp0 hk1 hq0 hx hy
  refine step_free fun o ho => ?_
  have ho' := ho
  cases ho'
  refine ⟨rfl, fun L a W hL hd hJ K hK => ?_⟩
  have f62 : a.tmps[62]?.getD undef = _ := hJ.dep ho hd (k := 9) (t := 62) (by kernel_rfl) (by kernel_rfl)
  conv => arg 2; whnf
  go_simp
  exact hK _ _ hJ.inv (hJ.frame ST hL (Ext.refl _)) rfl
set_option maxRecDepth 100000 in
set_option maxHeartbeats 4000000 in
theorem rgO_op11 (a0 : Act) (Q : Exit → Act → World → Prop) (w0 : World) (A : Nat → Prop) (low : List Tm) (k n m cl k1 p q x y : Nat) (al : Option Addr) (v1 : V a0 1 = .slice al m cl) (v11 : V a0 11 = .int .i64 k) (v5 : V a0 5 = .int .i64 n) (hr : Hid (Rs tmE A w0 low (.slice al m cl) ∧ m = low.length)) (hmc : m ≤ cl) (hm4 : m ≤ 40) (hn : 1 ≤ n ∧ n ≤ 8) (hk : k < n) (hp : Hid (p = k * m ∧ k1 = k + 1 ∧ q = k1 * m ∧ x = p / n ∧ y = q / n)) : StepF Try.prog Q ops_rgO a0 (fun (L : Nat → Bool) (W : World) => Ext w0 W) (F_rgO w0 A low k n m cl k1 p q x y al) 11 := by
  have ST : StaysF (F_rgO w0 A low k n m cl k1 p q x y al) ops_rgO.size := by rw [rgO_size]; exact rgO_stays w0 A low k n m cl k1 p q x y al
  obtain ⟨hp0, hk1, hq0, hx, hy⟩ := hp.out
  have hpb : p ≤ 8 * 40 := by rw [hp0]; exact Nat.mul_le_mul (by omega) hm4
  have hqb : q ≤ 8 * 40 := by rw [hq0]; exact Nat.mul_le_mul (by omega) hm4
  have hx0 : x ≤ y := by rw [hx, hy, hp0, hq0]; exact Nat.div_le_div_right (Nat.mul_le_mul_right _ (by omega))
  have hx1 : y ≤ m := by
    have h1 : q ≤ n * m := by rw [hq0]; exact Nat.mul_le_mul_right _ (by omega)
    have h2 := Nat.div_le_div_right (c := n) h1
    rw [Nat.mul_comm n, Nat.mul_div_cancel _ (by omega)] at h2
    rw [hy]
    exact h2
  have ekm : Hid (IntKind.i64.wrap ((k : Int) * (m : Int)) = (p : Int)) := Lib.hid (by rw [← Int.natCast_mul, ← hp0]; exact IntWalk.i64_in _ ⟨by omega, by omega⟩)
  have ekm1 : Hid (IntKind.i64.wrap ((k1 : Int) * (m : Int)) = (q : Int)) := Lib.hid (by rw [← Int.natCast_mul, ← hq0]; exact IntWalk.i64_in _ ⟨by omega, by omega⟩)
  have hqx : Hid (IntKind.i64.wrap (Int.tdiv (p : Int) (n : Int)) = (x : Int)) := Lib.hid (by rw [Int.tdiv_eq_ediv_of_nonneg (by omega), show (p : Int) / (n : Int) = ((p / n : Nat) : Int) from rfl, ← hx]; exact IntWalk.i64_in _ ⟨by omega, by omega⟩)
  have hqy : Hid (IntKind.i64.wrap (Int.tdiv (q : Int) (n : Int)) = (y : Int)) := Lib.hid (by rw [Int.tdiv_eq_ediv_of_nonneg (by omega), show (q : Int) / (n : Int) = ((q / n : Nat) : Int) from rfl, ← hy]; exact IntWalk.i64_in _ ⟨by omega, by omega⟩)
  have hk1' : Hid (IntKind.i64.wrap ((k : Int) + 1) = (k1 : Int)) := Lib.hid (by rw [hk1]; exact (IntWalk.i64_in _ ⟨by omega, by omega⟩).trans (by omega))
  have n0 : ¬ n = 0 := by omega
  have x0 : (0 : Int) ≤ x := by omega
  have y0 : (0 : Int) ≤ y := by omega
  have xy : (x : Int) ≤ y := by omega
  have yc : (y : Int) ≤ cl := by omega
  clear hp0 hk1 hq0 hx hy
  refine step_free fun o ho => ?_
  have ho' := ho
  cases ho'
  refine ⟨rfl, fun L a W hL hd hJ K hK => ?_⟩
  have f61 : a.tmps[61]?.getD undef = _ := hJ.dep ho hd (k := 8) (t := 61) (by kernel_rfl) (by kernel_rfl)
  have f63 : a.tmps[63]?.getD undef = _ := hJ.dep ho hd (k := 10) (t := 63) (by kernel_rfl) (by kernel_rfl)
  conv => arg 2; whnf
  go_simp
  exact hK _ _ hJ.inv (hJ.frame ST hL (Ext.refl _)) (congrArg (Value.int .i64) ekm1.out)
set_option maxRecDepth 100000 in
set_option maxHeartbeats 4000000 in
theorem rgO_op12 (a0 : Act) (Q : Exit → Act → World → Prop) (w0 : World) (A : Nat → Prop) (low : List Tm) (k n m cl k1 p q x y : Nat) (al : Option Addr) (v1 : V a0 1 = .slice al m cl) (v11 : V a0 11 = .int .i64 k) (v5 : V a0 5 = .int .i64 n) (hr : Hid (Rs tmE A w0 low (.slice al m cl) ∧ m = low.length)) (hmc : m ≤ cl) (hm4 : m ≤ 40) (hn : 1 ≤ n ∧ n ≤ 8) (hk : k < n) (hp : Hid (p = k * m ∧ k1 = k + 1 ∧ q = k1 * m ∧ x = p / n ∧ y = q / n)) : StepF Try.prog Q ops_rgO a0 (fun (L : Nat → Bool) (W : World) => Ext w0 W) (F_rgO w0 A low k n m cl k1 p q x y al) 12 := by
  have ST : StaysF (F_rgO w0 A low k n m cl k1 p q x y al) ops_rgO.size := by rw [rgO_size]; exact rgO_stays w0 A low k n m cl k1 p q x y al
  obtain ⟨hp0, hk1, hq0, hx, hy⟩ := hp.out
  have hpb : p ≤ 8 * 40 := by rw [hp0]; exact Nat.mul_le_mul (by omega) hm4
  have hqb : q ≤ 8 * 40 := by rw [hq0]; exact Nat.mul_le_mul (by omega) hm4
  have hx0 : x ≤ y := by rw [hx, hy, hp0, hq0]; exact Nat.div_le_div_right (Nat.mul_le_mul_right _ (by omega))
  have hx1 : y ≤ m := by
    have h1 : q ≤ n * m := by rw [hq0]; exact Nat.mul_le_mul_right _ (by omega)
    have h2 := Nat.div_le_div_right (c := n) h1
    rw [Nat.mul_comm n, Nat.mul_div_cancel _ (by omega)] at h2
    rw [hy]
    exact h2
  have ekm : Hid (IntKind.i64.wrap ((k : Int) * (m : Int)) = (p : Int)) := Lib.hid (by rw [← Int.natCast_mul, ← hp0]; exact IntWalk.i64_in _ ⟨by omega, by omega⟩)
  have ekm1 : Hid (IntKind.i64.wrap ((k1 : Int) * (m : Int)) = (q : Int)) := Lib.hid (by rw [← Int.natCast_mul, ← hq0]; exact IntWalk.i64_in _ ⟨by omega, by omega⟩)
  have hqx : Hid (IntKind.i64.wrap (Int.tdiv (p : Int) (n : Int)) = (x : Int)) := Lib.hid (by rw [Int.tdiv_eq_ediv_of_nonneg (by omega), show (p : Int) / (n : Int) = ((p / n : Nat) : Int) from rfl, ← hx]; exact IntWalk.i64_in _ ⟨by omega, by omega⟩)
  have hqy : Hid (IntKind.i64.wrap (Int.tdiv (q : Int) (n : Int)) = (y : Int)) := Lib.hid (by rw [Int.tdiv_eq_ediv_of_nonneg (by omega), show (q : Int) / (n : Int) = ((q / n : Nat) : Int) from rfl, ← hy]; exact IntWalk.i64_in _ ⟨by omega, by omega⟩)
  have hk1' : Hid (IntKind.i64.wrap ((k : Int) + 1) = (k1 : Int)) := Lib.hid (by rw [hk1]; exact (IntWalk.i64_in _ ⟨by omega, by omega⟩).trans (by omega))
  have n0 : ¬ n = 0 := by omega
  have x0 : (0 : Int) ≤ x := by omega
  have y0 : (0 : Int) ≤ y := by omega
  have xy : (x : Int) ≤ y := by omega
  have yc : (y : Int) ≤ cl := by omega
  clear hp0 hk1 hq0 hx hy
  refine step_free fun o ho => ?_
  have ho' := ho
  cases ho'
  refine ⟨rfl, fun L a W hL hd hJ K hK => ?_⟩
  have f5 := hJ.old (t := 5) hL (by kernel_rfl) v5
  conv => arg 2; whnf
  go_simp
  exact hK _ _ hJ.inv (hJ.frame ST hL (Ext.refl _)) rfl
set_option maxRecDepth 100000 in
set_option maxHeartbeats 4000000 in
theorem rgO_op13 (a0 : Act) (Q : Exit → Act → World → Prop) (w0 : World) (A : Nat → Prop) (low : List Tm) (k n m cl k1 p q x y : Nat) (al : Option Addr) (v1 : V a0 1 = .slice al m cl) (v11 : V a0 11 = .int .i64 k) (v5 : V a0 5 = .int .i64 n) (hr : Hid (Rs tmE A w0 low (.slice al m cl) ∧ m = low.length)) (hmc : m ≤ cl) (hm4 : m ≤ 40) (hn : 1 ≤ n ∧ n ≤ 8) (hk : k < n) (hp : Hid (p = k * m ∧ k1 = k + 1 ∧ q = k1 * m ∧ x = p / n ∧ y = q / n)) : StepF Try.prog Q ops_rgO a0 (fun (L : Nat → Bool) (W : World) => Ext w0 W) (F_rgO w0 A low k n m cl k1 p q x y al) 13 := by
  have ST : StaysF (F_rgO w0 A low k n m cl k1 p q x y al) ops_rgO.size := by rw [rgO_size]; exact rgO_stays w0 A low k n m cl k1 p q x y al
  obtain ⟨hp0, hk1, hq0, hx, hy⟩ := hp.out
  have hpb : p ≤ 8 * 40 := by rw [hp0]; exact Nat.mul_le_mul (by omega) hm4
  have hqb : q ≤ 8 * 40 := by rw [hq0]; exact Nat.mul_le_mul (by omega) hm4
  have hx0 : x ≤ y := by rw [hx, hy, hp0, hq0]; exact Nat.div_le_div_right (Nat.mul_le_mul_right _ (by omega))
  have hx1 : y ≤ m := by
    have h1 : q ≤ n * m := by rw [hq0]; exact Nat.mul_le_mul_right _ (by omega)
    have h2 := Nat.div_le_div_right (c := n) h1
    rw [Nat.mul_comm n, Nat.mul_div_cancel _ (by omega)] at h2
    rw [hy]
    exact h2
  have ekm : Hid (IntKind.i64.wrap ((k : Int) * (m : Int)) = (p : Int)) := Lib.hid (by rw [← Int.natCast_mul, ← hp0]; exact IntWalk.i64_in _ ⟨by omega, by omega⟩)
  have ekm1 : Hid (IntKind.i64.wrap ((k1 : Int) * (m : Int)) = (q : Int)) := Lib.hid (by rw [← Int.natCast_mul, ← hq0]; exact IntWalk.i64_in _ ⟨by omega, by omega⟩)
  have hqx : Hid (IntKind.i64.wrap (Int.tdiv (p : Int) (n : Int)) = (x : Int)) := Lib.hid (by rw [Int.tdiv_eq_ediv_of_nonneg (by omega), show (p : Int) / (n : Int) = ((p / n : Nat) : Int) from rfl, ← hx]; exact IntWalk.i64_in _ ⟨by omega, by omega⟩)
  have hqy : Hid (IntKind.i64.wrap (Int.tdiv (q : Int) (n : Int)) = (y : Int)) := Lib.hid (by rw [Int.tdiv_eq_ediv_of_nonneg (by omega), show (q : Int) / (n : Int) = ((q / n : Nat) : Int) from rfl, ← hy]; exact IntWalk.i64_in _ ⟨by omega, by omega⟩)
  have hk1' : Hid (IntKind.i64.wrap ((k : Int) + 1) = (k1 : Int)) := Lib.hid (by rw [hk1]; exact (IntWalk.i64_in _ ⟨by omega, by omega⟩).trans (by omega))
  have n0 : ¬ n = 0 := by omega
  have x0 : (0 : Int) ≤ x := by omega
  have y0 : (0 : Int) ≤ y := by omega
  have xy : (x : Int) ≤ y := by omega
  have yc : (y : Int) ≤ cl := by omega
  clear hp0 hk1 hq0 hx hy
  refine step_free fun o ho => ?_
  have ho' := ho
  cases ho'
  refine ⟨rfl, fun L a W hL hd hJ K hK => ?_⟩
  have f64 : a.tmps[64]?.getD undef = _ := hJ.dep ho hd (k := 11) (t := 64) (by kernel_rfl) (by kernel_rfl)
  have f65 : a.tmps[65]?.getD undef = _ := hJ.dep ho hd (k := 12) (t := 65) (by kernel_rfl) (by kernel_rfl)
  conv => arg 2; whnf
  go_simp
  exact hK _ _ hJ.inv (hJ.frame ST hL (Ext.refl _)) (congrArg (Value.int .i64) hqy.out)
set_option maxRecDepth 100000 in
set_option maxHeartbeats 4000000 in
theorem rgO_op14 (a0 : Act) (Q : Exit → Act → World → Prop) (w0 : World) (A : Nat → Prop) (low : List Tm) (k n m cl k1 p q x y : Nat) (al : Option Addr) (v1 : V a0 1 = .slice al m cl) (v11 : V a0 11 = .int .i64 k) (v5 : V a0 5 = .int .i64 n) (hr : Hid (Rs tmE A w0 low (.slice al m cl) ∧ m = low.length)) (hmc : m ≤ cl) (hm4 : m ≤ 40) (hn : 1 ≤ n ∧ n ≤ 8) (hk : k < n) (hp : Hid (p = k * m ∧ k1 = k + 1 ∧ q = k1 * m ∧ x = p / n ∧ y = q / n)) : StepF Try.prog Q ops_rgO a0 (fun (L : Nat → Bool) (W : World) => Ext w0 W) (F_rgO w0 A low k n m cl k1 p q x y al) 14 := by
  have ST : StaysF (F_rgO w0 A low k n m cl k1 p q x y al) ops_rgO.size := by rw [rgO_size]; exact rgO_stays w0 A low k n m cl k1 p q x y al
  obtain ⟨hp0, hk1, hq0, hx, hy⟩ := hp.out
  have hpb : p ≤ 8 * 40 := by rw [hp0]; exact Nat.mul_le_mul (by omega) hm4
  have hqb : q ≤ 8 * 40 := by rw [hq0]; exact Nat.mul_le_mul (by omega) hm4
  have hx0 : x ≤ y := by rw [hx, hy, hp0, hq0]; exact Nat.div_le_div_right (Nat.mul_le_mul_right _ (by omega))
  have hx1 : y ≤ m := by
    have h1 : q ≤ n * m := by rw [hq0]; exact Nat.mul_le_mul_right _ (by omega)
    have h2 := Nat.div_le_div_right (c := n) h1
    rw [Nat.mul_comm n, Nat.mul_div_cancel _ (by omega)] at h2
    rw [hy]
    exact h2
  have ekm : Hid (IntKind.i64.wrap ((k : Int) * (m : Int)) = (p : Int)) := Lib.hid (by rw [← Int.natCast_mul, ← hp0]; exact IntWalk.i64_in _ ⟨by omega, by omega⟩)
  have ekm1 : Hid (IntKind.i64.wrap ((k1 : Int) * (m : Int)) = (q : Int)) := Lib.hid (by rw [← Int.natCast_mul, ← hq0]; exact IntWalk.i64_in _ ⟨by omega, by omega⟩)
  have hqx : Hid (IntKind.i64.wrap (Int.tdiv (p : Int) (n : Int)) = (x : Int)) := Lib.hid (by rw [Int.tdiv_eq_ediv_of_nonneg (by omega), show (p : Int) / (n : Int) = ((p / n : Nat) : Int) from rfl, ← hx]; exact IntWalk.i64_in _ ⟨by omega, by omega⟩)
  have hqy : Hid (IntKind.i64.wrap (Int.tdiv (q : Int) (n : Int)) = (y : Int)) := Lib.hid (by rw [Int.tdiv_eq_ediv_of_nonneg (by omega), show (q : Int) / (n : Int) = ((q / n : Nat) : Int) from rfl, ← hy]; exact IntWalk.i64_in _ ⟨by omega, by omega⟩)
  have hk1' : Hid (IntKind.i64.wrap ((k : Int) + 1) = (k1 : Int)) := Lib.hid (by rw [hk1]; exact (IntWalk.i64_in _ ⟨by omega, by omega⟩).trans (by omega))
  have n0 : ¬ n = 0 := by omega
  have x0 : (0 : Int) ≤ x := by omega
  have y0 : (0 : Int) ≤ y := by omega
  have xy : (x : Int) ≤ y := by omega
  have yc : (y : Int) ≤ cl := by omega
  clear hp0 hk1 hq0 hx hy
  refine step_free fun o ho => ?_
  have ho' := ho
  cases ho'
  refine ⟨rfl, fun L a W hL hd hJ K hK => ?_⟩
  have f53 : a.tmps[53]?.getD undef = _ := hJ.dep ho hd (k := 0) (t := 53) (by kernel_rfl) (by kernel_rfl)
  have f59 : a.tmps[59]?.getD undef = _ := hJ.dep ho hd (k := 6) (t := 59) (by kernel_rfl) (by kernel_rfl)
  have f66 : a.tmps[66]?.getD undef = _ := hJ.dep ho hd (k := 13) (t := 66) (by kernel_rfl) (by kernel_rfl)
  conv => arg 2; whnf
  go_simp
  refine hK _ _ hJ.inv (hJ.frame ST hL (Ext.refl _)) ⟨_, _, rfl, ?_⟩
  obtain ⟨h, e⟩ := hr.out
  by_cases hne : low = []
  · subst hne
    have hy0 : y = 0 := by rw [List.length_nil] at e; omega
    have hx00 : x = 0 := by omega
    subst hy0
    subst hx00
    exact Rs.nil _ _ _ _
  · have h' := h
    obtain ⟨a', c', he, hh⟩ := h'
    obtain ⟨rfl, -, rfl⟩ := Value.slice.inj he
    obtain ⟨b, off, rfl, -, -⟩ := hh hne
    rw [e] at h
    have h1 := h.take (m := y) (by omega)
    have hl : (low.take y).length = y := by rw [List.length_take]; omega
    have h2 : Rs tmE A w0 (low.take y) (.slice (some ⟨b, off, none⟩) (low.take y).length cl) := by rw [hl]; exact h1
    have h3 := h2.drop (m := x) (c' := cl - x) (ao := if cl = x then (some ⟨b, off, none⟩ : Option Addr) else Option.map (fun x_1 : Addr => x_1.add (x * 5)) (some ⟨b, off, none⟩ : Option Addr)) (by omega) (fun hlt => by rw [if_neg (by omega)]; simp only [Option.map_some, addr_add]; rfl)
    rw [hl] at h3
    exact h3
set_option maxRecDepth 100000 in
set_option maxHeartbeats 4000000 in
theorem rgO_op15 (a0 : Act) (Q : Exit → Act → World → Prop) (w0 : World) (A : Nat → Prop) (low : List Tm) (k n m cl k1 p q x y : Nat) (al : Option Addr) (v1 : V a0 1 = .slice al m cl) (v11 : V a0 11 = .int .i64 k) (v5 : V a0 5 = .int .i64 n) (hr : Hid (Rs tmE A w0 low (.slice al m cl) ∧ m = low.length)) (hmc : m ≤ cl) (hm4 : m ≤ 40) (hn : 1 ≤ n ∧ n ≤ 8) (hk : k < n) (hp : Hid (p = k * m ∧ k1 = k + 1 ∧ q = k1 * m ∧ x = p / n ∧ y = q / n)) : StepF Try.prog Q ops_rgO a0 (fun (L : Nat → Bool) (W : World) => Ext w0 W) (F_rgO w0 A low k n m cl k1 p q x y al) 15 := by
  have ST : StaysF (F_rgO w0 A low k n m cl k1 p q x y al) ops_rgO.size := by rw [rgO_size]; exact rgO_stays w0 A low k n m cl k1 p q x y al
  obtain ⟨hp0, hk1, hq0, hx, hy⟩ := hp.out
  have hpb : p ≤ 8 * 40 := by rw [hp0]; exact Nat.mul_le_mul (by omega) hm4
  have hqb : q ≤ 8 * 40 := by rw [hq0]; exact Nat.mul_le_mul (by omega) hm4
  have hx0 : x ≤ y := by rw [hx, hy, hp0, hq0]; exact Nat.div_le_div_right (Nat.mul_le_mul_right _ (by omega))
  have hx1 : y ≤ m := by
    have h1 : q ≤ n * m := by rw [hq0]; exact Nat.mul_le_mul_right _ (by omega)
    have h2 := Nat.div_le_div_right (c := n) h1
    rw [Nat.mul_comm n, Nat.mul_div_cancel _ (by omega)] at h2
    rw [hy]
    exact h2
  have ekm : Hid (IntKind.i64.wrap ((k : Int) * (m : Int)) = (p : Int)) := Lib.hid (by rw [← Int.natCast_mul, ← hp0]; exact IntWalk.i64_in _ ⟨by omega, by omega⟩)
  have ekm1 : Hid (IntKind.i64.wrap ((k1 : Int) * (m : Int)) = (q : Int)) := Lib.hid (by rw [← Int.natCast_mul, ← hq0]; exact IntWalk.i64_in _ ⟨by omega, by omega⟩)
  have hqx : Hid (IntKind.i64.wrap (Int.tdiv (p : Int) (n : Int)) = (x : Int)) := Lib.hid (by rw [Int.tdiv_eq_ediv_of_nonneg (by omega), show (p : Int) / (n : Int) = ((p / n : Nat) : Int) from rfl, ← hx]; exact IntWalk.i64_in _ ⟨by omega, by omega⟩)
  have hqy : Hid (IntKind.i64.wrap (Int.tdiv (q : Int) (n : Int)) = (y : Int)) := Lib.hid (by rw [Int.tdiv_eq_ediv_of_nonneg (by omega), show (q : Int) / (n : Int) = ((q / n : Nat) : Int) from rfl, ← hy]; exact IntWalk.i64_in _ ⟨by omega, by omega⟩)
  have hk1' : Hid (IntKind.i64.wrap ((k : Int) + 1) = (k1 : Int)) := Lib.hid (by rw [hk1]; exact (IntWalk.i64_in _ ⟨by omega, by omega⟩).trans (by omega))
  have n0 : ¬ n = 0 := by omega
  have x0 : (0 : Int) ≤ x := by omega
  have y0 : (0 : Int) ≤ y := by omega
  have xy : (x : Int) ≤ y := by omega
  have yc : (y : Int) ≤ cl := by omega
  clear hp0 hk1 hq0 hx hy
  refine step_free fun o ho => ?_
  have ho' := ho
  cases ho'
  refine ⟨rfl, fun L a W hL hd hJ K hK => ?_⟩
  have f67 := hJ.dep ho hd (k := 14) (t := 67) (by kernel_rfl) (by kernel_rfl)
  conv => arg 2; whnf
  go_simp
  exact hK _ _ hJ.inv (hJ.frame ST hL (Ext.refl _)) f67
set_option maxRecDepth 100000 in
set_option maxHeartbeats 8000000 in
theorem rgO (a0 : Act) (Q : Exit → Act → World → Prop) (w0 : World) (A : Nat → Prop) (low : List Tm) (k n m cl k1 p q x y : Nat) (al : Option Addr) (v1 : V a0 1 = .slice al m cl) (v11 : V a0 11 = .int .i64 k) (v5 : V a0 5 = .int .i64 n) (hr : Hid (Rs tmE A w0 low (.slice al m cl) ∧ m = low.length)) (hmc : m ≤ cl) (hm4 : m ≤ 40) (hn : 1 ≤ n ∧ n ≤ 8) (hk : k < n) (hp : Hid (p = k * m ∧ k1 = k + 1 ∧ q = k1 * m ∧ x = p / n ∧ y = q / n)) (hsz : a0.tmps.size = 119)
    (hQ : ∀ a W, Near ts_rgO a0 a → Ext w0 W → (∃ ao co, V a 12 = .slice ao (y - x) co ∧ Rs tmE A w0 ((low.take y).drop x) (V a 12)) → Q .normal a W) : (Code.region 18 ops_rgO true).wp Try.prog Q a0 w0 := by
  have ST : StaysF (F_rgO w0 A low k n m cl k1 p q x y al) ops_rgO.size := by rw [rgO_size]; exact rgO_stays w0 A low k n m cl k1 p q x y al
  obtain ⟨hp0, hk1, hq0, hx, hy⟩ := hp.out
  have hpb : p ≤ 8 * 40 := by rw [hp0]; exact Nat.mul_le_mul (by omega) hm4
  have hqb : q ≤ 8 * 40 := by rw [hq0]; exact Nat.mul_le_mul (by omega) hm4
  have hx0 : x ≤ y := by rw [hx, hy, hp0, hq0]; exact Nat.div_le_div_right (Nat.mul_le_mul_right _ (by omega))
  have hx1 : y ≤ m := by
    have h1 : q ≤ n * m := by rw [hq0]; exact Nat.mul_le_mul_right _ (by omega)
    have h2 := Nat.div_le_div_right (c := n) h1
    rw [Nat.mul_comm n, Nat.mul_div_cancel _ (by omega)] at h2
    rw [hy]
    exact h2
  have ekm : Hid (IntKind.i64.wrap ((k : Int) * (m : Int)) = (p : Int)) := Lib.hid (by rw [← Int.natCast_mul, ← hp0]; exact IntWalk.i64_in _ ⟨by omega, by omega⟩)
  have ekm1 : Hid (IntKind.i64.wrap ((k1 : Int) * (m : Int)) = (q : Int)) := Lib.hid (by rw [← Int.natCast_mul, ← hq0]; exact IntWalk.i64_in _ ⟨by omega, by omega⟩)
  have hqx : Hid (IntKind.i64.wrap (Int.tdiv (p : Int) (n : Int)) = (x : Int)) := Lib.hid (by rw [Int.tdiv_eq_ediv_of_nonneg (by omega), show (p : Int) / (n : Int) = ((p / n : Nat) : Int) from rfl, ← hx]; exact IntWalk.i64_in _ ⟨by omega, by omega⟩)
  have hqy : Hid (IntKind.i64.wrap (Int.tdiv (q : Int) (n : Int)) = (y : Int)) := Lib.hid (by rw [Int.tdiv_eq_ediv_of_nonneg (by omega), show (q : Int) / (n : Int) = ((q / n : Nat) : Int) from rfl, ← hy]; exact IntWalk.i64_in _ ⟨by omega, by omega⟩)
  have hk1' : Hid (IntKind.i64.wrap ((k : Int) + 1) = (k1 : Int)) := Lib.hid (by rw [hk1]; exact (IntWalk.i64_in _ ⟨by omega, by omega⟩).trans (by omega))
  have n0 : ¬ n = 0 := by omega
  have x0 : (0 : Int) ≤ x := by omega
  have y0 : (0 : Int) ≤ y := by omega
  have xy : (x : Int) ≤ y := by omega
  have yc : (y : Int) ≤ cl := by omega
  clear hp0 hk1 hq0 hx hy
  refine wp_region_facts (fun (L : Nat → Bool) (W : World) => Ext w0 W) (F_rgO w0 A low k n m cl k1 p q x y al) 16 (by kernel_rfl) rgO_ac rgO_once rgO_size (by rw [hsz]; exact rgO_fits) ((Ext.refl _).drew) ?_ ?_ ?_
  · intro iq hd hiq
    have hall : (List.range 16).all (fun i => (dstOf ops_rgO i).isSome || [].contains i) = true := by kernel_rfl
    rw [List.all_eq_true] at hall
    have h2 := hall iq (List.mem_range.2 hiq)
    rw [hd] at h2
    simp at h2
  · intro iq hiq
    match iq, hiq with
    | 0, _ => exact rgO_op0 a0 Q w0 A low k n m cl k1 p q x y al v1 v11 v5 hr hmc hm4 hn hk hp
    | 1, _ => exact rgO_op1 a0 Q w0 A low k n m cl k1 p q x y al v1 v11 v5 hr hmc hm4 hn hk hp
    | 2, _ => exact rgO_op2 a0 Q w0 A low k n m cl k1 p q x y al v1 v11 v5 hr hmc hm4 hn hk hp
    | 3, _ => exact rgO_op3 a0 Q w0 A low k n m cl k1 p q x y al v1 v11 v5 hr hmc hm4 hn hk hp
    | 4, _ => exact rgO_op4 a0 Q w0 A low k n m cl k1 p q x y al v1 v11 v5 hr hmc hm4 hn hk hp
    | 5, _ => exact rgO_op5 a0 Q w0 A low k n m cl k1 p q x y al v1 v11 v5 hr hmc hm4 hn hk hp
    | 6, _ => exact rgO_op6 a0 Q w0 A low k n m cl k1 p q x y al v1 v11 v5 hr hmc hm4 hn hk hp
    | 7, _ => exact rgO_op7 a0 Q w0 A low k n m cl k1 p q x y al v1 v11 v5 hr hmc hm4 hn hk hp
    | 8, _ => exact rgO_op8 a0 Q w0 A low k n m cl k1 p q x y al v1 v11 v5 hr hmc hm4 hn hk hp
    | 9, _ => exact rgO_op9 a0 Q w0 A low k n m cl k1 p q x y al v1 v11 v5 hr hmc hm4 hn hk hp
    | 10, _ => exact rgO_op10 a0 Q w0 A low k n m cl k1 p q x y al v1 v11 v5 hr hmc hm4 hn hk hp
    | 11, _ => exact rgO_op11 a0 Q w0 A low k n m cl k1 p q x y al v1 v11 v5 hr hmc hm4 hn hk hp
    | 12, _ => exact rgO_op12 a0 Q w0 A low k n m cl k1 p q x y al v1 v11 v5 hr hmc hm4 hn hk hp
    | 13, _ => exact rgO_op13 a0 Q w0 A low k n m cl k1 p q x y al v1 v11 v5 hr hmc hm4 hn hk hp
    | 14, _ => exact rgO_op14 a0 Q w0 A low k n m cl k1 p q x y al v1 v11 v5 hr hmc hm4 hn hk hp
    | 15, _ => exact rgO_op15 a0 Q w0 A low k n m cl k1 p q x y al v1 v11 v5 hr hmc hm4 hn hk hp
    | q + 16, h => exact absurd h (by omega)
  · intro L a W hL hJ
    have all : ∀ k, k < 16 → L k = true := hL
    refine hQ a W (rgO_ts ▸ hJ.near) hJ.inv (hJ.get (k := 15) (t := 12) (by kernel_rfl) (all 15 (by omega)))
/-- A worker's cells in a row. -/
def UnAt (w : World) (g i : Nat) (v : Value) : Prop := w.cell? ⟨g, i * 10, none⟩ = some (.int .i64 0) ∧ w.cell? ⟨g, i * 10 + 1, none⟩ = some (.slice none 0 0) ∧ w.cell? ⟨g, i * 10 + 2, none⟩ = some (.int .i64 0) ∧ w.cell? ⟨g, i * 10 + 3, none⟩ = some (.int .i64 0) ∧ w.cell? ⟨g, i * 10 + 4, none⟩ = some (.int .i64 0) ∧ w.cell? ⟨g, i * 10 + 5, none⟩ = some (.int .i64 0) ∧ w.cell? ⟨g, i * 10 + 6, none⟩ = some (.int .i64 0) ∧ w.cell? ⟨g, i * 10 + 7, none⟩ = some v ∧ w.cell? ⟨g, i * 10 + 8, none⟩ = some (.int .i64 0) ∧ w.cell? ⟨g, i * 10 + 9, none⟩ = some (.int .i64 0)
theorem UnAt.keep {A : Nat → Prop} {w w' : World} {g i : Nat} {v : Value} (h : UnAt w g i v) (hk : Keeps A w w') (hg : ¬ A g) : UnAt w' g i v := by
  obtain ⟨h0, h1, h2, h3, h4, h5, h6, h7, h8, h9⟩ := h
  exact ⟨hk.cell hg h0, hk.cell hg h1, hk.cell hg h2, hk.cell hg h3, hk.cell hg h4, hk.cell hg h5, hk.cell hg h6, hk.cell hg h7, hk.cell hg h8, hk.cell hg h9⟩
def BoxK (W : World) (q : Nat) (t : Tk) (A : Nat → Prop) : Prop := ∃ a c, W.heap[q]? = some (.cells #[.int .i64 t.p, .int .i64 t.a, .int .i64 t.c, .int .i64 t.w, .slice a t.l.length c] 24 (0, 0)) ∧ Rs tml A W t.l (.slice a t.l.length c)
theorem BoxK.keep {W W' : World} {q : Nat} {t : Tk} {A B : Nat → Prop} (h : BoxK W q t A) (hk : Keeps B W W') (hq : ¬ B q) (hB : ∀ b, B b → A b) : BoxK W' q t A := by
  obtain ⟨a, c, h1, h2⟩ := h
  exact ⟨a, c, hk q _ hq h1, h2.keep (hk.weak hB)⟩
theorem rs_one {A : Nat → Prop} {w : World} {q c : Nat} {l : List Tm} {v : Value} (h : Rs tmE A w l v) (hc : w.cell? ⟨q, 0, none⟩ = some v) (hA : ¬ A q) : Rs tml A w [l] (.slice (some ⟨q, 0, none⟩) 1 c) := by
  refine ⟨_, c, rfl, fun _ => ⟨q, 0, rfl, hA, fun i x hi => ?_⟩⟩
  obtain rfl : i = 0 := by
    have := (List.getElem?_eq_some_iff.1 hi).1
    simpa using this
  obtain rfl : l = x := by simpa using hi
  refine ⟨[v], ⟨v, rfl, h⟩, fun j u hj => ?_⟩
  obtain rfl : j = 0 := by
    have := (List.getElem?_eq_some_iff.1 hj).1
    simpa using this
  obtain rfl : v = u := by simpa using hj
  simpa using hc
theorem V_ne {a : Act} {d t : Nat} {v : Value} (h : t ≠ d) : V (a.put (some d) v) t = V a t := by
  rw [← V_eval, ← V_eval]
  exact eval_ne h
theorem V_same {a : Act} {d : Nat} {v : Value} (h : d < a.tmps.size) : V (a.put (some d) v) d = v := by rw [V_put h, if_pos rfl]
def tupV (t' : Tk) (tells : List (List Tm)) (d o : Bool) (a1 : Option Addr) (c1 : Nat) (a2 : Option Addr) (c2 : Nat) : Value := .tuple #[t'.agg (.slice a1 t'.l.length c1), .bool d, .slice a2 tells.length c2, .bool o]
def tkC (t : Tk) (a : Option Addr) (c : Nat) : Obj := .cells #[.int .i64 t.p, .int .i64 t.a, .int .i64 t.c, .int .i64 t.w, .slice a t.l.length c] 24 (0, 0)
/-- What is known behind the visit: its values, and that they keep off the new box. -/
def RV (w0 : World) (B : Nat → Prop) (t' : Tk) (tells : List (List Tm)) (d o : Bool) (L : Nat → Bool) (a : Act) (W : World) : Prop :=
  L 8 = true → ∃ a1 c1 a2 c2, V a 77 = tupV t' tells d o a1 c1 a2 c2 ∧ (L 9 = true → V a 68 = tupV t' tells d o a1 c1 a2 c2) ∧ (L 10 = true → V a 78 = t'.agg (.slice a1 t'.l.length c1)) ∧ (L 12 = true → V a 80 = .slice a2 tells.length c2) ∧ (L 17 = true → V a 15 = .slice a2 tells.length c2) ∧
    (L 14 = false → Rs tml B W t'.l (.slice a1 t'.l.length c1) ∧ Rs tml B W tells (.slice a2 tells.length c2)) ∧
    (L 14 = true → ∃ q, V a 13 = .pointer (some ⟨q, 0, none⟩) ∧ w0.heap.size ≤ q ∧ Rs tml (fun b => B b ∨ b = q) W t'.l (.slice a1 t'.l.length c1) ∧ Rs tml (fun b => B b ∨ b = q) W tells (.slice a2 tells.length c2) ∧ (L 15 = true → W.heap[q]? = some (tkC t' a1 c1)))
theorem upd_ne {L : Nat → Bool} {i j : Nat} (h : j ≠ i) : upd L i j = L j := by unfold upd; rw [if_neg h]
theorem upd_at {L : Nat → Bool} {i : Nat} : upd L i i = true := by unfold upd; rw [if_pos rfl]
theorem RV.on {w0 : World} {B : Nat → Prop} {t' : Tk} {tells : List (List Tm)} {d o : Bool} {L : Nat → Bool} {a : Act} {W W' : World} (h : RV w0 B t' tells d o L a W) (hx : Ext W W') {i e : Nat} {v : Value} (hi : 8 ≠ i ∧ 9 ≠ i ∧ 10 ≠ i ∧ 12 ≠ i ∧ 17 ≠ i ∧ 14 ≠ i ∧ 15 ≠ i) (he : 77 ≠ e ∧ 68 ≠ e ∧ 78 ≠ e ∧ 80 ≠ e ∧ 15 ≠ e ∧ 13 ≠ e) : RV w0 B t' tells d o (upd L i) (a.put (some e) v) W' := by
  intro h8
  rw [upd_ne hi.1] at h8
  obtain ⟨a1, c1, a2, c2, h1, h2, h3, h4, h5, h6, h7⟩ := h h8
  refine ⟨a1, c1, a2, c2, (V_ne he.1).trans h1, fun e' => (V_ne he.2.1).trans (h2 (by rwa [upd_ne hi.2.1] at e')), fun e' => (V_ne he.2.2.1).trans (h3 (by rwa [upd_ne hi.2.2.1] at e')), fun e' => (V_ne he.2.2.2.1).trans (h4 (by rwa [upd_ne hi.2.2.2.1] at e')), fun e' => (V_ne he.2.2.2.2.1).trans (h5 (by rwa [upd_ne hi.2.2.2.2.1] at e')), fun e' => ?_, fun e' => ?_⟩
  · rw [upd_ne hi.2.2.2.2.2.1] at e'
    exact ⟨(h6 e').1.on hx, (h6 e').2.on hx⟩
  · rw [upd_ne hi.2.2.2.2.2.1] at e'
    obtain ⟨q, g1, g2, g3, g4, g5⟩ := h7 e'
    exact ⟨q, (V_ne he.2.2.2.2.2).trans g1, g2, g3.on hx, g4.on hx, fun e2 => Keeps.ext (A := noB) hx _ _ id (g5 (by rwa [upd_ne hi.2.2.2.2.2.2] at e2))⟩
namespace R5
noncomputable def ops_rgV : Array Oper := ((Try.f4.body.bind (regOf 19)).getD #[])
theorem rgV_size : ops_rgV.size = 19 := by kernel_rfl
theorem rgV_ac : acyc .any ops_rgV = true := by kernel_rfl
theorem rgV_once : once ops_rgV = true := by kernel_rfl
theorem rgV_fits : fits ops_rgV 119 = true := by kernel_rfl
def ts_rgV : List Nat := [69, 70, 71, 72, 73, 74, 75, 76, 77, 68, 78, 79, 80, 81, 13, 14, 15, 16]
theorem rgV_ts : ops_rgV.toList.filterMap (·.dst) = ts_rgV := by kernel_rfl
def F_rgV (w0 : World) (B : Nat → Prop) (tb g k n : Nat) (t t' : Tk) (own : List Tm) (ov vr : Value) (oa : Option Addr) (on oc un uc : Nat) (ar : Option Addr) (cr : Nat) (d o : Bool) (tells : List (List Tm)) : Nat → (Nat → Bool) → Value → World → Prop
  | 0, L, v, W => ∃ a c, v = t.agg (.slice a 1 c) ∧ Rs tml B w0 t.l (.slice a 1 c)
  | 1, L, v, W => v = .slice (some ⟨g, 0, none⟩) un uc
  | 2, L, v, W => v = .int .i64 k
  | 3, L, v, W => v = .pointer (some ⟨g, k * 10, none⟩)
  | 4, L, v, W => v = (Un.zero [[]]).agg vr
  | 5, L, v, W => v = ov
  | 6, L, v, W => L 8 = false → ∃ q, v = .slice (some ⟨q, 0, none⟩) 1 1 ∧ W.cell? ⟨q, 0, none⟩ = some ov ∧ w0.heap.size ≤ q
  | 7, L, v, W => v = .int .i64 n
  | 8, L, v, W => True
  | 9, L, v, W => True
  | 10, L, v, W => True
  | 11, L, v, W => v = .bool d
  | 12, L, v, W => True
  | 13, L, v, W => v = .bool o
  | 14, L, v, W => ∃ q, v = .pointer (some ⟨q, 0, none⟩) ∧ w0.heap.size ≤ q ∧ (L 15 = false → W.heap[q]? = some (.cells #[.int .i64 0, .int .i64 0, .int .i64 0, .int .i64 0, .slice none 0 0] 24 (0, 0)))
  | 15, L, v, W => True
  | 16, L, v, W => v = .bool d
  | 17, L, v, W => True
  | 18, L, v, W => v = .bool o
  | _, _, _, _ => True
theorem rgV_stays (w0 : World) (B : Nat → Prop) (tb g k n : Nat) (t t' : Tk) (own : List Tm) (ov vr : Value) (oa : Option Addr) (on oc un uc : Nat) (ar : Option Addr) (cr : Nat) (d o : Bool) (tells : List (List Tm)) : StaysF (F_rgV w0 B tb g k n t t' own ov vr oa on oc un uc ar cr d o tells) 19 := by
  intro k hk L i v W W' hi hx h
  match k, h with
  | 0, h => exact h
  | 1, h => exact h
  | 2, h => exact h
  | 3, h => exact h
  | 4, h => exact h
  | 5, h => exact h
  | 6, h => exact fun e => (by obtain ⟨q, h0, h1, h2⟩ := h (upd_false e); exact ⟨q, h0, (Keeps.ext (A := noB) hx).cell id h1, h2⟩)
  | 7, h => exact h
  | 8, h => exact h
  | 9, h => exact h
  | 10, h => exact h
  | 11, h => exact h
  | 12, h => exact h
  | 13, h => exact h
  | 14, h => exact (by obtain ⟨q, h0, h1, h2⟩ := h; exact ⟨q, h0, h1, fun e => Keeps.ext (A := noB) hx _ _ id (h2 (upd_false e))⟩)
  | 15, h => exact h
  | 16, h => exact h
  | 17, h => exact h
  | 18, h => exact h
  | _ + 19, _ => exact trivial
set_option maxRecDepth 100000 in
set_option maxHeartbeats 4000000 in
theorem rgV_op0 (a0 : Act) (Q : Exit → Act → World → Prop) (w0 : World) (B : Nat → Prop) (tb g k n : Nat) (t t' : Tk) (own : List Tm) (ov vr : Value) (oa : Option Addr) (on oc un uc : Nat) (ar : Option Addr) (cr : Nat) (d o : Bool) (tells : List (List Tm)) (v6 : V a0 6 = .pointer (some ⟨tb, 0, none⟩)) (v7 : V a0 7 = .slice (some ⟨g, 0, none⟩) un uc) (v11 : V a0 11 = .int .i64 k) (v12 : V a0 12 = ov) (v5 : V a0 5 = .int .i64 n) (hB : ∀ b, B b → b < w0.heap.size) (ht : BoxK w0 tb t B) (hl : Hid (t.l.length = 1)) (hu : UnAt w0 g k vr) (hvr : Hid (vr = .slice ar 1 cr)) (hred : Rs tml B w0 [[]] vr) (hov : Hid (ov = .slice oa on oc)) (hown : Rs tmE B w0 own ov) (hk : k < un) (hv : Hid (visS t (Un.zero [[]]) [own] n = (t', d, tells, o))) (hs : Hid ((∀ l ∈ t.l, l.length ≤ 1000) ∧ own.length ≤ 1000)) (hsz : a0.tmps.size = 119) : StepF Try.prog Q ops_rgV a0 (fun (L : Nat → Bool) (a : Act) (W : World) => Ext w0 W ∧ RV w0 B t' tells d o L a W) (F_rgV w0 B tb g k n t t' own ov vr oa on oc un uc ar cr d o tells) 0 := by
  have ST : StaysF (F_rgV w0 B tb g k n t t' own ov vr oa on oc un uc ar cr d o tells) ops_rgV.size := by rw [rgV_size]; exact rgV_stays w0 B tb g k n t t' own ov vr oa on oc un uc ar cr d o tells
  have k0 : (0 : Int) ≤ k := by omega
  have k1 : (k : Int) < un := by omega
  have HI : ∀ (L : Nat → Bool) (i : Nat) (a : Act) (e : Nat) (v : Value) (W W' : World), (Ext w0 W ∧ RV w0 B t' tells d o L a W) → Ext W W' → (8 ≠ i ∧ 9 ≠ i ∧ 10 ≠ i ∧ 12 ≠ i ∧ 17 ≠ i ∧ 14 ≠ i ∧ 15 ≠ i) → (77 ≠ e ∧ 68 ≠ e ∧ 78 ≠ e ∧ 80 ≠ e ∧ 15 ≠ e ∧ 13 ≠ e) → (Ext w0 W' ∧ RV w0 B t' tells d o (upd L i) (a.put (some e) v) W') := fun L i a e v W W' h hx hi he => ⟨h.1.trans hx, h.2.on hx hi he⟩
  refine step_free fun o ho => ?_
  have ho' := ho
  cases ho'
  refine ⟨rfl, fun L a W hL hd hJ K hK => ?_⟩
  have f6 := hJ.old (t := 6) hL (by kernel_rfl) v6
  obtain ⟨a1, c1, hb, hr⟩ := ht
  rw [hl.out] at hb hr
  obtain ⟨e0, e1, e2, e3, e4, -, -⟩ := box5 (Keeps.ext (A := noB) hJ.inv.1 _ _ id hb)
  conv => arg 2; whnf
  go_simp
  exact hK _ _ (HI _ _ _ 69 _ _ _ hJ.inv (Ext.refl _) (by decide) (by decide)) (hJ.frame ST hL (Ext.refl _)) ⟨a1, c1, rfl, hr⟩
set_option maxRecDepth 100000 in
set_option maxHeartbeats 4000000 in
theorem rgV_op1 (a0 : Act) (Q : Exit → Act → World → Prop) (w0 : World) (B : Nat → Prop) (tb g k n : Nat) (t t' : Tk) (own : List Tm) (ov vr : Value) (oa : Option Addr) (on oc un uc : Nat) (ar : Option Addr) (cr : Nat) (d o : Bool) (tells : List (List Tm)) (v6 : V a0 6 = .pointer (some ⟨tb, 0, none⟩)) (v7 : V a0 7 = .slice (some ⟨g, 0, none⟩) un uc) (v11 : V a0 11 = .int .i64 k) (v12 : V a0 12 = ov) (v5 : V a0 5 = .int .i64 n) (hB : ∀ b, B b → b < w0.heap.size) (ht : BoxK w0 tb t B) (hl : Hid (t.l.length = 1)) (hu : UnAt w0 g k vr) (hvr : Hid (vr = .slice ar 1 cr)) (hred : Rs tml B w0 [[]] vr) (hov : Hid (ov = .slice oa on oc)) (hown : Rs tmE B w0 own ov) (hk : k < un) (hv : Hid (visS t (Un.zero [[]]) [own] n = (t', d, tells, o))) (hs : Hid ((∀ l ∈ t.l, l.length ≤ 1000) ∧ own.length ≤ 1000)) (hsz : a0.tmps.size = 119) : StepF Try.prog Q ops_rgV a0 (fun (L : Nat → Bool) (a : Act) (W : World) => Ext w0 W ∧ RV w0 B t' tells d o L a W) (F_rgV w0 B tb g k n t t' own ov vr oa on oc un uc ar cr d o tells) 1 := by
  have ST : StaysF (F_rgV w0 B tb g k n t t' own ov vr oa on oc un uc ar cr d o tells) ops_rgV.size := by rw [rgV_size]; exact rgV_stays w0 B tb g k n t t' own ov vr oa on oc un uc ar cr d o tells
  have k0 : (0 : Int) ≤ k := by omega
  have k1 : (k : Int) < un := by omega
  have HI : ∀ (L : Nat → Bool) (i : Nat) (a : Act) (e : Nat) (v : Value) (W W' : World), (Ext w0 W ∧ RV w0 B t' tells d o L a W) → Ext W W' → (8 ≠ i ∧ 9 ≠ i ∧ 10 ≠ i ∧ 12 ≠ i ∧ 17 ≠ i ∧ 14 ≠ i ∧ 15 ≠ i) → (77 ≠ e ∧ 68 ≠ e ∧ 78 ≠ e ∧ 80 ≠ e ∧ 15 ≠ e ∧ 13 ≠ e) → (Ext w0 W' ∧ RV w0 B t' tells d o (upd L i) (a.put (some e) v) W') := fun L i a e v W W' h hx hi he => ⟨h.1.trans hx, h.2.on hx hi he⟩
  refine step_free fun o ho => ?_
  have ho' := ho
  cases ho'
  refine ⟨rfl, fun L a W hL hd hJ K hK => ?_⟩
  have f7 := hJ.old (t := 7) hL (by kernel_rfl) v7
  conv => arg 2; whnf
  go_simp
  exact hK _ _ (HI _ _ _ 70 _ _ _ hJ.inv (Ext.refl _) (by decide) (by decide)) (hJ.frame ST hL (Ext.refl _)) rfl
set_option maxRecDepth 100000 in
set_option maxHeartbeats 4000000 in
theorem rgV_op2 (a0 : Act) (Q : Exit → Act → World → Prop) (w0 : World) (B : Nat → Prop) (tb g k n : Nat) (t t' : Tk) (own : List Tm) (ov vr : Value) (oa : Option Addr) (on oc un uc : Nat) (ar : Option Addr) (cr : Nat) (d o : Bool) (tells : List (List Tm)) (v6 : V a0 6 = .pointer (some ⟨tb, 0, none⟩)) (v7 : V a0 7 = .slice (some ⟨g, 0, none⟩) un uc) (v11 : V a0 11 = .int .i64 k) (v12 : V a0 12 = ov) (v5 : V a0 5 = .int .i64 n) (hB : ∀ b, B b → b < w0.heap.size) (ht : BoxK w0 tb t B) (hl : Hid (t.l.length = 1)) (hu : UnAt w0 g k vr) (hvr : Hid (vr = .slice ar 1 cr)) (hred : Rs tml B w0 [[]] vr) (hov : Hid (ov = .slice oa on oc)) (hown : Rs tmE B w0 own ov) (hk : k < un) (hv : Hid (visS t (Un.zero [[]]) [own] n = (t', d, tells, o))) (hs : Hid ((∀ l ∈ t.l, l.length ≤ 1000) ∧ own.length ≤ 1000)) (hsz : a0.tmps.size = 119) : StepF Try.prog Q ops_rgV a0 (fun (L : Nat → Bool) (a : Act) (W : World) => Ext w0 W ∧ RV w0 B t' tells d o L a W) (F_rgV w0 B tb g k n t t' own ov vr oa on oc un uc ar cr d o tells) 2 := by
  have ST : StaysF (F_rgV w0 B tb g k n t t' own ov vr oa on oc un uc ar cr d o tells) ops_rgV.size := by rw [rgV_size]; exact rgV_stays w0 B tb g k n t t' own ov vr oa on oc un uc ar cr d o tells
  have k0 : (0 : Int) ≤ k := by omega
  have k1 : (k : Int) < un := by omega
  have HI : ∀ (L : Nat → Bool) (i : Nat) (a : Act) (e : Nat) (v : Value) (W W' : World), (Ext w0 W ∧ RV w0 B t' tells d o L a W) → Ext W W' → (8 ≠ i ∧ 9 ≠ i ∧ 10 ≠ i ∧ 12 ≠ i ∧ 17 ≠ i ∧ 14 ≠ i ∧ 15 ≠ i) → (77 ≠ e ∧ 68 ≠ e ∧ 78 ≠ e ∧ 80 ≠ e ∧ 15 ≠ e ∧ 13 ≠ e) → (Ext w0 W' ∧ RV w0 B t' tells d o (upd L i) (a.put (some e) v) W') := fun L i a e v W W' h hx hi he => ⟨h.1.trans hx, h.2.on hx hi he⟩
  refine step_free fun o ho => ?_
  have ho' := ho
  cases ho'
  refine ⟨rfl, fun L a W hL hd hJ K hK => ?_⟩
  have f11 := hJ.old (t := 11) hL (by kernel_rfl) v11
  conv => arg 2; whnf
  go_simp
  exact hK _ _ (HI _ _ _ 71 _ _ _ hJ.inv (Ext.refl _) (by decide) (by decide)) (hJ.frame ST hL (Ext.refl _)) rfl
set_option maxRecDepth 100000 in
set_option maxHeartbeats 4000000 in
theorem rgV_op3 (a0 : Act) (Q : Exit → Act → World → Prop) (w0 : World) (B : Nat → Prop) (tb g k n : Nat) (t t' : Tk) (own : List Tm) (ov vr : Value) (oa : Option Addr) (on oc un uc : Nat) (ar : Option Addr) (cr : Nat) (d o : Bool) (tells : List (List Tm)) (v6 : V a0 6 = .pointer (some ⟨tb, 0, none⟩)) (v7 : V a0 7 = .slice (some ⟨g, 0, none⟩) un uc) (v11 : V a0 11 = .int .i64 k) (v12 : V a0 12 = ov) (v5 : V a0 5 = .int .i64 n) (hB : ∀ b, B b → b < w0.heap.size) (ht : BoxK w0 tb t B) (hl : Hid (t.l.length = 1)) (hu : UnAt w0 g k vr) (hvr : Hid (vr = .slice ar 1 cr)) (hred : Rs tml B w0 [[]] vr) (hov : Hid (ov = .slice oa on oc)) (hown : Rs tmE B w0 own ov) (hk : k < un) (hv : Hid (visS t (Un.zero [[]]) [own] n = (t', d, tells, o))) (hs : Hid ((∀ l ∈ t.l, l.length ≤ 1000) ∧ own.length ≤ 1000)) (hsz : a0.tmps.size = 119) : StepF Try.prog Q ops_rgV a0 (fun (L : Nat → Bool) (a : Act) (W : World) => Ext w0 W ∧ RV w0 B t' tells d o L a W) (F_rgV w0 B tb g k n t t' own ov vr oa on oc un uc ar cr d o tells) 3 := by
  have ST : StaysF (F_rgV w0 B tb g k n t t' own ov vr oa on oc un uc ar cr d o tells) ops_rgV.size := by rw [rgV_size]; exact rgV_stays w0 B tb g k n t t' own ov vr oa on oc un uc ar cr d o tells
  have k0 : (0 : Int) ≤ k := by omega
  have k1 : (k : Int) < un := by omega
  have HI : ∀ (L : Nat → Bool) (i : Nat) (a : Act) (e : Nat) (v : Value) (W W' : World), (Ext w0 W ∧ RV w0 B t' tells d o L a W) → Ext W W' → (8 ≠ i ∧ 9 ≠ i ∧ 10 ≠ i ∧ 12 ≠ i ∧ 17 ≠ i ∧ 14 ≠ i ∧ 15 ≠ i) → (77 ≠ e ∧ 68 ≠ e ∧ 78 ≠ e ∧ 80 ≠ e ∧ 15 ≠ e ∧ 13 ≠ e) → (Ext w0 W' ∧ RV w0 B t' tells d o (upd L i) (a.put (some e) v) W') := fun L i a e v W W' h hx hi he => ⟨h.1.trans hx, h.2.on hx hi he⟩
  refine step_free fun o ho => ?_
  have ho' := ho
  cases ho'
  refine ⟨rfl, fun L a W hL hd hJ K hK => ?_⟩
  have f70 : a.tmps[70]?.getD undef = _ := hJ.dep ho hd (k := 1) (t := 70) (by kernel_rfl) (by kernel_rfl)
  have f71 : a.tmps[71]?.getD undef = _ := hJ.dep ho hd (k := 2) (t := 71) (by kernel_rfl) (by kernel_rfl)
  conv => arg 2; whnf
  go_simp
  exact hK _ _ (HI _ _ _ 72 _ _ _ hJ.inv (Ext.refl _) (by decide) (by decide)) (hJ.frame ST hL (Ext.refl _)) rfl
set_option maxRecDepth 100000 in
set_option maxHeartbeats 4000000 in
theorem rgV_op4 (a0 : Act) (Q : Exit → Act → World → Prop) (w0 : World) (B : Nat → Prop) (tb g k n : Nat) (t t' : Tk) (own : List Tm) (ov vr : Value) (oa : Option Addr) (on oc un uc : Nat) (ar : Option Addr) (cr : Nat) (d o : Bool) (tells : List (List Tm)) (v6 : V a0 6 = .pointer (some ⟨tb, 0, none⟩)) (v7 : V a0 7 = .slice (some ⟨g, 0, none⟩) un uc) (v11 : V a0 11 = .int .i64 k) (v12 : V a0 12 = ov) (v5 : V a0 5 = .int .i64 n) (hB : ∀ b, B b → b < w0.heap.size) (ht : BoxK w0 tb t B) (hl : Hid (t.l.length = 1)) (hu : UnAt w0 g k vr) (hvr : Hid (vr = .slice ar 1 cr)) (hred : Rs tml B w0 [[]] vr) (hov : Hid (ov = .slice oa on oc)) (hown : Rs tmE B w0 own ov) (hk : k < un) (hv : Hid (visS t (Un.zero [[]]) [own] n = (t', d, tells, o))) (hs : Hid ((∀ l ∈ t.l, l.length ≤ 1000) ∧ own.length ≤ 1000)) (hsz : a0.tmps.size = 119) : StepF Try.prog Q ops_rgV a0 (fun (L : Nat → Bool) (a : Act) (W : World) => Ext w0 W ∧ RV w0 B t' tells d o L a W) (F_rgV w0 B tb g k n t t' own ov vr oa on oc un uc ar cr d o tells) 4 := by
  have ST : StaysF (F_rgV w0 B tb g k n t t' own ov vr oa on oc un uc ar cr d o tells) ops_rgV.size := by rw [rgV_size]; exact rgV_stays w0 B tb g k n t t' own ov vr oa on oc un uc ar cr d o tells
  have k0 : (0 : Int) ≤ k := by omega
  have k1 : (k : Int) < un := by omega
  have HI : ∀ (L : Nat → Bool) (i : Nat) (a : Act) (e : Nat) (v : Value) (W W' : World), (Ext w0 W ∧ RV w0 B t' tells d o L a W) → Ext W W' → (8 ≠ i ∧ 9 ≠ i ∧ 10 ≠ i ∧ 12 ≠ i ∧ 17 ≠ i ∧ 14 ≠ i ∧ 15 ≠ i) → (77 ≠ e ∧ 68 ≠ e ∧ 78 ≠ e ∧ 80 ≠ e ∧ 15 ≠ e ∧ 13 ≠ e) → (Ext w0 W' ∧ RV w0 B t' tells d o (upd L i) (a.put (some e) v) W') := fun L i a e v W W' h hx hi he => ⟨h.1.trans hx, h.2.on hx hi he⟩
  refine step_free fun o ho => ?_
  have ho' := ho
  cases ho'
  refine ⟨rfl, fun L a W hL hd hJ K hK => ?_⟩
  have f72 : a.tmps[72]?.getD undef = _ := hJ.dep ho hd (k := 3) (t := 72) (by kernel_rfl) (by kernel_rfl)
  obtain ⟨e0, e1, e2, e3, e4, e5, e6, e7, e8, e9⟩ := hu.keep (Keeps.ext (A := noB) hJ.inv.1) id
  conv => arg 2; whnf
  go_simp
  exact hK _ _ (HI _ _ _ 73 _ _ _ hJ.inv (Ext.refl _) (by decide) (by decide)) (hJ.frame ST hL (Ext.refl _)) rfl
set_option maxRecDepth 100000 in
set_option maxHeartbeats 4000000 in
theorem rgV_op5 (a0 : Act) (Q : Exit → Act → World → Prop) (w0 : World) (B : Nat → Prop) (tb g k n : Nat) (t t' : Tk) (own : List Tm) (ov vr : Value) (oa : Option Addr) (on oc un uc : Nat) (ar : Option Addr) (cr : Nat) (d o : Bool) (tells : List (List Tm)) (v6 : V a0 6 = .pointer (some ⟨tb, 0, none⟩)) (v7 : V a0 7 = .slice (some ⟨g, 0, none⟩) un uc) (v11 : V a0 11 = .int .i64 k) (v12 : V a0 12 = ov) (v5 : V a0 5 = .int .i64 n) (hB : ∀ b, B b → b < w0.heap.size) (ht : BoxK w0 tb t B) (hl : Hid (t.l.length = 1)) (hu : UnAt w0 g k vr) (hvr : Hid (vr = .slice ar 1 cr)) (hred : Rs tml B w0 [[]] vr) (hov : Hid (ov = .slice oa on oc)) (hown : Rs tmE B w0 own ov) (hk : k < un) (hv : Hid (visS t (Un.zero [[]]) [own] n = (t', d, tells, o))) (hs : Hid ((∀ l ∈ t.l, l.length ≤ 1000) ∧ own.length ≤ 1000)) (hsz : a0.tmps.size = 119) : StepF Try.prog Q ops_rgV a0 (fun (L : Nat → Bool) (a : Act) (W : World) => Ext w0 W ∧ RV w0 B t' tells d o L a W) (F_rgV w0 B tb g k n t t' own ov vr oa on oc un uc ar cr d o tells) 5 := by
  have ST : StaysF (F_rgV w0 B tb g k n t t' own ov vr oa on oc un uc ar cr d o tells) ops_rgV.size := by rw [rgV_size]; exact rgV_stays w0 B tb g k n t t' own ov vr oa on oc un uc ar cr d o tells
  have k0 : (0 : Int) ≤ k := by omega
  have k1 : (k : Int) < un := by omega
  have HI : ∀ (L : Nat → Bool) (i : Nat) (a : Act) (e : Nat) (v : Value) (W W' : World), (Ext w0 W ∧ RV w0 B t' tells d o L a W) → Ext W W' → (8 ≠ i ∧ 9 ≠ i ∧ 10 ≠ i ∧ 12 ≠ i ∧ 17 ≠ i ∧ 14 ≠ i ∧ 15 ≠ i) → (77 ≠ e ∧ 68 ≠ e ∧ 78 ≠ e ∧ 80 ≠ e ∧ 15 ≠ e ∧ 13 ≠ e) → (Ext w0 W' ∧ RV w0 B t' tells d o (upd L i) (a.put (some e) v) W') := fun L i a e v W W' h hx hi he => ⟨h.1.trans hx, h.2.on hx hi he⟩
  refine step_free fun o ho => ?_
  have ho' := ho
  cases ho'
  refine ⟨rfl, fun L a W hL hd hJ K hK => ?_⟩
  have f12 := hJ.old (t := 12) hL (by kernel_rfl) v12
  conv => arg 2; whnf
  go_simp
  exact hK _ _ (HI _ _ _ 74 _ _ _ hJ.inv (Ext.refl _) (by decide) (by decide)) (hJ.frame ST hL (Ext.refl _)) rfl
set_option maxRecDepth 100000 in
set_option maxHeartbeats 4000000 in
theorem rgV_op6 (a0 : Act) (Q : Exit → Act → World → Prop) (w0 : World) (B : Nat → Prop) (tb g k n : Nat) (t t' : Tk) (own : List Tm) (ov vr : Value) (oa : Option Addr) (on oc un uc : Nat) (ar : Option Addr) (cr : Nat) (d o : Bool) (tells : List (List Tm)) (v6 : V a0 6 = .pointer (some ⟨tb, 0, none⟩)) (v7 : V a0 7 = .slice (some ⟨g, 0, none⟩) un uc) (v11 : V a0 11 = .int .i64 k) (v12 : V a0 12 = ov) (v5 : V a0 5 = .int .i64 n) (hB : ∀ b, B b → b < w0.heap.size) (ht : BoxK w0 tb t B) (hl : Hid (t.l.length = 1)) (hu : UnAt w0 g k vr) (hvr : Hid (vr = .slice ar 1 cr)) (hred : Rs tml B w0 [[]] vr) (hov : Hid (ov = .slice oa on oc)) (hown : Rs tmE B w0 own ov) (hk : k < un) (hv : Hid (visS t (Un.zero [[]]) [own] n = (t', d, tells, o))) (hs : Hid ((∀ l ∈ t.l, l.length ≤ 1000) ∧ own.length ≤ 1000)) (hsz : a0.tmps.size = 119) : StepF Try.prog Q ops_rgV a0 (fun (L : Nat → Bool) (a : Act) (W : World) => Ext w0 W ∧ RV w0 B t' tells d o L a W) (F_rgV w0 B tb g k n t t' own ov vr oa on oc un uc ar cr d o tells) 6 := by
  have ST : StaysF (F_rgV w0 B tb g k n t t' own ov vr oa on oc un uc ar cr d o tells) ops_rgV.size := by rw [rgV_size]; exact rgV_stays w0 B tb g k n t t' own ov vr oa on oc un uc ar cr d o tells
  have k0 : (0 : Int) ≤ k := by omega
  have k1 : (k : Int) < un := by omega
  have HI : ∀ (L : Nat → Bool) (i : Nat) (a : Act) (e : Nat) (v : Value) (W W' : World), (Ext w0 W ∧ RV w0 B t' tells d o L a W) → Ext W W' → (8 ≠ i ∧ 9 ≠ i ∧ 10 ≠ i ∧ 12 ≠ i ∧ 17 ≠ i ∧ 14 ≠ i ∧ 15 ≠ i) → (77 ≠ e ∧ 68 ≠ e ∧ 78 ≠ e ∧ 80 ≠ e ∧ 15 ≠ e ∧ 13 ≠ e) → (Ext w0 W' ∧ RV w0 B t' tells d o (upd L i) (a.put (some e) v) W') := fun L i a e v W W' h hx hi he => ⟨h.1.trans hx, h.2.on hx hi he⟩
  refine step_free fun o ho => ?_
  have ho' := ho
  cases ho'
  refine ⟨rfl, fun L a W hL hd hJ K hK => ?_⟩
  have f74 : a.tmps[74]?.getD undef = _ := hJ.dep ho hd (k := 5) (t := 74) (by kernel_rfl) (by kernel_rfl)
  rw [hov.out] at f74
  conv => arg 2; whnf
  go_simp
  exact hK _ _ (HI _ _ _ 75 _ _ _ hJ.inv ((Ext.refl _).alloc _) (by decide) (by decide)) (hJ.frame ST hL ((Ext.refl _).alloc _)) (fun _ => ⟨_, rfl, by rw [hov.out]; exact cell_lit _ _ _ _ _ _ rfl rfl, hJ.inv.1.le⟩)
set_option maxRecDepth 100000 in
set_option maxHeartbeats 4000000 in
theorem rgV_op7 (a0 : Act) (Q : Exit → Act → World → Prop) (w0 : World) (B : Nat → Prop) (tb g k n : Nat) (t t' : Tk) (own : List Tm) (ov vr : Value) (oa : Option Addr) (on oc un uc : Nat) (ar : Option Addr) (cr : Nat) (d o : Bool) (tells : List (List Tm)) (v6 : V a0 6 = .pointer (some ⟨tb, 0, none⟩)) (v7 : V a0 7 = .slice (some ⟨g, 0, none⟩) un uc) (v11 : V a0 11 = .int .i64 k) (v12 : V a0 12 = ov) (v5 : V a0 5 = .int .i64 n) (hB : ∀ b, B b → b < w0.heap.size) (ht : BoxK w0 tb t B) (hl : Hid (t.l.length = 1)) (hu : UnAt w0 g k vr) (hvr : Hid (vr = .slice ar 1 cr)) (hred : Rs tml B w0 [[]] vr) (hov : Hid (ov = .slice oa on oc)) (hown : Rs tmE B w0 own ov) (hk : k < un) (hv : Hid (visS t (Un.zero [[]]) [own] n = (t', d, tells, o))) (hs : Hid ((∀ l ∈ t.l, l.length ≤ 1000) ∧ own.length ≤ 1000)) (hsz : a0.tmps.size = 119) : StepF Try.prog Q ops_rgV a0 (fun (L : Nat → Bool) (a : Act) (W : World) => Ext w0 W ∧ RV w0 B t' tells d o L a W) (F_rgV w0 B tb g k n t t' own ov vr oa on oc un uc ar cr d o tells) 7 := by
  have ST : StaysF (F_rgV w0 B tb g k n t t' own ov vr oa on oc un uc ar cr d o tells) ops_rgV.size := by rw [rgV_size]; exact rgV_stays w0 B tb g k n t t' own ov vr oa on oc un uc ar cr d o tells
  have k0 : (0 : Int) ≤ k := by omega
  have k1 : (k : Int) < un := by omega
  have HI : ∀ (L : Nat → Bool) (i : Nat) (a : Act) (e : Nat) (v : Value) (W W' : World), (Ext w0 W ∧ RV w0 B t' tells d o L a W) → Ext W W' → (8 ≠ i ∧ 9 ≠ i ∧ 10 ≠ i ∧ 12 ≠ i ∧ 17 ≠ i ∧ 14 ≠ i ∧ 15 ≠ i) → (77 ≠ e ∧ 68 ≠ e ∧ 78 ≠ e ∧ 80 ≠ e ∧ 15 ≠ e ∧ 13 ≠ e) → (Ext w0 W' ∧ RV w0 B t' tells d o (upd L i) (a.put (some e) v) W') := fun L i a e v W W' h hx hi he => ⟨h.1.trans hx, h.2.on hx hi he⟩
  refine step_free fun o ho => ?_
  have ho' := ho
  cases ho'
  refine ⟨rfl, fun L a W hL hd hJ K hK => ?_⟩
  have f5 := hJ.old (t := 5) hL (by kernel_rfl) v5
  conv => arg 2; whnf
  go_simp
  exact hK _ _ (HI _ _ _ 76 _ _ _ hJ.inv (Ext.refl _) (by decide) (by decide)) (hJ.frame ST hL (Ext.refl _)) rfl
set_option maxRecDepth 100000 in
set_option maxHeartbeats 4000000 in
theorem rgV_op8 (a0 : Act) (Q : Exit → Act → World → Prop) (w0 : World) (B : Nat → Prop) (tb g k n : Nat) (t t' : Tk) (own : List Tm) (ov vr : Value) (oa : Option Addr) (on oc un uc : Nat) (ar : Option Addr) (cr : Nat) (d o : Bool) (tells : List (List Tm)) (v6 : V a0 6 = .pointer (some ⟨tb, 0, none⟩)) (v7 : V a0 7 = .slice (some ⟨g, 0, none⟩) un uc) (v11 : V a0 11 = .int .i64 k) (v12 : V a0 12 = ov) (v5 : V a0 5 = .int .i64 n) (hB : ∀ b, B b → b < w0.heap.size) (ht : BoxK w0 tb t B) (hl : Hid (t.l.length = 1)) (hu : UnAt w0 g k vr) (hvr : Hid (vr = .slice ar 1 cr)) (hred : Rs tml B w0 [[]] vr) (hov : Hid (ov = .slice oa on oc)) (hown : Rs tmE B w0 own ov) (hk : k < un) (hv : Hid (visS t (Un.zero [[]]) [own] n = (t', d, tells, o))) (hs : Hid ((∀ l ∈ t.l, l.length ≤ 1000) ∧ own.length ≤ 1000)) (hsz : a0.tmps.size = 119) : StepF Try.prog Q ops_rgV a0 (fun (L : Nat → Bool) (a : Act) (W : World) => Ext w0 W ∧ RV w0 B t' tells d o L a W) (F_rgV w0 B tb g k n t t' own ov vr oa on oc un uc ar cr d o tells) 8 := by
  have ST : StaysF (F_rgV w0 B tb g k n t t' own ov vr oa on oc un uc ar cr d o tells) ops_rgV.size := by rw [rgV_size]; exact rgV_stays w0 B tb g k n t t' own ov vr oa on oc un uc ar cr d o tells
  have k0 : (0 : Int) ≤ k := by omega
  have k1 : (k : Int) < un := by omega
  have HI : ∀ (L : Nat → Bool) (i : Nat) (a : Act) (e : Nat) (v : Value) (W W' : World), (Ext w0 W ∧ RV w0 B t' tells d o L a W) → Ext W W' → (8 ≠ i ∧ 9 ≠ i ∧ 10 ≠ i ∧ 12 ≠ i ∧ 17 ≠ i ∧ 14 ≠ i ∧ 15 ≠ i) → (77 ≠ e ∧ 68 ≠ e ∧ 78 ≠ e ∧ 80 ≠ e ∧ 15 ≠ e ∧ 13 ≠ e) → (Ext w0 W' ∧ RV w0 B t' tells d o (upd L i) (a.put (some e) v) W') := fun L i a e v W W' h hx hi he => ⟨h.1.trans hx, h.2.on hx hi he⟩
  refine step_free fun o ho => ?_
  have ho' := ho
  cases ho'
  refine ⟨rfl, fun L a W hL hd hJ K hK => ?_⟩
  have f69 := hJ.dep ho hd (k := 0) (t := 69) (by kernel_rfl) (by kernel_rfl)
  have f73 : a.tmps[73]?.getD undef = _ := hJ.dep ho hd (k := 4) (t := 73) (by kernel_rfl) (by kernel_rfl)
  have f75 := hJ.dep ho hd (k := 6) (t := 75) (by kernel_rfl) (by kernel_rfl)
  have f76 : a.tmps[76]?.getD undef = _ := hJ.dep ho hd (k := 7) (t := 76) (by kernel_rfl) (by kernel_rfl)
  obtain ⟨a1, c1, h1, hr⟩ := f69
  obtain ⟨q, h2, hq, hq0⟩ := f75 hL
  rw [hvr.out] at f73 hred
  have g69 : a.tmps[69]?.getD undef = _ := h1
  have g75 : a.tmps[75]?.getD undef = _ := h2
  have hn9 : L 9 = false := Bool.eq_false_iff.2 (fun h => by rw [hJ.anc 12 8 9 (by kernel_rfl) h] at hL; cases hL)
  have hn10 : L 10 = false := Bool.eq_false_iff.2 (fun h => by rw [hJ.anc 12 8 10 (by kernel_rfl) h] at hL; cases hL)
  have hn12 : L 12 = false := Bool.eq_false_iff.2 (fun h => by rw [hJ.anc 12 8 12 (by kernel_rfl) h] at hL; cases hL)
  have hn15 : L 15 = false := Bool.eq_false_iff.2 (fun h => by rw [hJ.anc 12 8 15 (by kernel_rfl) h] at hL; cases hL)
  have hn17 : L 17 = false := Bool.eq_false_iff.2 (fun h => by rw [hJ.anc 12 8 17 (by kernel_rfl) h] at hL; cases hL)
  have key : ∀ A : Nat → Prop, (∀ b, A b → b < W.heap.size) → (∀ b, A b → B b ∨ w0.heap.size ≤ b) → (¬ A q) → Calls Try.prog 15 #[t.agg (.slice a1 1 c1), (Un.zero [[]]).agg (.slice ar 1 cr), .slice (some ⟨q, 0, none⟩) 1 1, .int .i64 n] W (VisPost A W t' d tells o) := fun A hA hA0 hAq => by
    have off : ∀ {α : Type} {E : En α} {l : List α} {v : Value}, Rs E B w0 l v → Rs E A W l v := fun h => (h.off (fun b hb => hA0 b hb)).on hJ.inv.1
    refine visit_any ⟨off hr, off hred, rs_one (off hown) hq hAq, ⟨none, 0, 0, rfl⟩, hA, hl.out.symm, rfl, rfl, by decide, fun l hl' => Nat.le_trans (hs.out.1 l hl') (by decide)⟩ n (fun i => ?_) t' d tells o hv.out
    have s1 : (t.l.getD i []).length ≤ 1000 := by
      rw [List.getD_eq_getElem?_getD]
      cases h : t.l[i]? with
      | none => simp
      | some x => exact hs.out.1 x (List.mem_of_getElem? h)
    have s2 : ([own].getD i []).length ≤ 1000 := by
      cases i with
      | zero => exact hs.out.2
      | succ i => simp
    have s3 : ((Un.zero [[]]).r.getD i []).length = 0 := by cases i <;> rfl
    omega
  conv => arg 2; whnf
  go_simp
  cases h14 : L 14 with
  | false =>
    refine (key B (fun b hb => Nat.lt_of_lt_of_le (hB b hb) hJ.inv.1.le) (fun b hb => .inl hb) (fun e => by have := hB q e; omega)).mono ?_
    rintro e w' ⟨b1, d1, b2, d2, rfl, hx, r1, r2⟩
    exact hK _ _ ⟨hJ.inv.1.trans hx, fun _ => ⟨b1, d1, b2, d2, V_same (by rw [hJ.size, hsz]; decide), fun e => absurd e (by rw [upd_ne (by decide), hn9]; decide), fun e => absurd e (by rw [upd_ne (by decide), hn10]; decide), fun e => absurd e (by rw [upd_ne (by decide), hn12]; decide), fun e => absurd e (by rw [upd_ne (by decide), hn17]; decide), fun _ => ⟨r1, r2⟩, fun e => absurd e (by rw [upd_ne (by decide), h14]; decide)⟩⟩ (hJ.frame ST hL hx) trivial
  | true =>
    obtain ⟨q2, g1, g2, g3⟩ := hJ.get (k := 14) (t := 13) (by kernel_rfl) h14
    have hb := g3 hn15
    have hqq : ¬ q = q2 := fun e => by
      subst e
      have := (box5 hb).1
      rw [hq, hov.out] at this
      cases this
    refine (key (fun b => B b ∨ b = q2) (fun b hb' => by rcases hb' with hb' | hb'; exact Nat.lt_of_lt_of_le (hB b hb') hJ.inv.1.le; rw [hb']; exact (Array.getElem?_eq_some_iff.1 hb).1) (fun b hb' => hb'.imp id (fun e => by rw [e]; exact g2)) (fun e => by rcases e with e | e; (have := hB q e; omega); exact hqq e)).mono ?_
    rintro e w' ⟨b1, d1, b2, d2, rfl, hx, r1, r2⟩
    exact hK _ _ ⟨hJ.inv.1.trans hx, fun _ => ⟨b1, d1, b2, d2, V_same (by rw [hJ.size, hsz]; decide), fun e => absurd e (by rw [upd_ne (by decide), hn9]; decide), fun e => absurd e (by rw [upd_ne (by decide), hn10]; decide), fun e => absurd e (by rw [upd_ne (by decide), hn12]; decide), fun e => absurd e (by rw [upd_ne (by decide), hn17]; decide), fun e => absurd e (by rw [upd_ne (by decide), h14]; decide), fun _ => ⟨q2, (V_ne (by decide)).trans g1, g2, r1, r2, fun e => absurd e (by rw [upd_ne (by decide), hn15]; decide)⟩⟩⟩ (hJ.frame ST hL hx) trivial
set_option maxRecDepth 100000 in
set_option maxHeartbeats 4000000 in
theorem rgV_op9 (a0 : Act) (Q : Exit → Act → World → Prop) (w0 : World) (B : Nat → Prop) (tb g k n : Nat) (t t' : Tk) (own : List Tm) (ov vr : Value) (oa : Option Addr) (on oc un uc : Nat) (ar : Option Addr) (cr : Nat) (d o : Bool) (tells : List (List Tm)) (v6 : V a0 6 = .pointer (some ⟨tb, 0, none⟩)) (v7 : V a0 7 = .slice (some ⟨g, 0, none⟩) un uc) (v11 : V a0 11 = .int .i64 k) (v12 : V a0 12 = ov) (v5 : V a0 5 = .int .i64 n) (hB : ∀ b, B b → b < w0.heap.size) (ht : BoxK w0 tb t B) (hl : Hid (t.l.length = 1)) (hu : UnAt w0 g k vr) (hvr : Hid (vr = .slice ar 1 cr)) (hred : Rs tml B w0 [[]] vr) (hov : Hid (ov = .slice oa on oc)) (hown : Rs tmE B w0 own ov) (hk : k < un) (hv : Hid (visS t (Un.zero [[]]) [own] n = (t', d, tells, o))) (hs : Hid ((∀ l ∈ t.l, l.length ≤ 1000) ∧ own.length ≤ 1000)) (hsz : a0.tmps.size = 119) : StepF Try.prog Q ops_rgV a0 (fun (L : Nat → Bool) (a : Act) (W : World) => Ext w0 W ∧ RV w0 B t' tells d o L a W) (F_rgV w0 B tb g k n t t' own ov vr oa on oc un uc ar cr d o tells) 9 := by
  have ST : StaysF (F_rgV w0 B tb g k n t t' own ov vr oa on oc un uc ar cr d o tells) ops_rgV.size := by rw [rgV_size]; exact rgV_stays w0 B tb g k n t t' own ov vr oa on oc un uc ar cr d o tells
  have k0 : (0 : Int) ≤ k := by omega
  have k1 : (k : Int) < un := by omega
  have HI : ∀ (L : Nat → Bool) (i : Nat) (a : Act) (e : Nat) (v : Value) (W W' : World), (Ext w0 W ∧ RV w0 B t' tells d o L a W) → Ext W W' → (8 ≠ i ∧ 9 ≠ i ∧ 10 ≠ i ∧ 12 ≠ i ∧ 17 ≠ i ∧ 14 ≠ i ∧ 15 ≠ i) → (77 ≠ e ∧ 68 ≠ e ∧ 78 ≠ e ∧ 80 ≠ e ∧ 15 ≠ e ∧ 13 ≠ e) → (Ext w0 W' ∧ RV w0 B t' tells d o (upd L i) (a.put (some e) v) W') := fun L i a e v W W' h hx hi he => ⟨h.1.trans hx, h.2.on hx hi he⟩
  refine step_free fun o ho => ?_
  have ho' := ho
  cases ho'
  refine ⟨rfl, fun L a W hL hd hJ K hK => ?_⟩
  have f77 := hJ.dep ho hd (k := 8) (t := 77) (by kernel_rfl) (by kernel_rfl)
  obtain ⟨a1, c1, a2, c2, h1, h2, h3, h4, h5, h6, h7⟩ := hJ.inv.2 (hJ.lead ho hd (k := 8) 7 (by kernel_rfl))
  have g77 : a.tmps[77]?.getD undef = _ := h1
  conv => arg 2; whnf
  go_simp
  exact hK _ _ ⟨hJ.inv.1, fun _ => ⟨a1, c1, a2, c2, (V_ne (by decide)).trans h1, fun _ => V_same (by rw [hJ.size, hsz]; decide), fun e' => (V_ne (by decide)).trans (h3 (by rwa [upd_ne (by decide)] at e')), fun e' => (V_ne (by decide)).trans (h4 (by rwa [upd_ne (by decide)] at e')), fun e' => (V_ne (by decide)).trans (h5 (by rwa [upd_ne (by decide)] at e')), fun e' => h6 (by rwa [upd_ne (by decide)] at e'), fun e' => (by rw [upd_ne (by decide)] at e'; obtain ⟨q, g1, g2, g3, g4, g5⟩ := h7 e'; exact ⟨q, (V_ne (by decide)).trans g1, g2, g3, g4, fun e2 => g5 (by rwa [upd_ne (by decide)] at e2)⟩)⟩⟩ (hJ.frame ST hL (Ext.refl _)) trivial
set_option maxRecDepth 100000 in
set_option maxHeartbeats 4000000 in
theorem rgV_op10 (a0 : Act) (Q : Exit → Act → World → Prop) (w0 : World) (B : Nat → Prop) (tb g k n : Nat) (t t' : Tk) (own : List Tm) (ov vr : Value) (oa : Option Addr) (on oc un uc : Nat) (ar : Option Addr) (cr : Nat) (d o : Bool) (tells : List (List Tm)) (v6 : V a0 6 = .pointer (some ⟨tb, 0, none⟩)) (v7 : V a0 7 = .slice (some ⟨g, 0, none⟩) un uc) (v11 : V a0 11 = .int .i64 k) (v12 : V a0 12 = ov) (v5 : V a0 5 = .int .i64 n) (hB : ∀ b, B b → b < w0.heap.size) (ht : BoxK w0 tb t B) (hl : Hid (t.l.length = 1)) (hu : UnAt w0 g k vr) (hvr : Hid (vr = .slice ar 1 cr)) (hred : Rs tml B w0 [[]] vr) (hov : Hid (ov = .slice oa on oc)) (hown : Rs tmE B w0 own ov) (hk : k < un) (hv : Hid (visS t (Un.zero [[]]) [own] n = (t', d, tells, o))) (hs : Hid ((∀ l ∈ t.l, l.length ≤ 1000) ∧ own.length ≤ 1000)) (hsz : a0.tmps.size = 119) : StepF Try.prog Q ops_rgV a0 (fun (L : Nat → Bool) (a : Act) (W : World) => Ext w0 W ∧ RV w0 B t' tells d o L a W) (F_rgV w0 B tb g k n t t' own ov vr oa on oc un uc ar cr d o tells) 10 := by
  have ST : StaysF (F_rgV w0 B tb g k n t t' own ov vr oa on oc un uc ar cr d o tells) ops_rgV.size := by rw [rgV_size]; exact rgV_stays w0 B tb g k n t t' own ov vr oa on oc un uc ar cr d o tells
  have k0 : (0 : Int) ≤ k := by omega
  have k1 : (k : Int) < un := by omega
  have HI : ∀ (L : Nat → Bool) (i : Nat) (a : Act) (e : Nat) (v : Value) (W W' : World), (Ext w0 W ∧ RV w0 B t' tells d o L a W) → Ext W W' → (8 ≠ i ∧ 9 ≠ i ∧ 10 ≠ i ∧ 12 ≠ i ∧ 17 ≠ i ∧ 14 ≠ i ∧ 15 ≠ i) → (77 ≠ e ∧ 68 ≠ e ∧ 78 ≠ e ∧ 80 ≠ e ∧ 15 ≠ e ∧ 13 ≠ e) → (Ext w0 W' ∧ RV w0 B t' tells d o (upd L i) (a.put (some e) v) W') := fun L i a e v W W' h hx hi he => ⟨h.1.trans hx, h.2.on hx hi he⟩
  refine step_free fun o ho => ?_
  have ho' := ho
  cases ho'
  refine ⟨rfl, fun L a W hL hd hJ K hK => ?_⟩
  have f68 := hJ.dep ho hd (k := 9) (t := 68) (by kernel_rfl) (by kernel_rfl)
  obtain ⟨a1, c1, a2, c2, h1, h2, h3, h4, h5, h6, h7⟩ := hJ.inv.2 (hJ.lead ho hd (k := 8) 7 (by kernel_rfl))
  have g68 : a.tmps[68]?.getD undef = _ := h2 (hJ.lead ho hd (k := 9) 7 (by kernel_rfl))
  unfold tupV at g68
  conv => arg 2; whnf
  go_simp
  exact hK _ _ ⟨hJ.inv.1, fun _ => ⟨a1, c1, a2, c2, (V_ne (by decide)).trans h1, fun e' => (V_ne (by decide)).trans (h2 (by rwa [upd_ne (by decide)] at e')), fun _ => V_same (by rw [hJ.size, hsz]; decide), fun e' => (V_ne (by decide)).trans (h4 (by rwa [upd_ne (by decide)] at e')), fun e' => (V_ne (by decide)).trans (h5 (by rwa [upd_ne (by decide)] at e')), fun e' => h6 (by rwa [upd_ne (by decide)] at e'), fun e' => (by rw [upd_ne (by decide)] at e'; obtain ⟨q, g1, g2, g3, g4, g5⟩ := h7 e'; exact ⟨q, (V_ne (by decide)).trans g1, g2, g3, g4, fun e2 => g5 (by rwa [upd_ne (by decide)] at e2)⟩)⟩⟩ (hJ.frame ST hL (Ext.refl _)) trivial
set_option maxRecDepth 100000 in
set_option maxHeartbeats 4000000 in
theorem rgV_op11 (a0 : Act) (Q : Exit → Act → World → Prop) (w0 : World) (B : Nat → Prop) (tb g k n : Nat) (t t' : Tk) (own : List Tm) (ov vr : Value) (oa : Option Addr) (on oc un uc : Nat) (ar : Option Addr) (cr : Nat) (d o : Bool) (tells : List (List Tm)) (v6 : V a0 6 = .pointer (some ⟨tb, 0, none⟩)) (v7 : V a0 7 = .slice (some ⟨g, 0, none⟩) un uc) (v11 : V a0 11 = .int .i64 k) (v12 : V a0 12 = ov) (v5 : V a0 5 = .int .i64 n) (hB : ∀ b, B b → b < w0.heap.size) (ht : BoxK w0 tb t B) (hl : Hid (t.l.length = 1)) (hu : UnAt w0 g k vr) (hvr : Hid (vr = .slice ar 1 cr)) (hred : Rs tml B w0 [[]] vr) (hov : Hid (ov = .slice oa on oc)) (hown : Rs tmE B w0 own ov) (hk : k < un) (hv : Hid (visS t (Un.zero [[]]) [own] n = (t', d, tells, o))) (hs : Hid ((∀ l ∈ t.l, l.length ≤ 1000) ∧ own.length ≤ 1000)) (hsz : a0.tmps.size = 119) : StepF Try.prog Q ops_rgV a0 (fun (L : Nat → Bool) (a : Act) (W : World) => Ext w0 W ∧ RV w0 B t' tells d o L a W) (F_rgV w0 B tb g k n t t' own ov vr oa on oc un uc ar cr d o tells) 11 := by
  have ST : StaysF (F_rgV w0 B tb g k n t t' own ov vr oa on oc un uc ar cr d o tells) ops_rgV.size := by rw [rgV_size]; exact rgV_stays w0 B tb g k n t t' own ov vr oa on oc un uc ar cr d o tells
  have k0 : (0 : Int) ≤ k := by omega
  have k1 : (k : Int) < un := by omega
  have HI : ∀ (L : Nat → Bool) (i : Nat) (a : Act) (e : Nat) (v : Value) (W W' : World), (Ext w0 W ∧ RV w0 B t' tells d o L a W) → Ext W W' → (8 ≠ i ∧ 9 ≠ i ∧ 10 ≠ i ∧ 12 ≠ i ∧ 17 ≠ i ∧ 14 ≠ i ∧ 15 ≠ i) → (77 ≠ e ∧ 68 ≠ e ∧ 78 ≠ e ∧ 80 ≠ e ∧ 15 ≠ e ∧ 13 ≠ e) → (Ext w0 W' ∧ RV w0 B t' tells d o (upd L i) (a.put (some e) v) W') := fun L i a e v W W' h hx hi he => ⟨h.1.trans hx, h.2.on hx hi he⟩
  refine step_free fun o ho => ?_
  have ho' := ho
  cases ho'
  refine ⟨rfl, fun L a W hL hd hJ K hK => ?_⟩
  have f68 := hJ.dep ho hd (k := 9) (t := 68) (by kernel_rfl) (by kernel_rfl)
  obtain ⟨a1, c1, a2, c2, h1, h2, h3, h4, h5, h6, h7⟩ := hJ.inv.2 (hJ.lead ho hd (k := 8) 7 (by kernel_rfl))
  have g68 : a.tmps[68]?.getD undef = _ := h2 (hJ.lead ho hd (k := 9) 7 (by kernel_rfl))
  unfold tupV at g68
  conv => arg 2; whnf
  go_simp
  exact hK _ _ (HI _ _ _ 79 _ _ _ hJ.inv (Ext.refl _) (by decide) (by decide)) (hJ.frame ST hL (Ext.refl _)) rfl
set_option maxRecDepth 100000 in
set_option maxHeartbeats 4000000 in
theorem rgV_op12 (a0 : Act) (Q : Exit → Act → World → Prop) (w0 : World) (B : Nat → Prop) (tb g k n : Nat) (t t' : Tk) (own : List Tm) (ov vr : Value) (oa : Option Addr) (on oc un uc : Nat) (ar : Option Addr) (cr : Nat) (d o : Bool) (tells : List (List Tm)) (v6 : V a0 6 = .pointer (some ⟨tb, 0, none⟩)) (v7 : V a0 7 = .slice (some ⟨g, 0, none⟩) un uc) (v11 : V a0 11 = .int .i64 k) (v12 : V a0 12 = ov) (v5 : V a0 5 = .int .i64 n) (hB : ∀ b, B b → b < w0.heap.size) (ht : BoxK w0 tb t B) (hl : Hid (t.l.length = 1)) (hu : UnAt w0 g k vr) (hvr : Hid (vr = .slice ar 1 cr)) (hred : Rs tml B w0 [[]] vr) (hov : Hid (ov = .slice oa on oc)) (hown : Rs tmE B w0 own ov) (hk : k < un) (hv : Hid (visS t (Un.zero [[]]) [own] n = (t', d, tells, o))) (hs : Hid ((∀ l ∈ t.l, l.length ≤ 1000) ∧ own.length ≤ 1000)) (hsz : a0.tmps.size = 119) : StepF Try.prog Q ops_rgV a0 (fun (L : Nat → Bool) (a : Act) (W : World) => Ext w0 W ∧ RV w0 B t' tells d o L a W) (F_rgV w0 B tb g k n t t' own ov vr oa on oc un uc ar cr d o tells) 12 := by
  have ST : StaysF (F_rgV w0 B tb g k n t t' own ov vr oa on oc un uc ar cr d o tells) ops_rgV.size := by rw [rgV_size]; exact rgV_stays w0 B tb g k n t t' own ov vr oa on oc un uc ar cr d o tells
  have k0 : (0 : Int) ≤ k := by omega
  have k1 : (k : Int) < un := by omega
  have HI : ∀ (L : Nat → Bool) (i : Nat) (a : Act) (e : Nat) (v : Value) (W W' : World), (Ext w0 W ∧ RV w0 B t' tells d o L a W) → Ext W W' → (8 ≠ i ∧ 9 ≠ i ∧ 10 ≠ i ∧ 12 ≠ i ∧ 17 ≠ i ∧ 14 ≠ i ∧ 15 ≠ i) → (77 ≠ e ∧ 68 ≠ e ∧ 78 ≠ e ∧ 80 ≠ e ∧ 15 ≠ e ∧ 13 ≠ e) → (Ext w0 W' ∧ RV w0 B t' tells d o (upd L i) (a.put (some e) v) W') := fun L i a e v W W' h hx hi he => ⟨h.1.trans hx, h.2.on hx hi he⟩
  refine step_free fun o ho => ?_
  have ho' := ho
  cases ho'
  refine ⟨rfl, fun L a W hL hd hJ K hK => ?_⟩
  have f68 := hJ.dep ho hd (k := 9) (t := 68) (by kernel_rfl) (by kernel_rfl)
  obtain ⟨a1, c1, a2, c2, h1, h2, h3, h4, h5, h6, h7⟩ := hJ.inv.2 (hJ.lead ho hd (k := 8) 7 (by kernel_rfl))
  have g68 : a.tmps[68]?.getD undef = _ := h2 (hJ.lead ho hd (k := 9) 7 (by kernel_rfl))
  unfold tupV at g68
  conv => arg 2; whnf
  go_simp
  exact hK _ _ ⟨hJ.inv.1, fun _ => ⟨a1, c1, a2, c2, (V_ne (by decide)).trans h1, fun e' => (V_ne (by decide)).trans (h2 (by rwa [upd_ne (by decide)] at e')), fun e' => (V_ne (by decide)).trans (h3 (by rwa [upd_ne (by decide)] at e')), fun _ => V_same (by rw [hJ.size, hsz]; decide), fun e' => (V_ne (by decide)).trans (h5 (by rwa [upd_ne (by decide)] at e')), fun e' => h6 (by rwa [upd_ne (by decide)] at e'), fun e' => (by rw [upd_ne (by decide)] at e'; obtain ⟨q, g1, g2, g3, g4, g5⟩ := h7 e'; exact ⟨q, (V_ne (by decide)).trans g1, g2, g3, g4, fun e2 => g5 (by rwa [upd_ne (by decide)] at e2)⟩)⟩⟩ (hJ.frame ST hL (Ext.refl _)) trivial
set_option maxRecDepth 100000 in
set_option maxHeartbeats 4000000 in
theorem rgV_op13 (a0 : Act) (Q : Exit → Act → World → Prop) (w0 : World) (B : Nat → Prop) (tb g k n : Nat) (t t' : Tk) (own : List Tm) (ov vr : Value) (oa : Option Addr) (on oc un uc : Nat) (ar : Option Addr) (cr : Nat) (d o : Bool) (tells : List (List Tm)) (v6 : V a0 6 = .pointer (some ⟨tb, 0, none⟩)) (v7 : V a0 7 = .slice (some ⟨g, 0, none⟩) un uc) (v11 : V a0 11 = .int .i64 k) (v12 : V a0 12 = ov) (v5 : V a0 5 = .int .i64 n) (hB : ∀ b, B b → b < w0.heap.size) (ht : BoxK w0 tb t B) (hl : Hid (t.l.length = 1)) (hu : UnAt w0 g k vr) (hvr : Hid (vr = .slice ar 1 cr)) (hred : Rs tml B w0 [[]] vr) (hov : Hid (ov = .slice oa on oc)) (hown : Rs tmE B w0 own ov) (hk : k < un) (hv : Hid (visS t (Un.zero [[]]) [own] n = (t', d, tells, o))) (hs : Hid ((∀ l ∈ t.l, l.length ≤ 1000) ∧ own.length ≤ 1000)) (hsz : a0.tmps.size = 119) : StepF Try.prog Q ops_rgV a0 (fun (L : Nat → Bool) (a : Act) (W : World) => Ext w0 W ∧ RV w0 B t' tells d o L a W) (F_rgV w0 B tb g k n t t' own ov vr oa on oc un uc ar cr d o tells) 13 := by
  have ST : StaysF (F_rgV w0 B tb g k n t t' own ov vr oa on oc un uc ar cr d o tells) ops_rgV.size := by rw [rgV_size]; exact rgV_stays w0 B tb g k n t t' own ov vr oa on oc un uc ar cr d o tells
  have k0 : (0 : Int) ≤ k := by omega
  have k1 : (k : Int) < un := by omega
  have HI : ∀ (L : Nat → Bool) (i : Nat) (a : Act) (e : Nat) (v : Value) (W W' : World), (Ext w0 W ∧ RV w0 B t' tells d o L a W) → Ext W W' → (8 ≠ i ∧ 9 ≠ i ∧ 10 ≠ i ∧ 12 ≠ i ∧ 17 ≠ i ∧ 14 ≠ i ∧ 15 ≠ i) → (77 ≠ e ∧ 68 ≠ e ∧ 78 ≠ e ∧ 80 ≠ e ∧ 15 ≠ e ∧ 13 ≠ e) → (Ext w0 W' ∧ RV w0 B t' tells d o (upd L i) (a.put (some e) v) W') := fun L i a e v W W' h hx hi he => ⟨h.1.trans hx, h.2.on hx hi he⟩
  refine step_free fun o ho => ?_
  have ho' := ho
  cases ho'
  refine ⟨rfl, fun L a W hL hd hJ K hK => ?_⟩
  have f68 := hJ.dep ho hd (k := 9) (t := 68) (by kernel_rfl) (by kernel_rfl)
  obtain ⟨a1, c1, a2, c2, h1, h2, h3, h4, h5, h6, h7⟩ := hJ.inv.2 (hJ.lead ho hd (k := 8) 7 (by kernel_rfl))
  have g68 : a.tmps[68]?.getD undef = _ := h2 (hJ.lead ho hd (k := 9) 7 (by kernel_rfl))
  unfold tupV at g68
  conv => arg 2; whnf
  go_simp
  exact hK _ _ (HI _ _ _ 81 _ _ _ hJ.inv (Ext.refl _) (by decide) (by decide)) (hJ.frame ST hL (Ext.refl _)) rfl
set_option maxRecDepth 100000 in
set_option maxHeartbeats 4000000 in
theorem rgV_op14 (a0 : Act) (Q : Exit → Act → World → Prop) (w0 : World) (B : Nat → Prop) (tb g k n : Nat) (t t' : Tk) (own : List Tm) (ov vr : Value) (oa : Option Addr) (on oc un uc : Nat) (ar : Option Addr) (cr : Nat) (d o : Bool) (tells : List (List Tm)) (v6 : V a0 6 = .pointer (some ⟨tb, 0, none⟩)) (v7 : V a0 7 = .slice (some ⟨g, 0, none⟩) un uc) (v11 : V a0 11 = .int .i64 k) (v12 : V a0 12 = ov) (v5 : V a0 5 = .int .i64 n) (hB : ∀ b, B b → b < w0.heap.size) (ht : BoxK w0 tb t B) (hl : Hid (t.l.length = 1)) (hu : UnAt w0 g k vr) (hvr : Hid (vr = .slice ar 1 cr)) (hred : Rs tml B w0 [[]] vr) (hov : Hid (ov = .slice oa on oc)) (hown : Rs tmE B w0 own ov) (hk : k < un) (hv : Hid (visS t (Un.zero [[]]) [own] n = (t', d, tells, o))) (hs : Hid ((∀ l ∈ t.l, l.length ≤ 1000) ∧ own.length ≤ 1000)) (hsz : a0.tmps.size = 119) : StepF Try.prog Q ops_rgV a0 (fun (L : Nat → Bool) (a : Act) (W : World) => Ext w0 W ∧ RV w0 B t' tells d o L a W) (F_rgV w0 B tb g k n t t' own ov vr oa on oc un uc ar cr d o tells) 14 := by
  have ST : StaysF (F_rgV w0 B tb g k n t t' own ov vr oa on oc un uc ar cr d o tells) ops_rgV.size := by rw [rgV_size]; exact rgV_stays w0 B tb g k n t t' own ov vr oa on oc un uc ar cr d o tells
  have k0 : (0 : Int) ≤ k := by omega
  have k1 : (k : Int) < un := by omega
  have HI : ∀ (L : Nat → Bool) (i : Nat) (a : Act) (e : Nat) (v : Value) (W W' : World), (Ext w0 W ∧ RV w0 B t' tells d o L a W) → Ext W W' → (8 ≠ i ∧ 9 ≠ i ∧ 10 ≠ i ∧ 12 ≠ i ∧ 17 ≠ i ∧ 14 ≠ i ∧ 15 ≠ i) → (77 ≠ e ∧ 68 ≠ e ∧ 78 ≠ e ∧ 80 ≠ e ∧ 15 ≠ e ∧ 13 ≠ e) → (Ext w0 W' ∧ RV w0 B t' tells d o (upd L i) (a.put (some e) v) W') := fun L i a e v W W' h hx hi he => ⟨h.1.trans hx, h.2.on hx hi he⟩
  refine step_free fun o ho => ?_
  have ho' := ho
  cases ho'
  refine ⟨rfl, fun L a W hL hd hJ K hK => ?_⟩
  have hn15 : L 15 = false := Bool.eq_false_iff.2 (fun h => by rw [hJ.anc 12 14 15 (by kernel_rfl) h] at hL; cases hL)
  conv => arg 2; whnf
  go_simp
  refine hK _ _ ⟨hJ.inv.1.alloc _, fun e8 => ?_⟩ (hJ.frame ST hL ((Ext.refl _).alloc _)) ⟨_, rfl, hJ.inv.1.le, fun _ => alloc_at _ _ _ rfl⟩
  rw [upd_ne (by decide)] at e8
  obtain ⟨a1, c1, a2, c2, h1, h2, h3, h4, h5, h6, h7⟩ := hJ.inv.2 e8
  have hof : ∀ {l : List (List Tm)} {v : Value}, Rs tml B W l v → Rs tml (fun b => B b ∨ b = W.heap.size) (W.alloc (.cells #[.int .i64 0, .int .i64 0, .int .i64 0, .int .i64 0, .slice none 0 0] 24 (0, 0))) l v := fun h => (h.off (fun b hb => hb.imp id (fun e => by omega))).on ((Ext.refl _).alloc _)
  exact ⟨a1, c1, a2, c2, (V_ne (by decide)).trans h1, fun e' => (V_ne (by decide)).trans (h2 (by rwa [upd_ne (by decide)] at e')), fun e' => (V_ne (by decide)).trans (h3 (by rwa [upd_ne (by decide)] at e')), fun e' => (V_ne (by decide)).trans (h4 (by rwa [upd_ne (by decide)] at e')), fun e' => (V_ne (by decide)).trans (h5 (by rwa [upd_ne (by decide)] at e')), fun e => absurd e (by rw [upd_at]; decide), fun _ => ⟨_, V_same (by rw [hJ.size, hsz]; decide), hJ.inv.1.le, hof (h6 hL).1, hof (h6 hL).2, fun e => absurd e (by rw [upd_ne (by decide), hn15]; decide)⟩⟩
set_option maxRecDepth 100000 in
set_option maxHeartbeats 4000000 in
theorem rgV_op15 (a0 : Act) (Q : Exit → Act → World → Prop) (w0 : World) (B : Nat → Prop) (tb g k n : Nat) (t t' : Tk) (own : List Tm) (ov vr : Value) (oa : Option Addr) (on oc un uc : Nat) (ar : Option Addr) (cr : Nat) (d o : Bool) (tells : List (List Tm)) (v6 : V a0 6 = .pointer (some ⟨tb, 0, none⟩)) (v7 : V a0 7 = .slice (some ⟨g, 0, none⟩) un uc) (v11 : V a0 11 = .int .i64 k) (v12 : V a0 12 = ov) (v5 : V a0 5 = .int .i64 n) (hB : ∀ b, B b → b < w0.heap.size) (ht : BoxK w0 tb t B) (hl : Hid (t.l.length = 1)) (hu : UnAt w0 g k vr) (hvr : Hid (vr = .slice ar 1 cr)) (hred : Rs tml B w0 [[]] vr) (hov : Hid (ov = .slice oa on oc)) (hown : Rs tmE B w0 own ov) (hk : k < un) (hv : Hid (visS t (Un.zero [[]]) [own] n = (t', d, tells, o))) (hs : Hid ((∀ l ∈ t.l, l.length ≤ 1000) ∧ own.length ≤ 1000)) (hsz : a0.tmps.size = 119) : StepF Try.prog Q ops_rgV a0 (fun (L : Nat → Bool) (a : Act) (W : World) => Ext w0 W ∧ RV w0 B t' tells d o L a W) (F_rgV w0 B tb g k n t t' own ov vr oa on oc un uc ar cr d o tells) 15 := by
  have ST : StaysF (F_rgV w0 B tb g k n t t' own ov vr oa on oc un uc ar cr d o tells) ops_rgV.size := by rw [rgV_size]; exact rgV_stays w0 B tb g k n t t' own ov vr oa on oc un uc ar cr d o tells
  have k0 : (0 : Int) ≤ k := by omega
  have k1 : (k : Int) < un := by omega
  have HI : ∀ (L : Nat → Bool) (i : Nat) (a : Act) (e : Nat) (v : Value) (W W' : World), (Ext w0 W ∧ RV w0 B t' tells d o L a W) → Ext W W' → (8 ≠ i ∧ 9 ≠ i ∧ 10 ≠ i ∧ 12 ≠ i ∧ 17 ≠ i ∧ 14 ≠ i ∧ 15 ≠ i) → (77 ≠ e ∧ 68 ≠ e ∧ 78 ≠ e ∧ 80 ≠ e ∧ 15 ≠ e ∧ 13 ≠ e) → (Ext w0 W' ∧ RV w0 B t' tells d o (upd L i) (a.put (some e) v) W') := fun L i a e v W W' h hx hi he => ⟨h.1.trans hx, h.2.on hx hi he⟩
  refine step_free fun o ho => ?_
  have ho' := ho
  cases ho'
  refine ⟨rfl, fun L a W hL hd hJ K hK => ?_⟩
  have f13 := hJ.dep ho hd (k := 14) (t := 13) (by kernel_rfl) (by kernel_rfl)
  have f78 := hJ.dep ho hd (k := 10) (t := 78) (by kernel_rfl) (by kernel_rfl)
  obtain ⟨a1, c1, a2, c2, h1, h2, h3, h4, h5, h6, h7⟩ := hJ.inv.2 (hJ.lead ho hd (k := 8) 7 (by kernel_rfl))
  have l8 := hJ.lead ho hd (k := 8) 7 (by kernel_rfl)
  have l14 := hJ.lead ho hd (k := 14) 7 (by kernel_rfl)
  obtain ⟨q, g1, g2, g3, g4, g5⟩ := h7 l14
  obtain ⟨q', e1, -, e3⟩ := f13
  obtain rfl : q = q' := by
    have := g1.symm.trans e1
    simpa using this
  have g78 : a.tmps[78]?.getD undef = _ := h3 (hJ.lead ho hd (k := 10) 7 (by kernel_rfl))
  have g13 : a.tmps[13]?.getD undef = _ := g1
  unfold Tk.agg at g78
  have hz := e3 hL
  obtain ⟨z0, z1, z2, z3, z4, zl, zf⟩ := box5 hz
  have zf0 := zf 0
  have zf1 := zf 1
  have zf2 := zf 2
  have zf3 := zf 3
  have zf4 := zf 4
  clear zf e1 e3
  conv => arg 2; whnf
  go_simp
  refine hK undef _ ⟨((((hJ.inv.1.setCell g2 _).setCell g2 _).setCell g2 _).setCell g2 _).setCell g2 _, fun _ => ?_⟩ (fun k hk hl => by
      have hf := hJ.fx k hk hl
      match k, hk, hl, hf with
      | 0, hk, hl, hf => exact hf
      | 1, hk, hl, hf => exact hf
      | 2, hk, hl, hf => exact hf
      | 3, hk, hl, hf => exact hf
      | 4, hk, hl, hf => exact hf
      | 5, hk, hl, hf => exact hf
      | 6, hk, hl, hf => exact fun e => absurd e (by rw [upd_ne (by decide), l8]; decide)
      | 7, hk, hl, hf => exact hf
      | 8, hk, hl, hf => exact hf
      | 9, hk, hl, hf => exact hf
      | 10, hk, hl, hf => exact hf
      | 11, hk, hl, hf => exact hf
      | 12, hk, hl, hf => exact hf
      | 13, hk, hl, hf => exact hf
      | 14, hk, hl, hf => (obtain ⟨q0, i0, i1, -⟩ := hf; exact ⟨q0, i0, i1, fun e => absurd e (by rw [upd_at]; decide)⟩)
      | 15, hk, hl, hf => exact trivial
      | 16, hk, hl, hf => exact hf
      | 17, hk, hl, hf => exact hf
      | 18, hk, hl, hf => exact hf
      | q + 19, hk, _, _ => exact absurd hk (by rw [rgV_size]; omega)) trivial
  obtain ⟨k6, k7⟩ := box5_set hz rfl
  exact ⟨a1, c1, a2, c2, h1, fun e => h2 (by rwa [upd_ne (by decide)] at e), fun e => h3 (by rwa [upd_ne (by decide)] at e), fun e => h4 (by rwa [upd_ne (by decide)] at e), fun e => h5 (by rwa [upd_ne (by decide)] at e), fun e => absurd e (by rw [upd_ne (by decide), l14]; decide), fun _ => ⟨q, g1, g2, g3.keep (k7.weak fun b hb => .inr hb), g4.keep (k7.weak fun b hb => .inr hb), fun _ => k6⟩⟩
set_option maxRecDepth 100000 in
set_option maxHeartbeats 4000000 in
theorem rgV_op16 (a0 : Act) (Q : Exit → Act → World → Prop) (w0 : World) (B : Nat → Prop) (tb g k n : Nat) (t t' : Tk) (own : List Tm) (ov vr : Value) (oa : Option Addr) (on oc un uc : Nat) (ar : Option Addr) (cr : Nat) (d o : Bool) (tells : List (List Tm)) (v6 : V a0 6 = .pointer (some ⟨tb, 0, none⟩)) (v7 : V a0 7 = .slice (some ⟨g, 0, none⟩) un uc) (v11 : V a0 11 = .int .i64 k) (v12 : V a0 12 = ov) (v5 : V a0 5 = .int .i64 n) (hB : ∀ b, B b → b < w0.heap.size) (ht : BoxK w0 tb t B) (hl : Hid (t.l.length = 1)) (hu : UnAt w0 g k vr) (hvr : Hid (vr = .slice ar 1 cr)) (hred : Rs tml B w0 [[]] vr) (hov : Hid (ov = .slice oa on oc)) (hown : Rs tmE B w0 own ov) (hk : k < un) (hv : Hid (visS t (Un.zero [[]]) [own] n = (t', d, tells, o))) (hs : Hid ((∀ l ∈ t.l, l.length ≤ 1000) ∧ own.length ≤ 1000)) (hsz : a0.tmps.size = 119) : StepF Try.prog Q ops_rgV a0 (fun (L : Nat → Bool) (a : Act) (W : World) => Ext w0 W ∧ RV w0 B t' tells d o L a W) (F_rgV w0 B tb g k n t t' own ov vr oa on oc un uc ar cr d o tells) 16 := by
  have ST : StaysF (F_rgV w0 B tb g k n t t' own ov vr oa on oc un uc ar cr d o tells) ops_rgV.size := by rw [rgV_size]; exact rgV_stays w0 B tb g k n t t' own ov vr oa on oc un uc ar cr d o tells
  have k0 : (0 : Int) ≤ k := by omega
  have k1 : (k : Int) < un := by omega
  have HI : ∀ (L : Nat → Bool) (i : Nat) (a : Act) (e : Nat) (v : Value) (W W' : World), (Ext w0 W ∧ RV w0 B t' tells d o L a W) → Ext W W' → (8 ≠ i ∧ 9 ≠ i ∧ 10 ≠ i ∧ 12 ≠ i ∧ 17 ≠ i ∧ 14 ≠ i ∧ 15 ≠ i) → (77 ≠ e ∧ 68 ≠ e ∧ 78 ≠ e ∧ 80 ≠ e ∧ 15 ≠ e ∧ 13 ≠ e) → (Ext w0 W' ∧ RV w0 B t' tells d o (upd L i) (a.put (some e) v) W') := fun L i a e v W W' h hx hi he => ⟨h.1.trans hx, h.2.on hx hi he⟩
  refine step_free fun o ho => ?_
  have ho' := ho
  cases ho'
  refine ⟨rfl, fun L a W hL hd hJ K hK => ?_⟩
  have f79 : a.tmps[79]?.getD undef = _ := hJ.dep ho hd (k := 11) (t := 79) (by kernel_rfl) (by kernel_rfl)
  conv => arg 2; whnf
  go_simp
  exact hK _ _ (HI _ _ _ 14 _ _ _ hJ.inv (Ext.refl _) (by decide) (by decide)) (hJ.frame ST hL (Ext.refl _)) rfl
set_option maxRecDepth 100000 in
set_option maxHeartbeats 4000000 in
theorem rgV_op17 (a0 : Act) (Q : Exit → Act → World → Prop) (w0 : World) (B : Nat → Prop) (tb g k n : Nat) (t t' : Tk) (own : List Tm) (ov vr : Value) (oa : Option Addr) (on oc un uc : Nat) (ar : Option Addr) (cr : Nat) (d o : Bool) (tells : List (List Tm)) (v6 : V a0 6 = .pointer (some ⟨tb, 0, none⟩)) (v7 : V a0 7 = .slice (some ⟨g, 0, none⟩) un uc) (v11 : V a0 11 = .int .i64 k) (v12 : V a0 12 = ov) (v5 : V a0 5 = .int .i64 n) (hB : ∀ b, B b → b < w0.heap.size) (ht : BoxK w0 tb t B) (hl : Hid (t.l.length = 1)) (hu : UnAt w0 g k vr) (hvr : Hid (vr = .slice ar 1 cr)) (hred : Rs tml B w0 [[]] vr) (hov : Hid (ov = .slice oa on oc)) (hown : Rs tmE B w0 own ov) (hk : k < un) (hv : Hid (visS t (Un.zero [[]]) [own] n = (t', d, tells, o))) (hs : Hid ((∀ l ∈ t.l, l.length ≤ 1000) ∧ own.length ≤ 1000)) (hsz : a0.tmps.size = 119) : StepF Try.prog Q ops_rgV a0 (fun (L : Nat → Bool) (a : Act) (W : World) => Ext w0 W ∧ RV w0 B t' tells d o L a W) (F_rgV w0 B tb g k n t t' own ov vr oa on oc un uc ar cr d o tells) 17 := by
  have ST : StaysF (F_rgV w0 B tb g k n t t' own ov vr oa on oc un uc ar cr d o tells) ops_rgV.size := by rw [rgV_size]; exact rgV_stays w0 B tb g k n t t' own ov vr oa on oc un uc ar cr d o tells
  have k0 : (0 : Int) ≤ k := by omega
  have k1 : (k : Int) < un := by omega
  have HI : ∀ (L : Nat → Bool) (i : Nat) (a : Act) (e : Nat) (v : Value) (W W' : World), (Ext w0 W ∧ RV w0 B t' tells d o L a W) → Ext W W' → (8 ≠ i ∧ 9 ≠ i ∧ 10 ≠ i ∧ 12 ≠ i ∧ 17 ≠ i ∧ 14 ≠ i ∧ 15 ≠ i) → (77 ≠ e ∧ 68 ≠ e ∧ 78 ≠ e ∧ 80 ≠ e ∧ 15 ≠ e ∧ 13 ≠ e) → (Ext w0 W' ∧ RV w0 B t' tells d o (upd L i) (a.put (some e) v) W') := fun L i a e v W W' h hx hi he => ⟨h.1.trans hx, h.2.on hx hi he⟩
  refine step_free fun o ho => ?_
  have ho' := ho
  cases ho'
  refine ⟨rfl, fun L a W hL hd hJ K hK => ?_⟩
  have f80 := hJ.dep ho hd (k := 12) (t := 80) (by kernel_rfl) (by kernel_rfl)
  obtain ⟨a1, c1, a2, c2, h1, h2, h3, h4, h5, h6, h7⟩ := hJ.inv.2 (hJ.lead ho hd (k := 8) 7 (by kernel_rfl))
  have g80 : a.tmps[80]?.getD undef = _ := h4 (hJ.lead ho hd (k := 12) 7 (by kernel_rfl))
  conv => arg 2; whnf
  go_simp
  exact hK _ _ ⟨hJ.inv.1, fun _ => ⟨a1, c1, a2, c2, (V_ne (by decide)).trans h1, fun e' => (V_ne (by decide)).trans (h2 (by rwa [upd_ne (by decide)] at e')), fun e' => (V_ne (by decide)).trans (h3 (by rwa [upd_ne (by decide)] at e')), fun e' => (V_ne (by decide)).trans (h4 (by rwa [upd_ne (by decide)] at e')), fun _ => V_same (by rw [hJ.size, hsz]; decide), fun e' => h6 (by rwa [upd_ne (by decide)] at e'), fun e' => (by rw [upd_ne (by decide)] at e'; obtain ⟨q, g1, g2, g3, g4, g5⟩ := h7 e'; exact ⟨q, (V_ne (by decide)).trans g1, g2, g3, g4, fun e2 => g5 (by rwa [upd_ne (by decide)] at e2)⟩)⟩⟩ (hJ.frame ST hL (Ext.refl _)) trivial
set_option maxRecDepth 100000 in
set_option maxHeartbeats 4000000 in
theorem rgV_op18 (a0 : Act) (Q : Exit → Act → World → Prop) (w0 : World) (B : Nat → Prop) (tb g k n : Nat) (t t' : Tk) (own : List Tm) (ov vr : Value) (oa : Option Addr) (on oc un uc : Nat) (ar : Option Addr) (cr : Nat) (d o : Bool) (tells : List (List Tm)) (v6 : V a0 6 = .pointer (some ⟨tb, 0, none⟩)) (v7 : V a0 7 = .slice (some ⟨g, 0, none⟩) un uc) (v11 : V a0 11 = .int .i64 k) (v12 : V a0 12 = ov) (v5 : V a0 5 = .int .i64 n) (hB : ∀ b, B b → b < w0.heap.size) (ht : BoxK w0 tb t B) (hl : Hid (t.l.length = 1)) (hu : UnAt w0 g k vr) (hvr : Hid (vr = .slice ar 1 cr)) (hred : Rs tml B w0 [[]] vr) (hov : Hid (ov = .slice oa on oc)) (hown : Rs tmE B w0 own ov) (hk : k < un) (hv : Hid (visS t (Un.zero [[]]) [own] n = (t', d, tells, o))) (hs : Hid ((∀ l ∈ t.l, l.length ≤ 1000) ∧ own.length ≤ 1000)) (hsz : a0.tmps.size = 119) : StepF Try.prog Q ops_rgV a0 (fun (L : Nat → Bool) (a : Act) (W : World) => Ext w0 W ∧ RV w0 B t' tells d o L a W) (F_rgV w0 B tb g k n t t' own ov vr oa on oc un uc ar cr d o tells) 18 := by
  have ST : StaysF (F_rgV w0 B tb g k n t t' own ov vr oa on oc un uc ar cr d o tells) ops_rgV.size := by rw [rgV_size]; exact rgV_stays w0 B tb g k n t t' own ov vr oa on oc un uc ar cr d o tells
  have k0 : (0 : Int) ≤ k := by omega
  have k1 : (k : Int) < un := by omega
  have HI : ∀ (L : Nat → Bool) (i : Nat) (a : Act) (e : Nat) (v : Value) (W W' : World), (Ext w0 W ∧ RV w0 B t' tells d o L a W) → Ext W W' → (8 ≠ i ∧ 9 ≠ i ∧ 10 ≠ i ∧ 12 ≠ i ∧ 17 ≠ i ∧ 14 ≠ i ∧ 15 ≠ i) → (77 ≠ e ∧ 68 ≠ e ∧ 78 ≠ e ∧ 80 ≠ e ∧ 15 ≠ e ∧ 13 ≠ e) → (Ext w0 W' ∧ RV w0 B t' tells d o (upd L i) (a.put (some e) v) W') := fun L i a e v W W' h hx hi he => ⟨h.1.trans hx, h.2.on hx hi he⟩
  refine step_free fun o ho => ?_
  have ho' := ho
  cases ho'
  refine ⟨rfl, fun L a W hL hd hJ K hK => ?_⟩
  have f81 : a.tmps[81]?.getD undef = _ := hJ.dep ho hd (k := 13) (t := 81) (by kernel_rfl) (by kernel_rfl)
  conv => arg 2; whnf
  go_simp
  exact hK _ _ (HI _ _ _ 16 _ _ _ hJ.inv (Ext.refl _) (by decide) (by decide)) (hJ.frame ST hL (Ext.refl _)) rfl
set_option maxRecDepth 100000 in
set_option maxHeartbeats 8000000 in
theorem rgV (a0 : Act) (Q : Exit → Act → World → Prop) (w0 : World) (B : Nat → Prop) (tb g k n : Nat) (t t' : Tk) (own : List Tm) (ov vr : Value) (oa : Option Addr) (on oc un uc : Nat) (ar : Option Addr) (cr : Nat) (d o : Bool) (tells : List (List Tm)) (v6 : V a0 6 = .pointer (some ⟨tb, 0, none⟩)) (v7 : V a0 7 = .slice (some ⟨g, 0, none⟩) un uc) (v11 : V a0 11 = .int .i64 k) (v12 : V a0 12 = ov) (v5 : V a0 5 = .int .i64 n) (hB : ∀ b, B b → b < w0.heap.size) (ht : BoxK w0 tb t B) (hl : Hid (t.l.length = 1)) (hu : UnAt w0 g k vr) (hvr : Hid (vr = .slice ar 1 cr)) (hred : Rs tml B w0 [[]] vr) (hov : Hid (ov = .slice oa on oc)) (hown : Rs tmE B w0 own ov) (hk : k < un) (hv : Hid (visS t (Un.zero [[]]) [own] n = (t', d, tells, o))) (hs : Hid ((∀ l ∈ t.l, l.length ≤ 1000) ∧ own.length ≤ 1000)) (hsz : a0.tmps.size = 119)
    (hQ : ∀ a W, Near ts_rgV a0 a → Ext w0 W → (∃ q, V a 13 = .pointer (some ⟨q, 0, none⟩) ∧ w0.heap.size ≤ q ∧ BoxK W q t' (fun b => B b ∨ b = q) ∧ ∃ a' c', V a 15 = .slice a' tells.length c' ∧ Rs tml (fun b => B b ∨ b = q) W tells (.slice a' tells.length c')) → V a 14 = .bool d → V a 16 = .bool o → Q .normal a W) : (Code.region 19 ops_rgV true).wp Try.prog Q a0 w0 := by
  have ST : StaysF (F_rgV w0 B tb g k n t t' own ov vr oa on oc un uc ar cr d o tells) ops_rgV.size := by rw [rgV_size]; exact rgV_stays w0 B tb g k n t t' own ov vr oa on oc un uc ar cr d o tells
  have k0 : (0 : Int) ≤ k := by omega
  have k1 : (k : Int) < un := by omega
  have HI : ∀ (L : Nat → Bool) (i : Nat) (a : Act) (e : Nat) (v : Value) (W W' : World), (Ext w0 W ∧ RV w0 B t' tells d o L a W) → Ext W W' → (8 ≠ i ∧ 9 ≠ i ∧ 10 ≠ i ∧ 12 ≠ i ∧ 17 ≠ i ∧ 14 ≠ i ∧ 15 ≠ i) → (77 ≠ e ∧ 68 ≠ e ∧ 78 ≠ e ∧ 80 ≠ e ∧ 15 ≠ e ∧ 13 ≠ e) → (Ext w0 W' ∧ RV w0 B t' tells d o (upd L i) (a.put (some e) v) W') := fun L i a e v W W' h hx hi he => ⟨h.1.trans hx, h.2.on hx hi he⟩
  refine wp_region_facts (fun (L : Nat → Bool) (a : Act) (W : World) => Ext w0 W ∧ RV w0 B t' tells d o L a W) (F_rgV w0 B tb g k n t t' own ov vr oa on oc un uc ar cr d o tells) 19 (by kernel_rfl) rgV_ac rgV_once rgV_size (by rw [hsz]; exact rgV_fits) ⟨(Ext.refl _).drew, fun h => absurd h (by decide)⟩ ?_ ?_ ?_
  · intro iq hd hiq
    have hall : (List.range 19).all (fun i => (dstOf ops_rgV i).isSome || [15].contains i) = true := by kernel_rfl
    rw [List.all_eq_true] at hall
    have h2 := hall iq (List.mem_range.2 hiq)
    rw [hd] at h2
    simp only [Option.isSome_none, Bool.false_or, List.contains_iff_mem, List.mem_cons, List.not_mem_nil, or_false] at h2
    rcases h2 with rfl
    · exact fun _ _ _ _ h => h
  · intro iq hiq
    match iq, hiq with
    | 0, _ => exact rgV_op0 a0 Q w0 B tb g k n t t' own ov vr oa on oc un uc ar cr d o tells v6 v7 v11 v12 v5 hB ht hl hu hvr hred hov hown hk hv hs hsz
    | 1, _ => exact rgV_op1 a0 Q w0 B tb g k n t t' own ov vr oa on oc un uc ar cr d o tells v6 v7 v11 v12 v5 hB ht hl hu hvr hred hov hown hk hv hs hsz
    | 2, _ => exact rgV_op2 a0 Q w0 B tb g k n t t' own ov vr oa on oc un uc ar cr d o tells v6 v7 v11 v12 v5 hB ht hl hu hvr hred hov hown hk hv hs hsz
    | 3, _ => exact rgV_op3 a0 Q w0 B tb g k n t t' own ov vr oa on oc un uc ar cr d o tells v6 v7 v11 v12 v5 hB ht hl hu hvr hred hov hown hk hv hs hsz
    | 4, _ => exact rgV_op4 a0 Q w0 B tb g k n t t' own ov vr oa on oc un uc ar cr d o tells v6 v7 v11 v12 v5 hB ht hl hu hvr hred hov hown hk hv hs hsz
    | 5, _ => exact rgV_op5 a0 Q w0 B tb g k n t t' own ov vr oa on oc un uc ar cr d o tells v6 v7 v11 v12 v5 hB ht hl hu hvr hred hov hown hk hv hs hsz
    | 6, _ => exact rgV_op6 a0 Q w0 B tb g k n t t' own ov vr oa on oc un uc ar cr d o tells v6 v7 v11 v12 v5 hB ht hl hu hvr hred hov hown hk hv hs hsz
    | 7, _ => exact rgV_op7 a0 Q w0 B tb g k n t t' own ov vr oa on oc un uc ar cr d o tells v6 v7 v11 v12 v5 hB ht hl hu hvr hred hov hown hk hv hs hsz
    | 8, _ => exact rgV_op8 a0 Q w0 B tb g k n t t' own ov vr oa on oc un uc ar cr d o tells v6 v7 v11 v12 v5 hB ht hl hu hvr hred hov hown hk hv hs hsz
    | 9, _ => exact rgV_op9 a0 Q w0 B tb g k n t t' own ov vr oa on oc un uc ar cr d o tells v6 v7 v11 v12 v5 hB ht hl hu hvr hred hov hown hk hv hs hsz
    | 10, _ => exact rgV_op10 a0 Q w0 B tb g k n t t' own ov vr oa on oc un uc ar cr d o tells v6 v7 v11 v12 v5 hB ht hl hu hvr hred hov hown hk hv hs hsz
    | 11, _ => exact rgV_op11 a0 Q w0 B tb g k n t t' own ov vr oa on oc un uc ar cr d o tells v6 v7 v11 v12 v5 hB ht hl hu hvr hred hov hown hk hv hs hsz
    | 12, _ => exact rgV_op12 a0 Q w0 B tb g k n t t' own ov vr oa on oc un uc ar cr d o tells v6 v7 v11 v12 v5 hB ht hl hu hvr hred hov hown hk hv hs hsz
    | 13, _ => exact rgV_op13 a0 Q w0 B tb g k n t t' own ov vr oa on oc un uc ar cr d o tells v6 v7 v11 v12 v5 hB ht hl hu hvr hred hov hown hk hv hs hsz
    | 14, _ => exact rgV_op14 a0 Q w0 B tb g k n t t' own ov vr oa on oc un uc ar cr d o tells v6 v7 v11 v12 v5 hB ht hl hu hvr hred hov hown hk hv hs hsz
    | 15, _ => exact rgV_op15 a0 Q w0 B tb g k n t t' own ov vr oa on oc un uc ar cr d o tells v6 v7 v11 v12 v5 hB ht hl hu hvr hred hov hown hk hv hs hsz
    | 16, _ => exact rgV_op16 a0 Q w0 B tb g k n t t' own ov vr oa on oc un uc ar cr d o tells v6 v7 v11 v12 v5 hB ht hl hu hvr hred hov hown hk hv hs hsz
    | 17, _ => exact rgV_op17 a0 Q w0 B tb g k n t t' own ov vr oa on oc un uc ar cr d o tells v6 v7 v11 v12 v5 hB ht hl hu hvr hred hov hown hk hv hs hsz
    | 18, _ => exact rgV_op18 a0 Q w0 B tb g k n t t' own ov vr oa on oc un uc ar cr d o tells v6 v7 v11 v12 v5 hB ht hl hu hvr hred hov hown hk hv hs hsz
    | q + 19, h => exact absurd h (by omega)
  · intro L a W hL hJ
    have all : ∀ k, k < 19 → L k = true := hL
    refine hQ a W (rgV_ts ▸ hJ.near) hJ.inv.1 (by obtain ⟨a1, c1, a2, c2, h1, h2, h3, h4, h5, h6, h7⟩ := hJ.inv.2 (all 8 (by omega)); obtain ⟨q, g1, g2, g3, g4, g5⟩ := h7 (all 14 (by omega)); exact ⟨q, g1, g2, ⟨a1, c1, g5 (all 15 (by omega)), g3⟩, a2, c2, h5 (all 17 (by omega)), g4⟩) (hJ.get (k := 16) (t := 14) (by kernel_rfl) (all 16 (by omega))) (hJ.get (k := 18) (t := 16) (by kernel_rfl) (all 18 (by omega)))
end R5
end Go.Proofs.Ytmngjifcgfnogaa
