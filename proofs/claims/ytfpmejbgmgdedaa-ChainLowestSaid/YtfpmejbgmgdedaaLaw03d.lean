/- The walk of ChainLowest. -/
import Derived.Test.YtfpmejbgmgdedaaLaw03b
namespace Go.Proofs.Ytfpmejbgmgdedaa
set_option linter.unusedSimpArgs false
set_option linter.unusedVariables false
open Go.RowKit

theorem chT_any (l : List Tm) (t : Tm) : (chT l).any (fun x => leB x t) = l.any (fun x => leB x t) := by
  rw [Bool.eq_iff_iff, List.any_eq_true, List.any_eq_true]
  constructor
  · rintro ⟨x, hx, h⟩
    exact ⟨x, chT_sub hx, h⟩
  · rintro ⟨x, hx, h⟩
    obtain ⟨y, hy, hyx⟩ := below_chT hx (leB_right h).1
    exact ⟨y, hy, leB_trans hyx h⟩
def fndTo (l : List Tm) (x : Tm) : Nat → Bool
  | 0 => false
  | k + 1 => fndTo l x k || (match l[k]? with
    | some y => eqT y x
    | none => false)
theorem fndTo_at {l : List Tm} {x y : Tm} {k : Nat} (h : l[k]? = some y) : fndTo l x (k + 1) = (fndTo l x k || eqT y x) := by
  rw [fndTo, h]
theorem fndTo_yes {l : List Tm} {x : Tm} : ∀ {n j : Nat}, j < n → l[j]? = some x → fndTo l x n = true
  | 0, j, h, _ => absurd h (Nat.not_lt_zero j)
  | n + 1, j, h, hj => by
    rw [fndTo, Bool.or_eq_true]
    rcases Nat.lt_or_ge j n with h' | h'
    · exact .inl (fndTo_yes h' hj)
    · obtain rfl : j = n := by omega
      right
      rw [hj]
      exact (eqT_iff _ _).2 rfl
theorem fk_done {n k : Nat} {e : Int} {P : Nat → Prop} (he : e = ((k + 1 : Nat) : Int)) (hk : k < n) (hP : P (k + 1)) : (∃ k' : Nat, k' ≤ n ∧ Value.int .i64 e = .int .i64 k' ∧ P k') ∧ n - (intOf (Value.int .i64 e)).toNat < n - (intOf (Value.int .i64 (k : Int))).toNat := by
  subst he
  exact ⟨⟨k + 1, hk, rfl, hP⟩, by simp only [intOf]; omega⟩
set_option maxRecDepth 100000 in
set_option maxHeartbeats 8000000 in
theorem walk_ChainLowest (w : World) (a : Option Addr) (c : Nat) (l : List Tm) (hr : Rd w 5 l.length (.slice a l.length c) (tms l)) (hc : l.length ≤ c) (td ta tb tc te : Int) (bd : -9223372036854775808 ≤ td ∧ td ≤ 9223372036854775807) (ba : -9223372036854775808 ≤ ta ∧ ta ≤ 9223372036854775807) (bb : -9223372036854775808 ≤ tb ∧ tb ≤ 9223372036854775807) (bc : -9223372036854775808 ≤ tc ∧ tc ≤ 9223372036854775807) (be : -9223372036854775808 ≤ te ∧ te ≤ 9223372036854775807) :
    Calls Try.prog 3 #[.slice a l.length c, .agg #[.int .i64 td, .int .i64 ta, .int .i64 tb, .int .i64 tc, .int .i64 te]] w fun r w' => r = .returned (.bool true) ∧ Ext w w' := by
  have AW := Lib.hid awake_any
  have hm1 := fun ats ty w => run_min (P := Try.prog) l.length 100 100 rfl ats ty w
  have R1 := Lib.hid (Rb.cut hr (m := min l.length 100) (Nat.min_le_left _ _))
  have q1 : min l.length 100 ≤ 100 := Nat.min_le_right _ _
  have p1 : min l.length 100 ≤ l.length := Nat.min_le_left _ _
  have e1 : (l.take (min l.length 100)).length = min l.length 100 := by rw [List.length_take]; omega
  generalize l.take (min l.length 100) = k1 at *
  generalize min l.length 100 = n1 at *
  have l1 := chT_len k1
  have hcov := chT_any k1 ⟨td, ta, tb, tc, te⟩
  have hidem := chT_idem k1
  have hsub : ∀ x ∈ chT k1, x ∈ k1 := fun x hx => chT_sub hx
  have hlow : ∀ x ∈ chT k1, ∀ y ∈ chT k1, leB y x = true → y = x := fun x hx y hy h => (mem_chT.1 hx).2.2 y (chT_sub hy) h
  have hsrt : Srt (chT k1) := (chT_rs k1).2
  generalize hca : chT k1 = ca at *
  obtain ⟨bv, hbv⟩ : ∃ b, k1.any (fun x => leB x ⟨td, ta, tb, tc, te⟩) = b := ⟨_, rfl⟩
  rw [hbv] at hcov
  have bb1 : (bv != bv) = false := by simp
  have LN := Lib.hid (show k1.length = n1 ∧ n1 ≤ 100 ∧ ca.length ≤ 100 by omega)
  have HH := Lib.hid (And.intro hca (And.intro hidem (And.intro hsub (And.intro hlow hsrt))))
  have m1 : (0 : Int) ≤ n1 := by omega
  have r1 : (n1 : Int) ≤ c := by omega
  have H1 : Hid (Rd w 5 n1 (.slice a n1 c) (tms k1)) := Lib.hid (by
    obtain ⟨a0, c0, e0, h0⟩ := R1.out
    rw [show k1.length = n1 from e1] at e0 h0
    cases e0
    exact h0)
  have C1 := Lib.hid (fun (W : World) (v : Value) (h : Rb W k1 v) => covers_rb h (by have := LN.out; omega) ⟨td, ta, tb, tc, te⟩ bv hbv)
  have C2 := Lib.hid (fun (W : World) (v : Value) (h : Rb W ca v) => covers_rb h (by have := LN.out; omega) ⟨td, ta, tb, tc, te⟩ bv hcov)
  have C3 := Lib.hid (fun (W : World) (v : Value) (h : Rb W ca v) => right_rb h (by have := LN.out; omega) true (by rw [hidem]; exact sameB_yes rfl))
  dsimp only at C1 C2
  clear hr hc p1 e1 l1 hca q1 hbv hcov hidem hsub hlow hsrt
  go_enter Try.func3, Try.ntmps3
  go_upto_region 5 with (first | (go_at_call 9; refine (AW.out _).mono ?_; rintro e w' ⟨rfl, z0, rfl⟩) | (go_at_call 10; (with_reducible refine (of_rb (R1.out.on (by (repeat' (first | with_reducible exact Ext.refl _ | with_reducible refine Ext.ext ?_ _ | with_reducible refine Ext.alloc ?_ _ | with_reducible refine Ext.drew ?_ | with_reducible refine Ext.drewN ?_ _ | with_reducible refine Ext.trans ?_ HX1.out | with_reducible refine Ext.trans ?_ HX2.out | with_reducible refine Ext.trans ?_ HX3.out | with_reducible refine Ext.trans ?_ HX4.out | with_reducible refine Ext.trans ?_ HX5.out | with_reducible refine Ext.trans ?_ HX6.out | with_reducible refine Ext.trans ?_ HX7.out | with_reducible refine Ext.trans ?_ HX8.out | with_reducible refine Ext.trans ?_ HX9.out | with_reducible refine Ext.trans ?_ HX10.out | with_reducible refine Ext.trans ?_ HX11.out | with_reducible refine Ext.trans ?_ HX12.out | with_reducible refine Ext.trans ?_ HX13.out | with_reducible refine Ext.trans ?_ HX14.out | with_reducible refine Ext.trans ?_ HX15.out | with_reducible refine Ext.trans ?_ HX16.out | with_reducible refine Ext.trans ?_ HX17.out | with_reducible refine Ext.trans ?_ HX18.out | with_reducible refine Ext.trans ?_ HX19.out | with_reducible refine Ext.trans ?_ HX20.out | with_reducible refine Ext.trans ?_ HX21.out | with_reducible refine Ext.trans ?_ HX22.out | with_reducible refine Ext.trans ?_ HX23.out | with_reducible refine Ext.trans ?_ HX24.out)))) (by have := LN.out; omega) ca HH.out.1).mono ?_); rintro e w2 ⟨v2, rfl, hx, hb⟩; have g0 := (keep_cell (b := w.heap.size) (i := 0) (u := .int .i64 td) (cell_lit w #[.int .i64 td, .int .i64 ta, .int .i64 tb, .int .i64 tc, .int .i64 te] 25 _ 0 _ rfl rfl) (Ext.trans (by (repeat' (first | with_reducible exact Ext.refl _ | with_reducible refine Ext.ext ?_ _ | with_reducible refine Ext.alloc ?_ _ | with_reducible refine Ext.drew ?_ | with_reducible refine Ext.drewN ?_ _ | with_reducible assumption))) hx)).1; have g1 := (keep_cell (b := w.heap.size) (i := 1) (u := .int .i64 ta) (cell_lit w #[.int .i64 td, .int .i64 ta, .int .i64 tb, .int .i64 tc, .int .i64 te] 25 _ 1 _ rfl rfl) (Ext.trans (by (repeat' (first | with_reducible exact Ext.refl _ | with_reducible refine Ext.ext ?_ _ | with_reducible refine Ext.alloc ?_ _ | with_reducible refine Ext.drew ?_ | with_reducible refine Ext.drewN ?_ _ | with_reducible assumption))) hx)).1; have g2 := (keep_cell (b := w.heap.size) (i := 2) (u := .int .i64 tb) (cell_lit w #[.int .i64 td, .int .i64 ta, .int .i64 tb, .int .i64 tc, .int .i64 te] 25 _ 2 _ rfl rfl) (Ext.trans (by (repeat' (first | with_reducible exact Ext.refl _ | with_reducible refine Ext.ext ?_ _ | with_reducible refine Ext.alloc ?_ _ | with_reducible refine Ext.drew ?_ | with_reducible refine Ext.drewN ?_ _ | with_reducible assumption))) hx)).1; have g3 := (keep_cell (b := w.heap.size) (i := 3) (u := .int .i64 tc) (cell_lit w #[.int .i64 td, .int .i64 ta, .int .i64 tb, .int .i64 tc, .int .i64 te] 25 _ 3 _ rfl rfl) (Ext.trans (by (repeat' (first | with_reducible exact Ext.refl _ | with_reducible refine Ext.ext ?_ _ | with_reducible refine Ext.alloc ?_ _ | with_reducible refine Ext.drew ?_ | with_reducible refine Ext.drewN ?_ _ | with_reducible assumption))) hx)).1; have g4 := (keep_cell (b := w.heap.size) (i := 4) (u := .int .i64 te) (cell_lit w #[.int .i64 td, .int .i64 ta, .int .i64 tb, .int .i64 tc, .int .i64 te] 25 _ 4 _ rfl rfl) (Ext.trans (by (repeat' (first | with_reducible exact Ext.refl _ | with_reducible refine Ext.ext ?_ _ | with_reducible refine Ext.alloc ?_ _ | with_reducible refine Ext.drew ?_ | with_reducible refine Ext.drewN ?_ _ | with_reducible assumption))) hx)).1; have HX2 : Hid (Ext w w2) := Lib.hid (Ext.trans (by (repeat' (first | with_reducible exact Ext.refl _ | with_reducible refine Ext.ext ?_ _ | with_reducible refine Ext.alloc ?_ _ | with_reducible refine Ext.drew ?_ | with_reducible refine Ext.drewN ?_ _ | with_reducible assumption))) hx); have B2 := Lib.hid hb; obtain ⟨a2, c2, rfl, -⟩ := id hb; clear hx hb))
  refine wp_region_ext (by kernel_rfl) (by kernel_rfl) ?_
  repeat (go_big_quiet_step (first | (go_at_call 11; (first | (apply quiet_of; (with_reducible exact C2.out _ _ (B2.out.on (by (repeat' (first | with_reducible exact Ext.refl _ | with_reducible refine Ext.ext ?_ _ | with_reducible refine Ext.alloc ?_ _ | with_reducible refine Ext.drew ?_ | with_reducible refine Ext.drewN ?_ _ | with_reducible assumption))))); (intro w' hx; obtain ⟨z, rfl⟩ := hx; (try simp only [ext_ext, add_assoc]); exact ⟨_, rfl⟩)) | (apply quiet_of; (with_reducible exact C1.out _ _ (R1.out.on (HX2.out.trans (by (repeat' (first | with_reducible exact Ext.refl _ | with_reducible refine Ext.ext ?_ _ | with_reducible refine Ext.alloc ?_ _ | with_reducible refine Ext.drew ?_ | with_reducible refine Ext.drewN ?_ _ | with_reducible assumption)))))); (intro w' hx; obtain ⟨z, rfl⟩ := hx; (try simp only [ext_ext, add_assoc]); exact ⟨_, rfl⟩)))) | (go_at_call 12; (apply quiet_of; (with_reducible exact C3.out _ _ (B2.out.on (by (repeat' (first | with_reducible exact Ext.refl _ | with_reducible refine Ext.ext ?_ _ | with_reducible refine Ext.alloc ?_ _ | with_reducible refine Ext.drew ?_ | with_reducible refine Ext.drewN ?_ _ | with_reducible assumption))))); (intro w' hx; obtain ⟨z, rfl⟩ := hx; (try simp only [ext_ext, add_assoc]); exact ⟨_, rfl⟩)))))
  refine wpQuiet_nil ?_
  intro xK
  go_wp2
  have LE := Lib.hid (fun x y : Tm => fun W => le_any x.d x.a x.b x.c x.e y.d y.a y.b y.c y.e W)
  have LS := Lib.hid (fun x y : Tm => fun W => less_any x.d x.a x.b x.c x.e y.d y.a y.b y.c y.e W)
  go_loopw [6] (fun si wr => ∃ i : Nat, i ≤ ca.length ∧ si = .int .i64 i ∧ Ext w2 wr) (fun si _ => ca.length - (intOf si).toNat)
  case atStart => exact ⟨0, by omega, rfl, by (repeat' (first | with_reducible exact Ext.refl _ | with_reducible refine Ext.ext ?_ _ | with_reducible refine Ext.alloc ?_ _ | with_reducible refine Ext.drew ?_ | with_reducible refine Ext.drewN ?_ _ | with_reducible assumption))⟩
  case round =>
    obtain ⟨i, hi, rfl, hx⟩ := hrel
    obtain ⟨w3, hw3⟩ : ∃ x, x = wr := ⟨_, rfl⟩
    subst hw3
    have HX3 := Lib.hid hx
    clear hx
    by_cases hlt : i < ca.length
    · obtain ⟨X, hX⟩ : ∃ x, ca[i]? = some x := ⟨ca[i], List.getElem?_eq_getElem _⟩
      have HXI := Lib.hid hX
      have hXm := List.mem_of_getElem? hX
      have H2 : Hid (Rd w2 5 ca.length (.slice a2 ca.length c2) (tms ca)) := Lib.hid (by
        obtain ⟨a0, c0, e0, h0⟩ := B2.out
        cases e0
        exact h0)
      obtain ⟨b2, off2, rfl, -⟩ := H2.out.cells (by omega)
      have hfound : fndTo k1 X n1 = true := by
        obtain ⟨j, hj⟩ := List.getElem?_of_mem (HH.out.2.2.1 X hXm)
        have := (List.getElem?_eq_some_iff.1 hj).1
        exact fndTo_yes (by have := LN.out; omega) hj
      have hn0 : 0 < n1 := by
        obtain ⟨j, hj⟩ := List.getElem?_of_mem (HH.out.2.2.1 X hXm)
        have := (List.getElem?_eq_some_iff.1 hj).1
        have := LN.out
        omega
      obtain ⟨b1, off1, rfl, -⟩ := H1.out.cells hn0
      have HF := Lib.hid hfound
      have i1 : (0 : Int) ≤ i := by omega
      have i2 : (i : Int) < ca.length := by omega
      have EI := Lib.hid (show wrap64 ((i : Int) + 1) = ((i + 1 : Nat) : Int) from (IntWalk.wrap64_in _ ⟨by omega, by have := LN.out; omega⟩).trans (by omega))
      clear hfound hn0 hXm hX
      go_wp2
      go_loopw [8, 7] (fun sk sf wr => ∃ k : Nat, k ≤ n1 ∧ sk = .int .i64 k ∧ sf = .bool (fndTo k1 X k) ∧ Ext w2 wr) (fun sk _ _ => n1 - (intOf sk).toNat)
      case atStart => exact ⟨0, by omega, rfl, rfl, by (repeat' (first | with_reducible exact Ext.refl _ | with_reducible refine Ext.ext ?_ _ | with_reducible refine Ext.alloc ?_ _ | with_reducible refine Ext.drew ?_ | with_reducible refine Ext.drewN ?_ _ | with_reducible refine Ext.trans ?_ HX1.out | with_reducible refine Ext.trans ?_ HX2.out | with_reducible refine Ext.trans ?_ HX3.out | with_reducible refine Ext.trans ?_ HX4.out | with_reducible refine Ext.trans ?_ HX5.out | with_reducible refine Ext.trans ?_ HX6.out | with_reducible refine Ext.trans ?_ HX7.out | with_reducible refine Ext.trans ?_ HX8.out | with_reducible refine Ext.trans ?_ HX9.out | with_reducible refine Ext.trans ?_ HX10.out | with_reducible refine Ext.trans ?_ HX11.out | with_reducible refine Ext.trans ?_ HX12.out | with_reducible refine Ext.trans ?_ HX13.out | with_reducible refine Ext.trans ?_ HX14.out | with_reducible refine Ext.trans ?_ HX15.out | with_reducible refine Ext.trans ?_ HX16.out | with_reducible refine Ext.trans ?_ HX17.out | with_reducible refine Ext.trans ?_ HX18.out | with_reducible refine Ext.trans ?_ HX19.out | with_reducible refine Ext.trans ?_ HX20.out | with_reducible refine Ext.trans ?_ HX21.out | with_reducible refine Ext.trans ?_ HX22.out | with_reducible refine Ext.trans ?_ HX23.out | with_reducible refine Ext.trans ?_ HX24.out))⟩
      case round =>
        obtain ⟨k, hk, rfl, rfl, hx⟩ := hrel
        obtain ⟨w4, hw4⟩ : ∃ x, x = wr := ⟨_, rfl⟩
        subst hw4
        have HX4 := Lib.hid hx
        clear hx
        by_cases hlt2 : k < n1
        · obtain ⟨y, hy⟩ : ∃ y, k1[k]? = some y := ⟨k1[k]'(by have := LN.out; omega), List.getElem?_eq_getElem _⟩
          obtain ⟨p0, p1, p2, p3, p4⟩ := tm_at (H1.out.of_ext (w' := w4) (HX2.out.trans HX4.out)) k y hy
          obtain ⟨q0, q1, q2, q3, q4⟩ := tm_at (H2.out.of_ext (w' := w4) HX4.out) i X HXI.out
          haveI : LtSz b1 w4.heap.size := ⟨World.block_lt_of_cell? _ _ p0⟩
          haveI : LtSz b2 w4.heap.size := ⟨World.block_lt_of_cell? _ _ q0⟩
          have j1 : (0 : Int) ≤ k := by omega
          have j2 : (k : Int) < n1 := by omega
          have ek : wrap64 ((k : Int) + 1) = ((k + 1 : Nat) : Int) := (IntWalk.wrap64_in _ ⟨by omega, by have := LN.out; omega⟩).trans (by omega)
          have hst := fndTo_at (x := X) hy
          obtain ⟨bq, f1⟩ : ∃ b, eqT y X = b := ⟨_, rfl⟩
          obtain ⟨bf, f2⟩ : ∃ b, fndTo k1 X k = b := ⟨_, rfl⟩
          rw [f1, f2] at hst
          rw [f2]
          unfold eqT at f1
          have FK := Lib.hid (show ∀ v W, Ext w2 W → v = fndTo k1 X (k + 1) → (∃ k' : Nat, k' ≤ n1 ∧ Value.int .i64 (wrap64 ((k : Int) + 1)) = .int .i64 k' ∧ Value.bool v = .bool (fndTo k1 X k') ∧ Ext w2 W) ∧ n1 - (intOf (Value.int .i64 (wrap64 ((k : Int) + 1)))).toNat < n1 - (intOf (Value.int .i64 (k : Int))).toNat from fun v W h1 h2 => fk_done (P := fun k' => Value.bool v = .bool (fndTo k1 X k') ∧ Ext w2 W) ek hlt2 ⟨congrArg Value.bool h2, h1⟩)
          have HST := Lib.hid hst
          clear hst hy ek f2
          cases bf
          · cases bq
            all_goals
              go_wp2
              refine wp_region_ext (by kernel_rfl) (by kernel_rfl) ?_
              repeat (go_big_quiet_step (fail))
              refine wpQuiet_nil ?_
              intro xK
              go_wp2
              exact FK.out _ _ (by (repeat' (first | with_reducible exact Ext.refl _ | with_reducible refine Ext.ext ?_ _ | with_reducible refine Ext.alloc ?_ _ | with_reducible refine Ext.drew ?_ | with_reducible refine Ext.drewN ?_ _ | with_reducible refine Ext.trans ?_ HX1.out | with_reducible refine Ext.trans ?_ HX2.out | with_reducible refine Ext.trans ?_ HX3.out | with_reducible refine Ext.trans ?_ HX4.out | with_reducible refine Ext.trans ?_ HX5.out | with_reducible refine Ext.trans ?_ HX6.out | with_reducible refine Ext.trans ?_ HX7.out | with_reducible refine Ext.trans ?_ HX8.out | with_reducible refine Ext.trans ?_ HX9.out | with_reducible refine Ext.trans ?_ HX10.out | with_reducible refine Ext.trans ?_ HX11.out | with_reducible refine Ext.trans ?_ HX12.out | with_reducible refine Ext.trans ?_ HX13.out | with_reducible refine Ext.trans ?_ HX14.out | with_reducible refine Ext.trans ?_ HX15.out | with_reducible refine Ext.trans ?_ HX16.out | with_reducible refine Ext.trans ?_ HX17.out | with_reducible refine Ext.trans ?_ HX18.out | with_reducible refine Ext.trans ?_ HX19.out | with_reducible refine Ext.trans ?_ HX20.out | with_reducible refine Ext.trans ?_ HX21.out | with_reducible refine Ext.trans ?_ HX22.out | with_reducible refine Ext.trans ?_ HX23.out | with_reducible refine Ext.trans ?_ HX24.out))) (by rw [HST.out]; rfl)
          · clear f1
            go_wp2
            refine wp_region_ext (by kernel_rfl) (by kernel_rfl) ?_
            repeat (go_big_quiet_step (fail))
            refine wpQuiet_nil ?_
            intro xK
            go_wp2
            exact FK.out _ _ (by (repeat' (first | with_reducible exact Ext.refl _ | with_reducible refine Ext.ext ?_ _ | with_reducible refine Ext.alloc ?_ _ | with_reducible refine Ext.drew ?_ | with_reducible refine Ext.drewN ?_ _ | with_reducible refine Ext.trans ?_ HX1.out | with_reducible refine Ext.trans ?_ HX2.out | with_reducible refine Ext.trans ?_ HX3.out | with_reducible refine Ext.trans ?_ HX4.out | with_reducible refine Ext.trans ?_ HX5.out | with_reducible refine Ext.trans ?_ HX6.out | with_reducible refine Ext.trans ?_ HX7.out | with_reducible refine Ext.trans ?_ HX8.out | with_reducible refine Ext.trans ?_ HX9.out | with_reducible refine Ext.trans ?_ HX10.out | with_reducible refine Ext.trans ?_ HX11.out | with_reducible refine Ext.trans ?_ HX12.out | with_reducible refine Ext.trans ?_ HX13.out | with_reducible refine Ext.trans ?_ HX14.out | with_reducible refine Ext.trans ?_ HX15.out | with_reducible refine Ext.trans ?_ HX16.out | with_reducible refine Ext.trans ?_ HX17.out | with_reducible refine Ext.trans ?_ HX18.out | with_reducible refine Ext.trans ?_ HX19.out | with_reducible refine Ext.trans ?_ HX20.out | with_reducible refine Ext.trans ?_ HX21.out | with_reducible refine Ext.trans ?_ HX22.out | with_reducible refine Ext.trans ?_ HX23.out | with_reducible refine Ext.trans ?_ HX24.out))) (by rw [HST.out]; rfl)
        · obtain rfl : k = n1 := by omega
          rw [HF.out]
          go_wp2
          go_loopw [9] (fun sk wr => ∃ k : Nat, k ≤ ca.length ∧ sk = .int .i64 k ∧ Ext w2 wr) (fun sk _ => ca.length - (intOf sk).toNat)
          case atStart => exact ⟨0, by omega, rfl, by (repeat' (first | with_reducible exact Ext.refl _ | with_reducible refine Ext.ext ?_ _ | with_reducible refine Ext.alloc ?_ _ | with_reducible refine Ext.drew ?_ | with_reducible refine Ext.drewN ?_ _ | with_reducible refine Ext.trans ?_ HX1.out | with_reducible refine Ext.trans ?_ HX2.out | with_reducible refine Ext.trans ?_ HX3.out | with_reducible refine Ext.trans ?_ HX4.out | with_reducible refine Ext.trans ?_ HX5.out | with_reducible refine Ext.trans ?_ HX6.out | with_reducible refine Ext.trans ?_ HX7.out | with_reducible refine Ext.trans ?_ HX8.out | with_reducible refine Ext.trans ?_ HX9.out | with_reducible refine Ext.trans ?_ HX10.out | with_reducible refine Ext.trans ?_ HX11.out | with_reducible refine Ext.trans ?_ HX12.out | with_reducible refine Ext.trans ?_ HX13.out | with_reducible refine Ext.trans ?_ HX14.out | with_reducible refine Ext.trans ?_ HX15.out | with_reducible refine Ext.trans ?_ HX16.out | with_reducible refine Ext.trans ?_ HX17.out | with_reducible refine Ext.trans ?_ HX18.out | with_reducible refine Ext.trans ?_ HX19.out | with_reducible refine Ext.trans ?_ HX20.out | with_reducible refine Ext.trans ?_ HX21.out | with_reducible refine Ext.trans ?_ HX22.out | with_reducible refine Ext.trans ?_ HX23.out | with_reducible refine Ext.trans ?_ HX24.out))⟩
          case round =>
            obtain ⟨j, hj, rfl, hx⟩ := hrel
            obtain ⟨w5, hw5⟩ : ∃ x, x = wr := ⟨_, rfl⟩
            subst hw5
            have HX5 := Lib.hid hx
            clear hx
            by_cases hlt3 : j < ca.length
            · obtain ⟨y, hy⟩ : ∃ y, ca[j]? = some y := ⟨ca[j], List.getElem?_eq_getElem _⟩
              obtain ⟨p0, p1, p2, p3, p4⟩ := tm_at (H2.out.of_ext (w' := w5) HX5.out) j y hy
              obtain ⟨q0, q1, q2, q3, q4⟩ := tm_at (H2.out.of_ext (w' := w5) HX5.out) i X HXI.out
              haveI : LtSz b2 w5.heap.size := ⟨World.block_lt_of_cell? _ _ q0⟩
              have j1 : (0 : Int) ≤ j := by omega
              have j2 : (j : Int) < ca.length := by omega
              have ek : wrap64 ((j : Int) + 1) = ((j + 1 : Nat) : Int) := (IntWalk.wrap64_in _ ⟨by omega, by have := LN.out; omega⟩).trans (by omega)
              have FK := Lib.hid (show ∀ W, Ext w2 W → (∃ k' : Nat, k' ≤ ca.length ∧ Value.int .i64 (wrap64 ((j : Int) + 1)) = .int .i64 k' ∧ Ext w2 W) ∧ ca.length - (intOf (Value.int .i64 (wrap64 ((j : Int) + 1)))).toNat < ca.length - (intOf (Value.int .i64 (j : Int))).toNat from fun W h1 => fk_done (P := fun _ => Ext w2 W) ek hlt3 h1)
              clear ek
              by_cases hji : j = i
              · subst hji
                clear p0 p1 p2 p3 p4
                have z1 : ((j : Int) != (j : Int)) = false := by simp
                have z2 : decide ((j : Int) < (j : Int)) = false := by simp
                clear hy
                go_wp2
                refine wp_region_ext (by kernel_rfl) (by kernel_rfl) ?_
                repeat (go_big_quiet_step (first | (go_at_call 13; (apply quiet_of; (with_reducible exact LE.out y X _); (intro w' hx; obtain ⟨z, rfl⟩ := hx; (try simp only [ext_ext, add_assoc]); exact ⟨_, rfl⟩))) | (go_at_call 14; (apply quiet_of; (with_reducible exact LS.out y X _); (intro w' hx; obtain ⟨z, rfl⟩ := hx; (try simp only [ext_ext, add_assoc]); exact ⟨_, rfl⟩)))))
                refine wpQuiet_nil ?_
                intro xK
                go_wp2
                exact FK.out _ (by (repeat' (first | with_reducible exact Ext.refl _ | with_reducible refine Ext.ext ?_ _ | with_reducible refine Ext.alloc ?_ _ | with_reducible refine Ext.drew ?_ | with_reducible refine Ext.drewN ?_ _ | with_reducible refine Ext.trans ?_ HX1.out | with_reducible refine Ext.trans ?_ HX2.out | with_reducible refine Ext.trans ?_ HX3.out | with_reducible refine Ext.trans ?_ HX4.out | with_reducible refine Ext.trans ?_ HX5.out | with_reducible refine Ext.trans ?_ HX6.out | with_reducible refine Ext.trans ?_ HX7.out | with_reducible refine Ext.trans ?_ HX8.out | with_reducible refine Ext.trans ?_ HX9.out | with_reducible refine Ext.trans ?_ HX10.out | with_reducible refine Ext.trans ?_ HX11.out | with_reducible refine Ext.trans ?_ HX12.out | with_reducible refine Ext.trans ?_ HX13.out | with_reducible refine Ext.trans ?_ HX14.out | with_reducible refine Ext.trans ?_ HX15.out | with_reducible refine Ext.trans ?_ HX16.out | with_reducible refine Ext.trans ?_ HX17.out | with_reducible refine Ext.trans ?_ HX18.out | with_reducible refine Ext.trans ?_ HX19.out | with_reducible refine Ext.trans ?_ HX20.out | with_reducible refine Ext.trans ?_ HX21.out | with_reducible refine Ext.trans ?_ HX22.out | with_reducible refine Ext.trans ?_ HX23.out | with_reducible refine Ext.trans ?_ HX24.out)))
              · have hne : y ≠ X := by
                  rintro rfl
                  rcases Nat.lt_or_gt_of_ne hji with h | h
                  · have := HH.out.2.2.2.2.at h hy HXI.out
                    rw [lessB_irrefl] at this
                    cases this
                  · have := HH.out.2.2.2.2.at h HXI.out hy
                    rw [lessB_irrefl] at this
                    cases this
                have hle : leB y X = false := by
                  rw [Bool.eq_false_iff]
                  intro h
                  exact hne (HH.out.2.2.2.1 X (List.mem_of_getElem? HXI.out) y (List.mem_of_getElem? hy) h)
                have LY := Lib.hid (fun W => LE.out y X W)
                have hle' : leB ⟨y.d, y.a, y.b, y.c, y.e⟩ ⟨X.d, X.a, X.b, X.c, X.e⟩ = false := hle
                rw [hle'] at LY
                have z1 : ((j : Int) != (i : Int)) = true := by simp; omega
                rcases Nat.lt_or_gt_of_ne hji with h | h
                · have hls : lessB ⟨y.d, y.a, y.b, y.c, y.e⟩ ⟨X.d, X.a, X.b, X.c, X.e⟩ = true := HH.out.2.2.2.2.at h hy HXI.out
                  have LZ := Lib.hid (fun W => LS.out y X W)
                  rw [hls] at LZ
                  have z2 : decide ((j : Int) < (i : Int)) = true := by simp; omega
                  clear hy hne hle hle' hls
                  go_wp2
                  refine wp_region_ext (by kernel_rfl) (by kernel_rfl) ?_
                  repeat (go_big_quiet_step (first | (go_at_call 13; (apply quiet_of; (with_reducible exact LY.out _); (intro w' hx; obtain ⟨z, rfl⟩ := hx; (try simp only [ext_ext, add_assoc]); exact ⟨_, rfl⟩))) | (go_at_call 14; (apply quiet_of; (with_reducible exact LZ.out _); (intro w' hx; obtain ⟨z, rfl⟩ := hx; (try simp only [ext_ext, add_assoc]); exact ⟨_, rfl⟩)))))
                  refine wpQuiet_nil ?_
                  intro xK
                  go_wp2
                  exact FK.out _ (by (repeat' (first | with_reducible exact Ext.refl _ | with_reducible refine Ext.ext ?_ _ | with_reducible refine Ext.alloc ?_ _ | with_reducible refine Ext.drew ?_ | with_reducible refine Ext.drewN ?_ _ | with_reducible refine Ext.trans ?_ HX1.out | with_reducible refine Ext.trans ?_ HX2.out | with_reducible refine Ext.trans ?_ HX3.out | with_reducible refine Ext.trans ?_ HX4.out | with_reducible refine Ext.trans ?_ HX5.out | with_reducible refine Ext.trans ?_ HX6.out | with_reducible refine Ext.trans ?_ HX7.out | with_reducible refine Ext.trans ?_ HX8.out | with_reducible refine Ext.trans ?_ HX9.out | with_reducible refine Ext.trans ?_ HX10.out | with_reducible refine Ext.trans ?_ HX11.out | with_reducible refine Ext.trans ?_ HX12.out | with_reducible refine Ext.trans ?_ HX13.out | with_reducible refine Ext.trans ?_ HX14.out | with_reducible refine Ext.trans ?_ HX15.out | with_reducible refine Ext.trans ?_ HX16.out | with_reducible refine Ext.trans ?_ HX17.out | with_reducible refine Ext.trans ?_ HX18.out | with_reducible refine Ext.trans ?_ HX19.out | with_reducible refine Ext.trans ?_ HX20.out | with_reducible refine Ext.trans ?_ HX21.out | with_reducible refine Ext.trans ?_ HX22.out | with_reducible refine Ext.trans ?_ HX23.out | with_reducible refine Ext.trans ?_ HX24.out)))
                · have z2 : decide ((j : Int) < (i : Int)) = false := by simp; omega
                  have z3 : decide (j < i) = false := by simp; omega
                  clear hy hne hle hle'
                  go_wp2
                  refine wp_region_ext (by kernel_rfl) (by kernel_rfl) ?_
                  repeat (go_big_quiet_step (first | (go_at_call 13; (apply quiet_of; (with_reducible exact LY.out _); (intro w' hx; obtain ⟨z, rfl⟩ := hx; (try simp only [ext_ext, add_assoc]); exact ⟨_, rfl⟩))) | (go_at_call 14; (apply quiet_of; (with_reducible exact LS.out _); (intro w' hx; obtain ⟨z, rfl⟩ := hx; (try simp only [ext_ext, add_assoc]); exact ⟨_, rfl⟩)))))
                  refine wpQuiet_nil ?_
                  intro xK
                  go_wp2
                  exact FK.out _ (by (repeat' (first | with_reducible exact Ext.refl _ | with_reducible refine Ext.ext ?_ _ | with_reducible refine Ext.alloc ?_ _ | with_reducible refine Ext.drew ?_ | with_reducible refine Ext.drewN ?_ _ | with_reducible refine Ext.trans ?_ HX1.out | with_reducible refine Ext.trans ?_ HX2.out | with_reducible refine Ext.trans ?_ HX3.out | with_reducible refine Ext.trans ?_ HX4.out | with_reducible refine Ext.trans ?_ HX5.out | with_reducible refine Ext.trans ?_ HX6.out | with_reducible refine Ext.trans ?_ HX7.out | with_reducible refine Ext.trans ?_ HX8.out | with_reducible refine Ext.trans ?_ HX9.out | with_reducible refine Ext.trans ?_ HX10.out | with_reducible refine Ext.trans ?_ HX11.out | with_reducible refine Ext.trans ?_ HX12.out | with_reducible refine Ext.trans ?_ HX13.out | with_reducible refine Ext.trans ?_ HX14.out | with_reducible refine Ext.trans ?_ HX15.out | with_reducible refine Ext.trans ?_ HX16.out | with_reducible refine Ext.trans ?_ HX17.out | with_reducible refine Ext.trans ?_ HX18.out | with_reducible refine Ext.trans ?_ HX19.out | with_reducible refine Ext.trans ?_ HX20.out | with_reducible refine Ext.trans ?_ HX21.out | with_reducible refine Ext.trans ?_ HX22.out | with_reducible refine Ext.trans ?_ HX23.out | with_reducible refine Ext.trans ?_ HX24.out)))
            · obtain rfl : j = ca.length := by omega
              go_wp2
              exact ⟨⟨i + 1, by omega, congrArg (Value.int .i64) EI.out, by (repeat' (first | with_reducible exact Ext.refl _ | with_reducible refine Ext.ext ?_ _ | with_reducible refine Ext.alloc ?_ _ | with_reducible refine Ext.drew ?_ | with_reducible refine Ext.drewN ?_ _ | with_reducible refine Ext.trans ?_ HX1.out | with_reducible refine Ext.trans ?_ HX2.out | with_reducible refine Ext.trans ?_ HX3.out | with_reducible refine Ext.trans ?_ HX4.out | with_reducible refine Ext.trans ?_ HX5.out | with_reducible refine Ext.trans ?_ HX6.out | with_reducible refine Ext.trans ?_ HX7.out | with_reducible refine Ext.trans ?_ HX8.out | with_reducible refine Ext.trans ?_ HX9.out | with_reducible refine Ext.trans ?_ HX10.out | with_reducible refine Ext.trans ?_ HX11.out | with_reducible refine Ext.trans ?_ HX12.out | with_reducible refine Ext.trans ?_ HX13.out | with_reducible refine Ext.trans ?_ HX14.out | with_reducible refine Ext.trans ?_ HX15.out | with_reducible refine Ext.trans ?_ HX16.out | with_reducible refine Ext.trans ?_ HX17.out | with_reducible refine Ext.trans ?_ HX18.out | with_reducible refine Ext.trans ?_ HX19.out | with_reducible refine Ext.trans ?_ HX20.out | with_reducible refine Ext.trans ?_ HX21.out | with_reducible refine Ext.trans ?_ HX22.out | with_reducible refine Ext.trans ?_ HX23.out | with_reducible refine Ext.trans ?_ HX24.out))⟩, by rw [EI.out]; simp only [intOf]; omega⟩
    · obtain rfl : i = ca.length := by omega
      go_wp2
      go_returns
      exact ⟨retb rfl rfl, HX2.out.trans (by (repeat' (first | with_reducible exact Ext.refl _ | with_reducible refine Ext.ext ?_ _ | with_reducible refine Ext.alloc ?_ _ | with_reducible refine Ext.drew ?_ | with_reducible refine Ext.drewN ?_ _ | with_reducible refine Ext.trans ?_ HX1.out | with_reducible refine Ext.trans ?_ HX2.out | with_reducible refine Ext.trans ?_ HX3.out | with_reducible refine Ext.trans ?_ HX4.out | with_reducible refine Ext.trans ?_ HX5.out | with_reducible refine Ext.trans ?_ HX6.out | with_reducible refine Ext.trans ?_ HX7.out | with_reducible refine Ext.trans ?_ HX8.out | with_reducible refine Ext.trans ?_ HX9.out | with_reducible refine Ext.trans ?_ HX10.out | with_reducible refine Ext.trans ?_ HX11.out | with_reducible refine Ext.trans ?_ HX12.out | with_reducible refine Ext.trans ?_ HX13.out | with_reducible refine Ext.trans ?_ HX14.out | with_reducible refine Ext.trans ?_ HX15.out | with_reducible refine Ext.trans ?_ HX16.out | with_reducible refine Ext.trans ?_ HX17.out | with_reducible refine Ext.trans ?_ HX18.out | with_reducible refine Ext.trans ?_ HX19.out | with_reducible refine Ext.trans ?_ HX20.out | with_reducible refine Ext.trans ?_ HX21.out | with_reducible refine Ext.trans ?_ HX22.out | with_reducible refine Ext.trans ?_ HX23.out | with_reducible refine Ext.trans ?_ HX24.out)))⟩
end Go.Proofs.Ytfpmejbgmgdedaa
