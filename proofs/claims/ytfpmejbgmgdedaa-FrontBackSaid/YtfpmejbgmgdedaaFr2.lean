/- Front: counts: may, Right, place. -/
import Derived.Test.YtfpmejbgmgdedaaFr1
import Derived.Test.YtfpmejbgmgdedaaChG
namespace Go.Proofs.Ytfpmejbgmgdedaa.Fr
set_option linter.unusedSimpArgs false
set_option linter.unusedVariables false
open Go.RowKit

def Ct.t (x : Ct) : Tm := ⟨x.d, x.a, x.b, x.c, x.e⟩
def mayB (n : Int) : Bool := decide (-2147483648 ≤ n ∧ n ≤ 2147483648)
theorem may_any (n : Int) (w : World) : Calls Try.prog 52 #[.int .i64 n] w fun e w' => e = .returned (.bool (mayB n)) ∧ w' = w := by
  unfold mayB
  obtain ⟨b1, f1⟩ : ∃ b, decide (-2147483648 ≤ n) = b := ⟨_, rfl⟩
  obtain ⟨b2, f2⟩ : ∃ b, decide (n ≤ 2147483648) = b := ⟨_, rfl⟩
  rw [Bool.decide_and, f1, f2]
  cases b1 <;> cases b2
  all_goals
    go_enter Try.func52, Try.ntmps52
    go_wp2
    go_returns
    exact ⟨retb rfl rfl, rfl⟩
def okC (x : Ct) : Bool := _root_.Go.Proofs.Ytfpmejbgmgdedaa.rightB x.t && (!(x.n == 0) && mayB x.n)
def lessC (x y : Ct) : Bool := lessB x.t y.t
def chainB : List Ct → Bool
  | x :: y :: l => lessC x y && chainB (y :: l)
  | _ => true
def rightC (l : List Ct) : Bool := l.all okC && chainB l
theorem chain_iff : ∀ l : List Ct, chainB l = true ↔ ∀ j x y, l[j]? = some x → l[j + 1]? = some y → lessC x y = true
  | [] => by simp [chainB]
  | [x] => by simp [chainB]
  | x :: y :: l => by
    rw [chainB, Bool.and_eq_true, chain_iff (y :: l)]
    constructor
    · rintro ⟨h1, h2⟩ j a b ha hb
      cases j with
      | zero =>
        obtain rfl : x = a := by simpa using ha
        obtain rfl : y = b := by simpa using hb
        exact h1
      | succ j => exact h2 j a b (by simpa using ha) (by simpa using hb)
    · intro h
      exact ⟨h 0 x y rfl rfl, fun j a b ha hb => h (j + 1) a b (by simpa using ha) (by simpa using hb)⟩
theorem right_no1 {l : List Ct} {j : Nat} {x : Ct} (hj : l[j]? = some x) (h : okC x = false) : rightC l = false := by
  have : l.all okC = false := by rw [List.all_eq_false]; exact ⟨x, List.mem_of_getElem? hj, by simp [h]⟩
  rw [rightC, this, Bool.false_and]
theorem right_no2 {l : List Ct} {j : Nat} {x y : Ct} (hj : l[j]? = some x) (hk : l[j + 1]? = some y) (h : lessC x y = false) : rightC l = false := by
  have : chainB l = false := by
    cases hc : chainB l with
    | false => rfl
    | true => rw [(chain_iff l).1 hc j x y hj hk] at h; cases h
  rw [rightC, this, Bool.and_false]
theorem right_yes {l : List Ct} (h : ∀ j x, l[j]? = some x → okC x = true ∧ (∀ i y, j = i + 1 → l[i]? = some y → lessC y x = true)) : rightC l = true := by
  rw [rightC, Bool.and_eq_true]
  refine ⟨?_, (chain_iff l).2 fun j x y hx hy => (h (j + 1) y hy).2 j x rfl hx⟩
  rw [List.all_eq_true]
  intro x hx
  obtain ⟨j, hj⟩ := List.getElem?_of_mem hx
  exact (h j x hj).1
set_option maxHeartbeats 4000000 in
theorem right_any (l : List Ct) (a : Option Addr) (n c : Nat) (w : World) (h : Rd w 6 n (.slice a n c) (cts l)) (hn : l.length = n) (hl : n ≤ 1073741824) :
    Calls Try.prog 24 #[.slice a n c] w fun e w' => e = .returned (.bool (rightC l)) ∧ Ext w w' := by
  have H := Lib.hid h
  have HN := Lib.hid hn
  have HL := Lib.hid hl
  have M := Lib.hid may_any
  have LS := Lib.hid (fun x y : Ct => fun w => less_any x.d x.a x.b x.c x.e y.d y.a y.b y.c y.e w)
  have RT := Lib.hid (fun x : Ct => fun w => _root_.Go.Proofs.Ytfpmejbgmgdedaa.right_any x.d x.a x.b x.c x.e w)
  obtain ⟨R, hR⟩ : ∃ R, R = rightC l := ⟨_, rfl⟩
  rw [← hR]
  have HR := Lib.hid hR
  clear h hn hl hR
  go_enter Try.func24, Try.ntmps24
  go_wp2
  go_loopw [7] (fun i wr => ∃ j : Nat, j ≤ n ∧ i = .int .i64 j ∧ Ext w wr ∧ ∀ (k : Nat) (x : Ct), k < j → l[k]? = some x → okC x = true ∧ (∀ i y, k = i + 1 → l[i]? = some y → lessC y x = true)) (fun i _ => n - (intOf i).toNat)
  case atStart => exact ⟨0, by omega, rfl, by (repeat' (first | with_reducible exact Ext.refl _ | with_reducible refine Ext.ext ?_ _ | with_reducible refine Ext.alloc ?_ _ | with_reducible refine Ext.drew ?_ | with_reducible refine Ext.drewN ?_ _ | with_reducible assumption)), fun k x hk => absurd hk (Nat.not_lt_zero k)⟩
  case round =>
    obtain ⟨j, hj, rfl, ⟨z, rfl⟩, hok⟩ := hrel
    have HOK := Lib.hid hok
    clear hok
    by_cases hlt : j < n
    · obtain ⟨x, hx⟩ : ∃ x, l[j]? = some x := ⟨l[j]'(by have := HN.out; omega), List.getElem?_eq_getElem _⟩
      obtain ⟨b, off, rfl, -⟩ := H.out.cells (by omega)
      obtain ⟨q0, q1, q2, q3, q4, q5⟩ := cts_at H.out j x hx
      haveI : LtSz b w.heap.size := ⟨World.block_lt_of_cell? _ _ q0⟩
      have i1 : (0 : Int) ≤ j := by omega
      have i2 : (j : Int) < n := by omega
      have ew : wrap64 ((j : Int) + 1) = ((j + 1 : Nat) : Int) := (IntWalk.wrap64_in _ ⟨by omega, by have := HL.out; omega⟩).trans (by omega)
      have HX := Lib.hid hx
      have STEP : okC x = true → (∀ i y, j = i + 1 → l[i]? = some y → lessC y x = true) → ∀ (k : Nat) (x : Ct), k < j + 1 → l[k]? = some x → okC x = true ∧ (∀ i y, k = i + 1 → l[i]? = some y → lessC y x = true) := fun h1 h2 k x' hk hx' => by
        rcases Nat.lt_or_ge k j with h | h
        · exact HOK.out k x' h hx'
        · obtain rfl : k = j := by omega
          rw [HX.out] at hx'
          cases hx'
          exact ⟨h1, h2⟩
      have ST := Lib.hid STEP
      clear STEP hx
      have RX := Lib.hid (fun w => RT.out x w)
      obtain ⟨b0, f0⟩ : ∃ b, _root_.Go.Proofs.Ytfpmejbgmgdedaa.rightB x.t = b := ⟨_, rfl⟩
      obtain ⟨b1, f1⟩ : ∃ b, (x.n == 0) = b := ⟨_, rfl⟩
      obtain ⟨b2, f2⟩ : ∃ b, mayB x.n = b := ⟨_, rfl⟩
      have hk : okC x = (b0 && (!b1 && b2)) := by subst f0 f1 f2; rfl
      have HK := Lib.hid hk
      have MN := Lib.hid (fun w => M.out x.n w)
      rw [f2] at MN
      unfold Ct.t at f0
      rw [f0] at RX
      obtain ⟨xd, xa, xb, xc, xe, xn⟩ := x
      dsimp only at q0 q1 q2 q3 q4 q5 MN RX f1
      clear hk f2 f0
      cases b0
      case false =>
        have RR := Lib.hid (show false = R by rw [HR.out, right_no1 HX.out (by rw [HK.out]; rfl)])
        clear f1
        go_wp2
        refine wp_region_ext (by kernel_rfl) (by kernel_rfl) ?_
        repeat (go_big_quiet_step (first | (go_at_call 23; (apply quiet_of; (with_reducible exact RX.out _); (intro w' hx; obtain ⟨z, rfl⟩ := hx; (try simp only [ext_ext, add_assoc]); exact ⟨_, rfl⟩)))))
        refine wpQuiet_nil ?_
        intro xK
        go_wp2
        go_returns
        exact ⟨retb rfl RR.out, by (repeat' (first | with_reducible exact Ext.refl _ | with_reducible refine Ext.ext ?_ _ | with_reducible refine Ext.alloc ?_ _ | with_reducible refine Ext.drew ?_ | with_reducible refine Ext.drewN ?_ _ | with_reducible assumption))⟩
      case true =>
      cases b1
      case true =>
        have RR := Lib.hid (show false = R by rw [HR.out, right_no1 HX.out (by rw [HK.out]; rfl)])
        go_wp2
        refine wp_region_ext (by kernel_rfl) (by kernel_rfl) ?_
        repeat (go_big_quiet_step (first | (go_at_call 23; (apply quiet_of; (with_reducible exact RX.out _); (intro w' hx; obtain ⟨z, rfl⟩ := hx; (try simp only [ext_ext, add_assoc]); exact ⟨_, rfl⟩)))))
        refine wpQuiet_nil ?_
        intro xK
        go_wp2
        go_returns
        exact ⟨retb rfl RR.out, by (repeat' (first | with_reducible exact Ext.refl _ | with_reducible refine Ext.ext ?_ _ | with_reducible refine Ext.alloc ?_ _ | with_reducible refine Ext.drew ?_ | with_reducible refine Ext.drewN ?_ _ | with_reducible assumption))⟩
      case false =>
      cases b2
      case false =>
        have RR := Lib.hid (show false = R by rw [HR.out, right_no1 HX.out (by rw [HK.out]; rfl)])
        go_wp2
        refine wp_region_ext (by kernel_rfl) (by kernel_rfl) ?_
        repeat (go_big_quiet_step (first | (go_at_call 23; (apply quiet_of; (with_reducible exact RX.out _); (intro w' hx; obtain ⟨z, rfl⟩ := hx; (try simp only [ext_ext, add_assoc]); exact ⟨_, rfl⟩))) | (go_at_call 52; (apply quiet_of; (with_reducible exact still_quiet (MN.out _)); (intro w' hx; obtain ⟨z, rfl⟩ := hx; (try simp only [ext_ext, add_assoc]); exact ⟨_, rfl⟩)))))
        refine wpQuiet_nil ?_
        intro xK
        go_wp2
        go_returns
        exact ⟨retb rfl RR.out, by (repeat' (first | with_reducible exact Ext.refl _ | with_reducible refine Ext.ext ?_ _ | with_reducible refine Ext.alloc ?_ _ | with_reducible refine Ext.drew ?_ | with_reducible refine Ext.drewN ?_ _ | with_reducible assumption))⟩
      case true =>
        by_cases h0 : j = 0
        · have j0 : decide (0 < (j : Int)) = false := decide_eq_false (by omega)
          have j0' : decide (0 < j) = false := decide_eq_false (by omega)
          have H0 := Lib.hid h0
          clear h0
          go_wp2
          refine wp_region_ext (by kernel_rfl) (by kernel_rfl) ?_
          repeat (go_big_quiet_step (first | (go_at_call 23; (apply quiet_of; (with_reducible exact RX.out _); (intro w' hx; obtain ⟨z, rfl⟩ := hx; (try simp only [ext_ext, add_assoc]); exact ⟨_, rfl⟩))) | (go_at_call 52; (apply quiet_of; (with_reducible exact still_quiet (MN.out _)); (intro w' hx; obtain ⟨z, rfl⟩ := hx; (try simp only [ext_ext, add_assoc]); exact ⟨_, rfl⟩)))))
          refine wpQuiet_nil ?_
          intro xK
          go_wp2
          exact ⟨⟨j + 1, by omega, congrArg (Value.int .i64) ew, by (repeat' (first | with_reducible exact Ext.refl _ | with_reducible refine Ext.ext ?_ _ | with_reducible refine Ext.alloc ?_ _ | with_reducible refine Ext.drew ?_ | with_reducible refine Ext.drewN ?_ _ | with_reducible assumption)), ST.out (by rw [HK.out]; rfl) (fun i y hi => by have := H0.out; omega)⟩, by rw [ew]; simp only [intOf]; omega⟩
        · have j0 : decide (0 < (j : Int)) = true := decide_eq_true (by omega)
          have j0' : decide (0 < j) = true := decide_eq_true (by omega)
          obtain ⟨i, hi⟩ : ∃ i, j = i + 1 := ⟨j - 1, by omega⟩
          have HI := Lib.hid hi
          have ei : wrap64 ((j : Int) - 1) = (i : Int) := (IntWalk.wrap64_in _ ⟨by omega, by have := HL.out; omega⟩).trans (by omega)
          have i3 : (0 : Int) ≤ i := by omega
          have i4 : (i : Int) < n := by omega
          obtain ⟨y, hy⟩ : ∃ y, l[i]? = some y := ⟨l[i]'(by have := HN.out; omega), List.getElem?_eq_getElem _⟩
          have HY := Lib.hid hy
          obtain ⟨p0, p1, p2, p3, p4, p5⟩ := cts_at H.out i y hy
          have LN := Lib.hid (fun w => LS.out y ⟨xd, xa, xb, xc, xe, xn⟩ w)
          obtain ⟨b4, f4⟩ : ∃ b, lessC y ⟨xd, xa, xb, xc, xe, xn⟩ = b := ⟨_, rfl⟩
          have HL4 := Lib.hid f4
          unfold lessC Ct.t at f4
          rw [f4] at LN
          obtain ⟨yd, ya, yb, yc, ye, yn⟩ := y
          dsimp only at LN p0 p1 p2 p3 p4 p5
          clear h0 hi hy f4
          cases b4
          · have RR := Lib.hid (show false = R by rw [HR.out, right_no2 HY.out (by rw [← HI.out]; exact HX.out) HL4.out])
            go_wp2
            refine wp_region_ext (by kernel_rfl) (by kernel_rfl) ?_
            repeat (go_big_quiet_step (first | (go_at_call 23; (apply quiet_of; (with_reducible exact RX.out _); (intro w' hx; obtain ⟨z, rfl⟩ := hx; (try simp only [ext_ext, add_assoc]); exact ⟨_, rfl⟩))) | (go_at_call 52; (apply quiet_of; (with_reducible exact still_quiet (MN.out _)); (intro w' hx; obtain ⟨z, rfl⟩ := hx; (try simp only [ext_ext, add_assoc]); exact ⟨_, rfl⟩))) | (go_at_call 14; (apply quiet_of; (with_reducible exact LN.out _); (intro w' hx; obtain ⟨z, rfl⟩ := hx; (try simp only [ext_ext, add_assoc]); exact ⟨_, rfl⟩)))))
            refine wpQuiet_nil ?_
            intro xK
            go_wp2
            go_returns
            exact ⟨retb rfl RR.out, by (repeat' (first | with_reducible exact Ext.refl _ | with_reducible refine Ext.ext ?_ _ | with_reducible refine Ext.alloc ?_ _ | with_reducible refine Ext.drew ?_ | with_reducible refine Ext.drewN ?_ _ | with_reducible assumption))⟩
          · go_wp2
            refine wp_region_ext (by kernel_rfl) (by kernel_rfl) ?_
            repeat (go_big_quiet_step (first | (go_at_call 23; (apply quiet_of; (with_reducible exact RX.out _); (intro w' hx; obtain ⟨z, rfl⟩ := hx; (try simp only [ext_ext, add_assoc]); exact ⟨_, rfl⟩))) | (go_at_call 52; (apply quiet_of; (with_reducible exact still_quiet (MN.out _)); (intro w' hx; obtain ⟨z, rfl⟩ := hx; (try simp only [ext_ext, add_assoc]); exact ⟨_, rfl⟩))) | (go_at_call 14; (apply quiet_of; (with_reducible exact LN.out _); (intro w' hx; obtain ⟨z, rfl⟩ := hx; (try simp only [ext_ext, add_assoc]); exact ⟨_, rfl⟩)))))
            refine wpQuiet_nil ?_
            intro xK
            go_wp2
            exact ⟨⟨j + 1, by omega, congrArg (Value.int .i64) ew, by (repeat' (first | with_reducible exact Ext.refl _ | with_reducible refine Ext.ext ?_ _ | with_reducible refine Ext.alloc ?_ _ | with_reducible refine Ext.drew ?_ | with_reducible refine Ext.drewN ?_ _ | with_reducible assumption)), ST.out (by rw [HK.out]; rfl) (fun i' y hi' hy' => by
              have := HI.out
              obtain rfl : i' = i := by omega
              rw [HY.out] at hy'
              cases hy'
              exact HL4.out)⟩, by rw [ew]; simp only [intOf]; omega⟩
    · obtain rfl : j = n := by omega
      have RR := Lib.hid (show true = R by rw [HR.out, right_yes (fun k x hx => HOK.out k x (by have := (List.getElem?_eq_some_iff.1 hx).1; have := HN.out; omega) hx)])
      go_wp2
      go_returns
      exact ⟨retb rfl RR.out, by (repeat' (first | with_reducible exact Ext.refl _ | with_reducible refine Ext.ext ?_ _ | with_reducible refine Ext.alloc ?_ _ | with_reducible refine Ext.drew ?_ | with_reducible refine Ext.drewN ?_ _ | with_reducible assumption))⟩
end Go.Proofs.Ytfpmejbgmgdedaa.Fr
