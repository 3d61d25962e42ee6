/- Net: Right. -/
import Derived.Test.YtlhmifkimnmnmaaNt2
namespace Go.Proofs.Ytlhmifkimnmnmaa
set_option linter.unusedSimpArgs false
set_option linter.unusedVariables false
open Go.RowKit

def ltB (x y : Bx) : Bool := decide (ord3 x.e x.f x.t y.e y.f y.t < 0)
def okB (x : Bx) : Bool := !(decide (x.e < 0) || decide (x.f < 0) || decide (x.t < 0) || decide (x.l.length < 1) || decide (4096 < x.l.length)) && !(x.l.any (fun m => m.e != x.e))
def chainB : List Bx → Bool
  | x :: y :: l => ltB x y && chainB (y :: l)
  | _ => true
def rightB (l : List Bx) : Bool := l.all okB && chainB l
theorem chain_iff : ∀ l : List Bx, chainB l = true ↔ ∀ (j : Nat) x y, l[j]? = some x → l[j + 1]? = some y → ltB x y = true
  | [] => by simp [chainB]
  | [x] => by simp [chainB]
  | x :: y :: l => by
    rw [chainB, Bool.and_eq_true, chain_iff (y :: l)]
    constructor
    · rintro ⟨h1, h2⟩ j a b ha hb
      cases j with
      | zero =>
        obtain rfl : x = a := by simpa using ha
        obtain rfl : y = b := by simpa using hb
        exact h1
      | succ j => exact h2 j a b (by simpa using ha) (by simpa using hb)
    · intro h
      exact ⟨h 0 x y rfl rfl, fun j a b ha hb => h (j + 1) a b (by simpa using ha) (by simpa using hb)⟩
theorem right_no1 {l : List Bx} {j : Nat} {x : Bx} (hj : l[j]? = some x) (h : okB x = false) : rightB l = false := by
  have : l.all okB = false := by rw [List.all_eq_false]; exact ⟨x, List.mem_of_getElem? hj, by simp [h]⟩
  rw [rightB, this, Bool.false_and]
theorem right_no2 {l : List Bx} {j : Nat} {x y : Bx} (hj : l[j]? = some x) (hk : l[j + 1]? = some y) (h : ltB x y = false) : rightB l = false := by
  have : chainB l = false := by
    cases hc : chainB l with
    | false => rfl
    | true => rw [(chain_iff l).1 hc j x y hj hk] at h; cases h
  rw [rightB, this, Bool.and_false]
theorem right_yes {l : List Bx} (h : ∀ (j : Nat) x, l[j]? = some x → okB x = true ∧ (∀ i y, j = i + 1 → l[i]? = some y → ltB y x = true)) : rightB l = true := by
  rw [rightB, Bool.and_eq_true]
  refine ⟨?_, (chain_iff l).2 fun j x y hx hy => (h (j + 1) y hy).2 j x rfl hx⟩
  rw [List.all_eq_true]
  intro x hx
  obtain ⟨j, hj⟩ := List.getElem?_of_mem hx
  exact (h j x hj).1
theorem rds_len {w : World} {l : List Bx} {a : Option Addr} {n c : Nat} (h : RdsG shB w l (.slice a n c)) : n = l.length := by
  obtain ⟨a', c', us, he, -⟩ := h
  exact (Value.slice.inj he).2.1
theorem rds_some {w : World} {l : List Bx} {a : Option Addr} {n c : Nat} (h : RdsG shB w l (.slice a n c)) (hn : 0 < n) : ∃ b off, a = some ⟨b, off, none⟩ := by
  obtain ⟨a', c', us, he, hl, hr, -⟩ := h
  obtain ⟨rfl, rfl, rfl⟩ := Value.slice.inj he
  obtain ⟨b, off, rfl, -⟩ := hr.cells hn
  exact ⟨b, off, rfl⟩
/-- The cells of a box, its list's value. -/
theorem bx_at {w : World} {l : List Bx} {b off n c : Nat} (h : RdsG shB w l (.slice (some ⟨b, off, none⟩) n c)) {i : Nat} {x : Bx} (hi : l[i]? = some x) :
    ∃ u, RbG 10 mgs w x.l u ∧ w.cell? ⟨b, off + i * 4, none⟩ = some (.int .i64 x.e) ∧ w.cell? ⟨b, off + i * 4 + 1, none⟩ = some (.int .i64 x.f) ∧ w.cell? ⟨b, off + i * 4 + 2, none⟩ = some (.int .i64 x.t) ∧ w.cell? ⟨b, off + i * 4 + 3, none⟩ = some u := by
  obtain ⟨b', off', u, he, hr, hc, -, -⟩ := h.at hi
  obtain ⟨rfl, rfl⟩ : b = b' ∧ off = off' := by simpa using he
  exact ⟨u, hr, hc 0 _ (by decide) rfl, hc 1 _ (by decide) rfl, hc 2 _ (by decide) rfl, hc 3 _ (by decide) rfl⟩
set_option maxHeartbeats 8000000 in
theorem right_any (l : List Bx) (a : Option Addr) (n c : Nat) (w : World) (h : RdsG shB w l (.slice a n c)) (hl : n ≤ 1073741823) (hm : ∀ x ∈ l, x.l.length ≤ 1073741823) :
    Calls Try.prog 10 #[.slice a n c] w fun e w' => e = .returned (.bool (rightB l)) ∧ Ext w w' := by
  have H := Lib.hid h
  have HN := Lib.hid (rds_len h)
  have HL := Lib.hid hl
  have HM := Lib.hid hm
  have ORD := Lib.hid order_any
  obtain ⟨R, hR⟩ : ∃ R, R = rightB l := ⟨_, rfl⟩
  rw [← hR]
  have HR := Lib.hid hR
  clear h hl hm hR
  go_enter Try.func10, Try.ntmps10
  go_wp2
  go_loopw [7] (fun i wr => ∃ j : Nat, j ≤ n ∧ i = .int .i64 j ∧ Ext w wr ∧ ∀ (k : Nat) (x : Bx), k < j → l[k]? = some x → okB x = true ∧ (∀ i y, k = i + 1 → l[i]? = some y → ltB y x = true)) (fun i _ => n - (intOf i).toNat)
  case atStart => exact ⟨0, by omega, rfl, by (repeat' (first | with_reducible exact Ext.refl _ | with_reducible refine Ext.ext ?_ _ | with_reducible refine Ext.alloc ?_ _ | with_reducible refine Ext.drew ?_ | with_reducible refine Ext.drewN ?_ _ | with_reducible assumption)), fun k x hk => absurd hk (Nat.not_lt_zero k)⟩
  case round =>
    obtain ⟨j, hj, rfl, hx1, hok⟩ := hrel
    have HX1 := Lib.hid hx1
    have HOK := Lib.hid hok
    clear hok hx1
    by_cases hlt : j < n
    · obtain ⟨x, hx⟩ : ∃ x, l[j]? = some x := ⟨l[j]'(by have := HN.out; omega), List.getElem?_eq_getElem _⟩
      obtain ⟨b, off, rfl⟩ := rds_some H.out (by omega)
      obtain ⟨u, hu, q0, q1, q2, q3⟩ := bx_at (H.out.on HX1.out) hx
      have i1 : (0 : Int) ≤ j := by omega
      have i2 : (j : Int) < n := by omega
      have ew : wrap64 ((j : Int) + 1) = ((j + 1 : Nat) : Int) := (IntWalk.wrap64_in _ ⟨by omega, by have := HL.out; omega⟩).trans (by omega)
      have HX := Lib.hid hx
      have HML := Lib.hid (HM.out x (List.mem_of_getElem? hx))
      obtain ⟨ua, uc, rfl, hrd⟩ := hu
      have HRD := Lib.hid hrd
      clear hrd hx
      obtain ⟨xe, xf, xt, xl⟩ := x
      dsimp only at q0 q1 q2 q3 HML HRD
      have EW := Lib.hid ew
      clear ew
      haveI : LtSz b wr.heap.size := ⟨World.block_lt_of_cell? _ _ q0⟩
      go_upto_region 4 with fail
      obtain ⟨w1, hw1⟩ : ∃ w1, w1 = wr.alloc (.cells #[.int .i64 xe, .int .i64 xf, .int .i64 xt, .slice ua xl.length uc] 34) := ⟨_, rfl⟩
      obtain ⟨p, hp⟩ : ∃ p, p = wr.heap.size := ⟨_, rfl⟩
      have p0 : w1.cell? ⟨p, 0, none⟩ = some (.int .i64 xe) := by subst hw1; exact cell_lit _ _ _ _ _ _ hp rfl
      have p1 : w1.cell? ⟨p, 1, none⟩ = some (.int .i64 xf) := by subst hw1; exact cell_lit _ _ _ _ _ _ hp rfl
      have p2 : w1.cell? ⟨p, 2, none⟩ = some (.int .i64 xt) := by subst hw1; exact cell_lit _ _ _ _ _ _ hp rfl
      have p3 : w1.cell? ⟨p, 3, none⟩ = some (.slice ua xl.length uc) := by subst hw1; exact cell_lit _ _ _ _ _ _ hp rfl
      have hx2 : Ext wr w1 := by subst hw1; exact (Ext.refl wr).alloc _
      rw [← hw1, ← hp]
      have HX2 := Lib.hid hx2
      have P0 := Lib.hid p0
      have RD := Lib.hid (HRD.out.of_ext hx2)
      haveI : LtSz p w1.heap.size := ⟨World.block_lt_of_cell? _ _ p0⟩
      clear hw1 hp hx2 HRD q0 q1 q2 q3
      have ST : Hid (okB ⟨xe, xf, xt, xl⟩ = true → (∀ i y, j = i + 1 → l[i]? = some y → ltB y ⟨xe, xf, xt, xl⟩ = true) → ∀ (k : Nat) (x : Bx), k < j + 1 → l[k]? = some x → okB x = true ∧ (∀ i y, k = i + 1 → l[i]? = some y → ltB y x = true)) := Lib.hid (fun h1 h2 k x' hk hx' => by
        rcases Nat.lt_or_ge k j with h | h
        · exact HOK.out k x' h hx'
        · obtain rfl : k = j := by omega
          rw [HX.out] at hx'
          cases hx'
          exact ⟨h1, h2⟩)
      obtain ⟨b1, f1⟩ : ∃ b, decide (xe < 0) = b := ⟨_, rfl⟩
      obtain ⟨b2, f2⟩ : ∃ b, decide (xf < 0) = b := ⟨_, rfl⟩
      obtain ⟨b3, f3⟩ : ∃ b, decide (xt < 0) = b := ⟨_, rfl⟩
      obtain ⟨b4, f4⟩ : ∃ b, decide (xl.length < 1) = b := ⟨_, rfl⟩
      obtain ⟨b5, f5⟩ : ∃ b, decide (4096 < xl.length) = b := ⟨_, rfl⟩
      obtain ⟨b6, f6⟩ : ∃ b, xl.any (fun m => m.e != xe) = b := ⟨_, rfl⟩
      have HK := Lib.hid (show okB ⟨xe, xf, xt, xl⟩ = (!(b1 || b2 || b3 || b4 || b5) && !b6) by unfold okB; dsimp only; rw [f1, f2, f3, f4, f5, f6])
      have f4' : decide ((xl.length : Int) < 1) = b4 := by rw [← f4]; exact decide_eq_decide.2 (by omega)
      have f5' : decide (4096 < (xl.length : Int)) = b5 := by rw [← f5]; exact decide_eq_decide.2 (by omega)
      have CT := Lib.hid (fun W (hx : Ext w1 W) => contains_right (fun m => m.e != xe) xl ua uc p W (RD.out.of_ext hx) HML.out (fun x W' hx' => right1_any x xe p W' (keep_cell P0.out (hx.trans hx')).2))
      rw [f6] at CT
      clear f6
      cases b1
      case true =>
        have RR := Lib.hid (show false = R by rw [HR.out, right_no1 HX.out (by rw [HK.out]; rfl)])
        refine wp_region_ext (by kernel_rfl) (by kernel_rfl) ?_
        repeat (go_big_quiet_step (fail))
        refine wpQuiet_nil ?_
        intro xK
        go_wp2
        go_returns
        exact ⟨retb rfl RR.out, by (repeat' (first | with_reducible exact Ext.refl _ | with_reducible refine Ext.ext ?_ _ | with_reducible refine Ext.alloc ?_ _ | with_reducible refine Ext.drew ?_ | with_reducible refine Ext.drewN ?_ _ | with_reducible refine Ext.trans ?_ HX1.out | with_reducible refine Ext.trans ?_ HX2.out | with_reducible refine Ext.trans ?_ HX3.out | with_reducible refine Ext.trans ?_ HX4.out | with_reducible refine Ext.trans ?_ HX5.out | with_reducible refine Ext.trans ?_ HX6.out | with_reducible refine Ext.trans ?_ HX7.out | with_reducible refine Ext.trans ?_ HX8.out | with_reducible refine Ext.trans ?_ HX9.out | with_reducible refine Ext.trans ?_ HX10.out | with_reducible refine Ext.trans ?_ HX11.out | with_reducible refine Ext.trans ?_ HX12.out | with_reducible refine Ext.trans ?_ HX13.out | with_reducible refine Ext.trans ?_ HX14.out | with_reducible refine Ext.trans ?_ HX15.out | with_reducible refine Ext.trans ?_ HX16.out | with_reducible refine Ext.trans ?_ HX17.out | with_reducible refine Ext.trans ?_ HX18.out | with_reducible refine Ext.trans ?_ HX19.out | with_reducible refine Ext.trans ?_ HX20.out | with_reducible refine Ext.trans ?_ HX21.out | with_reducible refine Ext.trans ?_ HX22.out | with_reducible refine Ext.trans ?_ HX23.out | with_reducible refine Ext.trans ?_ HX24.out))⟩
      case false =>
      cases b2
      case true =>
        have RR := Lib.hid (show false = R by rw [HR.out, right_no1 HX.out (by rw [HK.out]; rfl)])
        refine wp_region_ext (by kernel_rfl) (by kernel_rfl) ?_
        repeat (go_big_quiet_step (fail))
        refine wpQuiet_nil ?_
        intro xK
        go_wp2
        go_returns
        exact ⟨retb rfl RR.out, by (repeat' (first | with_reducible exact Ext.refl _ | with_reducible refine Ext.ext ?_ _ | with_reducible refine Ext.alloc ?_ _ | with_reducible refine Ext.drew ?_ | with_reducible refine Ext.drewN ?_ _ | with_reducible refine Ext.trans ?_ HX1.out | with_reducible refine Ext.trans ?_ HX2.out | with_reducible refine Ext.trans ?_ HX3.out | with_reducible refine Ext.trans ?_ HX4.out | with_reducible refine Ext.trans ?_ HX5.out | with_reducible refine Ext.trans ?_ HX6.out | with_reducible refine Ext.trans ?_ HX7.out | with_reducible refine Ext.trans ?_ HX8.out | with_reducible refine Ext.trans ?_ HX9.out | with_reducible refine Ext.trans ?_ HX10.out | with_reducible refine Ext.trans ?_ HX11.out | with_reducible refine Ext.trans ?_ HX12.out | with_reducible refine Ext.trans ?_ HX13.out | with_reducible refine Ext.trans ?_ HX14.out | with_reducible refine Ext.trans ?_ HX15.out | with_reducible refine Ext.trans ?_ HX16.out | with_reducible refine Ext.trans ?_ HX17.out | with_reducible refine Ext.trans ?_ HX18.out | with_reducible refine Ext.trans ?_ HX19.out | with_reducible refine Ext.trans ?_ HX20.out | with_reducible refine Ext.trans ?_ HX21.out | with_reducible refine Ext.trans ?_ HX22.out | with_reducible refine Ext.trans ?_ HX23.out | with_reducible refine Ext.trans ?_ HX24.out))⟩
      case false =>
      cases b3
      case true =>
        have RR := Lib.hid (show false = R by rw [HR.out, right_no1 HX.out (by rw [HK.out]; rfl)])
        refine wp_region_ext (by kernel_rfl) (by kernel_rfl) ?_
        repeat (go_big_quiet_step (fail))
        refine wpQuiet_nil ?_
        intro xK
        go_wp2
        go_returns
        exact ⟨retb rfl RR.out, by (repeat' (first | with_reducible exact Ext.refl _ | with_reducible refine Ext.ext ?_ _ | with_reducible refine Ext.alloc ?_ _ | with_reducible refine Ext.drew ?_ | with_reducible refine Ext.drewN ?_ _ | with_reducible refine Ext.trans ?_ HX1.out | with_reducible refine Ext.trans ?_ HX2.out | with_reducible refine Ext.trans ?_ HX3.out | with_reducible refine Ext.trans ?_ HX4.out | with_reducible refine Ext.trans ?_ HX5.out | with_reducible refine Ext.trans ?_ HX6.out | with_reducible refine Ext.trans ?_ HX7.out | with_reducible refine Ext.trans ?_ HX8.out | with_reducible refine Ext.trans ?_ HX9.out | with_reducible refine Ext.trans ?_ HX10.out | with_reducible refine Ext.trans ?_ HX11.out | with_reducible refine Ext.trans ?_ HX12.out | with_reducible refine Ext.trans ?_ HX13.out | with_reducible refine Ext.trans ?_ HX14.out | with_reducible refine Ext.trans ?_ HX15.out | with_reducible refine Ext.trans ?_ HX16.out | with_reducible refine Ext.trans ?_ HX17.out | with_reducible refine Ext.trans ?_ HX18.out | with_reducible refine Ext.trans ?_ HX19.out | with_reducible refine Ext.trans ?_ HX20.out | with_reducible refine Ext.trans ?_ HX21.out | with_reducible refine Ext.trans ?_ HX22.out | with_reducible refine Ext.trans ?_ HX23.out | with_reducible refine Ext.trans ?_ HX24.out))⟩
      case false =>
      cases b4
      case true =>
        have RR := Lib.hid (show false = R by rw [HR.out, right_no1 HX.out (by rw [HK.out]; rfl)])
        refine wp_region_ext (by kernel_rfl) (by kernel_rfl) ?_
        repeat (go_big_quiet_step (fail))
        refine wpQuiet_nil ?_
        intro xK
        go_wp2
        go_returns
        exact ⟨retb rfl RR.out, by (repeat' (first | with_reducible exact Ext.refl _ | with_reducible refine Ext.ext ?_ _ | with_reducible refine Ext.alloc ?_ _ | with_reducible refine Ext.drew ?_ | with_reducible refine Ext.drewN ?_ _ | with_reducible refine Ext.trans ?_ HX1.out | with_reducible refine Ext.trans ?_ HX2.out | with_reducible refine Ext.trans ?_ HX3.out | with_reducible refine Ext.trans ?_ HX4.out | with_reducible refine Ext.trans ?_ HX5.out | with_reducible refine Ext.trans ?_ HX6.out | with_reducible refine Ext.trans ?_ HX7.out | with_reducible refine Ext.trans ?_ HX8.out | with_reducible refine Ext.trans ?_ HX9.out | with_reducible refine Ext.trans ?_ HX10.out | with_reducible refine Ext.trans ?_ HX11.out | with_reducible refine Ext.trans ?_ HX12.out | with_reducible refine Ext.trans ?_ HX13.out | with_reducible refine Ext.trans ?_ HX14.out | with_reducible refine Ext.trans ?_ HX15.out | with_reducible refine Ext.trans ?_ HX16.out | with_reducible refine Ext.trans ?_ HX17.out | with_reducible refine Ext.trans ?_ HX18.out | with_reducible refine Ext.trans ?_ HX19.out | with_reducible refine Ext.trans ?_ HX20.out | with_reducible refine Ext.trans ?_ HX21.out | with_reducible refine Ext.trans ?_ HX22.out | with_reducible refine Ext.trans ?_ HX23.out | with_reducible refine Ext.trans ?_ HX24.out))⟩
      case false =>
      cases b5
      case true =>
        have RR := Lib.hid (show false = R by rw [HR.out, right_no1 HX.out (by rw [HK.out]; rfl)])
        refine wp_region_ext (by kernel_rfl) (by kernel_rfl) ?_
        repeat (go_big_quiet_step (fail))
        refine wpQuiet_nil ?_
        intro xK
        go_wp2
        go_returns
        exact ⟨retb rfl RR.out, by (repeat' (first | with_reducible exact Ext.refl _ | with_reducible refine Ext.ext ?_ _ | with_reducible refine Ext.alloc ?_ _ | with_reducible refine Ext.drew ?_ | with_reducible refine Ext.drewN ?_ _ | with_reducible refine Ext.trans ?_ HX1.out | with_reducible refine Ext.trans ?_ HX2.out | with_reducible refine Ext.trans ?_ HX3.out | with_reducible refine Ext.trans ?_ HX4.out | with_reducible refine Ext.trans ?_ HX5.out | with_reducible refine Ext.trans ?_ HX6.out | with_reducible refine Ext.trans ?_ HX7.out | with_reducible refine Ext.trans ?_ HX8.out | with_reducible refine Ext.trans ?_ HX9.out | with_reducible refine Ext.trans ?_ HX10.out | with_reducible refine Ext.trans ?_ HX11.out | with_reducible refine Ext.trans ?_ HX12.out | with_reducible refine Ext.trans ?_ HX13.out | with_reducible refine Ext.trans ?_ HX14.out | with_reducible refine Ext.trans ?_ HX15.out | with_reducible refine Ext.trans ?_ HX16.out | with_reducible refine Ext.trans ?_ HX17.out | with_reducible refine Ext.trans ?_ HX18.out | with_reducible refine Ext.trans ?_ HX19.out | with_reducible refine Ext.trans ?_ HX20.out | with_reducible refine Ext.trans ?_ HX21.out | with_reducible refine Ext.trans ?_ HX22.out | with_reducible refine Ext.trans ?_ HX23.out | with_reducible refine Ext.trans ?_ HX24.out))⟩
      case false =>
      by_cases h0 : j = 0
      · have j0 : decide (0 < (j : Int)) = false := decide_eq_false (by omega)
        have j0' : decide (0 < j) = false := decide_eq_false (by omega)
        have H0 := Lib.hid h0
        clear h0
        refine wp_region_ext (by kernel_rfl) (by kernel_rfl) ?_
        repeat (go_big_quiet_step (fail))
        refine wpQuiet_nil ?_
        intro xK
        cases b6
        · go_wp2_with (go_at_call 25; (with_reducible refine (CT.out _ (by (repeat' (first | with_reducible exact Ext.refl _ | with_reducible refine Ext.ext ?_ _ | with_reducible refine Ext.alloc ?_ _ | with_reducible refine Ext.drew ?_ | with_reducible refine Ext.drewN ?_ _ | with_reducible refine Ext.trans ?_ HX1.out | with_reducible refine Ext.trans ?_ HX2.out | with_reducible refine Ext.trans ?_ HX3.out | with_reducible refine Ext.trans ?_ HX4.out | with_reducible refine Ext.trans ?_ HX5.out | with_reducible refine Ext.trans ?_ HX6.out | with_reducible refine Ext.trans ?_ HX7.out | with_reducible refine Ext.trans ?_ HX8.out | with_reducible refine Ext.trans ?_ HX9.out | with_reducible refine Ext.trans ?_ HX10.out | with_reducible refine Ext.trans ?_ HX11.out | with_reducible refine Ext.trans ?_ HX12.out | with_reducible refine Ext.trans ?_ HX13.out | with_reducible refine Ext.trans ?_ HX14.out | with_reducible refine Ext.trans ?_ HX15.out | with_reducible refine Ext.trans ?_ HX16.out | with_reducible refine Ext.trans ?_ HX17.out | with_reducible refine Ext.trans ?_ HX18.out | with_reducible refine Ext.trans ?_ HX19.out | with_reducible refine Ext.trans ?_ HX20.out | with_reducible refine Ext.trans ?_ HX21.out | with_reducible refine Ext.trans ?_ HX22.out | with_reducible refine Ext.trans ?_ HX23.out | with_reducible refine Ext.trans ?_ HX24.out)))).mono ?_); rintro e w3 ⟨rfl, hx⟩; have HX3 := Lib.hid hx; clear hx)
          exact ⟨⟨j + 1, by omega, congrArg (Value.int .i64) EW.out, by (repeat' (first | with_reducible exact Ext.refl _ | with_reducible refine Ext.ext ?_ _ | with_reducible refine Ext.alloc ?_ _ | with_reducible refine Ext.drew ?_ | with_reducible refine Ext.drewN ?_ _ | with_reducible refine Ext.trans ?_ HX1.out | with_reducible refine Ext.trans ?_ HX2.out | with_reducible refine Ext.trans ?_ HX3.out | with_reducible refine Ext.trans ?_ HX4.out | with_reducible refine Ext.trans ?_ HX5.out | with_reducible refine Ext.trans ?_ HX6.out | with_reducible refine Ext.trans ?_ HX7.out | with_reducible refine Ext.trans ?_ HX8.out | with_reducible refine Ext.trans ?_ HX9.out | with_reducible refine Ext.trans ?_ HX10.out | with_reducible refine Ext.trans ?_ HX11.out | with_reducible refine Ext.trans ?_ HX12.out | with_reducible refine Ext.trans ?_ HX13.out | with_reducible refine Ext.trans ?_ HX14.out | with_reducible refine Ext.trans ?_ HX15.out | with_reducible refine Ext.trans ?_ HX16.out | with_reducible refine Ext.trans ?_ HX17.out | with_reducible refine Ext.trans ?_ HX18.out | with_reducible refine Ext.trans ?_ HX19.out | with_reducible refine Ext.trans ?_ HX20.out | with_reducible refine Ext.trans ?_ HX21.out | with_reducible refine Ext.trans ?_ HX22.out | with_reducible refine Ext.trans ?_ HX23.out | with_reducible refine Ext.trans ?_ HX24.out)), ST.out (by rw [HK.out]; rfl) (fun i y hi => by have := H0.out; omega)⟩, by rw [EW.out]; simp only [intOf]; omega⟩
        · have RR := Lib.hid (show false = R by rw [HR.out, right_no1 HX.out (by rw [HK.out]; rfl)])
          go_wp2_with (go_at_call 25; (with_reducible refine (CT.out _ (by (repeat' (first | with_reducible exact Ext.refl _ | with_reducible refine Ext.ext ?_ _ | with_reducible refine Ext.alloc ?_ _ | with_reducible refine Ext.drew ?_ | with_reducible refine Ext.drewN ?_ _ | with_reducible refine Ext.trans ?_ HX1.out | with_reducible refine Ext.trans ?_ HX2.out | with_reducible refine Ext.trans ?_ HX3.out | with_reducible refine Ext.trans ?_ HX4.out | with_reducible refine Ext.trans ?_ HX5.out | with_reducible refine Ext.trans ?_ HX6.out | with_reducible refine Ext.trans ?_ HX7.out | with_reducible refine Ext.trans ?_ HX8.out | with_reducible refine Ext.trans ?_ HX9.out | with_reducible refine Ext.trans ?_ HX10.out | with_reducible refine Ext.trans ?_ HX11.out | with_reducible refine Ext.trans ?_ HX12.out | with_reducible refine Ext.trans ?_ HX13.out | with_reducible refine Ext.trans ?_ HX14.out | with_reducible refine Ext.trans ?_ HX15.out | with_reducible refine Ext.trans ?_ HX16.out | with_reducible refine Ext.trans ?_ HX17.out | with_reducible refine Ext.trans ?_ HX18.out | with_reducible refine Ext.trans ?_ HX19.out | with_reducible refine Ext.trans ?_ HX20.out | with_reducible refine Ext.trans ?_ HX21.out | with_reducible refine Ext.trans ?_ HX22.out | with_reducible refine Ext.trans ?_ HX23.out | with_reducible refine Ext.trans ?_ HX24.out)))).mono ?_); rintro e w3 ⟨rfl, hx⟩; have HX3 := Lib.hid hx; clear hx)
          go_returns
          exact ⟨retb rfl RR.out, by (repeat' (first | with_reducible exact Ext.refl _ | with_reducible refine Ext.ext ?_ _ | with_reducible refine Ext.alloc ?_ _ | with_reducible refine Ext.drew ?_ | with_reducible refine Ext.drewN ?_ _ | with_reducible refine Ext.trans ?_ HX1.out | with_reducible refine Ext.trans ?_ HX2.out | with_reducible refine Ext.trans ?_ HX3.out | with_reducible refine Ext.trans ?_ HX4.out | with_reducible refine Ext.trans ?_ HX5.out | with_reducible refine Ext.trans ?_ HX6.out | with_reducible refine Ext.trans ?_ HX7.out | with_reducible refine Ext.trans ?_ HX8.out | with_reducible refine Ext.trans ?_ HX9.out | with_reducible refine Ext.trans ?_ HX10.out | with_reducible refine Ext.trans ?_ HX11.out | with_reducible refine Ext.trans ?_ HX12.out | with_reducible refine Ext.trans ?_ HX13.out | with_reducible refine Ext.trans ?_ HX14.out | with_reducible refine Ext.trans ?_ HX15.out | with_reducible refine Ext.trans ?_ HX16.out | with_reducible refine Ext.trans ?_ HX17.out | with_reducible refine Ext.trans ?_ HX18.out | with_reducible refine Ext.trans ?_ HX19.out | with_reducible refine Ext.trans ?_ HX20.out | with_reducible refine Ext.trans ?_ HX21.out | with_reducible refine Ext.trans ?_ HX22.out | with_reducible refine Ext.trans ?_ HX23.out | with_reducible refine Ext.trans ?_ HX24.out))⟩
      · have j0 : decide (0 < (j : Int)) = true := decide_eq_true (by omega)
        have j0' : decide (0 < j) = true := decide_eq_true (by omega)
        obtain ⟨i, hi⟩ : ∃ i, j = i + 1 := ⟨j - 1, by omega⟩
        have HI := Lib.hid hi
        have ei : wrap64 ((j : Int) - 1) = (i : Int) := (IntWalk.wrap64_in _ ⟨by omega, by have := HL.out; omega⟩).trans (by omega)
        have i3 : (0 : Int) ≤ i := by omega
        have i4 : (i : Int) < n := by omega
        obtain ⟨y, hy⟩ : ∃ y, l[i]? = some y := ⟨l[i]'(by have := HN.out; omega), List.getElem?_eq_getElem _⟩
        have HY := Lib.hid hy
        obtain ⟨v, hv, r0, r1, r2, r3⟩ := bx_at (H.out.on (HX1.out.trans HX2.out)) hy
        haveI : LtSz b w1.heap.size := ⟨World.block_lt_of_cell? _ _ r0⟩
        obtain ⟨ya, yc, rfl, -⟩ := hv
        obtain ⟨ye, yf, yt, yl⟩ := y
        dsimp only at r0 r1 r2 r3
        have LN := Lib.hid (fun w => ORD.out ye yf yt xe xf xt (.slice ya yl.length yc) (.slice ua xl.length uc) w)
        have LB := Lib.hid (show ltB ⟨ye, yf, yt, yl⟩ ⟨xe, xf, xt, xl⟩ = decide (ord3 ye yf yt xe xf xt < 0) from rfl)
        generalize ord3 ye yf yt xe xf xt = o at *
        clear h0 hi hy
        obtain ⟨bo, fo⟩ : ∃ b, decide (0 ≤ o) = b := ⟨_, rfl⟩
        have LO := Lib.hid (show ltB ⟨ye, yf, yt, yl⟩ ⟨xe, xf, xt, xl⟩ = !bo by rw [LB.out, ← fo]; by_cases h : 0 ≤ o <;> simp [h] <;> omega)
        clear LB
        cases bo
        · refine wp_region_ext (by kernel_rfl) (by kernel_rfl) ?_
          repeat (go_big_quiet_step (first | (go_at_call 24; (apply quiet_of; (with_reducible exact LN.out _); (intro w' hx; obtain ⟨z, rfl⟩ := hx; (try simp only [ext_ext, add_assoc]); exact ⟨_, rfl⟩)))))
          refine wpQuiet_nil ?_
          intro xK
          cases b6
          · go_wp2_with (go_at_call 25; (with_reducible refine (CT.out _ (by (repeat' (first | with_reducible exact Ext.refl _ | with_reducible refine Ext.ext ?_ _ | with_reducible refine Ext.alloc ?_ _ | with_reducible refine Ext.drew ?_ | with_reducible refine Ext.drewN ?_ _ | with_reducible refine Ext.trans ?_ HX1.out | with_reducible refine Ext.trans ?_ HX2.out | with_reducible refine Ext.trans ?_ HX3.out | with_reducible refine Ext.trans ?_ HX4.out | with_reducible refine Ext.trans ?_ HX5.out | with_reducible refine Ext.trans ?_ HX6.out | with_reducible refine Ext.trans ?_ HX7.out | with_reducible refine Ext.trans ?_ HX8.out | with_reducible refine Ext.trans ?_ HX9.out | with_reducible refine Ext.trans ?_ HX10.out | with_reducible refine Ext.trans ?_ HX11.out | with_reducible refine Ext.trans ?_ HX12.out | with_reducible refine Ext.trans ?_ HX13.out | with_reducible refine Ext.trans ?_ HX14.out | with_reducible refine Ext.trans ?_ HX15.out | with_reducible refine Ext.trans ?_ HX16.out | with_reducible refine Ext.trans ?_ HX17.out | with_reducible refine Ext.trans ?_ HX18.out | with_reducible refine Ext.trans ?_ HX19.out | with_reducible refine Ext.trans ?_ HX20.out | with_reducible refine Ext.trans ?_ HX21.out | with_reducible refine Ext.trans ?_ HX22.out | with_reducible refine Ext.trans ?_ HX23.out | with_reducible refine Ext.trans ?_ HX24.out)))).mono ?_); rintro e w3 ⟨rfl, hx⟩; have HX3 := Lib.hid hx; clear hx)
            exact ⟨⟨j + 1, by omega, congrArg (Value.int .i64) EW.out, by (repeat' (first | with_reducible exact Ext.refl _ | with_reducible refine Ext.ext ?_ _ | with_reducible refine Ext.alloc ?_ _ | with_reducible refine Ext.drew ?_ | with_reducible refine Ext.drewN ?_ _ | with_reducible refine Ext.trans ?_ HX1.out | with_reducible refine Ext.trans ?_ HX2.out | with_reducible refine Ext.trans ?_ HX3.out | with_reducible refine Ext.trans ?_ HX4.out | with_reducible refine Ext.trans ?_ HX5.out | with_reducible refine Ext.trans ?_ HX6.out | with_reducible refine Ext.trans ?_ HX7.out | with_reducible refine Ext.trans ?_ HX8.out | with_reducible refine Ext.trans ?_ HX9.out | with_reducible refine Ext.trans ?_ HX10.out | with_reducible refine Ext.trans ?_ HX11.out | with_reducible refine Ext.trans ?_ HX12.out | with_reducible refine Ext.trans ?_ HX13.out | with_reducible refine Ext.trans ?_ HX14.out | with_reducible refine Ext.trans ?_ HX15.out | with_reducible refine Ext.trans ?_ HX16.out | with_reducible refine Ext.trans ?_ HX17.out | with_reducible refine Ext.trans ?_ HX18.out | with_reducible refine Ext.trans ?_ HX19.out | with_reducible refine Ext.trans ?_ HX20.out | with_reducible refine Ext.trans ?_ HX21.out | with_reducible refine Ext.trans ?_ HX22.out | with_reducible refine Ext.trans ?_ HX23.out | with_reducible refine Ext.trans ?_ HX24.out)), ST.out (by rw [HK.out]; rfl) (fun i' y' hi' hy' => by
              have := HI.out
              obtain rfl : i' = i := by omega
              rw [HY.out] at hy'
              cases hy'
              exact LO.out)⟩, by rw [EW.out]; simp only [intOf]; omega⟩
          · have RR := Lib.hid (show false = R by rw [HR.out, right_no1 HX.out (by rw [HK.out]; rfl)])
            go_wp2_with (go_at_call 25; (with_reducible refine (CT.out _ (by (repeat' (first | with_reducible exact Ext.refl _ | with_reducible refine Ext.ext ?_ _ | with_reducible refine Ext.alloc ?_ _ | with_reducible refine Ext.drew ?_ | with_reducible refine Ext.drewN ?_ _ | with_reducible refine Ext.trans ?_ HX1.out | with_reducible refine Ext.trans ?_ HX2.out | with_reducible refine Ext.trans ?_ HX3.out | with_reducible refine Ext.trans ?_ HX4.out | with_reducible refine Ext.trans ?_ HX5.out | with_reducible refine Ext.trans ?_ HX6.out | with_reducible refine Ext.trans ?_ HX7.out | with_reducible refine Ext.trans ?_ HX8.out | with_reducible refine Ext.trans ?_ HX9.out | with_reducible refine Ext.trans ?_ HX10.out | with_reducible refine Ext.trans ?_ HX11.out | with_reducible refine Ext.trans ?_ HX12.out | with_reducible refine Ext.trans ?_ HX13.out | with_reducible refine Ext.trans ?_ HX14.out | with_reducible refine Ext.trans ?_ HX15.out | with_reducible refine Ext.trans ?_ HX16.out | with_reducible refine Ext.trans ?_ HX17.out | with_reducible refine Ext.trans ?_ HX18.out | with_reducible refine Ext.trans ?_ HX19.out | with_reducible refine Ext.trans ?_ HX20.out | with_reducible refine Ext.trans ?_ HX21.out | with_reducible refine Ext.trans ?_ HX22.out | with_reducible refine Ext.trans ?_ HX23.out | with_reducible refine Ext.trans ?_ HX24.out)))).mono ?_); rintro e w3 ⟨rfl, hx⟩; have HX3 := Lib.hid hx; clear hx)
            go_returns
            exact ⟨retb rfl RR.out, by (repeat' (first | with_reducible exact Ext.refl _ | with_reducible refine Ext.ext ?_ _ | with_reducible refine Ext.alloc ?_ _ | with_reducible refine Ext.drew ?_ | with_reducible refine Ext.drewN ?_ _ | with_reducible refine Ext.trans ?_ HX1.out | with_reducible refine Ext.trans ?_ HX2.out | with_reducible refine Ext.trans ?_ HX3.out | with_reducible refine Ext.trans ?_ HX4.out | with_reducible refine Ext.trans ?_ HX5.out | with_reducible refine Ext.trans ?_ HX6.out | with_reducible refine Ext.trans ?_ HX7.out | with_reducible refine Ext.trans ?_ HX8.out | with_reducible refine Ext.trans ?_ HX9.out | with_reducible refine Ext.trans ?_ HX10.out | with_reducible refine Ext.trans ?_ HX11.out | with_reducible refine Ext.trans ?_ HX12.out | with_reducible refine Ext.trans ?_ HX13.out | with_reducible refine Ext.trans ?_ HX14.out | with_reducible refine Ext.trans ?_ HX15.out | with_reducible refine Ext.trans ?_ HX16.out | with_reducible refine Ext.trans ?_ HX17.out | with_reducible refine Ext.trans ?_ HX18.out | with_reducible refine Ext.trans ?_ HX19.out | with_reducible refine Ext.trans ?_ HX20.out | with_reducible refine Ext.trans ?_ HX21.out | with_reducible refine Ext.trans ?_ HX22.out | with_reducible refine Ext.trans ?_ HX23.out | with_reducible refine Ext.trans ?_ HX24.out))⟩
        · have RR := Lib.hid (show false = R by rw [HR.out, right_no2 HY.out (by rw [← HI.out]; exact HX.out) LO.out])
          refine wp_region_ext (by kernel_rfl) (by kernel_rfl) ?_
          repeat (go_big_quiet_step (first | (go_at_call 24; (apply quiet_of; (with_reducible exact LN.out _); (intro w' hx; obtain ⟨z, rfl⟩ := hx; (try simp only [ext_ext, add_assoc]); exact ⟨_, rfl⟩)))))
          refine wpQuiet_nil ?_
          intro xK
          go_wp2
          go_returns
          exact ⟨retb rfl RR.out, by (repeat' (first | with_reducible exact Ext.refl _ | with_reducible refine Ext.ext ?_ _ | with_reducible refine Ext.alloc ?_ _ | with_reducible refine Ext.drew ?_ | with_reducible refine Ext.drewN ?_ _ | with_reducible refine Ext.trans ?_ HX1.out | with_reducible refine Ext.trans ?_ HX2.out | with_reducible refine Ext.trans ?_ HX3.out | with_reducible refine Ext.trans ?_ HX4.out | with_reducible refine Ext.trans ?_ HX5.out | with_reducible refine Ext.trans ?_ HX6.out | with_reducible refine Ext.trans ?_ HX7.out | with_reducible refine Ext.trans ?_ HX8.out | with_reducible refine Ext.trans ?_ HX9.out | with_reducible refine Ext.trans ?_ HX10.out | with_reducible refine Ext.trans ?_ HX11.out | with_reducible refine Ext.trans ?_ HX12.out | with_reducible refine Ext.trans ?_ HX13.out | with_reducible refine Ext.trans ?_ HX14.out | with_reducible refine Ext.trans ?_ HX15.out | with_reducible refine Ext.trans ?_ HX16.out | with_reducible refine Ext.trans ?_ HX17.out | with_reducible refine Ext.trans ?_ HX18.out | with_reducible refine Ext.trans ?_ HX19.out | with_reducible refine Ext.trans ?_ HX20.out | with_reducible refine Ext.trans ?_ HX21.out | with_reducible refine Ext.trans ?_ HX22.out | with_reducible refine Ext.trans ?_ HX23.out | with_reducible refine Ext.trans ?_ HX24.out))⟩
    · obtain rfl : j = n := by omega
      have RR := Lib.hid (show true = R by rw [HR.out, right_yes (fun k x hx => HOK.out k x (by have := (List.getElem?_eq_some_iff.1 hx).1; have := HN.out; omega) hx)])
      go_wp2
      go_returns
      exact ⟨retb rfl RR.out, by (repeat' (first | with_reducible exact Ext.refl _ | with_reducible refine Ext.ext ?_ _ | with_reducible refine Ext.alloc ?_ _ | with_reducible refine Ext.drew ?_ | with_reducible refine Ext.drewN ?_ _ | with_reducible refine Ext.trans ?_ HX1.out | with_reducible refine Ext.trans ?_ HX2.out | with_reducible refine Ext.trans ?_ HX3.out | with_reducible refine Ext.trans ?_ HX4.out | with_reducible refine Ext.trans ?_ HX5.out | with_reducible refine Ext.trans ?_ HX6.out | with_reducible refine Ext.trans ?_ HX7.out | with_reducible refine Ext.trans ?_ HX8.out | with_reducible refine Ext.trans ?_ HX9.out | with_reducible refine Ext.trans ?_ HX10.out | with_reducible refine Ext.trans ?_ HX11.out | with_reducible refine Ext.trans ?_ HX12.out | with_reducible refine Ext.trans ?_ HX13.out | with_reducible refine Ext.trans ?_ HX14.out | with_reducible refine Ext.trans ?_ HX15.out | with_reducible refine Ext.trans ?_ HX16.out | with_reducible refine Ext.trans ?_ HX17.out | with_reducible refine Ext.trans ?_ HX18.out | with_reducible refine Ext.trans ?_ HX19.out | with_reducible refine Ext.trans ?_ HX20.out | with_reducible refine Ext.trans ?_ HX21.out | with_reducible refine Ext.trans ?_ HX22.out | with_reducible refine Ext.trans ?_ HX23.out | with_reducible refine Ext.trans ?_ HX24.out))⟩
end Go.Proofs.Ytlhmifkimnmnmaa
