/- law 13: awake; the walk of RouteSplits. -/
import Derived.Test.YtbglfaomebokhaaRs2
import Derived.Test.YtbglfaomebokhaaOpenBg
namespace Go.Proofs.Ytbglfaomebokhaa
set_option linter.unusedSimpArgs false
set_option linter.unusedVariables false
open Go.RowKit

theorem awake13_p : partF [⟨-1, 0, 1⟩] 4 = [[], [], [], [⟨-1, 0, 1⟩]] := by rfl
theorem awake13 (w : World) : Calls Try.prog 11 #[] w fun r w' => r = .returned (.bool true) ∧ Ext w w' := by
  have S := Lib.hid (fun a c w h => split_in [⟨-1, 0, 1⟩] a c 4 w h (by decide) (by decide) (by decide) (by decide))
  rw [awake13_p] at S
  have W := Lib.hid (fun w => worker_in (-1) 4 w (by decide) (by decide) (by decide) (by decide))
  rw [show (-1 : Int) % 4 = 3 from rfl] at W
  go_enter Try.func11, Try.ntmps11
  go_wp2_with (first  | (go_at_call 12; refine (S.out _ _ _ (rd_lit _ 3 1 _ _ #[.int .i64 (-1), .int .i64 0, .int .i64 1] _ (by rfl) (by simp))).mono ?_; rintro r w1 ⟨rfl, hp⟩; obtain ⟨b, off, u, e, hu, hc, -, -, -⟩ := hp.rbs.at (j := 3) rfl; obtain ⟨rfl, rfl⟩ : _ = b ∧ 0 = off := (by simpa using e); obtain ⟨ua, uc, rfl, -⟩ := hu; rw [Nat.zero_add] at hc; have HX1 := Lib.hid hp.1; clear hp e)  | (go_at_call 13; (with_reducible refine (W.out _).mono ?_); rintro e w' ⟨rfl, rfl⟩))
  go_returns
  exact ⟨retb rfl rfl, by (repeat' (first | with_reducible exact Ext.refl _ | with_reducible refine Ext.ext ?_ _ | with_reducible refine Ext.alloc ?_ _ | with_reducible refine Ext.drew ?_ | with_reducible refine Ext.drewN ?_ _ | with_reducible refine Ext.trans ?_ HX1.out | with_reducible refine Ext.trans ?_ HX2.out | with_reducible refine Ext.trans ?_ HX3.out | with_reducible refine Ext.trans ?_ HX4.out | with_reducible refine Ext.trans ?_ HX5.out | with_reducible refine Ext.trans ?_ HX6.out | with_reducible refine Ext.trans ?_ HX7.out | with_reducible refine Ext.trans ?_ HX8.out | with_reducible refine Ext.trans ?_ HX9.out | with_reducible refine Ext.trans ?_ HX10.out | with_reducible refine Ext.trans ?_ HX11.out | with_reducible refine Ext.trans ?_ HX12.out | with_reducible refine Ext.trans ?_ HX13.out | with_reducible refine Ext.trans ?_ HX14.out | with_reducible refine Ext.trans ?_ HX15.out | with_reducible refine Ext.trans ?_ HX16.out | with_reducible refine Ext.trans ?_ HX17.out | with_reducible refine Ext.trans ?_ HX18.out | with_reducible refine Ext.trans ?_ HX19.out | with_reducible refine Ext.trans ?_ HX20.out | with_reducible refine Ext.trans ?_ HX21.out | with_reducible refine Ext.trans ?_ HX22.out | with_reducible refine Ext.trans ?_ HX23.out | with_reducible refine Ext.trans ?_ HX24.out))⟩
theorem split_rb (l : List It) (a : Option Addr) (c m : Nat) (w : World) (h : Rd w 3 l.length (.slice a l.length c) (its l)) (hl : l.length ≤ 1000) (hk : ∀ x ∈ l, -9223372036854775808 ≤ x.k ∧ x.k ≤ 9223372036854775807) (h1 : 1 ≤ m) (h2 : m ≤ 64) :
    Calls Try.prog 12 #[.slice a l.length c, .int .i64 (m : Int)] w fun e w' => ∃ g, e = .returned (.slice (some ⟨g, 0, none⟩) m m) ∧ Ext w w' ∧ Rbs w' (partF l m) (.slice (some ⟨g, 0, none⟩) m m) :=
  (split_in l a c m w h hl hk h1 h2).mono (fun e w' ⟨he, hp⟩ => ⟨_, he, hp.1, hp.rbs⟩)
theorem wrap_nat (k : Nat) (h : k ≤ 1000000) : wrap64 ((k : Int) + 1) = ((k + 1 : Nat) : Int) := (IntWalk.wrap64_in _ ⟨by omega, by omega⟩).trans (by omega)
set_option maxRecDepth 100000 in
set_option maxHeartbeats 8000000 in
theorem splits_in (a : Option Addr) (c m : Nat) (L l : List It) (w : World) (hr : Rd w 3 L.length (.slice a L.length c) (its L)) (hc : L.length ≤ c) (hl : L.take (min L.length 100) = l) (hk : ∀ x ∈ l, -9223372036854775808 ≤ x.k ∧ x.k ≤ 9223372036854775807) (h1 : 1 ≤ m) (h2 : m ≤ 64) (rb : Bool) (hrb : rightB l = rb) :
    Calls Try.prog 3 #[.slice a L.length c, .int .i64 (m : Int)] w fun r w' => r = .returned (.bool true) ∧ Ext w w' := by
  have AW := Lib.hid awake13
  have hm := fun ats ty w => run_min (P := Try.prog) L.length 100 100 rfl ats ty w
  have n1 : min L.length 100 ≤ L.length := Nat.min_le_left _ _
  have n2 : min L.length 100 ≤ 100 := Nat.min_le_right _ _
  have hln : l.length = min L.length 100 := by rw [← hl, List.length_take]; omega
  have hrd := Rb.cut hr n1
  rw [hl] at hrd
  have B0 := Lib.hid hrd
  have HRD : Hid (Rd w 3 l.length (.slice a l.length c) (its l)) := Lib.hid (by
    have := rd_take hr n1
    rw [← its_take, hl, ← hln] at this
    exact this)
  generalize min L.length 100 = n at *
  subst hln
  have SP := Lib.hid (fun W (hx : Ext w W) => split_rb l a c m W (HRD.out.of_ext hx) (by omega) hk h1 h2)
  have WK := Lib.hid (fun k w h1' h2' => worker_in k (m : Int) w (by omega) (by omega) h1' h2')
  have HL := Lib.hid n2
  have HK := Lib.hid hk
  have M1 := Lib.hid h1
  have M2 := Lib.hid h2
  have HRB := Lib.hid hrb
  have m0 : (0 : Int) ≤ (l.length : Int) := by omega
  have m1 : (l.length : Int) ≤ c := by omega
  have k1 : decide ((m : Int) < 1) = false := decide_eq_false (by omega)
  have k1' : decide (m < 1) = false := decide_eq_false (by omega)
  have k2 : decide ((64 : Int) < m) = false := decide_eq_false (by omega)
  have k2' : decide (64 < m) = false := decide_eq_false (by omega)
  have k3 : ((m : Int) != m) = false := by simp
  have PLN := Lib.hid (fun e => Nat.le_trans (partE_len l (m : Int) e) n2)
  have ALN := Lib.hid (fun e => accP_len (N := 100) ((partF l m).take e) [] (fun b hb => by
    have hb := List.mem_of_mem_take hb
    unfold partF at hb
    rw [List.mem_map] at hb
    obtain ⟨e, -, rfl⟩ := hb
    exact Nat.le_trans (partE_len l _ e) n2))
  clear hr hc hl hk h1 h2 n1 n2 hrd hrb
  go_enter Try.func3, Try.ntmps3
  go_wp2_with (first  | (go_at_call 11; refine (AW.out _).mono ?_; rintro e w' ⟨rfl, x, rfl⟩)  | (go_at_call 12; (with_reducible refine (SP.out _ (by (repeat' (first | with_reducible exact Ext.refl _ | with_reducible refine Ext.ext ?_ _ | with_reducible refine Ext.alloc ?_ _ | with_reducible refine Ext.drew ?_ | with_reducible refine Ext.drewN ?_ _ | with_reducible assumption)))).mono ?_); rintro e w1 ⟨g, rfl, hx, hp⟩; have HX1 := Lib.hid hx; have RP := Lib.hid hp; clear hp hx))
  go_loopw [6, 7] (fun v i wr => ∃ e : Nat, e ≤ m ∧ i = .int .i64 e ∧ Ext w1 wr ∧ Rb wr (accP ((partF l m).take e)) v) (fun _ i _ => m - (intOf i).toNat)
  case atStart => exact ⟨0, by omega, rfl, by (repeat' (first | with_reducible exact Ext.refl _ | with_reducible refine Ext.ext ?_ _ | with_reducible refine Ext.alloc ?_ _ | with_reducible refine Ext.drew ?_ | with_reducible refine Ext.drewN ?_ _ | with_reducible assumption)), Rb.nil _⟩
  case round =>
    obtain ⟨e, hem, rfl, hx, hall⟩ := hrel
    obtain ⟨w5, hw5⟩ : ∃ x, x = wr := ⟨_, rfl⟩
    subst hw5
    have HX2 := Lib.hid hx
    have BA := Lib.hid hall
    clear hx hall
    by_cases hlt : e < m
    · have hpe := partF_get l hlt
      have AS := Lib.hid (accP_snoc hpe)
      obtain ⟨gb, off, u, eq, hu, hc0, -, -, -⟩ := RP.out.at hpe
      obtain ⟨rfl, rfl⟩ : g = gb ∧ 0 = off := (by simpa using eq)
      rw [Nat.zero_add] at hc0
      have BP := Lib.hid hu
      obtain ⟨ua, uc, rfl, hrp⟩ := hu
      obtain ⟨pl, hPL⟩ : ∃ pl, (partE l (m : Int) e).length = pl := ⟨_, rfl⟩
      rw [hPL] at hrp hc0 BP
      have RDP := Lib.hid hrp
      have C0 := Lib.hid hc0
      have e0 : (0 : Int) ≤ e := by omega
      have e1 : (e : Int) < m := by omega
      have ewe : wrap64 ((e : Int) + 1) = ((e + 1 : Nat) : Int) := (IntWalk.wrap64_in _ ⟨by omega, by have := M2.out; omega⟩).trans (by omega)
      clear hpe eq hrp hc0
      go_wp2
      go_loopw [8, 9] (fun k i wr => ∃ j : Nat, j ≤ l.length ∧ i = .int .i64 j ∧ k = .int .i64 ((partE (l.take j) (m : Int) e).length : Nat) ∧ Ext w5 wr) (fun _ i _ => l.length - (intOf i).toNat)
      case atStart => exact ⟨0, by omega, rfl, rfl, by (repeat' (first | with_reducible exact Ext.refl _ | with_reducible refine Ext.ext ?_ _ | with_reducible refine Ext.alloc ?_ _ | with_reducible refine Ext.drew ?_ | with_reducible refine Ext.drewN ?_ _ | with_reducible assumption))⟩
      case round =>
        obtain ⟨j, hj, rfl, rfl, hx⟩ := hrel
        have HX3 := Lib.hid hx
        clear hx
        by_cases hlt2 : j < l.length
        · obtain ⟨x, hx⟩ : ∃ x, l[j]? = some x := ⟨l[j], List.getElem?_eq_getElem _⟩
          obtain ⟨b, off, rfl, -⟩ := HRD.out.cells (by omega)
          obtain ⟨q0, q1, q2⟩ := it_at (HRD.out.of_ext (show Ext w wr by (repeat' (first | with_reducible exact Ext.refl _ | with_reducible refine Ext.ext ?_ _ | with_reducible refine Ext.alloc ?_ _ | with_reducible refine Ext.drew ?_ | with_reducible refine Ext.drewN ?_ _ | with_reducible refine Ext.trans ?_ HX1.out | with_reducible refine Ext.trans ?_ HX2.out | with_reducible refine Ext.trans ?_ HX3.out | with_reducible refine Ext.trans ?_ HX4.out | with_reducible refine Ext.trans ?_ HX5.out | with_reducible refine Ext.trans ?_ HX6.out | with_reducible refine Ext.trans ?_ HX7.out | with_reducible refine Ext.trans ?_ HX8.out | with_reducible refine Ext.trans ?_ HX9.out | with_reducible refine Ext.trans ?_ HX10.out | with_reducible refine Ext.trans ?_ HX11.out | with_reducible refine Ext.trans ?_ HX12.out | with_reducible refine Ext.trans ?_ HX13.out | with_reducible refine Ext.trans ?_ HX14.out | with_reducible refine Ext.trans ?_ HX15.out | with_reducible refine Ext.trans ?_ HX16.out | with_reducible refine Ext.trans ?_ HX17.out | with_reducible refine Ext.trans ?_ HX18.out | with_reducible refine Ext.trans ?_ HX19.out | with_reducible refine Ext.trans ?_ HX20.out | with_reducible refine Ext.trans ?_ HX21.out | with_reducible refine Ext.trans ?_ HX22.out | with_reducible refine Ext.trans ?_ HX23.out | with_reducible refine Ext.trans ?_ HX24.out)))) j x hx
          have i1 : (0 : Int) ≤ j := by omega
          have i2 : (j : Int) < l.length := by omega
          have ew : wrap64 ((j : Int) + 1) = ((j + 1 : Nat) : Int) := (IntWalk.wrap64_in _ ⟨by omega, by have := HL.out; omega⟩).trans (by omega)
          have hk := HK.out x (List.mem_of_getElem? hx)
          have WX := Lib.hid (fun w => WK.out x.k w hk.1 hk.2)
          have SN := partE_snoc hx (m : Int) e
          obtain ⟨bq, hbq⟩ : ∃ b, (x.k % (m : Int) == (e : Int)) = b := ⟨_, rfl⟩
          rw [hbq] at SN
          have hbn : (x.k % (m : Int) != (e : Int)) = !bq := by rw [← hbq]; rfl
          cases bq
          · have NO := Lib.hid (show partE (l.take (j + 1)) (m : Int) e = partE (l.take j) (m : Int) e by rw [SN]; simp)
            obtain ⟨xk, xv, xn⟩ := x
            dsimp only at q0 q1 q2 WX hbn
            clear hx hk SN hbq
            generalize xk % (m : Int) = km at *
            go_wp2_with (go_at_call 13; (with_reducible refine (WX.out _).mono ?_); rintro e w' ⟨rfl, rfl⟩)
            exact ⟨⟨j + 1, by omega, congrArg (Value.int .i64) ew, by rw [NO.out], by (repeat' (first | with_reducible exact Ext.refl _ | with_reducible refine Ext.ext ?_ _ | with_reducible refine Ext.alloc ?_ _ | with_reducible refine Ext.drew ?_ | with_reducible refine Ext.drewN ?_ _ | with_reducible refine Ext.trans ?_ HX1.out | with_reducible refine Ext.trans ?_ HX2.out | with_reducible refine Ext.trans ?_ HX3.out | with_reducible refine Ext.trans ?_ HX4.out | with_reducible refine Ext.trans ?_ HX5.out | with_reducible refine Ext.trans ?_ HX6.out | with_reducible refine Ext.trans ?_ HX7.out | with_reducible refine Ext.trans ?_ HX8.out | with_reducible refine Ext.trans ?_ HX9.out | with_reducible refine Ext.trans ?_ HX10.out | with_reducible refine Ext.trans ?_ HX11.out | with_reducible refine Ext.trans ?_ HX12.out | with_reducible refine Ext.trans ?_ HX13.out | with_reducible refine Ext.trans ?_ HX14.out | with_reducible refine Ext.trans ?_ HX15.out | with_reducible refine Ext.trans ?_ HX16.out | with_reducible refine Ext.trans ?_ HX17.out | with_reducible refine Ext.trans ?_ HX18.out | with_reducible refine Ext.trans ?_ HX19.out | with_reducible refine Ext.trans ?_ HX20.out | with_reducible refine Ext.trans ?_ HX21.out | with_reducible refine Ext.trans ?_ HX22.out | with_reducible refine Ext.trans ?_ HX23.out | with_reducible refine Ext.trans ?_ HX24.out))⟩, by rw [ew]; simp only [intOf]; omega⟩
          · have AT := partE_at hx hbq
            have hpl := (List.getElem?_eq_some_iff.1 AT).1
            obtain ⟨pb, poff, rfl, -⟩ := RDP.out.cells (by omega)
            obtain ⟨p0, p1, p2⟩ := it_at (RDP.out.of_ext (show Ext w1 wr by (repeat' (first | with_reducible exact Ext.refl _ | with_reducible refine Ext.ext ?_ _ | with_reducible refine Ext.alloc ?_ _ | with_reducible refine Ext.drew ?_ | with_reducible refine Ext.drewN ?_ _ | with_reducible refine Ext.trans ?_ HX1.out | with_reducible refine Ext.trans ?_ HX2.out | with_reducible refine Ext.trans ?_ HX3.out | with_reducible refine Ext.trans ?_ HX4.out | with_reducible refine Ext.trans ?_ HX5.out | with_reducible refine Ext.trans ?_ HX6.out | with_reducible refine Ext.trans ?_ HX7.out | with_reducible refine Ext.trans ?_ HX8.out | with_reducible refine Ext.trans ?_ HX9.out | with_reducible refine Ext.trans ?_ HX10.out | with_reducible refine Ext.trans ?_ HX11.out | with_reducible refine Ext.trans ?_ HX12.out | with_reducible refine Ext.trans ?_ HX13.out | with_reducible refine Ext.trans ?_ HX14.out | with_reducible refine Ext.trans ?_ HX15.out | with_reducible refine Ext.trans ?_ HX16.out | with_reducible refine Ext.trans ?_ HX17.out | with_reducible refine Ext.trans ?_ HX18.out | with_reducible refine Ext.trans ?_ HX19.out | with_reducible refine Ext.trans ?_ HX20.out | with_reducible refine Ext.trans ?_ HX21.out | with_reducible refine Ext.trans ?_ HX22.out | with_reducible refine Ext.trans ?_ HX23.out | with_reducible refine Ext.trans ?_ HX24.out)))) _ x AT
            have YES := Lib.hid (show (partE (l.take (j + 1)) (m : Int) e).length = (partE (l.take j) (m : Int) e).length + 1 by rw [SN]; simp)
            have hpn := PLN.out e
            rw [hPL] at hpn
            obtain ⟨kk, hkk⟩ : ∃ kk, (partE (l.take j) (m : Int) e).length = kk := ⟨_, rfl⟩
            rw [hkk] at hpl p0 p1 p2 YES ⊢
            rw [hPL] at hpl
            have t0 : (0 : Int) ≤ kk := by omega
            have t1 : (kk : Int) < pl := by omega
            have t2 : decide ((pl : Int) ≤ kk) = false := decide_eq_false (by omega)
            have t2' : decide (pl ≤ kk) = false := decide_eq_false (by omega)
            have EWK := Lib.hid (wrap_nat kk (by omega))
            obtain ⟨xk, xv, xn⟩ := x
            dsimp only at q0 q1 q2 p0 p1 p2 WX hbn
            have r0 := (keep_cell q0 (Ext.refl wr)).1
            have r1 := (keep_cell q1 (Ext.refl wr)).1
            have r2 := (keep_cell q2 (Ext.refl wr)).1
            have s0 := (keep_cell p0 (Ext.refl wr)).1
            have s1 := (keep_cell p1 (Ext.refl wr)).1
            have s2 := (keep_cell p2 (Ext.refl wr)).1
            have c0 := (keep_cell C0.out (show Ext w1 wr by (repeat' (first | with_reducible exact Ext.refl _ | with_reducible refine Ext.ext ?_ _ | with_reducible refine Ext.alloc ?_ _ | with_reducible refine Ext.drew ?_ | with_reducible refine Ext.drewN ?_ _ | with_reducible refine Ext.trans ?_ HX1.out | with_reducible refine Ext.trans ?_ HX2.out | with_reducible refine Ext.trans ?_ HX3.out | with_reducible refine Ext.trans ?_ HX4.out | with_reducible refine Ext.trans ?_ HX5.out | with_reducible refine Ext.trans ?_ HX6.out | with_reducible refine Ext.trans ?_ HX7.out | with_reducible refine Ext.trans ?_ HX8.out | with_reducible refine Ext.trans ?_ HX9.out | with_reducible refine Ext.trans ?_ HX10.out | with_reducible refine Ext.trans ?_ HX11.out | with_reducible refine Ext.trans ?_ HX12.out | with_reducible refine Ext.trans ?_ HX13.out | with_reducible refine Ext.trans ?_ HX14.out | with_reducible refine Ext.trans ?_ HX15.out | with_reducible refine Ext.trans ?_ HX16.out | with_reducible refine Ext.trans ?_ HX17.out | with_reducible refine Ext.trans ?_ HX18.out | with_reducible refine Ext.trans ?_ HX19.out | with_reducible refine Ext.trans ?_ HX20.out | with_reducible refine Ext.trans ?_ HX21.out | with_reducible refine Ext.trans ?_ HX22.out | with_reducible refine Ext.trans ?_ HX23.out | with_reducible refine Ext.trans ?_ HX24.out))))
            have c1 := c0.1
            have c2 := c0.2
            have f5 : (xk == xk && xv == xv && xn == xn) = true := by simp
            clear hx hk SN hbq AT hpl hpn c0
            generalize xk % (m : Int) = km at *
            go_wp2_with (go_at_call 13; (with_reducible refine (WX.out _).mono ?_); rintro e w' ⟨rfl, rfl⟩)
            refine wp_region_ext (by kernel_rfl) (by kernel_rfl) ?_
            repeat (go_big_quiet_step (fail))
            refine wpQuiet_nil ?_
            intro xK
            go_wp2
            exact ⟨⟨j + 1, by omega, congrArg (Value.int .i64) ew, by rw [YES.out]; exact congrArg (Value.int .i64) EWK.out, by (repeat' (first | with_reducible exact Ext.refl _ | with_reducible refine Ext.ext ?_ _ | with_reducible refine Ext.alloc ?_ _ | with_reducible refine Ext.drew ?_ | with_reducible refine Ext.drewN ?_ _ | with_reducible refine Ext.trans ?_ HX1.out | with_reducible refine Ext.trans ?_ HX2.out | with_reducible refine Ext.trans ?_ HX3.out | with_reducible refine Ext.trans ?_ HX4.out | with_reducible refine Ext.trans ?_ HX5.out | with_reducible refine Ext.trans ?_ HX6.out | with_reducible refine Ext.trans ?_ HX7.out | with_reducible refine Ext.trans ?_ HX8.out | with_reducible refine Ext.trans ?_ HX9.out | with_reducible refine Ext.trans ?_ HX10.out | with_reducible refine Ext.trans ?_ HX11.out | with_reducible refine Ext.trans ?_ HX12.out | with_reducible refine Ext.trans ?_ HX13.out | with_reducible refine Ext.trans ?_ HX14.out | with_reducible refine Ext.trans ?_ HX15.out | with_reducible refine Ext.trans ?_ HX16.out | with_reducible refine Ext.trans ?_ HX17.out | with_reducible refine Ext.trans ?_ HX18.out | with_reducible refine Ext.trans ?_ HX19.out | with_reducible refine Ext.trans ?_ HX20.out | with_reducible refine Ext.trans ?_ HX21.out | with_reducible refine Ext.trans ?_ HX22.out | with_reducible refine Ext.trans ?_ HX23.out | with_reducible refine Ext.trans ?_ HX24.out))⟩, by rw [ew]; simp only [intOf]; omega⟩
        · obtain rfl : j = l.length := by omega
          rw [List.take_length, hPL]
          have pp : ((pl : Int) != pl) = false := by simp
          have c0 := (keep_cell C0.out (show Ext w1 wr by (repeat' (first | with_reducible exact Ext.refl _ | with_reducible refine Ext.ext ?_ _ | with_reducible refine Ext.alloc ?_ _ | with_reducible refine Ext.drew ?_ | with_reducible refine Ext.drewN ?_ _ | with_reducible refine Ext.trans ?_ HX1.out | with_reducible refine Ext.trans ?_ HX2.out | with_reducible refine Ext.trans ?_ HX3.out | with_reducible refine Ext.trans ?_ HX4.out | with_reducible refine Ext.trans ?_ HX5.out | with_reducible refine Ext.trans ?_ HX6.out | with_reducible refine Ext.trans ?_ HX7.out | with_reducible refine Ext.trans ?_ HX8.out | with_reducible refine Ext.trans ?_ HX9.out | with_reducible refine Ext.trans ?_ HX10.out | with_reducible refine Ext.trans ?_ HX11.out | with_reducible refine Ext.trans ?_ HX12.out | with_reducible refine Ext.trans ?_ HX13.out | with_reducible refine Ext.trans ?_ HX14.out | with_reducible refine Ext.trans ?_ HX15.out | with_reducible refine Ext.trans ?_ HX16.out | with_reducible refine Ext.trans ?_ HX17.out | with_reducible refine Ext.trans ?_ HX18.out | with_reducible refine Ext.trans ?_ HX19.out | with_reducible refine Ext.trans ?_ HX20.out | with_reducible refine Ext.trans ?_ HX21.out | with_reducible refine Ext.trans ?_ HX22.out | with_reducible refine Ext.trans ?_ HX23.out | with_reducible refine Ext.trans ?_ HX24.out))))
          have c1 := c0.1
          have c2 := c0.2
          clear c0
          have LPN := Lib.hid (show (partE l (m : Int) e).length ≤ 1073741823 by have := PLN.out e; omega)
          have LAP := Lib.hid (show (accP ((partF l m).take e)).length + (partE l (m : Int) e).length ≤ 1073741823 by
            have h1 := ALN.out e
            have h2 := PLN.out e
            have h3 : ((partF l m).take e).length ≤ 64 := by rw [List.length_take, partF_length]; have := M2.out; omega
            have h4 : ((partF l m).take e).length * 100 ≤ 64 * 100 := Nat.mul_le_mul_right 100 h3
            have h5 : (accP ((partF l m).take e)).length ≤ ([] : List It).length + ((partF l m).take e).length * 100 := h1
            rw [List.length_nil] at h5
            omega)
          have LLN := Lib.hid (show l.length ≤ 1073741823 by have := HL.out; omega)
          cases rb
          · go_wp2_with (first  | (go_at_call 14; (with_reducible refine (right_rb (B0.out.on (by (repeat' (first | with_reducible exact Ext.refl _ | with_reducible refine Ext.ext ?_ _ | with_reducible refine Ext.alloc ?_ _ | with_reducible refine Ext.drew ?_ | with_reducible refine Ext.drewN ?_ _ | with_reducible refine Ext.trans ?_ HX1.out | with_reducible refine Ext.trans ?_ HX2.out | with_reducible refine Ext.trans ?_ HX3.out | with_reducible refine Ext.trans ?_ HX4.out | with_reducible refine Ext.trans ?_ HX5.out | with_reducible refine Ext.trans ?_ HX6.out | with_reducible refine Ext.trans ?_ HX7.out | with_reducible refine Ext.trans ?_ HX8.out | with_reducible refine Ext.trans ?_ HX9.out | with_reducible refine Ext.trans ?_ HX10.out | with_reducible refine Ext.trans ?_ HX11.out | with_reducible refine Ext.trans ?_ HX12.out | with_reducible refine Ext.trans ?_ HX13.out | with_reducible refine Ext.trans ?_ HX14.out | with_reducible refine Ext.trans ?_ HX15.out | with_reducible refine Ext.trans ?_ HX16.out | with_reducible refine Ext.trans ?_ HX17.out | with_reducible refine Ext.trans ?_ HX18.out | with_reducible refine Ext.trans ?_ HX19.out | with_reducible refine Ext.trans ?_ HX20.out | with_reducible refine Ext.trans ?_ HX21.out | with_reducible refine Ext.trans ?_ HX22.out | with_reducible refine Ext.trans ?_ HX23.out | with_reducible refine Ext.trans ?_ HX24.out)))) LLN.out false HRB.out).mono ?_); rintro e w' ⟨rfl, x11, rfl⟩)  | (go_at_call 15; (with_reducible refine (plus_rb (BA.out.on (by (repeat' (first | with_reducible exact Ext.refl _ | with_reducible refine Ext.ext ?_ _ | with_reducible refine Ext.alloc ?_ _ | with_reducible refine Ext.drew ?_ | with_reducible refine Ext.drewN ?_ _ | with_reducible refine Ext.trans ?_ HX1.out | with_reducible refine Ext.trans ?_ HX2.out | with_reducible refine Ext.trans ?_ HX3.out | with_reducible refine Ext.trans ?_ HX4.out | with_reducible refine Ext.trans ?_ HX5.out | with_reducible refine Ext.trans ?_ HX6.out | with_reducible refine Ext.trans ?_ HX7.out | with_reducible refine Ext.trans ?_ HX8.out | with_reducible refine Ext.trans ?_ HX9.out | with_reducible refine Ext.trans ?_ HX10.out | with_reducible refine Ext.trans ?_ HX11.out | with_reducible refine Ext.trans ?_ HX12.out | with_reducible refine Ext.trans ?_ HX13.out | with_reducible refine Ext.trans ?_ HX14.out | with_reducible refine Ext.trans ?_ HX15.out | with_reducible refine Ext.trans ?_ HX16.out | with_reducible refine Ext.trans ?_ HX17.out | with_reducible refine Ext.trans ?_ HX18.out | with_reducible refine Ext.trans ?_ HX19.out | with_reducible refine Ext.trans ?_ HX20.out | with_reducible refine Ext.trans ?_ HX21.out | with_reducible refine Ext.trans ?_ HX22.out | with_reducible refine Ext.trans ?_ HX23.out | with_reducible refine Ext.trans ?_ HX24.out)))) (BP.out.on (by (repeat' (first | with_reducible exact Ext.refl _ | with_reducible refine Ext.ext ?_ _ | with_reducible refine Ext.alloc ?_ _ | with_reducible refine Ext.drew ?_ | with_reducible refine Ext.drewN ?_ _ | with_reducible refine Ext.trans ?_ HX1.out | with_reducible refine Ext.trans ?_ HX2.out | with_reducible refine Ext.trans ?_ HX3.out | with_reducible refine Ext.trans ?_ HX4.out | with_reducible refine Ext.trans ?_ HX5.out | with_reducible refine Ext.trans ?_ HX6.out | with_reducible refine Ext.trans ?_ HX7.out | with_reducible refine Ext.trans ?_ HX8.out | with_reducible refine Ext.trans ?_ HX9.out | with_reducible refine Ext.trans ?_ HX10.out | with_reducible refine Ext.trans ?_ HX11.out | with_reducible refine Ext.trans ?_ HX12.out | with_reducible refine Ext.trans ?_ HX13.out | with_reducible refine Ext.trans ?_ HX14.out | with_reducible refine Ext.trans ?_ HX15.out | with_reducible refine Ext.trans ?_ HX16.out | with_reducible refine Ext.trans ?_ HX17.out | with_reducible refine Ext.trans ?_ HX18.out | with_reducible refine Ext.trans ?_ HX19.out | with_reducible refine Ext.trans ?_ HX20.out | with_reducible refine Ext.trans ?_ HX21.out | with_reducible refine Ext.trans ?_ HX22.out | with_reducible refine Ext.trans ?_ HX23.out | with_reducible refine Ext.trans ?_ HX24.out)))) LAP.out _ AS.out.symm).mono ?_); rintro e w13 ⟨v13, rfl, hx, hb⟩; have HX13 := Lib.hid hx; have B13 := Lib.hid hb; clear hx hb))
            exact ⟨⟨e + 1, by omega, congrArg (Value.int .i64) ewe, by (repeat' (first | with_reducible exact Ext.refl _ | with_reducible refine Ext.ext ?_ _ | with_reducible refine Ext.alloc ?_ _ | with_reducible refine Ext.drew ?_ | with_reducible refine Ext.drewN ?_ _ | with_reducible refine Ext.trans ?_ HX1.out | with_reducible refine Ext.trans ?_ HX2.out | with_reducible refine Ext.trans ?_ HX3.out | with_reducible refine Ext.trans ?_ HX4.out | with_reducible refine Ext.trans ?_ HX5.out | with_reducible refine Ext.trans ?_ HX6.out | with_reducible refine Ext.trans ?_ HX7.out | with_reducible refine Ext.trans ?_ HX8.out | with_reducible refine Ext.trans ?_ HX9.out | with_reducible refine Ext.trans ?_ HX10.out | with_reducible refine Ext.trans ?_ HX11.out | with_reducible refine Ext.trans ?_ HX12.out | with_reducible refine Ext.trans ?_ HX13.out | with_reducible refine Ext.trans ?_ HX14.out | with_reducible refine Ext.trans ?_ HX15.out | with_reducible refine Ext.trans ?_ HX16.out | with_reducible refine Ext.trans ?_ HX17.out | with_reducible refine Ext.trans ?_ HX18.out | with_reducible refine Ext.trans ?_ HX19.out | with_reducible refine Ext.trans ?_ HX20.out | with_reducible refine Ext.trans ?_ HX21.out | with_reducible refine Ext.trans ?_ HX22.out | with_reducible refine Ext.trans ?_ HX23.out | with_reducible refine Ext.trans ?_ HX24.out)), B13.out⟩, by rw [ewe]; simp only [intOf]; omega⟩
          · go_wp2_with (first  | (go_at_call 14; (with_reducible refine (right_rb (B0.out.on (by (repeat' (first | with_reducible exact Ext.refl _ | with_reducible refine Ext.ext ?_ _ | with_reducible refine Ext.alloc ?_ _ | with_reducible refine Ext.drew ?_ | with_reducible refine Ext.drewN ?_ _ | with_reducible refine Ext.trans ?_ HX1.out | with_reducible refine Ext.trans ?_ HX2.out | with_reducible refine Ext.trans ?_ HX3.out | with_reducible refine Ext.trans ?_ HX4.out | with_reducible refine Ext.trans ?_ HX5.out | with_reducible refine Ext.trans ?_ HX6.out | with_reducible refine Ext.trans ?_ HX7.out | with_reducible refine Ext.trans ?_ HX8.out | with_reducible refine Ext.trans ?_ HX9.out | with_reducible refine Ext.trans ?_ HX10.out | with_reducible refine Ext.trans ?_ HX11.out | with_reducible refine Ext.trans ?_ HX12.out | with_reducible refine Ext.trans ?_ HX13.out | with_reducible refine Ext.trans ?_ HX14.out | with_reducible refine Ext.trans ?_ HX15.out | with_reducible refine Ext.trans ?_ HX16.out | with_reducible refine Ext.trans ?_ HX17.out | with_reducible refine Ext.trans ?_ HX18.out | with_reducible refine Ext.trans ?_ HX19.out | with_reducible refine Ext.trans ?_ HX20.out | with_reducible refine Ext.trans ?_ HX21.out | with_reducible refine Ext.trans ?_ HX22.out | with_reducible refine Ext.trans ?_ HX23.out | with_reducible refine Ext.trans ?_ HX24.out)))) LLN.out true HRB.out).mono ?_); rintro e w' ⟨rfl, x11, rfl⟩)  | (go_at_call 14; (with_reducible refine (right_rb (BP.out.on (by (repeat' (first | with_reducible exact Ext.refl _ | with_reducible refine Ext.ext ?_ _ | with_reducible refine Ext.alloc ?_ _ | with_reducible refine Ext.drew ?_ | with_reducible refine Ext.drewN ?_ _ | with_reducible refine Ext.trans ?_ HX1.out | with_reducible refine Ext.trans ?_ HX2.out | with_reducible refine Ext.trans ?_ HX3.out | with_reducible refine Ext.trans ?_ HX4.out | with_reducible refine Ext.trans ?_ HX5.out | with_reducible refine Ext.trans ?_ HX6.out | with_reducible refine Ext.trans ?_ HX7.out | with_reducible refine Ext.trans ?_ HX8.out | with_reducible refine Ext.trans ?_ HX9.out | with_reducible refine Ext.trans ?_ HX10.out | with_reducible refine Ext.trans ?_ HX11.out | with_reducible refine Ext.trans ?_ HX12.out | with_reducible refine Ext.trans ?_ HX13.out | with_reducible refine Ext.trans ?_ HX14.out | with_reducible refine Ext.trans ?_ HX15.out | with_reducible refine Ext.trans ?_ HX16.out | with_reducible refine Ext.trans ?_ HX17.out | with_reducible refine Ext.trans ?_ HX18.out | with_reducible refine Ext.trans ?_ HX19.out | with_reducible refine Ext.trans ?_ HX20.out | with_reducible refine Ext.trans ?_ HX21.out | with_reducible refine Ext.trans ?_ HX22.out | with_reducible refine Ext.trans ?_ HX23.out | with_reducible refine Ext.trans ?_ HX24.out)))) LPN.out true (partE_right HRB.out _ _)).mono ?_); rintro e w' ⟨rfl, x12, rfl⟩)  | (go_at_call 15; (with_reducible refine (plus_rb (BA.out.on (by (repeat' (first | with_reducible exact Ext.refl _ | with_reducible refine Ext.ext ?_ _ | with_reducible refine Ext.alloc ?_ _ | with_reducible refine Ext.drew ?_ | with_reducible refine Ext.drewN ?_ _ | with_reducible refine Ext.trans ?_ HX1.out | with_reducible refine Ext.trans ?_ HX2.out | with_reducible refine Ext.trans ?_ HX3.out | with_reducible refine Ext.trans ?_ HX4.out | with_reducible refine Ext.trans ?_ HX5.out | with_reducible refine Ext.trans ?_ HX6.out | with_reducible refine Ext.trans ?_ HX7.out | with_reducible refine Ext.trans ?_ HX8.out | with_reducible refine Ext.trans ?_ HX9.out | with_reducible refine Ext.trans ?_ HX10.out | with_reducible refine Ext.trans ?_ HX11.out | with_reducible refine Ext.trans ?_ HX12.out | with_reducible refine Ext.trans ?_ HX13.out | with_reducible refine Ext.trans ?_ HX14.out | with_reducible refine Ext.trans ?_ HX15.out | with_reducible refine Ext.trans ?_ HX16.out | with_reducible refine Ext.trans ?_ HX17.out | with_reducible refine Ext.trans ?_ HX18.out | with_reducible refine Ext.trans ?_ HX19.out | with_reducible refine Ext.trans ?_ HX20.out | with_reducible refine Ext.trans ?_ HX21.out | with_reducible refine Ext.trans ?_ HX22.out | with_reducible refine Ext.trans ?_ HX23.out | with_reducible refine Ext.trans ?_ HX24.out)))) (BP.out.on (by (repeat' (first | with_reducible exact Ext.refl _ | with_reducible refine Ext.ext ?_ _ | with_reducible refine Ext.alloc ?_ _ | with_reducible refine Ext.drew ?_ | with_reducible refine Ext.drewN ?_ _ | with_reducible refine Ext.trans ?_ HX1.out | with_reducible refine Ext.trans ?_ HX2.out | with_reducible refine Ext.trans ?_ HX3.out | with_reducible refine Ext.trans ?_ HX4.out | with_reducible refine Ext.trans ?_ HX5.out | with_reducible refine Ext.trans ?_ HX6.out | with_reducible refine Ext.trans ?_ HX7.out | with_reducible refine Ext.trans ?_ HX8.out | with_reducible refine Ext.trans ?_ HX9.out | with_reducible refine Ext.trans ?_ HX10.out | with_reducible refine Ext.trans ?_ HX11.out | with_reducible refine Ext.trans ?_ HX12.out | with_reducible refine Ext.trans ?_ HX13.out | with_reducible refine Ext.trans ?_ HX14.out | with_reducible refine Ext.trans ?_ HX15.out | with_reducible refine Ext.trans ?_ HX16.out | with_reducible refine Ext.trans ?_ HX17.out | with_reducible refine Ext.trans ?_ HX18.out | with_reducible refine Ext.trans ?_ HX19.out | with_reducible refine Ext.trans ?_ HX20.out | with_reducible refine Ext.trans ?_ HX21.out | with_reducible refine Ext.trans ?_ HX22.out | with_reducible refine Ext.trans ?_ HX23.out | with_reducible refine Ext.trans ?_ HX24.out)))) LAP.out _ AS.out.symm).mono ?_); rintro e w13 ⟨v13, rfl, hx, hb⟩; have HX13 := Lib.hid hx; have B13 := Lib.hid hb; clear hx hb))
            exact ⟨⟨e + 1, by omega, congrArg (Value.int .i64) ewe, by (repeat' (first | with_reducible exact Ext.refl _ | with_reducible refine Ext.ext ?_ _ | with_reducible refine Ext.alloc ?_ _ | with_reducible refine Ext.drew ?_ | with_reducible refine Ext.drewN ?_ _ | with_reducible refine Ext.trans ?_ HX1.out | with_reducible refine Ext.trans ?_ HX2.out | with_reducible refine Ext.trans ?_ HX3.out | with_reducible refine Ext.trans ?_ HX4.out | with_reducible refine Ext.trans ?_ HX5.out | with_reducible refine Ext.trans ?_ HX6.out | with_reducible refine Ext.trans ?_ HX7.out | with_reducible refine Ext.trans ?_ HX8.out | with_reducible refine Ext.trans ?_ HX9.out | with_reducible refine Ext.trans ?_ HX10.out | with_reducible refine Ext.trans ?_ HX11.out | with_reducible refine Ext.trans ?_ HX12.out | with_reducible refine Ext.trans ?_ HX13.out | with_reducible refine Ext.trans ?_ HX14.out | with_reducible refine Ext.trans ?_ HX15.out | with_reducible refine Ext.trans ?_ HX16.out | with_reducible refine Ext.trans ?_ HX17.out | with_reducible refine Ext.trans ?_ HX18.out | with_reducible refine Ext.trans ?_ HX19.out | with_reducible refine Ext.trans ?_ HX20.out | with_reducible refine Ext.trans ?_ HX21.out | with_reducible refine Ext.trans ?_ HX22.out | with_reducible refine Ext.trans ?_ HX23.out | with_reducible refine Ext.trans ?_ HX24.out)), B13.out⟩, by rw [ewe]; simp only [intOf]; omega⟩
    · obtain rfl : e = m := by omega
      have LLN := Lib.hid (show l.length ≤ 1073741823 by have := HL.out; omega)
      rw [List.take_of_length_le (by rw [partF_length]; exact Nat.le_refl _)] at BA
      have LAN := Lib.hid (show (accP (partF l e)).length ≤ 1073741823 by
        have h1 := ALN.out e
        have h3 : ((partF l e).take e).length ≤ 64 := by rw [List.length_take, partF_length]; have := M2.out; omega
        have h4 : ((partF l e).take e).length * 100 ≤ 64 * 100 := Nat.mul_le_mul_right 100 h3
        rw [List.take_of_length_le (by rw [partF_length]; exact Nat.le_refl _)] at h1 h4
        have h5 : (accP (partF l e)).length ≤ ([] : List It).length + (partF l e).length * 100 := h1
        rw [List.length_nil] at h5
        omega)
      cases rb
      · go_wp2_with ((go_at_call 14; (with_reducible refine (right_rb (B0.out.on (by (repeat' (first | with_reducible exact Ext.refl _ | with_reducible refine Ext.ext ?_ _ | with_reducible refine Ext.alloc ?_ _ | with_reducible refine Ext.drew ?_ | with_reducible refine Ext.drewN ?_ _ | with_reducible refine Ext.trans ?_ HX1.out | with_reducible refine Ext.trans ?_ HX2.out | with_reducible refine Ext.trans ?_ HX3.out | with_reducible refine Ext.trans ?_ HX4.out | with_reducible refine Ext.trans ?_ HX5.out | with_reducible refine Ext.trans ?_ HX6.out | with_reducible refine Ext.trans ?_ HX7.out | with_reducible refine Ext.trans ?_ HX8.out | with_reducible refine Ext.trans ?_ HX9.out | with_reducible refine Ext.trans ?_ HX10.out | with_reducible refine Ext.trans ?_ HX11.out | with_reducible refine Ext.trans ?_ HX12.out | with_reducible refine Ext.trans ?_ HX13.out | with_reducible refine Ext.trans ?_ HX14.out | with_reducible refine Ext.trans ?_ HX15.out | with_reducible refine Ext.trans ?_ HX16.out | with_reducible refine Ext.trans ?_ HX17.out | with_reducible refine Ext.trans ?_ HX18.out | with_reducible refine Ext.trans ?_ HX19.out | with_reducible refine Ext.trans ?_ HX20.out | with_reducible refine Ext.trans ?_ HX21.out | with_reducible refine Ext.trans ?_ HX22.out | with_reducible refine Ext.trans ?_ HX23.out | with_reducible refine Ext.trans ?_ HX24.out)))) LLN.out false HRB.out).mono ?_); rintro e w11 ⟨rfl, hx⟩; have HX11 := Lib.hid hx; clear hx))
        go_returns
        exact ⟨retb rfl rfl, by (repeat' (first | with_reducible exact Ext.refl _ | with_reducible refine Ext.ext ?_ _ | with_reducible refine Ext.alloc ?_ _ | with_reducible refine Ext.drew ?_ | with_reducible refine Ext.drewN ?_ _ | with_reducible refine Ext.trans ?_ HX1.out | with_reducible refine Ext.trans ?_ HX2.out | with_reducible refine Ext.trans ?_ HX3.out | with_reducible refine Ext.trans ?_ HX4.out | with_reducible refine Ext.trans ?_ HX5.out | with_reducible refine Ext.trans ?_ HX6.out | with_reducible refine Ext.trans ?_ HX7.out | with_reducible refine Ext.trans ?_ HX8.out | with_reducible refine Ext.trans ?_ HX9.out | with_reducible refine Ext.trans ?_ HX10.out | with_reducible refine Ext.trans ?_ HX11.out | with_reducible refine Ext.trans ?_ HX12.out | with_reducible refine Ext.trans ?_ HX13.out | with_reducible refine Ext.trans ?_ HX14.out | with_reducible refine Ext.trans ?_ HX15.out | with_reducible refine Ext.trans ?_ HX16.out | with_reducible refine Ext.trans ?_ HX17.out | with_reducible refine Ext.trans ?_ HX18.out | with_reducible refine Ext.trans ?_ HX19.out | with_reducible refine Ext.trans ?_ HX20.out | with_reducible refine Ext.trans ?_ HX21.out | with_reducible refine Ext.trans ?_ HX22.out | with_reducible refine Ext.trans ?_ HX23.out | with_reducible refine Ext.trans ?_ HX24.out))⟩
      · go_wp2_with (first  | (go_at_call 14; (with_reducible refine (right_rb (B0.out.on (by (repeat' (first | with_reducible exact Ext.refl _ | with_reducible refine Ext.ext ?_ _ | with_reducible refine Ext.alloc ?_ _ | with_reducible refine Ext.drew ?_ | with_reducible refine Ext.drewN ?_ _ | with_reducible refine Ext.trans ?_ HX1.out | with_reducible refine Ext.trans ?_ HX2.out | with_reducible refine Ext.trans ?_ HX3.out | with_reducible refine Ext.trans ?_ HX4.out | with_reducible refine Ext.trans ?_ HX5.out | with_reducible refine Ext.trans ?_ HX6.out | with_reducible refine Ext.trans ?_ HX7.out | with_reducible refine Ext.trans ?_ HX8.out | with_reducible refine Ext.trans ?_ HX9.out | with_reducible refine Ext.trans ?_ HX10.out | with_reducible refine Ext.trans ?_ HX11.out | with_reducible refine Ext.trans ?_ HX12.out | with_reducible refine Ext.trans ?_ HX13.out | with_reducible refine Ext.trans ?_ HX14.out | with_reducible refine Ext.trans ?_ HX15.out | with_reducible refine Ext.trans ?_ HX16.out | with_reducible refine Ext.trans ?_ HX17.out | with_reducible refine Ext.trans ?_ HX18.out | with_reducible refine Ext.trans ?_ HX19.out | with_reducible refine Ext.trans ?_ HX20.out | with_reducible refine Ext.trans ?_ HX21.out | with_reducible refine Ext.trans ?_ HX22.out | with_reducible refine Ext.trans ?_ HX23.out | with_reducible refine Ext.trans ?_ HX24.out)))) LLN.out true HRB.out).mono ?_); rintro e w11 ⟨rfl, hx⟩; have HX11 := Lib.hid hx; clear hx)  | (go_at_call 16; (with_reducible refine (same_rb (BA.out.on (by (repeat' (first | with_reducible exact Ext.refl _ | with_reducible refine Ext.ext ?_ _ | with_reducible refine Ext.alloc ?_ _ | with_reducible refine Ext.drew ?_ | with_reducible refine Ext.drewN ?_ _ | with_reducible refine Ext.trans ?_ HX1.out | with_reducible refine Ext.trans ?_ HX2.out | with_reducible refine Ext.trans ?_ HX3.out | with_reducible refine Ext.trans ?_ HX4.out | with_reducible refine Ext.trans ?_ HX5.out | with_reducible refine Ext.trans ?_ HX6.out | with_reducible refine Ext.trans ?_ HX7.out | with_reducible refine Ext.trans ?_ HX8.out | with_reducible refine Ext.trans ?_ HX9.out | with_reducible refine Ext.trans ?_ HX10.out | with_reducible refine Ext.trans ?_ HX11.out | with_reducible refine Ext.trans ?_ HX12.out | with_reducible refine Ext.trans ?_ HX13.out | with_reducible refine Ext.trans ?_ HX14.out | with_reducible refine Ext.trans ?_ HX15.out | with_reducible refine Ext.trans ?_ HX16.out | with_reducible refine Ext.trans ?_ HX17.out | with_reducible refine Ext.trans ?_ HX18.out | with_reducible refine Ext.trans ?_ HX19.out | with_reducible refine Ext.trans ?_ HX20.out | with_reducible refine Ext.trans ?_ HX21.out | with_reducible refine Ext.trans ?_ HX22.out | with_reducible refine Ext.trans ?_ HX23.out | with_reducible refine Ext.trans ?_ HX24.out)))) (B0.out.on (by (repeat' (first | with_reducible exact Ext.refl _ | with_reducible refine Ext.ext ?_ _ | with_reducible refine Ext.alloc ?_ _ | with_reducible refine Ext.drew ?_ | with_reducible refine Ext.drewN ?_ _ | with_reducible refine Ext.trans ?_ HX1.out | with_reducible refine Ext.trans ?_ HX2.out | with_reducible refine Ext.trans ?_ HX3.out | with_reducible refine Ext.trans ?_ HX4.out | with_reducible refine Ext.trans ?_ HX5.out | with_reducible refine Ext.trans ?_ HX6.out | with_reducible refine Ext.trans ?_ HX7.out | with_reducible refine Ext.trans ?_ HX8.out | with_reducible refine Ext.trans ?_ HX9.out | with_reducible refine Ext.trans ?_ HX10.out | with_reducible refine Ext.trans ?_ HX11.out | with_reducible refine Ext.trans ?_ HX12.out | with_reducible refine Ext.trans ?_ HX13.out | with_reducible refine Ext.trans ?_ HX14.out | with_reducible refine Ext.trans ?_ HX15.out | with_reducible refine Ext.trans ?_ HX16.out | with_reducible refine Ext.trans ?_ HX17.out | with_reducible refine Ext.trans ?_ HX18.out | with_reducible refine Ext.trans ?_ HX19.out | with_reducible refine Ext.trans ?_ HX20.out | with_reducible refine Ext.trans ?_ HX21.out | with_reducible refine Ext.trans ?_ HX22.out | with_reducible refine Ext.trans ?_ HX23.out | with_reducible refine Ext.trans ?_ HX24.out)))) LAN.out true (sameB_yes (acc_all HRB.out M1.out))).mono ?_); rintro e w12 ⟨rfl, hx⟩; have HX12 := Lib.hid hx; clear hx))
        go_returns
        exact ⟨retb rfl rfl, by (repeat' (first | with_reducible exact Ext.refl _ | with_reducible refine Ext.ext ?_ _ | with_reducible refine Ext.alloc ?_ _ | with_reducible refine Ext.drew ?_ | with_reducible refine Ext.drewN ?_ _ | with_reducible refine Ext.trans ?_ HX1.out | with_reducible refine Ext.trans ?_ HX2.out | with_reducible refine Ext.trans ?_ HX3.out | with_reducible refine Ext.trans ?_ HX4.out | with_reducible refine Ext.trans ?_ HX5.out | with_reducible refine Ext.trans ?_ HX6.out | with_reducible refine Ext.trans ?_ HX7.out | with_reducible refine Ext.trans ?_ HX8.out | with_reducible refine Ext.trans ?_ HX9.out | with_reducible refine Ext.trans ?_ HX10.out | with_reducible refine Ext.trans ?_ HX11.out | with_reducible refine Ext.trans ?_ HX12.out | with_reducible refine Ext.trans ?_ HX13.out | with_reducible refine Ext.trans ?_ HX14.out | with_reducible refine Ext.trans ?_ HX15.out | with_reducible refine Ext.trans ?_ HX16.out | with_reducible refine Ext.trans ?_ HX17.out | with_reducible refine Ext.trans ?_ HX18.out | with_reducible refine Ext.trans ?_ HX19.out | with_reducible refine Ext.trans ?_ HX20.out | with_reducible refine Ext.trans ?_ HX21.out | with_reducible refine Ext.trans ?_ HX22.out | with_reducible refine Ext.trans ?_ HX23.out | with_reducible refine Ext.trans ?_ HX24.out))⟩
theorem splits_out (a : Option Addr) (c : Nat) (L : List It) (n : Int) (w : World) (hr : Rd w 3 L.length (.slice a L.length c) (its L)) (hc : L.length ≤ c) (h : n < 1 ∨ 64 < n) :
    Calls Try.prog 3 #[.slice a L.length c, .int .i64 n] w fun r w' => r = .returned (.bool true) ∧ Ext w w' := by
  have AW := Lib.hid awake13
  have hm := fun ats ty w => run_min (P := Try.prog) L.length 100 100 rfl ats ty w
  have n1 : min L.length 100 ≤ L.length := Nat.min_le_left _ _
  have SP := Lib.hid (fun v W => split_out L v n W h)
  generalize min L.length 100 = k at *
  have m0 : (0 : Int) ≤ k := by omega
  have m1 : (k : Int) ≤ c := by omega
  clear hr hc n1
  obtain ⟨b1, f1⟩ : ∃ b, decide (n < 1) = b := ⟨_, rfl⟩
  obtain ⟨b2, f2⟩ : ∃ b, decide (64 < n) = b := ⟨_, rfl⟩
  cases b1
  · have h2 : 64 < n := by
      have := of_decide_eq_false f1
      omega
    have f2' : decide (64 < n) = true := decide_eq_true h2
    clear f2 h h2
    go_enter Try.func3, Try.ntmps3
    go_wp2_with (first  | (go_at_call 11; refine (AW.out _).mono ?_; rintro e w' ⟨rfl, x, rfl⟩)  | (go_at_call 12; (with_reducible refine (SP.out _ _).mono ?_); rintro e w' ⟨rfl, x1, rfl⟩))
    go_returns
    exact ⟨retb rfl rfl, by (repeat' (first | with_reducible exact Ext.refl _ | with_reducible refine Ext.ext ?_ _ | with_reducible refine Ext.alloc ?_ _ | with_reducible refine Ext.drew ?_ | with_reducible refine Ext.drewN ?_ _ | with_reducible assumption))⟩
  · clear h f2
    go_enter Try.func3, Try.ntmps3
    go_wp2_with (first  | (go_at_call 11; refine (AW.out _).mono ?_; rintro e w' ⟨rfl, x, rfl⟩)  | (go_at_call 12; (with_reducible refine (SP.out _ _).mono ?_); rintro e w' ⟨rfl, x1, rfl⟩))
    go_returns
    exact ⟨retb rfl rfl, by (repeat' (first | with_reducible exact Ext.refl _ | with_reducible refine Ext.ext ?_ _ | with_reducible refine Ext.alloc ?_ _ | with_reducible refine Ext.drew ?_ | with_reducible refine Ext.drewN ?_ _ | with_reducible assumption))⟩
theorem walk_RouteSplits (w : World) (a : Option Addr) (c : Nat) (L : List It) (hr : Rd w 3 L.length (.slice a L.length c) (its L)) (hc : L.length ≤ c) (hk : ∀ x ∈ L, In64 x.k) (n : Int) (hn : -9223372036854775808 ≤ n ∧ n ≤ 9223372036854775807) :
    Calls Try.prog 3 #[.slice a L.length c, .int .i64 n] w fun r w' => r = .returned (.bool true) ∧ Ext w w' := by
  by_cases h : n < 1 ∨ 64 < n
  · exact splits_out a c L n w hr hc h
  · obtain ⟨m, rfl⟩ : ∃ m : Nat, n = (m : Int) := ⟨n.toNat, by omega⟩
    exact splits_in a c m L _ w hr hc rfl (fun x hx => hk x (List.mem_of_mem_take hx)) (by omega) (by omega) _ rfl
end Go.Proofs.Ytbglfaomebokhaa
