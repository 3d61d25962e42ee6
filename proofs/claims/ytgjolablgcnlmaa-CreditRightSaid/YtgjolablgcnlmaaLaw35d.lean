/- The walk of CreditRight. -/
import Derived.Test.YtgjolablgcnlmaaCrH
import Derived.Test.YtgjolablgcnlmaaCrT
import Derived.Test.YtgjolablgcnlmaaLaw35c
namespace Go.Proofs.Ytgjolablgcnlmaa
set_option linter.unusedSimpArgs false
set_option linter.unusedVariables false
open Go.RowKit

set_option synthInstance.maxHeartbeats 400000 in
set_option maxRecDepth 100000 in
set_option maxHeartbeats 40000000 in
theorem lane_walk (s m b : Int) (a1 a2 : Option Addr) (c1 c2 : Nat) (xs ys : List Int) (v size : Int) (w : World) (hl1 : xs.length ≤ 100) (hl2 : ys.length ≤ 100) (hcp : xs.length ≤ c1 ∧ ys.length ≤ c2) (hV : LaneV w a1 c1 a2 c2 ⟨s, m, b, xs, ys⟩) :
    Calls Try.prog 3 #[.agg #[.int .i64 s, .int .i64 m, .slice a1 xs.length c1, .slice a2 ys.length c2, .int .i64 b], .int .i64 v, .int .i64 size] w fun r w' => r = .returned (.bool true) ∧ Ext w w' := by
  have AW := Lib.hid (fun w => awake35 w)
  have HV := Lib.hid hV
  have HC := Lib.hid hcp
  clear hcp
  have i1 : ¬ 100 < (xs.length : Int) := by omega
  have i2 : ¬ 100 < (ys.length : Int) := by omega
  have L1 := Lib.hid hl1
  have L2 := Lib.hid hl2
  clear hV hl1 hl2
  go_enter Try.func3, Try.ntmps3
  go_upto_region 1 with fail
  have hb := Bx.made (Ext.refl w) HV.out
  generalize w.alloc (.cells #[.int .i64 s, .int .i64 m, .slice a1 xs.length c1, .slice a2 ys.length c2, .int .i64 b] 24) = w1 at *
  generalize w.heap.size = p at *
  have HB := Lib.hid hb
  clear hb
  go_upto_region 5 with (go_at_call 8; refine (AW.out _).mono ?_; rintro r w2 ⟨rfl, hx⟩; obtain ⟨d0, d1, d2, d3, d4, lt, fr⟩ := (HB.out.on hx).cells; haveI : LtSz p w2.heap.size := ⟨lt⟩; have HB2 := Lib.hid (HB.out.on hx); clear hx)
  clear d0 d1 d2 d3 d4 lt fr this AW HB
  have N1 : Hid (∀ w, Calls Try.prog 9 #[.int .i64 size] w fun e w' => ∃ k e0, (k = if 1 ≤ size ∧ size ≤ 4096 then size else 0) ∧ (e0 = if 1 ≤ size ∧ size ≤ 4096 then 0 else 1) ∧ e = .returned (.tuple #[.agg #[.int .i64 k, .int .i64 k, .slice none 0 0, .slice none 0 0, .int .i64 0], .int .i64 e0]) ∧ Ext w w') := Lib.hid (fun w => (crNew_any size w).mono fun e w' ⟨h1, h2⟩ => ⟨_, _, rfl, rfl, h1, h2⟩)
  go_upto_region 6 with (go_at_call 9; refine (N1.out _).mono ?_; rintro r w3 ⟨k, e0, hk, he0, rfl, hx⟩; have HK := Lib.hid hk; have HE0 := Lib.hid he0; have HB3 := Lib.hid (HB2.out.on hx); clear hk he0 hx)
  clear HB2 N1
  have hb4 := HB3.out.on ((Ext.refl w3).alloc (.cells #[.int .i64 k, .int .i64 k, .slice none 0 0, .slice none 0 0, .int .i64 0] 24))
  have hbn := Bx.made (Ext.refl w3) (a1 := none) (c1 := 0) (a2 := none) (c2 := 0) (s := k) (m := k) (b := 0) (xs := []) (ys := []) (laneV_empty _ _ _ _)
  simp only [List.length_nil] at hbn
  generalize w3.alloc (.cells #[.int .i64 k, .int .i64 k, .slice none 0 0, .slice none 0 0, .int .i64 0] 24) = w4 at *
  generalize hq : w3.heap.size = q at *
  obtain ⟨d0, d1, d2, d3, d4, lt, fr⟩ := hbn.cells
  simp only [List.length_nil] at d0 d1 d2 d3 d4
  haveI : LtSz q w4.heap.size := ⟨lt⟩
  have HB4 := Lib.hid hb4
  clear hb4 hbn HB3 hq w3 fr lt
  go_cut [46] (fun t wx => t = .bool (!decide (1 ≤ size ∧ size ≤ 4096)) ∧ wx = w4)
  case first =>
    as_aux_lemma =>
      by_cases hs1 : 1 ≤ size
      · by_cases hs2 : size ≤ 4096
        · go_wp2
          go_meet
          exact ⟨by simp [hs1, hs2], rfl⟩
        · go_wp2
          go_meet
          exact ⟨by simp [hs1, hs2], rfl⟩
      · go_wp2
        go_meet
        exact ⟨by simp [hs1], rfl⟩
  case rest =>
  obtain ⟨rfl, ew⟩ := hcut
  obtain rfl := ew.symm
  go_upto_if 46 with fail
  go_cut [6, 46] (fun r _ wx => r = .bool false ∧ Ext w4 wx)
  case first =>
    as_aux_lemma =>
      have S0 := same_nil k k 0
      have hk := HK.out
      have he0 := HE0.out
      clear HK HE0
      by_cases hs : 1 ≤ size ∧ size ≤ 4096
      · rw [if_pos hs] at hk he0
        have hd : decide (1 ≤ size ∧ size ≤ 4096) = true := decide_eq_true hs
        subst hk he0
        rw [hd]
        go_wp2_with (go_at_call 10; refine (S0.out _).mono ?_; rintro r w' ⟨rfl, hx⟩)
        go_meet
        exact ⟨rfl, hx⟩
      · rw [if_neg hs] at hk he0
        have hd : decide (1 ≤ size ∧ size ≤ 4096) = false := decide_eq_false hs
        subst hk he0
        rw [hd]
        go_wp2_with (go_at_call 10; refine (S0.out _).mono ?_; rintro r w' ⟨rfl, hx⟩)
        go_meet
        exact ⟨rfl, hx⟩
  case rest =>
  obtain ⟨rfl, hx5⟩ := hcut
  have HB5 := Lib.hid (HB4.out.on hx5)
  clear HB4 hx5 d0 d1 d2 d3 d4 this HK HE0
  obtain ⟨d0, d1, d2, d3, d4, lt, fr⟩ := HB5.out.cells
  haveI : LtSz p wc.heap.size := ⟨lt⟩
  go_upto_region 12 with fail
  clear d0 d1 d2 d3 d4 this fr
  have hq6 := Bx.made HB5.out.1 HB5.out.2.2.2
  have hp6 := HB5.out.on ((Ext.refl wc).alloc (.cells #[.int .i64 s, .int .i64 m, .slice a1 xs.length c1, .slice a2 ys.length c2, .int .i64 b] 24))
  clear HB5
  generalize wc.alloc (.cells #[.int .i64 s, .int .i64 m, .slice a1 xs.length c1, .slice a2 ys.length c2, .int .i64 b] 24) = w6 at *
  have NE := Lib.hid (show p ≠ wc.heap.size by omega)
  generalize wc.heap.size = q6 at *
  clear lt
  have HQ6 := Lib.hid hq6
  have HP6 := Lib.hid hp6
  clear hq6 hp6
  refine reg12 _ w w6 p q6 s m b a1 a2 c1 c2 xs ys _ rfl rfl (by first | (show 75 < 298; decide) | simp) HV.out HP6.out HQ6.out NE.out L1.out L2.out ?_
  intro a w7 a3 c3 a4 c4 hn hb1 hb2
  have HP7 := Lib.hid hb1
  have HQ7 := Lib.hid hb2
  clear hb1 hb2 HP6 HQ6
  rw [hn.eq]
  clear hn
  dsimp only [puts, ts12, List.foldl, Act.put]
  simp only [List.setIfInBounds_toArray, List.set_cons_succ, List.set_cons_zero]
  generalize a.eval (.tmp 66) = t66
  generalize a.eval (.tmp 67) = t67
  generalize a.eval (.tmp 68) = t68
  generalize a.eval (.tmp 69) = t69
  generalize a.eval (.tmp 70) = t70
  generalize a.eval (.tmp 71) = t71
  generalize a.eval (.tmp 72) = t72
  generalize a.eval (.tmp 73) = t73
  generalize a.eval (.tmp 74) = t74
  generalize a.eval (.tmp 75) = t75
  clear a
  have RT := Lib.hid (fun a1 a2 c1 c2 W => lawRight_any s m b a1 a2 xs.length ys.length c1 c2 W L1.out L2.out)
  have CR := Lib.hid (fun a1 a2 c1 c2 W => crRight_any s m b a1 a2 xs.length ys.length c1 c2 W (Nat.le_trans L1.out (by decide)) (Nat.le_trans L2.out (by decide)))
  obtain ⟨ok, hok⟩ : ∃ ok, rightL s m b xs.length ys.length = ok := ⟨_, rfl⟩
  rw [hok] at RT CR
  have HOK := Lib.hid hok
  clear hok
  obtain ⟨d0, d1, d2, d3, d4, lt, fr⟩ := HP7.out.cells
  obtain ⟨e0', e1', e2', e3', e4', lt2, fr2⟩ := HQ7.out.cells
  haveI : LtSz p w7.heap.size := ⟨lt⟩
  haveI : LtSz q6 w7.heap.size := ⟨lt2⟩
  have okk : (ok != ok) = false := by cases ok <;> rfl
  go_upto_region 16 with (first | (go_at_call 11; (with_reducible refine (RT.out _ _ _ _ _).mono ?_); rintro e w' ⟨rfl, x1, rfl⟩) | (go_at_call 12; (with_reducible refine (CR.out _ _ _ _ _).mono ?_); rintro e w' ⟨rfl, x2, rfl⟩))
  clear d0 d1 d2 d3 d4 lt fr e0' e1' e2' e3' e4' lt2 fr2 okk RT CR this NE
  have hp8 := HP7.out.on ((Ext.refl w7).ext (x1.add x2))
  have hq8 := HQ7.out.on ((Ext.refl w7).ext (x1.add x2))
  generalize ext w7 (x1.add x2) = w8 at *
  have HP8 := Lib.hid hp8
  have HQ8 := Lib.hid hq8
  clear hp8 hq8 HP7 HQ7
  obtain ⟨ls, hls⟩ : ∃ l, sendN ⟨s, m, b, xs, ys⟩ v = l := ⟨_, rfl⟩
  obtain ⟨es, hes⟩ : ∃ e, mayN ⟨s, m, b, xs, ys⟩ m 9 = e := ⟨_, rfl⟩
  obtain ⟨la, hla⟩ : ∃ l, arriveN ⟨s, m, b, xs, ys⟩ = l := ⟨_, rfl⟩
  obtain ⟨ea, hea⟩ : ∃ e, mayN ⟨s, m, b, xs, ys⟩ xs.length 12 = e := ⟨_, rfl⟩
  obtain ⟨lk, hlk⟩ : ∃ l, takeN ⟨s, m, b, xs, ys⟩ = l := ⟨_, rfl⟩
  obtain ⟨xk, hxk⟩ : ∃ e, tookN ⟨s, m, b, xs, ys⟩ = e := ⟨_, rfl⟩
  obtain ⟨ek, hek⟩ : ∃ e, mayN ⟨s, m, b, xs, ys⟩ ys.length 12 = e := ⟨_, rfl⟩
  obtain ⟨lr, hlr⟩ : ∃ l, returnN ⟨s, m, b, xs, ys⟩ = l := ⟨_, rfl⟩
  obtain ⟨er, her⟩ : ∃ e, mayN ⟨s, m, b, xs, ys⟩ b 12 = e := ⟨_, rfl⟩
  have SD := Lib.hid (fun a a' c c' W h => send_let s m b xs ys L1.out L2.out a a' c c' W h ls es v hls hes)
  have AR := Lib.hid (fun a a' c c' W h => arrive_let s m b xs ys L1.out L2.out a a' c c' W h la ea hla hea)
  have TK := Lib.hid (fun a a' c c' W h => take_let s m b xs ys L1.out L2.out a a' c c' W h lk ek xk hlk hxk hek)
  have RE := Lib.hid (fun a a' c c' W h => return_let s m b xs ys L1.out L2.out a a' c c' W h lr er hlr her)
  have HSP := Lib.hid (And.intro hls (And.intro hes (And.intro hla (And.intro hea (And.intro hlk (And.intro hxk (And.intro hek (And.intro hlr her))))))))
  clear hls hes hla hea hlk hxk hek hlr her
  obtain ⟨d0, d1, d2, d3, d4, lt, fr⟩ := HQ8.out.cells
  haveI : LtSz q6 w8.heap.size := ⟨lt⟩
  go_upto_region 17 with (go_at_call 13; refine (SD.out _ _ _ _ _ HQ8.out.2.2.2).mono ?_; rintro e w9c ⟨f1SD, g1SD, f2SD, g2SD, rfl, hx, hlv⟩)
  clear d0 d1 d2 d3 d4 lt fr this SD
  have hz := hx.alloc (.cells #[.int .i64 ls.s, .int .i64 ls.m, .slice f1SD ls.way.length g1SD, .slice f2SD ls.waits.length g2SD, .int .i64 ls.b] 24)
  have hp := HP8.out.on hz
  have hq := HQ8.out.on hz
  have hn := Bx.made (HP8.out.1.trans hx) hlv
  generalize w9c.alloc (.cells #[.int .i64 ls.s, .int .i64 ls.m, .slice f1SD ls.way.length g1SD, .slice f2SD ls.waits.length g2SD, .int .i64 ls.b] 24) = w9 at *
  generalize w9c.heap.size = qSD at *
  have HP9 := Lib.hid hp
  have HQ9 := Lib.hid hq
  have HSDB9 := Lib.hid hn
  clear hz hn hx hlv hp HP8 hq HQ8
  obtain ⟨d0, d1, d2, d3, d4, lt, fr⟩ := HQ9.out.cells
  haveI : LtSz q6 w9.heap.size := ⟨lt⟩
  go_upto_region 18 with (go_at_call 14; refine (AR.out _ _ _ _ _ HQ9.out.2.2.2).mono ?_; rintro e w10c ⟨f1AR, g1AR, f2AR, g2AR, rfl, hx, hlv⟩)
  clear d0 d1 d2 d3 d4 lt fr this AR
  have hz := hx.alloc (.cells #[.int .i64 la.s, .int .i64 la.m, .slice f1AR la.way.length g1AR, .slice f2AR la.waits.length g2AR, .int .i64 la.b] 24)
  have hp := HP9.out.on hz
  have hq := HQ9.out.on hz
  have hsdb := HSDB9.out.on hz
  have hn := Bx.made (HP9.out.1.trans hx) hlv
  generalize w10c.alloc (.cells #[.int .i64 la.s, .int .i64 la.m, .slice f1AR la.way.length g1AR, .slice f2AR la.waits.length g2AR, .int .i64 la.b] 24) = w10 at *
  generalize w10c.heap.size = qAR at *
  have HP10 := Lib.hid hp
  have HQ10 := Lib.hid hq
  have HSDB10 := Lib.hid hsdb
  have HARB10 := Lib.hid hn
  clear hz hn hx hlv hp HP9 hq HQ9 hsdb HSDB9
  obtain ⟨d0, d1, d2, d3, d4, lt, fr⟩ := HQ10.out.cells
  haveI : LtSz q6 w10.heap.size := ⟨lt⟩
  go_upto_region 19 with (go_at_call 15; refine (TK.out _ _ _ _ _ HQ10.out.2.2.2).mono ?_; rintro e w11c ⟨f1TK, g1TK, f2TK, g2TK, rfl, hx, hlv⟩)
  clear d0 d1 d2 d3 d4 lt fr this TK
  have hz := hx.alloc (.cells #[.int .i64 lk.s, .int .i64 lk.m, .slice f1TK lk.way.length g1TK, .slice f2TK lk.waits.length g2TK, .int .i64 lk.b] 24)
  have hp := HP10.out.on hz
  have hq := HQ10.out.on hz
  have hsdb := HSDB10.out.on hz
  have harb := HARB10.out.on hz
  have hn := Bx.made (HP10.out.1.trans hx) hlv
  generalize w11c.alloc (.cells #[.int .i64 lk.s, .int .i64 lk.m, .slice f1TK lk.way.length g1TK, .slice f2TK lk.waits.length g2TK, .int .i64 lk.b] 24) = w11 at *
  generalize w11c.heap.size = qTK at *
  have HP11 := Lib.hid hp
  have HQ11 := Lib.hid hq
  have HSDB11 := Lib.hid hsdb
  have HARB11 := Lib.hid harb
  have HTKB11 := Lib.hid hn
  clear hz hn hx hlv hp HP10 hq HQ10 hsdb HSDB10 harb HARB10
  obtain ⟨d0, d1, d2, d3, d4, lt, fr⟩ := HQ11.out.cells
  haveI : LtSz q6 w11.heap.size := ⟨lt⟩
  go_upto_region 20 with (go_at_call 16; refine (RE.out _ _ _ _ _ HQ11.out.2.2.2).mono ?_; rintro e w12c ⟨f1RE, g1RE, f2RE, g2RE, rfl, hx, hlv⟩)
  clear d0 d1 d2 d3 d4 lt fr this RE
  have hz := hx.alloc (.cells #[.int .i64 lr.s, .int .i64 lr.m, .slice f1RE lr.way.length g1RE, .slice f2RE lr.waits.length g2RE, .int .i64 lr.b] 24)
  have hp := HP11.out.on hz
  have hq := HQ11.out.on hz
  have hsdb := HSDB11.out.on hz
  have harb := HARB11.out.on hz
  have htkb := HTKB11.out.on hz
  have hn := Bx.made (HP11.out.1.trans hx) hlv
  generalize w12c.alloc (.cells #[.int .i64 lr.s, .int .i64 lr.m, .slice f1RE lr.way.length g1RE, .slice f2RE lr.waits.length g2RE, .int .i64 lr.b] 24) = w12 at *
  generalize w12c.heap.size = qRE at *
  have HP12 := Lib.hid hp
  have HQ12 := Lib.hid hq
  have HSDB12 := Lib.hid hsdb
  have HARB12 := Lib.hid harb
  have HTKB12 := Lib.hid htkb
  have HREB12 := Lib.hid hn
  clear hz hn hx hlv hp HP11 hq HQ11 hsdb HSDB11 harb HARB11 htkb HTKB11
  obtain ⟨d0, d1, d2, d3, d4, lt, fr⟩ := HQ12.out.cells
  obtain ⟨e0', e1', e2', e3', e4', lt2, fr2⟩ := HP12.out.cells
  haveI : LtSz q6 w12.heap.size := ⟨lt⟩
  haveI : LtSz p w12.heap.size := ⟨lt2⟩
  go_upto_region 22 with (go_at_call 10; refine (same_let ⟨s, m, b, xs, ys⟩ a3 a4 a1 a2 c3 c4 c1 c2 _ HQ12.out.2.2.2 HP12.out.2.2.2 (Nat.le_trans L1.out (by decide)) (Nat.le_trans L2.out (by decide))).mono ?_; rintro e w13 ⟨rfl, hx⟩)
  clear d0 d1 d2 d3 d4 lt fr e0' e1' e2' e3' e4' lt2 fr2
  have HX13 := Lib.hid hx
  clear hx
  cases ok
  · as_aux_lemma =>
      have BP := Lib.hid (fun n k => bad_plain (l := ⟨s, m, b, xs, ys⟩) HOK.out v n k)
      have e1 : ls = ⟨s, m, b, xs, ys⟩ := HSP.out.1.symm.trans (BP.out 0 0).2.1
      have e2 : es = 10 := HSP.out.2.1.symm.trans (BP.out _ _).1
      have e3 : la = ⟨s, m, b, xs, ys⟩ := HSP.out.2.2.1.symm.trans (BP.out 0 0).2.2.1
      have e4 : ea = 10 := HSP.out.2.2.2.1.symm.trans (BP.out _ _).1
      have e5 : lk = ⟨s, m, b, xs, ys⟩ := HSP.out.2.2.2.2.1.symm.trans (BP.out 0 0).2.2.2.1
      have e6 : xk = 0 := HSP.out.2.2.2.2.2.1.symm.trans (BP.out 0 0).2.2.2.2.1
      have e7 : ek = 10 := HSP.out.2.2.2.2.2.2.1.symm.trans (BP.out _ _).1
      have e8 : lr = ⟨s, m, b, xs, ys⟩ := HSP.out.2.2.2.2.2.2.2.1.symm.trans (BP.out 0 0).2.2.2.2.2
      have e9 : er = 10 := HSP.out.2.2.2.2.2.2.2.2.symm.trans (BP.out _ _).1
      clear HSP BP
      subst e1 e2 e3 e4 e5 e6 e7 e8 e9
      have LN := Lib.hid (And.intro (Nat.le_trans L1.out (show 100 ≤ 1073741823 by decide)) (Nat.le_trans L2.out (show 100 ≤ 1073741823 by decide)))
      have SA := Lib.hid (fun W (hx : Ext w13 W) => same_ex s m b xs ys (HSDB12.out.2.2.2.of_ext (HX13.out.trans hx)) (HP12.out.2.2.2.of_ext (HX13.out.trans hx)) LN.out.1 LN.out.2)
      have SB := Lib.hid (fun W (hx : Ext w13 W) => same_ex s m b xs ys (HARB12.out.2.2.2.of_ext (HX13.out.trans hx)) (HP12.out.2.2.2.of_ext (HX13.out.trans hx)) LN.out.1 LN.out.2)
      have SC := Lib.hid (fun W (hx : Ext w13 W) => same_ex s m b xs ys (HTKB12.out.2.2.2.of_ext (HX13.out.trans hx)) (HP12.out.2.2.2.of_ext (HX13.out.trans hx)) LN.out.1 LN.out.2)
      have SE := Lib.hid (fun W (hx : Ext w13 W) => same_ex s m b xs ys (HREB12.out.2.2.2.of_ext (HX13.out.trans hx)) (HP12.out.2.2.2.of_ext (HX13.out.trans hx)) LN.out.1 LN.out.2)
      have HE13 := Lib.hid (HP12.out.1.trans HX13.out)
      obtain ⟨p0, p1, p2, p3, p4, pl, pf⟩ := (HP12.out.on HX13.out).cells
      obtain ⟨a0', a1', a2', a3', a4', al, af⟩ := (HSDB12.out.on HX13.out).cells
      obtain ⟨b0', b1', b2', b3', b4', bl, bf⟩ := (HARB12.out.on HX13.out).cells
      obtain ⟨k0', k1', k2', k3', k4', kl, kf⟩ := (HTKB12.out.on HX13.out).cells
      obtain ⟨r0', r1', r2', r3', r4', rl, rf⟩ := (HREB12.out.on HX13.out).cells
      haveI : LtSz p w13.heap.size := ⟨pl⟩
      haveI : LtSz qSD w13.heap.size := ⟨al⟩
      haveI : LtSz qAR w13.heap.size := ⟨bl⟩
      haveI : LtSz qTK w13.heap.size := ⟨kl⟩
      haveI : LtSz qRE w13.heap.size := ⟨rl⟩
      clear pf af bf kf rf HSDB12 HARB12 HTKB12 HREB12 HP12 HQ12
      go_wp2_with (first | (go_at_call 10; (with_reducible refine (SA.out _ (by (repeat' (first | with_reducible exact Ext.refl _ | with_reducible refine Ext.ext ?_ _ | with_reducible refine Ext.alloc ?_ _ | with_reducible refine Ext.drew ?_ | with_reducible refine Ext.drewN ?_ _ | with_reducible assumption)))).mono ?_); rintro e w' ⟨rfl, z1, rfl⟩) | (go_at_call 10; (with_reducible refine (SB.out _ (by (repeat' (first | with_reducible exact Ext.refl _ | with_reducible refine Ext.ext ?_ _ | with_reducible refine Ext.alloc ?_ _ | with_reducible refine Ext.drew ?_ | with_reducible refine Ext.drewN ?_ _ | with_reducible assumption)))).mono ?_); rintro e w' ⟨rfl, z2, rfl⟩) | (go_at_call 10; (with_reducible refine (SC.out _ (by (repeat' (first | with_reducible exact Ext.refl _ | with_reducible refine Ext.ext ?_ _ | with_reducible refine Ext.alloc ?_ _ | with_reducible refine Ext.drew ?_ | with_reducible refine Ext.drewN ?_ _ | with_reducible assumption)))).mono ?_); rintro e w' ⟨rfl, z3, rfl⟩) | (go_at_call 10; (with_reducible refine (SE.out _ (by (repeat' (first | with_reducible exact Ext.refl _ | with_reducible refine Ext.ext ?_ _ | with_reducible refine Ext.alloc ?_ _ | with_reducible refine Ext.drew ?_ | with_reducible refine Ext.drewN ?_ _ | with_reducible assumption)))).mono ?_); rintro e w' ⟨rfl, z4, rfl⟩))
      go_returns
      exact ⟨retb rfl rfl, HE13.out.trans (by (repeat' (first | with_reducible exact Ext.refl _ | with_reducible refine Ext.ext ?_ _ | with_reducible refine Ext.alloc ?_ _ | with_reducible refine Ext.drew ?_ | with_reducible refine Ext.drewN ?_ _ | with_reducible assumption)))⟩
  · obtain ⟨p0, p1, p2, p3, p4, pl, pf⟩ := (HP12.out.on HX13.out).cells
    haveI : LtSz p w13.heap.size := ⟨pl⟩
    have HP13 := Lib.hid (HP12.out.on HX13.out)
    clear pf
    go_upto_region 24 with fail
    clear p0 p1 p2 p3 p4 pl this
    rename_i hret
    exact tail24 s m b a1 a2 c1 c2 xs ys v w w12 w13 p qSD qAR qTK qRE f1SD f2SD f1AR f2AR f1TK f2TK f1RE f2RE g1SD g2SD g1AR g2AR g1TK g2TK g1RE g2RE ls la lk lr es ea xk ek er _ _ (by simp) rfl rfl rfl rfl rfl rfl rfl rfl rfl rfl rfl rfl rfl HC L1 L2 HSP HSDB12 HARB12 HTKB12 HREB12 HX13 HOK HP12 HP13 hret
end Go.Proofs.Ytgjolablgcnlmaa
