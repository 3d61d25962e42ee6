/- Net: Put, its walk. -/
import Derived.Test.YtlhmifkimnmnmaaNt7
namespace Go.Proofs.Ytlhmifkimnmnmaa
set_option linter.unusedSimpArgs false
set_option linter.unusedVariables false
open Go.RowKit

theorem inB_len {l : List Bx} (hm : ∀ x ∈ l, x.l.length ≤ 1073741823) (e f t : Int) : (inB l e f t).length ≤ 1073741823 := by
  unfold inB
  split
  · next x hx =>
    split
    · exact hm x (List.mem_of_getElem? hx)
    · exact Nat.zero_le _
  · exact Nat.zero_le _
set_option maxRecDepth 100000 in
set_option maxHeartbeats 16000000 in
theorem put_any (l : List Bx) (a : Option Addr) (n c : Nat) (w : World) (h : RdsG shB w l (.slice a n c)) (hl : n ≤ 1073741822) (hm : ∀ x ∈ l, x.l.length ≤ 1073741822) (f t room : Int) (m : Mg) :
    Calls Try.prog 8 #[.slice a n c, .int .i64 f, .int .i64 t, .int .i64 room, .agg #[.int .i64 m.e, .int .i64 m.d, .int .i64 m.a, .int .i64 m.b, .int .i64 m.c, .int .i64 m.f, .int .i64 m.k, .int .i64 m.v, .int .i64 m.n, .int .i64 m.q]] w fun r w' => ∃ v', r = .returned (.tuple #[v', .bool (putOk l f t room m)]) ∧ PtsG shB w (putS l f t room m) v' w' := by
  have hm' : ∀ x ∈ l, x.l.length ≤ 1073741823 := fun x hx => Nat.le_trans (hm x hx) (by decide)
  have CP := Lib.hid (fun W (hx : Ext w W) => copied_any l a n c W (h.on hx) (by omega) hm')
  have RG := Lib.hid (fun W (hx : Ext w W) => right_any l a n c W (h.on hx) (by omega) hm')
  have HL := Lib.hid (And.intro hl (rds_len h))
  have HM := Lib.hid hm
  obtain ⟨me, md, ma, mb, mc, mf, mk, mv, mn, mq⟩ := m
  dsimp only
  obtain ⟨br, hr⟩ : ∃ b, rightB l = b := ⟨_, rfl⟩
  rw [hr] at RG
  have HRT := Lib.hid hr
  obtain ⟨b1, f1⟩ : ∃ b, decide (f < 0) = b := ⟨_, rfl⟩
  obtain ⟨b2, f2⟩ : ∃ b, decide (t < 0) = b := ⟨_, rfl⟩
  obtain ⟨b3, f3⟩ : ∃ b, decide (me < 0) = b := ⟨_, rfl⟩
  obtain ⟨b4, f4⟩ : ∃ b, decide (min room 4096 ≤ ((inB l me f t).length : Int)) = b := ⟨_, rfl⟩
  obtain ⟨bo, hbo⟩ : ∃ b, putOk l f t room ⟨me, md, ma, mb, mc, mf, mk, mv, mn, mq⟩ = b := ⟨_, rfl⟩
  have hok : bo = (br && !b1 && !b2 && !b3 && !b4) := by rw [← hbo]; unfold putOk; dsimp only; rw [hr, f1, f2, f3, f4]
  have hno : bo = false → putS l f t room ⟨me, md, ma, mb, mc, mf, mk, mv, mn, mq⟩ = l := fun h => by unfold putS; rw [hbo, h]; rfl
  have hyes : bo = true → putS l f t room ⟨me, md, ma, mb, mc, mf, mk, mv, mn, mq⟩ = addB l f t ⟨me, md, ma, mb, mc, mf, mk, mv, mn, mq⟩ := fun h => by unfold putS; rw [hbo, h]; rfl
  obtain ⟨PS, hPS⟩ : ∃ PS, putS l f t room ⟨me, md, ma, mb, mc, mf, mk, mv, mn, mq⟩ = PS := ⟨_, rfl⟩
  rw [hPS] at hno hyes
  rw [hbo, hPS]
  have HNO := Lib.hid hno
  have HYES := Lib.hid hyes
  have MN := Lib.hid (fun ats ty w => run_minI (P := Try.prog) room 4096 ats ty w)
  clear h hl hm hm' hr hbo hno hyes hPS
  have F4 := Lib.hid f4
  clear f4
  go_enter Try.func8, Try.ntmps8
  go_upto_region 2 with (go_at_call 19; (with_reducible refine (CP.out _ (by (repeat' (first | with_reducible exact Ext.refl _ | with_reducible refine Ext.ext ?_ _ | with_reducible refine Ext.alloc ?_ _ | with_reducible refine Ext.drew ?_ | with_reducible refine Ext.drewN ?_ _ | with_reducible assumption)))).mono ?_); rintro r w1 ⟨v1, rfl, hp⟩)
  have hmb0 := BoxG.new (w := w) [.int .i64 me, .int .i64 md, .int .i64 ma, .int .i64 mb, .int .i64 mc, .int .i64 mf, .int .i64 mk, .int .i64 mv, .int .i64 mn, .int .i64 mq] 29 rfl
  have hwm : Ext w (w.alloc (.cells [.int .i64 me, .int .i64 md, .int .i64 ma, .int .i64 mb, .int .i64 mc, .int .i64 mf, .int .i64 mk, .int .i64 mv, .int .i64 mn, .int .i64 mq].toArray 29)) := (Ext.refl w).alloc _
  generalize w.alloc (.cells [.int .i64 me, .int .i64 md, .int .i64 ma, .int .i64 mb, .int .i64 mc, .int .i64 mf, .int .i64 mk, .int .i64 mv, .int .i64 mn, .int .i64 mq].toArray 29) = wm at *
  have hmb := hmb0.on hp.1
  have HWM := Lib.hid hwm
  have MB := Lib.hid hmb0
  have PT := Lib.hid hp
  have HX1 := Lib.hid (hwm.trans hp.1)
  clear hmb0 hwm
  have hv := hp
  obtain ⟨-, va, vc, us, rfl, -⟩ := hv
  clear hp CP us
  generalize w.heap.size = pm at *
  have q0 : w1.cell? ⟨pm, 0, none⟩ = some (.int .i64 me) := hmb 0 _ rfl
  haveI : LtSz pm w1.heap.size := ⟨World.block_lt_of_cell? _ _ q0⟩
  clear hmb
  cases br
  case false =>
    have HB := Lib.hid (HNO.out (by rw [hok]; rfl))
    obtain rfl : bo = false := by rw [hok]; rfl
    clear hok HYES
    go_wp2_with (go_at_call 10; (with_reducible refine (RG.out _ HX1.out).mono ?_); rintro r w2 ⟨rfl, hx⟩; have HX2 := Lib.hid hx; clear hx)
    go_returns
    exact ⟨_, rfl, by rw [HB.out]; exact (PT.out.on HX2.out).up HWM.out⟩
  case true =>
  cases b1
  case true =>
    have HB := Lib.hid (HNO.out (by rw [hok]; rfl))
    obtain rfl : bo = false := by rw [hok]; rfl
    clear hok HYES
    go_wp2_with (go_at_call 10; (with_reducible refine (RG.out _ HX1.out).mono ?_); rintro r w2 ⟨rfl, hx⟩; have HX2 := Lib.hid hx; clear hx)
    go_returns
    exact ⟨_, rfl, by rw [HB.out]; exact (PT.out.on HX2.out).up HWM.out⟩
  case false =>
  cases b2
  case true =>
    have HB := Lib.hid (HNO.out (by rw [hok]; rfl))
    obtain rfl : bo = false := by rw [hok]; rfl
    clear hok HYES
    go_wp2_with (go_at_call 10; (with_reducible refine (RG.out _ HX1.out).mono ?_); rintro r w2 ⟨rfl, hx⟩; have HX2 := Lib.hid hx; clear hx)
    go_returns
    exact ⟨_, rfl, by rw [HB.out]; exact (PT.out.on HX2.out).up HWM.out⟩
  case false =>
  cases b3
  case true =>
    have HB := Lib.hid (HNO.out (by rw [hok]; rfl))
    obtain rfl : bo = false := by rw [hok]; rfl
    clear hok HYES
    go_wp2_with (go_at_call 10; (with_reducible refine (RG.out _ HX1.out).mono ?_); rintro r w2 ⟨rfl, hx⟩; have HX2 := Lib.hid hx; clear hx; obtain ⟨r0, -⟩ := keep_cell q0 HX2.out; have r0' := (keep_cell q0 HX2.out).2; haveI : LtSz pm w2.heap.size := ⟨World.block_lt_of_cell? _ _ r0'⟩)
    go_returns
    exact ⟨_, rfl, by rw [HB.out]; exact (PT.out.on HX2.out).up HWM.out⟩
  case false =>
  go_upto_region 4 with (go_at_call 10; (with_reducible refine (RG.out _ HX1.out).mono ?_); rintro r w2 ⟨rfl, hx⟩; have HX2 := Lib.hid hx; clear hx; have r0' := (keep_cell q0 HX2.out).2; haveI : LtSz pm w2.heap.size := ⟨World.block_lt_of_cell? _ _ r0'⟩)
  have FD := Lib.hid (fun W (hx : Ext w2 W) => find_any l va l.length vc W (PT.out.on (HX2.out.trans hx)).rds (by have := HL.out; omega) (right_chain HRT.out) me f t)
  obtain ⟨bh, hh⟩ : ∃ b, hasB l me f t = b := ⟨_, rfl⟩
  rw [hh] at FD
  have PL := Lib.hid (posB_le me f t l)
  have HX12 := Lib.hid (HX1.out.trans HX2.out)
  cases bh
  case false =>
    have F5 := F4.out
    rw [hasB_none hh] at F5
    have hadd : addB l f t ⟨me, md, ma, mb, mc, mf, mk, mv, mn, mq⟩ = (l.take (posB l me f t) ++ ⟨me, f, t, []⟩ :: l.drop (posB l me f t)).set (posB l me f t) ⟨me, f, t, [] ++ [⟨me, md, ma, mb, mc, mf, mk, mv, mn, mq⟩]⟩ := by
      have hs : (l.take (posB l me f t) ++ ⟨me, f, t, []⟩ :: l.drop (posB l me f t)).set (posB l me f t) ⟨me, f, t, [] ++ [⟨me, md, ma, mb, mc, mf, mk, mv, mn, mq⟩]⟩ = l.take (posB l me f t) ++ ⟨me, f, t, [⟨me, md, ma, mb, mc, mf, mk, mv, mn, mq⟩]⟩ :: l.drop (posB l me f t) := by
        rw [List.set_append_right _ _ (by rw [List.length_take]; omega), show posB l me f t - (l.take (posB l me f t)).length = 0 by rw [List.length_take]; have := PL.out; omega]
        rfl
      rw [hs]
      unfold addB
      dsimp only
      rw [hh]
      split <;> rfl
    have HAD := Lib.hid hadd
    clear hadd hh
    generalize posB l me f t = p at *
    cases b4
    case true =>
      have HB := Lib.hid (HNO.out (by rw [hok]; rfl))
      obtain rfl : bo = false := by rw [hok]; rfl
      clear hok HYES
      have hmn := MN.out
      have F6 : decide (min room 4096 ≤ 0) = true := by simpa using F5
      clear F5
      go_wp2_with (go_at_call 20; (with_reducible refine (FD.out _ (Ext.refl _)).mono ?_); rintro r w3 ⟨rfl, hx⟩; have HX3 := Lib.hid hx; clear hx)
      go_returns
      exact ⟨_, rfl, by rw [HB.out]; exact (PT.out.on (HX2.out.trans HX3.out)).up HWM.out⟩
    case false =>
      have HB := Lib.hid ((HYES.out (by rw [hok]; rfl)).trans HAD.out)
      obtain rfl : bo = true := by rw [hok]; rfl
      clear hok HNO HAD
      have hmn := MN.out
      have F6 : decide (min room 4096 ≤ 0) = false := by simpa using F5
      clear F5
      go_upto_region 11 with (go_at_call 20; (with_reducible refine (FD.out _ (Ext.refl _)).mono ?_); rintro r w3 ⟨rfl, hx⟩; have HX3 := Lib.hid hx; have r3 := (keep_cell r0' hx).2; haveI : LtSz pm w3.heap.size := ⟨World.block_lt_of_cell? _ _ r3⟩; clear hx)
      have IN := Lib.hid (fun W vb (hx : Ext w3 W) (hvb : w3.heap.size ≤ vb) hv => ins_box (PT.out.on (HX2.out.trans HX3.out)) hx (show l.length ≤ 1073741823 by have := HL.out; omega) me f t p PL.out vb hvb hv)
      go_upto_region 12 with (go_at_call 21; refine (IN.out _ _ (by (repeat' (first | with_reducible exact Ext.refl _ | with_reducible refine Ext.ext ?_ _ | with_reducible refine Ext.alloc ?_ _ | with_reducible refine Ext.drew ?_ | with_reducible refine Ext.drewN ?_ _ | with_reducible assumption))) (Nat.le_refl _) (by exact heap_alloc_new w3 _)).mono ?_; rintro r W3 ⟨b3, c3, rfl, hp⟩; have PT3 := Lib.hid hp)
      have X3 := Lib.hid PT3.out.1
      have HX3 := Lib.hid (show (l.take p ++ ⟨me, f, t, []⟩ :: l.drop p)[p]? = some (⟨me, f, t, []⟩ : Bx) from ins_at PL.out)
      have LN := Lib.hid (show ([] : List Mg).length ≤ 1073741823 by decide)
      have hpl := PL.out
      clear r0' q0 F6 hmn f1 f2 f3 this
      obtain ⟨g, u, hga, hgb, hel, hcl, hap, hfz, -, hlt3, hnext⟩ := PT3.out.at HX3.out
      first | subst hga | (obtain rfl : g = g0 := by simpa using hga.symm)
      have c1 : W3.cell? ⟨g, p * 4 + 3, none⟩ = some u := hcl 3 _ (by decide) rfl
      have f1 := hfz (p * 4 + 3)
      have EU := Lib.hid hel
      have NX := Lib.hid hnext
      have MB3 := MB.out.on X3.out
      have m0 : W3.cell? ⟨pm, 0, none⟩ = _ := MB3 0 _ rfl
      have m1 : W3.cell? ⟨pm, 1, none⟩ = _ := MB3 1 _ rfl
      have m2 : W3.cell? ⟨pm, 2, none⟩ = _ := MB3 2 _ rfl
      have m3 : W3.cell? ⟨pm, 3, none⟩ = _ := MB3 3 _ rfl
      have m4 : W3.cell? ⟨pm, 4, none⟩ = _ := MB3 4 _ rfl
      have m5 : W3.cell? ⟨pm, 5, none⟩ = _ := MB3 5 _ rfl
      have m6 : W3.cell? ⟨pm, 6, none⟩ = _ := MB3 6 _ rfl
      have m7 : W3.cell? ⟨pm, 7, none⟩ = _ := MB3 7 _ rfl
      have m8 : W3.cell? ⟨pm, 8, none⟩ = _ := MB3 8 _ rfl
      have m9 : W3.cell? ⟨pm, 9, none⟩ = _ := MB3 9 _ rfl
      haveI : LtSz pm W3.heap.size := ⟨World.block_lt_of_cell? _ _ m0⟩
      haveI : LtSz g W3.heap.size := ⟨World.block_lt_of_cell? _ _ c1⟩
      have hw3 := PT3.out.1
      have HW0 := Lib.hid hw3
      have hu := hel
      obtain ⟨ua, uc, rfl, -⟩ := hu
      have i1 : (0 : Int) ≤ p := by omega
      have i2 : (p : Int) < ((l.length : Int) + 1) := by omega
      clear hel hnext hap hfz hcl MB3 hw3 hgb hlt3
      (try clear hga)
      go_region_law (refine step_msg (by rfl) _ _ (by rfl) wm W3 _ HW0.out (by (repeat' (first | with_reducible exact Ext.refl _ | with_reducible refine Ext.ext ?_ _ | with_reducible refine Ext.alloc ?_ _ | with_reducible refine Ext.drew ?_ | with_reducible refine Ext.drewN ?_ _ | with_reducible assumption))) _ _ EU.out W3.heap.size 1 ⟨me, md, ma, mb, mc, mf, mk, mv, mn, mq⟩ (by rfl) (by rfl) (by first | exact heap_alloc_new W3 _ | exact heap_alloc_new W3.drew _) LN.out ?_; intro v2 W2 hx2 hel2 hgr hat; obtain ⟨c2, f2, hp⟩ := NX.out W2 _ _ hgr hx2 hel2 hat; have c2' : W2.cell? ⟨g, p * 4 + 3, none⟩ = _ := c2; have f2' : W2.frozen? ⟨g, p * 4 + 3, none⟩ = false := f2; have hv := hel2; obtain ⟨va2, vc2, rfl, -⟩ := hv; rw [List.length_append, List.length_singleton] at hp; have HP := Lib.hid hp; clear hx2 hel2 hgr hat hp c2 f2)
      all_goals
        go_wp2
        go_returns
        exact ⟨_, rfl, by rw [HB.out]; exact HP.out.up HWM.out⟩
  case true =>
    obtain ⟨x, hx, he1, he2, he3, hin⟩ := hasB_some hh
    have F5 := F4.out
    rw [hin] at F5
    have HX0 := Lib.hid hx
    have LN := Lib.hid (show x.l.length ≤ 1073741823 by have := HM.out x (List.mem_of_getElem? hx); omega)
    have hadd : addB l f t ⟨me, md, ma, mb, mc, mf, mk, mv, mn, mq⟩ = l.set (posB l me f t) { x with l := x.l ++ [⟨me, md, ma, mb, mc, mf, mk, mv, mn, mq⟩] } := by
      unfold addB
      dsimp only
      rw [hx]
      dsimp only
      rw [hh]
      rfl
    have HAD := Lib.hid hadd
    have hlt := (List.getElem?_eq_some_iff.1 hx).1
    clear hadd hh hin he1 he2 he3 hx
    generalize posB l me f t = p at *
    cases b4
    case true =>
      have HB := Lib.hid (HNO.out (by rw [hok]; rfl))
      obtain rfl : bo = false := by rw [hok]; rfl
      clear hok HYES
      have hmn := MN.out
      obtain ⟨g0, u0, rfl, -, ⟨ua0, uc0, rfl, -⟩, hc0, -⟩ := PT.out.at HX0.out
      have c0 : w1.cell? ⟨g0, p * 4 + 3, none⟩ = some (.slice ua0 x.l.length uc0) := hc0 3 _ (by decide) rfl
      have i1 : (0 : Int) ≤ p := by omega
      have i2 : (p : Int) < l.length := by omega
      have C0 := Lib.hid c0
      clear hc0 c0
      go_wp2_with (go_at_call 20; (with_reducible refine (FD.out _ (Ext.refl _)).mono ?_); rintro r w3 ⟨rfl, hx⟩; have HX3 := Lib.hid hx; have c3 := (keep_cell C0.out (HX2.out.trans hx)).2; haveI : LtSz g0 w3.heap.size := ⟨World.block_lt_of_cell? _ _ c3⟩; clear hx)
      go_returns
      exact ⟨_, rfl, by rw [HB.out]; exact (PT.out.on (HX2.out.trans HX3.out)).up HWM.out⟩
    case false =>
      have HB := Lib.hid ((HYES.out (by rw [hok]; rfl)).trans HAD.out)
      obtain rfl : bo = true := by rw [hok]; rfl
      clear hok HNO HAD
      have hmn := MN.out
      obtain ⟨g0, u0, rfl, -, ⟨ua0, uc0, rfl, -⟩, hc0, -⟩ := PT.out.at HX0.out
      have c0 : w1.cell? ⟨g0, p * 4 + 3, none⟩ = some (.slice ua0 x.l.length uc0) := hc0 3 _ (by decide) rfl
      have i1 : (0 : Int) ≤ p := by omega
      have i2 : (p : Int) < l.length := by omega
      have C0 := Lib.hid c0
      clear hc0 c0
      go_upto_region 12 with (go_at_call 20; (with_reducible refine (FD.out _ (Ext.refl _)).mono ?_); rintro r W3 ⟨rfl, hx⟩; have HXF := Lib.hid hx; have c3 := (keep_cell C0.out (HX2.out.trans hx)).2; haveI : LtSz g0 W3.heap.size := ⟨World.block_lt_of_cell? _ _ c3⟩; clear hx)
      have PT3 := Lib.hid (PT.out.on (HX2.out.trans HXF.out))
      have X3 := Lib.hid PT3.out.1
      have HX3 := HX0
      clear r0' q0 hmn f1 f2 f3 this c3 i1 i2 F5 C0
      obtain ⟨g, u, hga, hgb, hel, hcl, hap, hfz, -, hlt3, hnext⟩ := PT3.out.at HX3.out
      first | subst hga | (obtain rfl : g = g0 := by simpa using hga.symm)
      have c1 : W3.cell? ⟨g, p * 4 + 3, none⟩ = some u := hcl 3 _ (by decide) rfl
      have f1 := hfz (p * 4 + 3)
      have EU := Lib.hid hel
      have NX := Lib.hid hnext
      have MB3 := MB.out.on X3.out
      have m0 : W3.cell? ⟨pm, 0, none⟩ = _ := MB3 0 _ rfl
      have m1 : W3.cell? ⟨pm, 1, none⟩ = _ := MB3 1 _ rfl
      have m2 : W3.cell? ⟨pm, 2, none⟩ = _ := MB3 2 _ rfl
      have m3 : W3.cell? ⟨pm, 3, none⟩ = _ := MB3 3 _ rfl
      have m4 : W3.cell? ⟨pm, 4, none⟩ = _ := MB3 4 _ rfl
      have m5 : W3.cell? ⟨pm, 5, none⟩ = _ := MB3 5 _ rfl
      have m6 : W3.cell? ⟨pm, 6, none⟩ = _ := MB3 6 _ rfl
      have m7 : W3.cell? ⟨pm, 7, none⟩ = _ := MB3 7 _ rfl
      have m8 : W3.cell? ⟨pm, 8, none⟩ = _ := MB3 8 _ rfl
      have m9 : W3.cell? ⟨pm, 9, none⟩ = _ := MB3 9 _ rfl
      haveI : LtSz pm W3.heap.size := ⟨World.block_lt_of_cell? _ _ m0⟩
      haveI : LtSz g W3.heap.size := ⟨World.block_lt_of_cell? _ _ c1⟩
      have hw3 := PT3.out.1
      have HW0 := Lib.hid hw3
      have hu := hel
      obtain ⟨ua, uc, rfl, -⟩ := hu
      have i1 : (0 : Int) ≤ p := by omega
      have i2 : (p : Int) < (l.length : Int) := by omega
      clear hel hnext hap hfz hcl MB3 hw3 hgb hlt3
      (try clear hga)
      go_region_law (refine step_msg (by rfl) _ _ (by rfl) wm W3 _ HW0.out (by (repeat' (first | with_reducible exact Ext.refl _ | with_reducible refine Ext.ext ?_ _ | with_reducible refine Ext.alloc ?_ _ | with_reducible refine Ext.drew ?_ | with_reducible refine Ext.drewN ?_ _ | with_reducible assumption))) _ _ EU.out W3.heap.size 1 ⟨me, md, ma, mb, mc, mf, mk, mv, mn, mq⟩ (by rfl) (by rfl) (by first | exact heap_alloc_new W3 _ | exact heap_alloc_new W3.drew _) LN.out ?_; intro v2 W2 hx2 hel2 hgr hat; obtain ⟨c2, f2, hp⟩ := NX.out W2 _ _ hgr hx2 hel2 hat; have c2' : W2.cell? ⟨g, p * 4 + 3, none⟩ = _ := c2; have f2' : W2.frozen? ⟨g, p * 4 + 3, none⟩ = false := f2; have hv := hel2; obtain ⟨va2, vc2, rfl, -⟩ := hv; rw [List.length_append, List.length_singleton] at hp; have HP := Lib.hid hp; clear hx2 hel2 hgr hat hp c2 f2)
      all_goals
        go_wp2
        go_returns
        exact ⟨_, rfl, by rw [HB.out]; exact HP.out.up HWM.out⟩
end Go.Proofs.Ytlhmifkimnmnmaa
