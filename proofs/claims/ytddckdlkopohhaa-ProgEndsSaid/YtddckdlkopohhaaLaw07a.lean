/- The walk of ProgEnds. -/
import Derived.Test.YtddckdlkopohhaaPrA
namespace Go.Proofs.Ytddckdlkopohhaa
set_option linter.unusedSimpArgs false
set_option linter.unusedVariables false
open Go.RowKit

set_option maxHeartbeats 4000000 in
theorem walk_ProgEnds (a : Option Addr) (c : Nat) (ps : List (Int × Int)) (w : World) (hr : Rd w 2 ps.length (.slice a ps.length c) (recs ps)) (hin : ∀ r ∈ ps, In64 r.2) (hcap : ps.length ≤ c) (K V : Int) (hK : In64 K) (hV : In64 V) :
    Calls Try.prog 4 #[.slice a ps.length c, .agg #[.int .i64 K, .int .i64 V]] w fun r w' => r = .returned (.bool true) ∧ Ext w w' := by
  have AW := Lib.hid awake_any
  have i1 : (ps.length : Int) ≤ c := by omega
  by_cases hle : ps.length ≤ 100
  · obtain ⟨ps', hps⟩ : ∃ q, q = ps := ⟨_, rfl⟩
    have H := Lib.hid hr
    have RUN := Lib.hid (fun w h => run_any ps (.slice a ps.length c) K V w h (by omega) hK hV hin)
    have RGT := Lib.hid (fun w h => right_any ps (.slice a ps.length c) w h (by omega))
    have RG := runP_good ps K V hK hV hin
    generalize runP ps K V = R at RUN RG
    generalize rightP ps = rg at RGT RG
    generalize hn : ps.length = n at *
    have hle' : (n : Int) ≤ 100 := by omega
    clear hps ps' hin hn
    rcases RG with ⟨rfl, rfl⟩ | ⟨rfl, hR⟩
    · clear hK hV hcap hle
      go_enter Try.func4, Try.ntmps4
      go_wp2_with (first | (go_at_call 8; refine (AW.out _).mono ?_; rintro e w' ⟨rfl, x, rfl⟩) | (go_at_call 9; refine (RUN.out _ (H.out.of_ext (by (repeat' (first | with_reducible exact Ext.refl _ | with_reducible refine Ext.ext ?_ _ | with_reducible refine Ext.alloc ?_ _ | with_reducible refine Ext.drew ?_ | with_reducible refine Ext.drewN ?_ _ | with_reducible assumption))))).mono ?_; rintro e w' ⟨a1, c1, rfl, hx, -⟩; have HX := Lib.hid (Ext.trans (((Ext.refl w).alloc _).ext _) hx); clear hx) | (go_at_call 11; refine (RGT.out _ (H.out.of_ext HX.out)).mono ?_; rintro e w'' ⟨rfl, hx⟩; have HX2 := Lib.hid hx; clear hx))
      all_goals (go_returns; exact ⟨retb rfl rfl, HX.out.trans HX2.out⟩)
    obtain ⟨l, bad⟩ := R
    rcases hR with ⟨rfl, hl8⟩ | ⟨b, hb1, hb2, hR⟩
    · dsimp only at hl8
      have HL8 : Hid (l.length ≤ 8) := Lib.hid hl8
      have hl9 : decide ((l.length : Int) ≤ 8) = true := by simp; omega
      clear hK hV hcap hle hl8
      go_enter Try.func4, Try.ntmps4
      go_wp2_with (first | (go_at_call 8; refine (AW.out _).mono ?_; rintro e w' ⟨rfl, x, rfl⟩) | (go_at_call 9; refine (RUN.out _ (H.out.of_ext (by (repeat' (first | with_reducible exact Ext.refl _ | with_reducible refine Ext.ext ?_ _ | with_reducible refine Ext.alloc ?_ _ | with_reducible refine Ext.drew ?_ | with_reducible refine Ext.drewN ?_ _ | with_reducible assumption))))).mono ?_; rintro e w' ⟨a1, c1, rfl, hx, -⟩; have HX := Lib.hid (Ext.trans (((Ext.refl w).alloc _).ext _) hx); clear hx; dsimp only) | (go_at_call 11; refine (RGT.out _ (H.out.of_ext HX.out)).mono ?_; rintro e w'' ⟨rfl, hx⟩; have HX2 := Lib.hid hx; clear hx))
      all_goals (go_returns; exact ⟨retb rfl rfl, HX.out.trans HX2.out⟩)
    · obtain ⟨rfl, rfl⟩ := Prod.mk.inj hR
      have f1 : decide (1 ≤ bad) = true := decide_eq_true hb1
      have f2 : decide (bad ≤ 5) = true := decide_eq_true hb2
      have f3 : (bad != 0) = true := by simp; omega
      have f4 : wrap64 (-9223372036854775808 + bad) = -9223372036854775808 + bad := IntWalk.wrap64_in _ ⟨by omega, by omega⟩
      clear hK hV hcap hle hR hb1 hb2
      go_enter Try.func4, Try.ntmps4
      go_wp2_with (first | (go_at_call 8; refine (AW.out _).mono ?_; rintro e w' ⟨rfl, x, rfl⟩) | (go_at_call 9; refine (RUN.out _ (H.out.of_ext (by (repeat' (first | with_reducible exact Ext.refl _ | with_reducible refine Ext.ext ?_ _ | with_reducible refine Ext.alloc ?_ _ | with_reducible refine Ext.drew ?_ | with_reducible refine Ext.drewN ?_ _ | with_reducible assumption))))).mono ?_; intro e w' he; obtain ⟨g, c1, rfl, hx, c0, c1', -, -⟩ := he.one; have k0 := (keep_cell (b := w.heap.size) (i := 0) (u := .int .i64 K) (by rw [cell_ext_a _ _ _ (by simp)]; simp) hx).1; have HX := Lib.hid (Ext.trans (((Ext.refl w).alloc _).ext _) hx); clear hx he))
      refine wp_region_ext (by kernel_rfl) (by kernel_rfl) ?_
      repeat (go_big_quiet_step (first | (go_at_call 11; (apply quiet_of; (with_reducible exact RGT.out _ (H.out.of_ext (HX.out.ext _))); (intro w' hx; obtain ⟨z, rfl⟩ := hx; (try simp only [ext_ext, add_assoc]); exact ⟨_, rfl⟩)))))
      refine wpQuiet_nil ?_
      intro xK
      go_wp2
      all_goals (go_returns; exact ⟨retb rfl rfl, HX.out.ext _⟩)
  · have H := Lib.hid (show Rd w 2 (ps.take 100).length (.slice a 100 c) (recs (ps.take 100)) by
      rw [recs_take, List.length_take, Nat.min_eq_left (by omega)]
      exact rd_take hr (by omega))
    have hl : (ps.take 100).length = 100 := by rw [List.length_take, Nat.min_eq_left (by omega)]
    have RUN := Lib.hid (fun w h => run_any (ps.take 100) (.slice a 100 c) K V w h (by omega) hK hV (fun r hr => hin r (List.mem_of_mem_take hr)))
    have RGT := Lib.hid (fun w h => right_any (ps.take 100) (.slice a 100 c) w h (by omega))
    have RG := runP_good (ps.take 100) K V hK hV (fun r hr => hin r (List.mem_of_mem_take hr))
    generalize runP (ps.take 100) K V = R at RUN RG
    generalize rightP (ps.take 100) = rg at RGT RG
    generalize ps.take 100 = ps' at *
    generalize hn : ps.length = n at *
    have hle' : ¬ (n : Int) ≤ 100 := by omega
    have hlt' : (100 : Int) < n := by omega
    have i2 : (100 : Int) ≤ c := by omega
    clear hr hin hn
    rcases RG with ⟨rfl, rfl⟩ | ⟨rfl, hR⟩
    · clear hK hV hcap hle
      go_enter Try.func4, Try.ntmps4
      go_wp2_with (first | (go_at_call 8; refine (AW.out _).mono ?_; rintro e w' ⟨rfl, x, rfl⟩) | (go_at_call 9; refine (RUN.out _ (H.out.of_ext (by (repeat' (first | with_reducible exact Ext.refl _ | with_reducible refine Ext.ext ?_ _ | with_reducible refine Ext.alloc ?_ _ | with_reducible refine Ext.drew ?_ | with_reducible refine Ext.drewN ?_ _ | with_reducible assumption))))).mono ?_; rintro e w' ⟨a1, c1, rfl, hx, -⟩; have HX := Lib.hid (Ext.trans (((Ext.refl w).alloc _).ext _) hx); clear hx) | (go_at_call 11; refine (RGT.out _ (H.out.of_ext HX.out)).mono ?_; rintro e w'' ⟨rfl, hx⟩; have HX2 := Lib.hid hx; clear hx))
      all_goals (go_returns; exact ⟨retb rfl rfl, HX.out.trans HX2.out⟩)
    obtain ⟨l, bad⟩ := R
    rcases hR with ⟨rfl, hl8⟩ | ⟨b, hb1, hb2, hR⟩
    · dsimp only at hl8
      have HL8 : Hid (l.length ≤ 8) := Lib.hid hl8
      have hl9 : decide ((l.length : Int) ≤ 8) = true := by simp; omega
      clear hK hV hcap hle hl8
      go_enter Try.func4, Try.ntmps4
      go_wp2_with (first | (go_at_call 8; refine (AW.out _).mono ?_; rintro e w' ⟨rfl, x, rfl⟩) | (go_at_call 9; refine (RUN.out _ (H.out.of_ext (by (repeat' (first | with_reducible exact Ext.refl _ | with_reducible refine Ext.ext ?_ _ | with_reducible refine Ext.alloc ?_ _ | with_reducible refine Ext.drew ?_ | with_reducible refine Ext.drewN ?_ _ | with_reducible assumption))))).mono ?_; rintro e w' ⟨a1, c1, rfl, hx, -⟩; have HX := Lib.hid (Ext.trans (((Ext.refl w).alloc _).ext _) hx); clear hx; dsimp only) | (go_at_call 11; refine (RGT.out _ (H.out.of_ext HX.out)).mono ?_; rintro e w'' ⟨rfl, hx⟩; have HX2 := Lib.hid hx; clear hx))
      all_goals (go_returns; exact ⟨retb rfl rfl, HX.out.trans HX2.out⟩)
    · obtain ⟨rfl, rfl⟩ := Prod.mk.inj hR
      have f1 : decide (1 ≤ bad) = true := decide_eq_true hb1
      have f2 : decide (bad ≤ 5) = true := decide_eq_true hb2
      have f3 : (bad != 0) = true := by simp; omega
      have f4 : wrap64 (-9223372036854775808 + bad) = -9223372036854775808 + bad := IntWalk.wrap64_in _ ⟨by omega, by omega⟩
      clear hK hV hcap hle hR hb1 hb2
      go_enter Try.func4, Try.ntmps4
      go_wp2_with (first | (go_at_call 8; refine (AW.out _).mono ?_; rintro e w' ⟨rfl, x, rfl⟩) | (go_at_call 9; refine (RUN.out _ (H.out.of_ext (by (repeat' (first | with_reducible exact Ext.refl _ | with_reducible refine Ext.ext ?_ _ | with_reducible refine Ext.alloc ?_ _ | with_reducible refine Ext.drew ?_ | with_reducible refine Ext.drewN ?_ _ | with_reducible assumption))))).mono ?_; intro e w' he; obtain ⟨g, c1, rfl, hx, c0, c1', -, -⟩ := he.one; have k0 := (keep_cell (b := w.heap.size) (i := 0) (u := .int .i64 K) (by rw [cell_ext_a _ _ _ (by simp)]; simp) hx).1; have HX := Lib.hid (Ext.trans (((Ext.refl w).alloc _).ext _) hx); clear hx he))
      refine wp_region_ext (by kernel_rfl) (by kernel_rfl) ?_
      repeat (go_big_quiet_step (first | (go_at_call 11; (apply quiet_of; (with_reducible exact RGT.out _ (H.out.of_ext (HX.out.ext _))); (intro w' hx; obtain ⟨z, rfl⟩ := hx; (try simp only [ext_ext, add_assoc]); exact ⟨_, rfl⟩)))))
      refine wpQuiet_nil ?_
      intro xK
      go_wp2
      all_goals (go_returns; exact ⟨retb rfl rfl, HX.out.ext _⟩)
end Go.Proofs.Ytddckdlkopohhaa
