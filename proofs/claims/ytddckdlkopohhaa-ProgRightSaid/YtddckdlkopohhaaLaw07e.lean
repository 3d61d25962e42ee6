/- The walk of ProgRight. -/
import Derived.Test.YtddckdlkopohhaaPrA
import Derived.Test.YtddckdlkopohhaaPrH
namespace Go.Proofs.Ytddckdlkopohhaa
set_option linter.unusedSimpArgs false
set_option linter.unusedVariables false
open Go.RowKit

theorem ext_any (w : World) (x : Inc) : Ext w (ext w x) := ⟨x, rfl⟩
set_option maxHeartbeats 4000000 in
theorem walk_ProgRight (a : Option Addr) (c : Nat) (ps : List (Int × Int)) (w : World) (hr : Rd w 2 ps.length (.slice a ps.length c) (recs ps)) (hin : ∀ r ∈ ps, In64 r.2) (hcap : ps.length ≤ c) (K V : Int) (hK : In64 K) (hV : In64 V) :
    Calls Try.prog 3 #[.slice a ps.length c, .agg #[.int .i64 K, .int .i64 V]] w fun r w' => r = .returned (.bool true) ∧ Ext w w' := by
  have AW := Lib.hid awake_any
  have i1 : (ps.length : Int) ≤ c := by omega
  have key : ∀ ps : List (Int × Int), (∀ r ∈ ps, In64 r.2) → (runP ps K V).1.length ≤ 1000 := fun ps hin => by
    rcases runP_good ps K V hK hV hin with ⟨-, h⟩ | ⟨-, ⟨-, h⟩ | ⟨b, -, -, h⟩⟩
    · rw [h]; simp
    · omega
    · rw [h]; simp
  by_cases hle : ps.length ≤ 100
  · have H := Lib.hid hr
    have RUN := Lib.hid (fun w h => run_any ps (.slice a ps.length c) K V w h (by omega) hK hV hin)
    have REF := Lib.hid (fun w h => refRun_any ps (.slice a ps.length c) K V w h (by omega) hK hV hin)
    have RGT := Lib.hid (fun w h => right_any ps (.slice a ps.length c) w h (by omega))
    have RGR := Lib.hid (fun w h => refRight_any ps (.slice a ps.length c) w h (by omega))
    have HK := Lib.hid (key ps hin)
    generalize runP ps K V = R at RUN REF HK
    generalize rightP ps = rg at RGT RGR
    generalize hn : ps.length = n at *
    have hle' : (n : Int) ≤ 100 := by omega
    clear hin hn key hr hK hV hcap hle
    obtain ⟨l, bad⟩ := R
    have bb : (bad == bad) = true := by simp
    have gg : (rg == rg) = true := by simp
    go_enter Try.func3, Try.ntmps3
    go_wp2_with (first | (go_at_call 8; refine (AW.out _).mono ?_; rintro e w' ⟨rfl, x, rfl⟩) | (go_at_call 9; refine (RUN.out _ (H.out.of_ext (by (repeat' (first | with_reducible exact Ext.refl _ | with_reducible refine Ext.ext ?_ _ | with_reducible refine Ext.alloc ?_ _ | with_reducible refine Ext.drew ?_ | with_reducible refine Ext.drewN ?_ _ | with_reducible assumption))))).mono ?_; rintro e w1 ⟨a1, c1, rfl, hx, hown⟩; dsimp only at hown ⊢; have R1 := Lib.hid (own_rd hown); have k0 := (keep_cell (b := w.heap.size) (i := 0) (u := .int .i64 K) (by rw [cell_ext_a _ _ _ (by simp)]; simp) hx).2; have k1 := (keep_cell (b := w.heap.size) (i := 1) (u := .int .i64 V) (by rw [cell_ext_a _ _ _ (by simp)]; simp) hx).2; have HX := Lib.hid (Ext.trans (((Ext.refl w).alloc _).ext _) hx); clear hx hown) | (go_at_call 10; refine (REF.out _ (H.out.of_ext HX.out)).mono ?_; rintro e w2 ⟨a2, c2, rfl, hx, hown⟩; dsimp only at hown ⊢; have R2 := Lib.hid (own_rd hown); have R1' := Lib.hid (R1.out.of_ext hx); have HX2 := Lib.hid (HX.out.trans hx); clear hx hown R1 HX) | (go_at_call 11; refine (RGT.out _ (H.out.of_ext HX2.out)).mono ?_; rintro e w3 ⟨rfl, ⟨z3, rfl⟩⟩) | (go_at_call 12; refine (RGR.out _ (H.out.of_ext (HX2.out.ext _))).mono ?_; rintro e w3 ⟨rfl, ⟨z4, rfl⟩⟩) | (go_at_call 13; refine (same_yes l a1 a2 c1 c2 _ (R1'.out.of_ext (ext_any _ _)) (R2.out.of_ext (ext_any _ _)) HK.out).mono ?_; rintro e w3 ⟨rfl, ⟨z5, rfl⟩⟩))
    go_returns
    exact ⟨retb rfl rfl, HX2.out.ext _⟩
  · have H := Lib.hid (show Rd w 2 (ps.take 100).length (.slice a 100 c) (recs (ps.take 100)) by
      rw [recs_take, List.length_take, Nat.min_eq_left (by omega)]
      exact rd_take hr (by omega))
    have hl : (ps.take 100).length = 100 := by rw [List.length_take, Nat.min_eq_left (by omega)]
    have hin' : ∀ r ∈ ps.take 100, In64 r.2 := fun r hr => hin r (List.mem_of_mem_take hr)
    have RUN := Lib.hid (fun w h => run_any (ps.take 100) (.slice a 100 c) K V w h (by omega) hK hV hin')
    have REF := Lib.hid (fun w h => refRun_any (ps.take 100) (.slice a 100 c) K V w h (by omega) hK hV hin')
    have RGT := Lib.hid (fun w h => right_any (ps.take 100) (.slice a 100 c) w h (by omega))
    have RGR := Lib.hid (fun w h => refRight_any (ps.take 100) (.slice a 100 c) w h (by omega))
    have HK := Lib.hid (key _ hin')
    generalize runP (ps.take 100) K V = R at RUN REF HK
    generalize rightP (ps.take 100) = rg at RGT RGR
    clear hin'
    generalize ps.take 100 = ps' at *
    generalize hn : ps.length = n at *
    have hle' : ¬ (n : Int) ≤ 100 := by omega
    have hlt' : (100 : Int) < n := by omega
    have i2 : (100 : Int) ≤ c := by omega
    clear hr hin hn key hK hV hcap hle
    obtain ⟨l, bad⟩ := R
    have bb : (bad == bad) = true := by simp
    have gg : (rg == rg) = true := by simp
    go_enter Try.func3, Try.ntmps3
    go_wp2_with (first | (go_at_call 8; refine (AW.out _).mono ?_; rintro e w' ⟨rfl, x, rfl⟩) | (go_at_call 9; refine (RUN.out _ (H.out.of_ext (by (repeat' (first | with_reducible exact Ext.refl _ | with_reducible refine Ext.ext ?_ _ | with_reducible refine Ext.alloc ?_ _ | with_reducible refine Ext.drew ?_ | with_reducible refine Ext.drewN ?_ _ | with_reducible assumption))))).mono ?_; rintro e w1 ⟨a1, c1, rfl, hx, hown⟩; dsimp only at hown ⊢; have R1 := Lib.hid (own_rd hown); have k0 := (keep_cell (b := w.heap.size) (i := 0) (u := .int .i64 K) (by rw [cell_ext_a _ _ _ (by simp)]; simp) hx).2; have k1 := (keep_cell (b := w.heap.size) (i := 1) (u := .int .i64 V) (by rw [cell_ext_a _ _ _ (by simp)]; simp) hx).2; have HX := Lib.hid (Ext.trans (((Ext.refl w).alloc _).ext _) hx); clear hx hown) | (go_at_call 10; refine (REF.out _ (H.out.of_ext HX.out)).mono ?_; rintro e w2 ⟨a2, c2, rfl, hx, hown⟩; dsimp only at hown ⊢; have R2 := Lib.hid (own_rd hown); have R1' := Lib.hid (R1.out.of_ext hx); have HX2 := Lib.hid (HX.out.trans hx); clear hx hown R1 HX) | (go_at_call 11; refine (RGT.out _ (H.out.of_ext HX2.out)).mono ?_; rintro e w3 ⟨rfl, ⟨z3, rfl⟩⟩) | (go_at_call 12; refine (RGR.out _ (H.out.of_ext (HX2.out.ext _))).mono ?_; rintro e w3 ⟨rfl, ⟨z4, rfl⟩⟩) | (go_at_call 13; refine (same_yes l a1 a2 c1 c2 _ (R1'.out.of_ext (ext_any _ _)) (R2.out.of_ext (ext_any _ _)) HK.out).mono ?_; rintro e w3 ⟨rfl, ⟨z5, rfl⟩⟩))
    go_returns
    exact ⟨retb rfl rfl, HX2.out.ext _⟩
end Go.Proofs.Ytddckdlkopohhaa
