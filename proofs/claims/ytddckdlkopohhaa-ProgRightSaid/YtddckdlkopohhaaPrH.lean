/- The reference of layer 7: Run's contract: it computes what the program computes. -/
import Derived.Test.YtddckdlkopohhaaPrG
import Derived.Deep.DeepCutAuto
namespace Go.Proofs.Ytddckdlkopohhaa
set_option linter.unusedSimpArgs false
set_option linter.unusedVariables false
open Go.RowKit

set_option maxRecDepth 1000000 in
set_option maxHeartbeats 8000000 in
theorem refRun_yes (ps : List (Int × Int)) (v : Value) (K V : Int) (w : World) (h : Rd w 2 ps.length v (recs ps)) (hK : In64 K) (hV : In64 V) (hn : ∀ r ∈ ps, In64 r.2) (hr : rightP ps = true) :
    Calls Try.prog 10 #[v, .agg #[.int .i64 K, .int .i64 V]] w (RunEnd w (runP ps K V)) := by
  obtain ⟨hl, -⟩ := right_ins hr
  have R := Lib.hid (fun w h => refRight_any ps v w h (by omega))
  rw [hr] at R
  have hP : runP ps K V = outP (runM ps 256 (m0 K V)) := by unfold runP; rw [if_pos hr]
  rw [hP]
  obtain ⟨a, c, rfl⟩ := h.form
  have HALL := Lib.hid (And.intro h (And.intro hK (And.intro hV (And.intro hn (And.intro hr hl)))))
  clear h hl hr hn hK hV hP
  go_enter Try.func10, Try.ntmps10
  go_upto_region 5 with (go_at_call 12; refine (R.out _ (HALL.out.1.of_ext (by (repeat' (first | with_reducible exact Ext.refl _ | with_reducible refine Ext.ext ?_ _ | with_reducible refine Ext.alloc ?_ _ | with_reducible refine Ext.drew ?_ | with_reducible refine Ext.drewN ?_ _ | with_reducible assumption))))).mono ?_; rintro e w' ⟨rfl, z0, rfl⟩)
  go_cut [8] from 19 to 23 (fun s wx => s = .slice none 0 0 ∧ RefW w K V (w.heap.size + 1 + z0.hs.length) (w.heap.size + 1 + z0.hs.length + 1) wx)
  case first =>
    go_wp2
    go_meet
    exact ⟨rfl, refW_mk w K V z0 _ _⟩
  case rest =>
    obtain ⟨rfl, hW⟩ := hcut
    have HW := Lib.hid hW
    clear hW R
    go_upto_region 9 with fail
    refine loop7 ps K V w wc _ _ a c HW (Lib.hid HALL.out.2.2.2.2.2) _ _ _ _ _ _ HALL.out.1 HALL.out.2.1 HALL.out.2.2.1 HALL.out.2.2.2.1 HALL.out.2.2.2.2.1 _ _ _ _ _ wc ?_ _ _ _ _ _ _ _ _ _ _ _ _ _ _ _ _ _ _ _ _ _ _ _ _ _ _ _ _ _ _ _ _ _ _ _ _ _ _ _ _ _ _ _ _ _ _ _ _ _ _ _ _ _ _ _ _ _ _ _ _ _ _ _ _ _ _ _ _ _ _ _ _ _ _ _ _ _ _ _ _ _ _ _ _ _ _ _ _ _ _ _ _ _ _ _ _ _ _ _ _ _ _ _ _ _ _ _ _ _ _ _ _ _ _ _ _ _ _ _ _ _ _ _ _ _ _ _ _ _ _ _ _ _ _ _ _ _ _ _ _ _ ?_
    · exact ⟨0, 0, by omega, rfl, rfl, Ext.refl _, .inl ⟨rfl, by omega, m0 K V, rfl, ⟨rfl, rfl, Nat.zero_le _, (fun _ hx => by cases hx), Nat.zero_le _, Int.le_refl 0, (Int.natCast_nonneg _), Int.le_refl 0, (by decide : (0 : Int) ≤ 5)⟩, rfl, rfl, World.ownsRow_nil _ _ _ _, World.ownsRow_nil _ _ _ _, .inl rfl⟩⟩
    · intro a' w'' hX
      unfold WX at hX
      obtain ⟨u8, hX⟩ := hX
      obtain ⟨u9, hX⟩ := hX
      obtain ⟨u10, hX⟩ := hX
      obtain ⟨u11, hX⟩ := hX
      obtain ⟨u12, hX⟩ := hX
      obtain ⟨u13, hX⟩ := hX
      obtain ⟨u14, hX⟩ := hX
      obtain ⟨u15, hX⟩ := hX
      obtain ⟨u16, hX⟩ := hX
      obtain ⟨u17, hX⟩ := hX
      obtain ⟨u18, hX⟩ := hX
      obtain ⟨u24, hX⟩ := hX
      obtain ⟨u25, hX⟩ := hX
      obtain ⟨u26, hX⟩ := hX
      obtain ⟨u27, hX⟩ := hX
      obtain ⟨u28, hX⟩ := hX
      obtain ⟨u29, hX⟩ := hX
      obtain ⟨u30, hX⟩ := hX
      obtain ⟨u31, hX⟩ := hX
      obtain ⟨u32, hX⟩ := hX
      obtain ⟨u33, hX⟩ := hX
      obtain ⟨u34, hX⟩ := hX
      obtain ⟨u35, hX⟩ := hX
      obtain ⟨u36, hX⟩ := hX
      obtain ⟨u37, hX⟩ := hX
      obtain ⟨u38, hX⟩ := hX
      obtain ⟨u39, hX⟩ := hX
      obtain ⟨u40, hX⟩ := hX
      obtain ⟨u41, hX⟩ := hX
      obtain ⟨u42, hX⟩ := hX
      obtain ⟨u43, hX⟩ := hX
      obtain ⟨u44, hX⟩ := hX
      obtain ⟨u45, hX⟩ := hX
      obtain ⟨u46, hX⟩ := hX
      obtain ⟨u47, hX⟩ := hX
      obtain ⟨u48, hX⟩ := hX
      obtain ⟨u49, hX⟩ := hX
      obtain ⟨u50, hX⟩ := hX
      obtain ⟨u51, hX⟩ := hX
      obtain ⟨u52, hX⟩ := hX
      obtain ⟨u53, hX⟩ := hX
      obtain ⟨u54, hX⟩ := hX
      obtain ⟨u55, hX⟩ := hX
      obtain ⟨u56, hX⟩ := hX
      obtain ⟨u57, hX⟩ := hX
      obtain ⟨u58, hX⟩ := hX
      obtain ⟨u59, hX⟩ := hX
      obtain ⟨u60, hX⟩ := hX
      obtain ⟨u61, hX⟩ := hX
      obtain ⟨u62, hX⟩ := hX
      obtain ⟨u63, hX⟩ := hX
      obtain ⟨u64, hX⟩ := hX
      obtain ⟨u65, hX⟩ := hX
      obtain ⟨u66, hX⟩ := hX
      obtain ⟨u67, hX⟩ := hX
      obtain ⟨u68, hX⟩ := hX
      obtain ⟨u69, hX⟩ := hX
      obtain ⟨u70, hX⟩ := hX
      obtain ⟨u71, hX⟩ := hX
      obtain ⟨u72, hX⟩ := hX
      obtain ⟨u73, hX⟩ := hX
      obtain ⟨u74, hX⟩ := hX
      obtain ⟨u75, hX⟩ := hX
      obtain ⟨u76, hX⟩ := hX
      obtain ⟨u77, hX⟩ := hX
      obtain ⟨u78, hX⟩ := hX
      obtain ⟨u79, hX⟩ := hX
      obtain ⟨u80, hX⟩ := hX
      obtain ⟨u81, hX⟩ := hX
      obtain ⟨u82, hX⟩ := hX
      obtain ⟨u83, hX⟩ := hX
      obtain ⟨u84, hX⟩ := hX
      obtain ⟨u85, hX⟩ := hX
      obtain ⟨u86, hX⟩ := hX
      obtain ⟨u87, hX⟩ := hX
      obtain ⟨u88, hX⟩ := hX
      obtain ⟨u89, hX⟩ := hX
      obtain ⟨u90, hX⟩ := hX
      obtain ⟨u91, hX⟩ := hX
      obtain ⟨u92, hX⟩ := hX
      obtain ⟨u93, hX⟩ := hX
      obtain ⟨u94, hX⟩ := hX
      obtain ⟨u95, hX⟩ := hX
      obtain ⟨u96, hX⟩ := hX
      obtain ⟨u97, hX⟩ := hX
      obtain ⟨u98, hX⟩ := hX
      obtain ⟨u99, hX⟩ := hX
      obtain ⟨u100, hX⟩ := hX
      obtain ⟨u101, hX⟩ := hX
      obtain ⟨u102, hX⟩ := hX
      obtain ⟨u103, hX⟩ := hX
      obtain ⟨u104, hX⟩ := hX
      obtain ⟨u105, hX⟩ := hX
      obtain ⟨u106, hX⟩ := hX
      obtain ⟨u107, hX⟩ := hX
      obtain ⟨u108, hX⟩ := hX
      obtain ⟨u109, hX⟩ := hX
      obtain ⟨u110, hX⟩ := hX
      obtain ⟨u111, hX⟩ := hX
      obtain ⟨u112, hX⟩ := hX
      obtain ⟨u113, hX⟩ := hX
      obtain ⟨u114, hX⟩ := hX
      obtain ⟨u115, hX⟩ := hX
      obtain ⟨u116, hX⟩ := hX
      obtain ⟨u117, hX⟩ := hX
      obtain ⟨u118, hX⟩ := hX
      obtain ⟨u119, hX⟩ := hX
      obtain ⟨u120, hX⟩ := hX
      obtain ⟨u121, hX⟩ := hX
      obtain ⟨u122, hX⟩ := hX
      obtain ⟨u123, hX⟩ := hX
      obtain ⟨u124, hX⟩ := hX
      obtain ⟨u125, hX⟩ := hX
      obtain ⟨u126, hX⟩ := hX
      obtain ⟨u127, hX⟩ := hX
      obtain ⟨u128, hX⟩ := hX
      obtain ⟨u129, hX⟩ := hX
      obtain ⟨u130, hX⟩ := hX
      obtain ⟨u131, hX⟩ := hX
      obtain ⟨u132, hX⟩ := hX
      obtain ⟨u133, hX⟩ := hX
      obtain ⟨u134, hX⟩ := hX
      obtain ⟨u135, hX⟩ := hX
      obtain ⟨u136, hX⟩ := hX
      obtain ⟨u137, hX⟩ := hX
      obtain ⟨u138, hX⟩ := hX
      obtain ⟨u139, hX⟩ := hX
      obtain ⟨u140, hX⟩ := hX
      obtain ⟨u141, hX⟩ := hX
      obtain ⟨u142, hX⟩ := hX
      obtain ⟨u143, hX⟩ := hX
      obtain ⟨u144, hX⟩ := hX
      obtain ⟨u145, hX⟩ := hX
      obtain ⟨u146, hX⟩ := hX
      obtain ⟨u147, hX⟩ := hX
      obtain ⟨u148, hX⟩ := hX
      obtain ⟨u149, hX⟩ := hX
      obtain ⟨u150, hX⟩ := hX
      obtain ⟨u151, hX⟩ := hX
      obtain ⟨u152, hX⟩ := hX
      obtain ⟨u153, hX⟩ := hX
      obtain ⟨u154, hX⟩ := hX
      obtain ⟨u155, hX⟩ := hX
      obtain ⟨u156, hX⟩ := hX
      obtain ⟨u157, hX⟩ := hX
      obtain ⟨u158, hX⟩ := hX
      obtain ⟨hE, rfl⟩ := hX
      obtain ⟨b, rfl, ⟨z, rfl⟩, hE⟩ := hE
      rcases hE with ⟨rfl, l, hout, ho⟩ | ⟨h1, h5, hout⟩
      · obtain ⟨oa, oc, rfl⟩ := (own_rd ho).form
        have HO := Lib.hid ho
        have HOUT := Lib.hid hout
        clear ho hout
        go_wp2
        go_returns
        rw [RunEnd, HOUT.out]
        exact ⟨oa, oc, rett rfl rfl, HW.out.x.ext z, own_base HO.out (by have := HW.out.r; omega)⟩
      · have HOUT := Lib.hid hout
        have hk0 := HW.out.k0 z
        have e0 : (b != 0) = true := by simp; omega
        have f4 : wrap64 (-9223372036854775808 + b) = -9223372036854775808 + b := IntWalk.wrap64_in _ ⟨by omega, by omega⟩
        clear hout
        go_wp2
        go_returns
        rw [RunEnd, HOUT.out]
        exact ⟨_, _, rett rfl rfl, (HW.out.x.ext z).alloc _, own_one' _ _ _ _ _ _ (by simp) (by have := HW.out.r; simp; omega)⟩
theorem refRun_any (ps : List (Int × Int)) (v : Value) (K V : Int) (w : World) (h : Rd w 2 ps.length v (recs ps)) (hl : ps.length ≤ 1000) (hK : In64 K) (hV : In64 V) (hn : ∀ r ∈ ps, In64 r.2) :
    Calls Try.prog 10 #[v, .agg #[.int .i64 K, .int .i64 V]] w (RunEnd w (runP ps K V)) := by
  cases hr : rightP ps with
  | false => exact refRun_no ps v K V w h hl hr
  | true => exact refRun_yes ps v K V w h hK hV hn hr
end Go.Proofs.Ytddckdlkopohhaa
