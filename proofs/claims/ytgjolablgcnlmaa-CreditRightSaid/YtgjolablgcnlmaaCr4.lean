/- Credit: Send, Arrive, Take, Return where it is done. -/
import Derived.Test.YtgjolablgcnlmaaCr3
import Derived.Test.YtgjolablgcnlmaaNew
namespace Go.Proofs.Ytgjolablgcnlmaa
set_option linter.unusedSimpArgs false
set_option linter.unusedVariables false
open Go.RowKit

theorem own_kept2 {w w' : World} {b : Nat} {e : TypeId} {v u : Value} {n k : Nat} {xs : List Value} (h : w.ownsRow b e k u n xs) (hg : w.grownBy w' v.ownBlock) (hap : v.ownBlock = none ∨ v.ownBlock ≠ u.ownBlock) : w'.ownsRow b e k u n xs := by
  refine h.kept hg ?_
  rcases hap with h0 | h0
  · cases hu : u.ownBlock with
    | none => exact .inl rfl
    | some g => exact .inr (by rw [h0]; simp)
  · exact .inr fun h => h0 h.symm

theorem own_tail {w : World} {b : Nat} {e : TypeId} {g n c : Nat} {zs : List Value} {y : Int} {ys : List Int} (h : w.ownsRow b e 1 (.slice (some ⟨g, 0, none⟩) n c) n zs) (hz : zs = (y :: ys).map (Value.int .i64)) (o c' : Nat) (ho : o = 1 ∨ c = 1) {b' : Nat} (hb : b' ≤ b) : Ri w .i64 (.slice (some ⟨g, o, none⟩) ys.length c') ys ∧ New b' (.slice (some ⟨g, o, none⟩) ys.length c') := by
  refine ⟨?_, new_same (own_newB h hb)⟩
  subst hz
  have hl : n = ys.length + 1 := by have := h.1; simp at this; omega
  obtain ⟨h1, h2⟩ := id h
  rcases h2 with ⟨h2, _⟩ | ⟨g', cap', cur, hv, hg, hh, r⟩
  · cases h2
  · obtain ⟨hg', _, rfl⟩ := Value.slice.inj hv
    refine ⟨by simp, _, _, rfl, fun hp => ?_⟩
    have hc : 2 ≤ c := by have := r.1; omega
    obtain rfl : o = 1 := by omega
    refine ⟨g, 1, rfl, fun i u hu => ?_⟩
    have := World.ownsRow.cells h (g := g) rfl (1 + i) u (by rw [Nat.add_comm]; simpa using hu)
    rwa [show (⟨g, 0, none⟩ : Addr).add (1 + i) = ⟨g, 1 + i, none⟩ by unfold Addr.add; split <;> simp_all] at this

theorem own_push_ri {w : World} {b : Nat} {e : TypeId} {a : Option Addr} {c : Nat} {xs : List Int} {x : Int} (h : w.ownsRow b e 1 (.slice a (xs.length + 1) c) (xs.length + 1) (xs.map (Value.int .i64) ++ [.int .i64 x])) {b' : Nat} (hb : b' ≤ b) : Ri w .i64 (.slice a (xs ++ [x]).length c) (xs ++ [x]) ∧ New b' (.slice a (xs ++ [x]).length c) := by
  refine ⟨?_, new_len (own_newB h hb)⟩
  have := own_rd h
  unfold Ri
  rwa [List.length_append, List.length_singleton, List.map_append]

section
variable (s m b : Int) (a1 a2 : Option Addr) (c1 c2 : Nat) (xs ys : List Int) (w : World) (h1 : Ri w .i64 (.slice a1 xs.length c1) xs) (h2 : Ri w .i64 (.slice a2 ys.length c2) ys) (l1 : xs.length ≤ 1073741823) (l2 : ys.length ≤ 1073741823)
include h1 h2 l1 l2

set_option maxHeartbeats 1000000 in
theorem crSend_yes (x : Int) (he : rightL s m b xs.length ys.length = true) (hm : 1 ≤ m) :
    Calls Try.prog 13 #[.agg #[.int .i64 s, .int .i64 m, .slice a1 xs.length c1, .slice a2 ys.length c2, .int .i64 b], .int .i64 x] w fun e w' => ∃ v, e = .returned (.tuple #[v, .int .i64 0]) ∧ LaneR w w' v s (m - 1) b (xs ++ [x]) ys := by
  have hm2 : m ≤ 4096 := by simp [rightL] at he; omega
  replace he : mayL (rightL s m b xs.length ys.length) m 9 = 0 := by unfold mayL; rw [if_pos he, if_neg (show ¬ m < 1 by omega)]
  have l3 := Lib.hid (show xs.length + 1 ≤ 1073741824 by omega)
  replace l1 : xs.length ≤ 1073741824 := by omega
  replace l2 : ys.length ≤ 1073741824 := by omega
  have H1 := Lib.hid h1
  have H2 := Lib.hid h2
  have L1 := Lib.hid l1
  have L2 := Lib.hid l2
  have HE := Lib.hid he
  clear h1 h2 l1 l2 he
  go_enter Try.func13, Try.ntmps13
  go_wp2_with (first | (go_at_call 25; refine (crCopied_any _ _ _ _ _ _ _ xs ys _ (H1.out.of_ext (by (repeat' (first | with_reducible exact Ext.refl _ | with_reducible refine Ext.ext ?_ _ | with_reducible refine Ext.alloc ?_ _ | with_reducible refine Ext.drew ?_ | with_reducible refine Ext.drewN ?_ _ | with_reducible assumption)))) (H2.out.of_ext (by (repeat' (first | with_reducible exact Ext.refl _ | with_reducible refine Ext.ext ?_ _ | with_reducible refine Ext.alloc ?_ _ | with_reducible refine Ext.drew ?_ | with_reducible refine Ext.drewN ?_ _ | with_reducible assumption)))) L1.out L2.out).mono ?_; rintro e w' ⟨a1', c1', a2', c2', rfl, ⟨x1, rfl⟩, hown⟩; (try simp only [ext_ext, add_assoc, ext_drew, ext_drewN, drew_ext, drewN_ext] at hown); have HOWN := Lib.hid hown; clear hown; ) | (go_at_call 26; refine (crMay_any _ _ _ _ _ _ _ _ _ _ _ _ L1.out L2.out).mono ?_; rw [HE.out]; rintro e w' ⟨rfl, ⟨x2, rfl⟩⟩)| (at_builtin; apply stop_here))
  unfold Stop
  refine wpList_pushF rfl _ _ 22 rfl 2 (.int .i64 0) 1 8 Try.underlying22 info_i64e rfl (by decide) _ _ _ _ xs.length _ (own_swap HOWN.out.1 (by simp) (by simp) (Nat.le_refl _) (by first | exact .inl rfl | exact .inr ⟨_, rfl⟩ | exact .inr ⟨_, (add_assoc _ _ _).symm⟩)) _ 1 _ #[.int .i64 x] rfl rfl rfl (by simp [Value.oneCell']) (by omega) (by simp) (by unfold maxLen; have := l3.out; omega) (by have := l3.out; omega) (by (first | (simp; done) | (simp; omega) | omega)) (by (first | (simp; done) | (simp; omega) | omega)) ?_
  intro g cap y hown1 hgrow hat
  have HO1 := Lib.hid hown1
  have HO2 := Lib.hid (own_kept2 (own_swap HOWN.out.2.1 (by simp) (by simp) (Nat.le_refl _) (by first | exact .inl rfl | exact .inr ⟨_, rfl⟩ | exact .inr ⟨_, (add_assoc _ _ _).symm⟩)) hgrow HOWN.out.2.2)
  clear hown1 hgrow hat
  go_wp2
  go_returns
  refine ⟨_, rfl, some ⟨g, 0, none⟩, cap, a2', c2', by simp, by (repeat' (first | with_reducible exact Ext.refl _ | with_reducible refine Ext.ext ?_ _ | with_reducible refine Ext.alloc ?_ _ | with_reducible refine Ext.drew ?_ | with_reducible refine Ext.drewN ?_ _ | with_reducible assumption)), own_push_ri (own_swap HO1.out (by simp) (by simp) (Nat.le_refl _) (.inl rfl)) (by (first | (simp; done) | (simp; omega) | omega)), own_rin (own_swap HO2.out (by simp) (by simp) (Nat.le_refl _) (by first | exact .inl rfl | exact .inr ⟨_, rfl⟩ | exact .inr ⟨_, (add_assoc _ _ _).symm⟩)) (by (first | (simp; done) | (simp; omega) | omega))⟩

set_option maxHeartbeats 1000000 in
theorem crArrive_yes (x : Int) (xs' : List Int) (he : rightL s m b xs.length ys.length = true) (hxs : xs = x :: xs') :
    Calls Try.prog 14 #[.agg #[.int .i64 s, .int .i64 m, .slice a1 xs.length c1, .slice a2 ys.length c2, .int .i64 b]] w fun e w' => ∃ v, e = .returned (.tuple #[v, .int .i64 0]) ∧ LaneR w w' v s m b xs' (ys ++ [x]) := by
  have hn1 : 1 ≤ xs.length := by rw [hxs]; simp
  have hp1 : 0 < xs.length := hn1
  have hp2 : (0 : Int) < xs.length := by omega
  have HL := Lib.hid (show xs.length - 1 = xs'.length by rw [hxs]; simp)
  have HXS := Lib.hid hxs
  clear hxs
  replace he : mayL (rightL s m b xs.length ys.length) xs.length 12 = 0 := by unfold mayL; rw [if_pos he, if_neg (show ¬ (xs.length : Int) < 1 by omega)]
  have l3 := Lib.hid (show ys.length + 1 ≤ 1073741824 by omega)
  replace l1 : xs.length ≤ 1073741824 := by omega
  replace l2 : ys.length ≤ 1073741824 := by omega
  have H1 := Lib.hid h1
  have H2 := Lib.hid h2
  have L1 := Lib.hid l1
  have L2 := Lib.hid l2
  have HE := Lib.hid he
  clear h1 h2 l1 l2 he
  go_enter Try.func14, Try.ntmps14
  go_wp2_with (first | (go_at_call 25; refine (crCopied_any _ _ _ _ _ _ _ xs ys _ (H1.out.of_ext (by (repeat' (first | with_reducible exact Ext.refl _ | with_reducible refine Ext.ext ?_ _ | with_reducible refine Ext.alloc ?_ _ | with_reducible refine Ext.drew ?_ | with_reducible refine Ext.drewN ?_ _ | with_reducible assumption)))) (H2.out.of_ext (by (repeat' (first | with_reducible exact Ext.refl _ | with_reducible refine Ext.ext ?_ _ | with_reducible refine Ext.alloc ?_ _ | with_reducible refine Ext.drew ?_ | with_reducible refine Ext.drewN ?_ _ | with_reducible assumption)))) L1.out L2.out).mono ?_; rintro e w' ⟨a1', c1', a2', c2', rfl, ⟨x1, rfl⟩, hown⟩; (try simp only [ext_ext, add_assoc, ext_drew, ext_drewN, drew_ext, drewN_ext] at hown); have HOWN := Lib.hid hown; clear hown; obtain ⟨g1, rfl, _⟩ := own_form HOWN.out.1 (by omega); haveI := own_new_as (N := w.heap.size + 1 + 1) (cs' := .int .i64 x :: xs'.map (Value.int .i64)) HOWN.out.1 (by simp) (by simp) (by rw [HXS.out]; rfl)) | (go_at_call 26; refine (crMay_any _ _ _ _ _ _ _ _ _ _ _ _ L1.out L2.out).mono ?_; rw [HE.out]; rintro e w' ⟨rfl, ⟨x2, rfl⟩⟩)| (at_builtin; apply stop_here))
  go_region_law (refine step_pushF (by rfl) _ _ 22 (by rfl) 2 (.int .i64 0) 1 8 Try.underlying22 info_i64e rfl (by decide) _ _ _ _ ys.length _ (own_swap HOWN.out.2.1 (by simp) (by simp) (Nat.le_refl _) (by first | exact .inl rfl | exact .inr ⟨_, rfl⟩ | exact .inr ⟨_, (add_assoc _ _ _).symm⟩)) _ 1 _ #[.int .i64 x] (by rfl) (by rfl) rfl (by simp [Value.oneCell']) (by omega) (by simp) (by unfold maxLen; have := l3.out; omega) (by have := l3.out; omega) (by (first | (simp; done) | (simp; omega) | omega)) (by (first | (simp; done) | (simp; omega) | omega)) ?_; intro g cap y hown1 hgrow hat)
  all_goals
    go_wp2
    all_goals go_returns
    all_goals refine ⟨_, rfl, _, _, _, _, by rw [HL.out, show ys.length + 1 = (ys ++ [x]).length by simp], by (repeat' (first | with_reducible exact Ext.refl _ | with_reducible refine Ext.ext ?_ _ | with_reducible refine Ext.alloc ?_ _ | with_reducible refine Ext.drew ?_ | with_reducible refine Ext.drewN ?_ _ | with_reducible assumption)), own_tail (own_swap ((own_swap HOWN.out.1 (by simp) (by simp) (Nat.le_refl _) (by first | exact .inl rfl | exact .inr ⟨_, rfl⟩ | exact .inr ⟨_, (add_assoc _ _ _).symm⟩)).kept hgrow HOWN.out.2.2) (by simp) (by simp) (Nat.le_refl _) (by first | exact .inl rfl | exact .inr ⟨_, rfl⟩ | exact .inr ⟨_, (add_assoc _ _ _).symm⟩)) (by rw [HXS.out]) _ _ (by first | exact .inl rfl | exact .inr (by assumption)) (by (first | (simp; done) | (simp; omega) | omega)), own_push_ri (own_swap hown1 (by simp) (by simp) (Nat.le_refl _) (by first | exact .inl rfl | exact .inr ⟨_, rfl⟩ | exact .inr ⟨_, (add_assoc _ _ _).symm⟩)) (by (first | (simp; done) | (simp; omega) | omega))⟩
set_option maxHeartbeats 1000000 in
theorem crTake_yes (y : Int) (ys' : List Int) (he : rightL s m b xs.length ys.length = true) (hys : ys = y :: ys') :
    Calls Try.prog 15 #[.agg #[.int .i64 s, .int .i64 m, .slice a1 xs.length c1, .slice a2 ys.length c2, .int .i64 b]] w fun e w' => ∃ v, e = .returned (.tuple #[v, .int .i64 y, .int .i64 0]) ∧ LaneR w w' v s m (b + 1) xs ys' := by
  have hb : 0 ≤ b ∧ b ≤ 4096 := by simp [rightL] at he; omega
  obtain ⟨hb1, hb2⟩ := hb
  have hn1 : 1 ≤ ys.length := by rw [hys]; simp
  have hp1 : 0 < ys.length := hn1
  have hp2 : (0 : Int) < ys.length := by omega
  have HL := Lib.hid (show ys.length - 1 = ys'.length by rw [hys]; simp)
  have HYS := Lib.hid hys
  clear hys
  replace he : mayL (rightL s m b xs.length ys.length) ys.length 12 = 0 := by unfold mayL; rw [if_pos he, if_neg (show ¬ (ys.length : Int) < 1 by omega)]
  replace l1 : xs.length ≤ 1073741824 := by omega
  replace l2 : ys.length ≤ 1073741824 := by omega
  have H1 := Lib.hid h1
  have H2 := Lib.hid h2
  have L1 := Lib.hid l1
  have L2 := Lib.hid l2
  have HE := Lib.hid he
  clear h1 h2 l1 l2 he
  go_enter Try.func15, Try.ntmps15
  go_wp2_with (first | (go_at_call 25; refine (crCopied_any _ _ _ _ _ _ _ xs ys _ (H1.out.of_ext (by (repeat' (first | with_reducible exact Ext.refl _ | with_reducible refine Ext.ext ?_ _ | with_reducible refine Ext.alloc ?_ _ | with_reducible refine Ext.drew ?_ | with_reducible refine Ext.drewN ?_ _ | with_reducible assumption)))) (H2.out.of_ext (by (repeat' (first | with_reducible exact Ext.refl _ | with_reducible refine Ext.ext ?_ _ | with_reducible refine Ext.alloc ?_ _ | with_reducible refine Ext.drew ?_ | with_reducible refine Ext.drewN ?_ _ | with_reducible assumption)))) L1.out L2.out).mono ?_; rintro e w' ⟨a1', c1', a2', c2', rfl, ⟨x1, rfl⟩, hown⟩; (try simp only [ext_ext, add_assoc, ext_drew, ext_drewN, drew_ext, drewN_ext] at hown); have HOWN := Lib.hid hown; clear hown; obtain ⟨g2, rfl, _⟩ := own_form HOWN.out.2.1 (by omega); haveI := own_new_as (N := w.heap.size + 1 + 1) (cs' := .int .i64 y :: ys'.map (Value.int .i64)) HOWN.out.2.1 (by simp) (by simp) (by rw [HYS.out]; rfl)) | (go_at_call 26; refine (crMay_any _ _ _ _ _ _ _ _ _ _ _ _ L1.out L2.out).mono ?_; rw [HE.out]; rintro e w' ⟨rfl, ⟨x2, rfl⟩⟩)| (at_builtin; apply stop_here))
  all_goals go_returns
  all_goals refine ⟨_, rfl, _, _, _, _, by rw [HL.out], by (repeat' (first | with_reducible exact Ext.refl _ | with_reducible refine Ext.ext ?_ _ | with_reducible refine Ext.alloc ?_ _ | with_reducible refine Ext.drew ?_ | with_reducible refine Ext.drewN ?_ _ | with_reducible assumption)), own_rin (own_swap HOWN.out.1 (by simp) (by simp) (Nat.le_refl _) (by first | exact .inl rfl | exact .inr ⟨_, rfl⟩ | exact .inr ⟨_, (add_assoc _ _ _).symm⟩)) (by (first | (simp; done) | (simp; omega) | omega)), own_tail (own_swap HOWN.out.2.1 (by simp) (by simp) (Nat.le_refl _) (by first | exact .inl rfl | exact .inr ⟨_, rfl⟩ | exact .inr ⟨_, (add_assoc _ _ _).symm⟩)) (by rw [HYS.out]) _ _ (by first | exact .inl rfl | exact .inr (by assumption)) (by (first | (simp; done) | (simp; omega) | omega))⟩
set_option maxHeartbeats 1000000 in
theorem crReturn_yes (he : rightL s m b xs.length ys.length = true) (hb : 1 ≤ b) :
    Calls Try.prog 16 #[.agg #[.int .i64 s, .int .i64 m, .slice a1 xs.length c1, .slice a2 ys.length c2, .int .i64 b]] w fun e w' => ∃ v, e = .returned (.tuple #[v, .int .i64 0]) ∧ LaneR w w' v s (m + b) 0 xs ys := by
  have hm : 0 ≤ m ∧ m ≤ 4096 ∧ b ≤ 4096 := by simp [rightL] at he; omega
  obtain ⟨hm1, hm2, hb2⟩ := hm
  replace he : mayL (rightL s m b xs.length ys.length) b 12 = 0 := by unfold mayL; rw [if_pos he, if_neg (show ¬ b < 1 by omega)]
  replace l1 : xs.length ≤ 1073741824 := by omega
  replace l2 : ys.length ≤ 1073741824 := by omega
  have H1 := Lib.hid h1
  have H2 := Lib.hid h2
  have L1 := Lib.hid l1
  have L2 := Lib.hid l2
  have HE := Lib.hid he
  clear h1 h2 l1 l2 he
  go_enter Try.func16, Try.ntmps16
  go_wp2_with (first | (go_at_call 25; refine (crCopied_any _ _ _ _ _ _ _ xs ys _ (H1.out.of_ext (by (repeat' (first | with_reducible exact Ext.refl _ | with_reducible refine Ext.ext ?_ _ | with_reducible refine Ext.alloc ?_ _ | with_reducible refine Ext.drew ?_ | with_reducible refine Ext.drewN ?_ _ | with_reducible assumption)))) (H2.out.of_ext (by (repeat' (first | with_reducible exact Ext.refl _ | with_reducible refine Ext.ext ?_ _ | with_reducible refine Ext.alloc ?_ _ | with_reducible refine Ext.drew ?_ | with_reducible refine Ext.drewN ?_ _ | with_reducible assumption)))) L1.out L2.out).mono ?_; rintro e w' ⟨a1', c1', a2', c2', rfl, ⟨x1, rfl⟩, hown⟩; (try simp only [ext_ext, add_assoc, ext_drew, ext_drewN, drew_ext, drewN_ext] at hown); have HOWN := Lib.hid hown; clear hown; ) | (go_at_call 26; refine (crMay_any _ _ _ _ _ _ _ _ _ _ _ _ L1.out L2.out).mono ?_; rw [HE.out]; rintro e w' ⟨rfl, ⟨x2, rfl⟩⟩)| (at_builtin; apply stop_here))
  go_returns
  refine ⟨_, rfl, _, _, _, _, rfl, by (repeat' (first | with_reducible exact Ext.refl _ | with_reducible refine Ext.ext ?_ _ | with_reducible refine Ext.alloc ?_ _ | with_reducible refine Ext.drew ?_ | with_reducible refine Ext.drewN ?_ _ | with_reducible assumption)), own_rin (own_swap HOWN.out.1 (by simp) (by simp) (Nat.le_refl _) (by first | exact .inl rfl | exact .inr ⟨_, rfl⟩ | exact .inr ⟨_, (add_assoc _ _ _).symm⟩)) (by (first | (simp; done) | (simp; omega) | omega)), own_rin (own_swap HOWN.out.2.1 (by simp) (by simp) (Nat.le_refl _) (by first | exact .inl rfl | exact .inr ⟨_, rfl⟩ | exact .inr ⟨_, (add_assoc _ _ _).symm⟩)) (by (first | (simp; done) | (simp; omega) | omega))⟩
end
end Go.Proofs.Ytgjolablgcnlmaa
