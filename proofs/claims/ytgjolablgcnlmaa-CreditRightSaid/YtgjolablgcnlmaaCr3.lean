/- Credit: Send, Arrive, Take, Return where nothing is done. -/
import Derived.Test.YtgjolablgcnlmaaCr2
import Derived.Test.YtgjolablgcnlmaaNew
namespace Go.Proofs.Ytgjolablgcnlmaa
set_option linter.unusedSimpArgs false
set_option linter.unusedVariables false
open Go.RowKit

/-- What a function of a lane hands back. -/
def LaneR (w w' : World) (v : Value) (s m b : Int) (xs ys : List Int) : Prop :=
  ∃ a1 c1 a2 c2, v = .agg #[.int .i64 s, .int .i64 m, .slice a1 xs.length c1, .slice a2 ys.length c2, .int .i64 b] ∧ Ext w w' ∧ (Ri w' .i64 (.slice a1 xs.length c1) xs ∧ New w.heap.size (.slice a1 xs.length c1)) ∧ (Ri w' .i64 (.slice a2 ys.length c2) ys ∧ New w.heap.size (.slice a2 ys.length c2))
theorem own_ri {w : World} {b : Nat} {e : TypeId} {v : Value} {xs : List Int} (h : w.ownsRow b e 1 v xs.length (xs.map (Value.int .i64))) : Ri w .i64 v xs := own_rd h
theorem own_rin {w : World} {b b' : Nat} {e : TypeId} {v : Value} {xs : List Int} (h : w.ownsRow b e 1 v xs.length (xs.map (Value.int .i64))) (hb : b' ≤ b) : Ri w .i64 v xs ∧ New b' v := ⟨own_rd h, own_newB h hb⟩

section
variable (s m b : Int) (a1 a2 : Option Addr) (c1 c2 : Nat) (xs ys : List Int) (w : World) (h1 : Ri w .i64 (.slice a1 xs.length c1) xs) (h2 : Ri w .i64 (.slice a2 ys.length c2) ys) (l1 : xs.length ≤ 1073741824) (l2 : ys.length ≤ 1073741824)
include h1 h2 l1 l2

theorem crSend_no (x : Int) (e0 : Int) (he : mayL (rightL s m b xs.length ys.length) m 9 = e0) (h0 : e0 ≠ 0) :
    Calls Try.prog 13 #[.agg #[.int .i64 s, .int .i64 m, .slice a1 xs.length c1, .slice a2 ys.length c2, .int .i64 b], .int .i64 x] w fun e w' => ∃ v, e = .returned (.tuple #[v, .int .i64 e0]) ∧ LaneR w w' v s m b xs ys := by
  have hz : (e0 == 0) = false := by simpa using h0
  have hz2 : (e0 != 0) = true := by simpa using h0
  clear h0
  have H1 := Lib.hid h1
  have H2 := Lib.hid h2
  have L1 := Lib.hid l1
  have L2 := Lib.hid l2
  have HE := Lib.hid he
  clear h1 h2 l1 l2 he
  go_enter Try.func13, Try.ntmps13
  go_wp2_with (first | (go_at_call 25; refine (crCopied_any _ _ _ _ _ _ _ xs ys _ (H1.out.of_ext (by (repeat' (first | with_reducible exact Ext.refl _ | with_reducible refine Ext.ext ?_ _ | with_reducible refine Ext.alloc ?_ _ | with_reducible refine Ext.drew ?_ | with_reducible refine Ext.drewN ?_ _ | with_reducible assumption)))) (H2.out.of_ext (by (repeat' (first | with_reducible exact Ext.refl _ | with_reducible refine Ext.ext ?_ _ | with_reducible refine Ext.alloc ?_ _ | with_reducible refine Ext.drew ?_ | with_reducible refine Ext.drewN ?_ _ | with_reducible assumption)))) L1.out L2.out).mono ?_; rintro e w' ⟨a1', c1', a2', c2', rfl, ⟨x1, rfl⟩, hown⟩; (try simp only [ext_ext, add_assoc, ext_drew, ext_drewN, drew_ext, drewN_ext] at hown); have HOWN := Lib.hid hown; clear hown; ) | (go_at_call 26; refine (crMay_any _ _ _ _ _ _ _ _ _ _ _ _ L1.out L2.out).mono ?_; rw [HE.out]; rintro e w' ⟨rfl, ⟨x2, rfl⟩⟩))
  go_returns
  refine ⟨_, rfl, _, _, _, _, rfl, by (repeat' (first | with_reducible exact Ext.refl _ | with_reducible refine Ext.ext ?_ _ | with_reducible refine Ext.alloc ?_ _ | with_reducible refine Ext.drew ?_ | with_reducible refine Ext.drewN ?_ _ | with_reducible assumption)), own_rin (own_swap HOWN.out.1 (by simp) (by simp) (Nat.le_refl _) (by first | exact .inl rfl | exact .inr ⟨_, rfl⟩ | exact .inr ⟨_, (add_assoc _ _ _).symm⟩)) (by (first | (simp; done) | (simp; omega) | omega)), own_rin (own_swap HOWN.out.2.1 (by simp) (by simp) (Nat.le_refl _) (by first | exact .inl rfl | exact .inr ⟨_, rfl⟩ | exact .inr ⟨_, (add_assoc _ _ _).symm⟩)) (by (first | (simp; done) | (simp; omega) | omega))⟩

theorem crArrive_no (e0 : Int) (he : mayL (rightL s m b xs.length ys.length) xs.length 12 = e0) (h0 : e0 ≠ 0) :
    Calls Try.prog 14 #[.agg #[.int .i64 s, .int .i64 m, .slice a1 xs.length c1, .slice a2 ys.length c2, .int .i64 b]] w fun e w' => ∃ v, e = .returned (.tuple #[v, .int .i64 e0]) ∧ LaneR w w' v s m b xs ys := by
  have hz : (e0 == 0) = false := by simpa using h0
  have hz2 : (e0 != 0) = true := by simpa using h0
  clear h0
  have H1 := Lib.hid h1
  have H2 := Lib.hid h2
  have L1 := Lib.hid l1
  have L2 := Lib.hid l2
  have HE := Lib.hid he
  clear h1 h2 l1 l2 he
  go_enter Try.func14, Try.ntmps14
  go_wp2_with (first | (go_at_call 25; refine (crCopied_any _ _ _ _ _ _ _ xs ys _ (H1.out.of_ext (by (repeat' (first | with_reducible exact Ext.refl _ | with_reducible refine Ext.ext ?_ _ | with_reducible refine Ext.alloc ?_ _ | with_reducible refine Ext.drew ?_ | with_reducible refine Ext.drewN ?_ _ | with_reducible assumption)))) (H2.out.of_ext (by (repeat' (first | with_reducible exact Ext.refl _ | with_reducible refine Ext.ext ?_ _ | with_reducible refine Ext.alloc ?_ _ | with_reducible refine Ext.drew ?_ | with_reducible refine Ext.drewN ?_ _ | with_reducible assumption)))) L1.out L2.out).mono ?_; rintro e w' ⟨a1', c1', a2', c2', rfl, ⟨x1, rfl⟩, hown⟩; (try simp only [ext_ext, add_assoc, ext_drew, ext_drewN, drew_ext, drewN_ext] at hown); have HOWN := Lib.hid hown; clear hown; ) | (go_at_call 26; refine (crMay_any _ _ _ _ _ _ _ _ _ _ _ _ L1.out L2.out).mono ?_; rw [HE.out]; rintro e w' ⟨rfl, ⟨x2, rfl⟩⟩))
  go_returns
  refine ⟨_, rfl, _, _, _, _, rfl, by (repeat' (first | with_reducible exact Ext.refl _ | with_reducible refine Ext.ext ?_ _ | with_reducible refine Ext.alloc ?_ _ | with_reducible refine Ext.drew ?_ | with_reducible refine Ext.drewN ?_ _ | with_reducible assumption)), own_rin (own_swap HOWN.out.1 (by simp) (by simp) (Nat.le_refl _) (by first | exact .inl rfl | exact .inr ⟨_, rfl⟩ | exact .inr ⟨_, (add_assoc _ _ _).symm⟩)) (by (first | (simp; done) | (simp; omega) | omega)), own_rin (own_swap HOWN.out.2.1 (by simp) (by simp) (Nat.le_refl _) (by first | exact .inl rfl | exact .inr ⟨_, rfl⟩ | exact .inr ⟨_, (add_assoc _ _ _).symm⟩)) (by (first | (simp; done) | (simp; omega) | omega))⟩

theorem crTake_no (e0 : Int) (he : mayL (rightL s m b xs.length ys.length) ys.length 12 = e0) (h0 : e0 ≠ 0) :
    Calls Try.prog 15 #[.agg #[.int .i64 s, .int .i64 m, .slice a1 xs.length c1, .slice a2 ys.length c2, .int .i64 b]] w fun e w' => ∃ v, e = .returned (.tuple #[v, .int .i64 0, .int .i64 e0]) ∧ LaneR w w' v s m b xs ys := by
  have hz : (e0 == 0) = false := by simpa using h0
  have hz2 : (e0 != 0) = true := by simpa using h0
  clear h0
  have H1 := Lib.hid h1
  have H2 := Lib.hid h2
  have L1 := Lib.hid l1
  have L2 := Lib.hid l2
  have HE := Lib.hid he
  clear h1 h2 l1 l2 he
  go_enter Try.func15, Try.ntmps15
  go_wp2_with (first | (go_at_call 25; refine (crCopied_any _ _ _ _ _ _ _ xs ys _ (H1.out.of_ext (by (repeat' (first | with_reducible exact Ext.refl _ | with_reducible refine Ext.ext ?_ _ | with_reducible refine Ext.alloc ?_ _ | with_reducible refine Ext.drew ?_ | with_reducible refine Ext.drewN ?_ _ | with_reducible assumption)))) (H2.out.of_ext (by (repeat' (first | with_reducible exact Ext.refl _ | with_reducible refine Ext.ext ?_ _ | with_reducible refine Ext.alloc ?_ _ | with_reducible refine Ext.drew ?_ | with_reducible refine Ext.drewN ?_ _ | with_reducible assumption)))) L1.out L2.out).mono ?_; rintro e w' ⟨a1', c1', a2', c2', rfl, ⟨x1, rfl⟩, hown⟩; (try simp only [ext_ext, add_assoc, ext_drew, ext_drewN, drew_ext, drewN_ext] at hown); have HOWN := Lib.hid hown; clear hown; ) | (go_at_call 26; refine (crMay_any _ _ _ _ _ _ _ _ _ _ _ _ L1.out L2.out).mono ?_; rw [HE.out]; rintro e w' ⟨rfl, ⟨x2, rfl⟩⟩))
  go_returns
  refine ⟨_, rfl, _, _, _, _, rfl, by (repeat' (first | with_reducible exact Ext.refl _ | with_reducible refine Ext.ext ?_ _ | with_reducible refine Ext.alloc ?_ _ | with_reducible refine Ext.drew ?_ | with_reducible refine Ext.drewN ?_ _ | with_reducible assumption)), own_rin (own_swap HOWN.out.1 (by simp) (by simp) (Nat.le_refl _) (by first | exact .inl rfl | exact .inr ⟨_, rfl⟩ | exact .inr ⟨_, (add_assoc _ _ _).symm⟩)) (by (first | (simp; done) | (simp; omega) | omega)), own_rin (own_swap HOWN.out.2.1 (by simp) (by simp) (Nat.le_refl _) (by first | exact .inl rfl | exact .inr ⟨_, rfl⟩ | exact .inr ⟨_, (add_assoc _ _ _).symm⟩)) (by (first | (simp; done) | (simp; omega) | omega))⟩

theorem crReturn_no (e0 : Int) (he : mayL (rightL s m b xs.length ys.length) b 12 = e0) (h0 : e0 ≠ 0) :
    Calls Try.prog 16 #[.agg #[.int .i64 s, .int .i64 m, .slice a1 xs.length c1, .slice a2 ys.length c2, .int .i64 b]] w fun e w' => ∃ v, e = .returned (.tuple #[v, .int .i64 e0]) ∧ LaneR w w' v s m b xs ys := by
  have hz : (e0 == 0) = false := by simpa using h0
  have hz2 : (e0 != 0) = true := by simpa using h0
  clear h0
  have H1 := Lib.hid h1
  have H2 := Lib.hid h2
  have L1 := Lib.hid l1
  have L2 := Lib.hid l2
  have HE := Lib.hid he
  clear h1 h2 l1 l2 he
  go_enter Try.func16, Try.ntmps16
  go_wp2_with (first | (go_at_call 25; refine (crCopied_any _ _ _ _ _ _ _ xs ys _ (H1.out.of_ext (by (repeat' (first | with_reducible exact Ext.refl _ | with_reducible refine Ext.ext ?_ _ | with_reducible refine Ext.alloc ?_ _ | with_reducible refine Ext.drew ?_ | with_reducible refine Ext.drewN ?_ _ | with_reducible assumption)))) (H2.out.of_ext (by (repeat' (first | with_reducible exact Ext.refl _ | with_reducible refine Ext.ext ?_ _ | with_reducible refine Ext.alloc ?_ _ | with_reducible refine Ext.drew ?_ | with_reducible refine Ext.drewN ?_ _ | with_reducible assumption)))) L1.out L2.out).mono ?_; rintro e w' ⟨a1', c1', a2', c2', rfl, ⟨x1, rfl⟩, hown⟩; (try simp only [ext_ext, add_assoc, ext_drew, ext_drewN, drew_ext, drewN_ext] at hown); have HOWN := Lib.hid hown; clear hown; ) | (go_at_call 26; refine (crMay_any _ _ _ _ _ _ _ _ _ _ _ _ L1.out L2.out).mono ?_; rw [HE.out]; rintro e w' ⟨rfl, ⟨x2, rfl⟩⟩))
  go_returns
  refine ⟨_, rfl, _, _, _, _, rfl, by (repeat' (first | with_reducible exact Ext.refl _ | with_reducible refine Ext.ext ?_ _ | with_reducible refine Ext.alloc ?_ _ | with_reducible refine Ext.drew ?_ | with_reducible refine Ext.drewN ?_ _ | with_reducible assumption)), own_rin (own_swap HOWN.out.1 (by simp) (by simp) (Nat.le_refl _) (by first | exact .inl rfl | exact .inr ⟨_, rfl⟩ | exact .inr ⟨_, (add_assoc _ _ _).symm⟩)) (by (first | (simp; done) | (simp; omega) | omega)), own_rin (own_swap HOWN.out.2.1 (by simp) (by simp) (Nat.le_refl _) (by first | exact .inl rfl | exact .inr ⟨_, rfl⟩ | exact .inr ⟨_, (add_assoc _ _ _).symm⟩)) (by (first | (simp; done) | (simp; omega) | omega))⟩

end
end Go.Proofs.Ytgjolablgcnlmaa
