/- Contract of backwashref01.Step. -/
import Derived.Test.YtfdgeomomafnbaaRef1b
namespace Go.Proofs.Ytfdgeomomafnbaa
set_option linter.unusedSimpArgs false
set_option linter.unusedVariables false
open Go.RowKit

theorem step_no (d a b c e how : Int) (w : World) (h : rightB ⟨d, a, b, c, e⟩ = false) :
    Calls Try.prog 18 #[.agg #[.int .i64 d, .int .i64 a, .int .i64 b, .int .i64 c, .int .i64 e], .int .i64 how] w fun r w' => r = .returned (.tuple #[tv tz, .bool false]) ∧ Ext w w' := by
  have H := Lib.hid h
  clear h
  go_enter Try.func18, Try.ntmps18
  go_wp2_with (go_at_call 22; refine (list_no _ _ _ _ _ _ H.out).mono ?_; rintro r w' ⟨rfl, x, rfl⟩)
  go_returns
  exact ⟨rett rfl rfl, by (repeat' (first | with_reducible exact Ext.refl _ | with_reducible refine Ext.ext ?_ _ | with_reducible refine Ext.alloc ?_ _ | with_reducible refine Ext.drew ?_ | with_reducible refine Ext.drewN ?_ _ | with_reducible assumption))⟩

theorem own_cells {w : World} {base e g n cap : Nat} {xs : List Int} (h : w.ownsRow base e 1 (.slice (some ⟨g, 0, none⟩) n cap) n (ints xs)) (j : Nat) (hj : j < n) (u : Int) (hu : xs[j]? = some u) : w.cell? ⟨g, j, none⟩ = some (.int .i64 u) := by
  rw [h.cellAt j (by omega)]
  simp [ints, hu]
theorem own_le {w : World} {base e size g n cap m : Nat} {xs : List Value} (h : w.ownsRow base e size (.slice (some ⟨g, 0, none⟩) n cap) m xs) : n ≤ cap := by
  rcases h.2 with ⟨h', _⟩ | ⟨g', cap', cur, h', hbg, hg, hnc, _⟩
  · simp at h'
  · simp only [Value.slice.injEq, Option.some.injEq, Addr.mk.injEq, and_true, true_and] at h'
    obtain ⟨_, rfl, rfl⟩ := h'
    exact hnc
theorem own_lt {w : World} {base e size g n m cap : Nat} {xs : List Value} (h : w.ownsRow base e size (.slice (some ⟨g, 0, none⟩) n cap) m xs) : base ≤ g ∧ g < w.heap.size := h.lt g rfl

set_option maxHeartbeats 400000 in
theorem step_enter_1 (a : Int) (w : World) (h : rightB ⟨1, a, 0, 0, 0⟩ = true) :
    Calls Try.prog 18 #[.agg #[.int .i64 1, .int .i64 a, .int .i64 0, .int .i64 0, .int .i64 0], .int .i64 0] w fun r w' => r = .returned (.tuple #[tv (ofT [a, 0]), .bool (ofB [a, 0])]) ∧ Ext w w' := by
  have H := Lib.hid h
  clear h
  go_enter Try.func18, Try.ntmps18
  go_wp2_with fail
  refine (list_yes _ _ _ _ _ _ H.out).mono ?_
  rintro r w' ⟨g, cap, rfl, ⟨x, rfl⟩, ho⟩
  have hp : pre ⟨1, a, 0, 0, 0⟩ 4 = [a] := rfl
  rw [hp] at ho
  clear hp
  obtain ⟨hg1, hg2⟩ := own_lt ho
  have HO := Lib.hid ho
  clear ho
  go_wp2_with (at_builtin; refine wpList_push rfl _ _ 36 rfl 3 (.int .i64 0) 1 8 Try.underlying36 info_int rfl (by decide) ((w.alloc (.cells #[.int .i64 1, .int .i64 a, .int .i64 0, .int .i64 0, .int .i64 0] 29)).alloc (.cells #[.int .i64 0, .int .i64 0, .int .i64 0, .int .i64 0, .int .i64 0] 29)) x _ _ 1 _ HO.out _ 1 1 #[.int .i64 0] rfl rfl rfl (by simp [Value.oneCell']) (by decide) (by simp) (by simp [maxLen]) (by omega) (by (first | (simp; done) | (simp; omega) | omega)) (by (first | (simp; done) | (simp; omega) | omega)) ?_; intro g' cap' y ho1)
  obtain ⟨hg3, hg4⟩ := own_lt ho1
  have ho2 : (ext _ y).ownsRow _ _ _ _ _ (ints [a, 0]) := ho1
  have k0 := own_cells ho2 0 (by decide) (a) rfl
  have k1 := own_cells ho2 1 (by decide) (0) rfl
  refine (of_2 (a) (0) g' 0 cap' _ hg4 k0 k1).mono ?_
  rintro r w' ⟨rfl, z, rfl⟩
  have HZ := Lib.hid hg4
  clear hg4
  go_wp2
  go_returns
  exact ⟨rett rfl (by rfl), by (repeat' (first | with_reducible exact Ext.refl _ | with_reducible refine Ext.ext ?_ _ | with_reducible refine Ext.alloc ?_ _ | with_reducible refine Ext.drew ?_ | with_reducible refine Ext.drewN ?_ _ | with_reducible assumption))⟩

set_option maxHeartbeats 400000 in
theorem step_enter_2 (a b : Int) (w : World) (h : rightB ⟨2, a, b, 0, 0⟩ = true) :
    Calls Try.prog 18 #[.agg #[.int .i64 2, .int .i64 a, .int .i64 b, .int .i64 0, .int .i64 0], .int .i64 0] w fun r w' => r = .returned (.tuple #[tv (ofT [a, b, 0]), .bool (ofB [a, b, 0])]) ∧ Ext w w' := by
  have H := Lib.hid h
  clear h
  go_enter Try.func18, Try.ntmps18
  go_wp2_with fail
  refine (list_yes _ _ _ _ _ _ H.out).mono ?_
  rintro r w' ⟨g, cap, rfl, ⟨x, rfl⟩, ho⟩
  have hp : pre ⟨2, a, b, 0, 0⟩ 4 = [a, b] := rfl
  rw [hp] at ho
  clear hp
  obtain ⟨hg1, hg2⟩ := own_lt ho
  have HO := Lib.hid ho
  clear ho
  go_wp2_with (at_builtin; refine wpList_push rfl _ _ 36 rfl 3 (.int .i64 0) 1 8 Try.underlying36 info_int rfl (by decide) ((w.alloc (.cells #[.int .i64 2, .int .i64 a, .int .i64 b, .int .i64 0, .int .i64 0] 29)).alloc (.cells #[.int .i64 0, .int .i64 0, .int .i64 0, .int .i64 0, .int .i64 0] 29)) x _ _ 2 _ HO.out _ 1 1 #[.int .i64 0] rfl rfl rfl (by simp [Value.oneCell']) (by decide) (by simp) (by simp [maxLen]) (by omega) (by (first | (simp; done) | (simp; omega) | omega)) (by (first | (simp; done) | (simp; omega) | omega)) ?_; intro g' cap' y ho1)
  obtain ⟨hg3, hg4⟩ := own_lt ho1
  have ho2 : (ext _ y).ownsRow _ _ _ _ _ (ints [a, b, 0]) := ho1
  have k0 := own_cells ho2 0 (by decide) (a) rfl
  have k1 := own_cells ho2 1 (by decide) (b) rfl
  have k2 := own_cells ho2 2 (by decide) (0) rfl
  refine (of_3 (a) (b) (0) g' 0 cap' _ hg4 k0 k1 k2).mono ?_
  rintro r w' ⟨rfl, z, rfl⟩
  have HZ := Lib.hid hg4
  clear hg4
  go_wp2
  go_returns
  exact ⟨rett rfl (by rfl), by (repeat' (first | with_reducible exact Ext.refl _ | with_reducible refine Ext.ext ?_ _ | with_reducible refine Ext.alloc ?_ _ | with_reducible refine Ext.drew ?_ | with_reducible refine Ext.drewN ?_ _ | with_reducible assumption))⟩

set_option maxHeartbeats 400000 in
theorem step_enter_3 (a b c : Int) (w : World) (h : rightB ⟨3, a, b, c, 0⟩ = true) :
    Calls Try.prog 18 #[.agg #[.int .i64 3, .int .i64 a, .int .i64 b, .int .i64 c, .int .i64 0], .int .i64 0] w fun r w' => r = .returned (.tuple #[tv (ofT [a, b, c, 0]), .bool (ofB [a, b, c, 0])]) ∧ Ext w w' := by
  have H := Lib.hid h
  clear h
  go_enter Try.func18, Try.ntmps18
  go_wp2_with fail
  refine (list_yes _ _ _ _ _ _ H.out).mono ?_
  rintro r w' ⟨g, cap, rfl, ⟨x, rfl⟩, ho⟩
  have hp : pre ⟨3, a, b, c, 0⟩ 4 = [a, b, c] := rfl
  rw [hp] at ho
  clear hp
  obtain ⟨hg1, hg2⟩ := own_lt ho
  have HO := Lib.hid ho
  clear ho
  go_wp2_with (at_builtin; refine wpList_push rfl _ _ 36 rfl 3 (.int .i64 0) 1 8 Try.underlying36 info_int rfl (by decide) ((w.alloc (.cells #[.int .i64 3, .int .i64 a, .int .i64 b, .int .i64 c, .int .i64 0] 29)).alloc (.cells #[.int .i64 0, .int .i64 0, .int .i64 0, .int .i64 0, .int .i64 0] 29)) x _ _ 3 _ HO.out _ 1 1 #[.int .i64 0] rfl rfl rfl (by simp [Value.oneCell']) (by decide) (by simp) (by simp [maxLen]) (by omega) (by (first | (simp; done) | (simp; omega) | omega)) (by (first | (simp; done) | (simp; omega) | omega)) ?_; intro g' cap' y ho1)
  obtain ⟨hg3, hg4⟩ := own_lt ho1
  have ho2 : (ext _ y).ownsRow _ _ _ _ _ (ints [a, b, c, 0]) := ho1
  have k0 := own_cells ho2 0 (by decide) (a) rfl
  have k1 := own_cells ho2 1 (by decide) (b) rfl
  have k2 := own_cells ho2 2 (by decide) (c) rfl
  have k3 := own_cells ho2 3 (by decide) (0) rfl
  refine (of_4 (a) (b) (c) (0) g' 0 cap' _ hg4 k0 k1 k2 k3).mono ?_
  rintro r w' ⟨rfl, z, rfl⟩
  have HZ := Lib.hid hg4
  clear hg4
  go_wp2
  go_returns
  exact ⟨rett rfl (by rfl), by (repeat' (first | with_reducible exact Ext.refl _ | with_reducible refine Ext.ext ?_ _ | with_reducible refine Ext.alloc ?_ _ | with_reducible refine Ext.drew ?_ | with_reducible refine Ext.drewN ?_ _ | with_reducible assumption))⟩

set_option maxHeartbeats 400000 in
theorem step_enter_4 (a b c e : Int) (w : World) (h : rightB ⟨4, a, b, c, e⟩ = true) :
    Calls Try.prog 18 #[.agg #[.int .i64 4, .int .i64 a, .int .i64 b, .int .i64 c, .int .i64 e], .int .i64 0] w fun r w' => r = .returned (.tuple #[tv (ofT [a, b, c, e, 0]), .bool (ofB [a, b, c, e, 0])]) ∧ Ext w w' := by
  have H := Lib.hid h
  clear h
  go_enter Try.func18, Try.ntmps18
  go_wp2_with fail
  refine (list_yes _ _ _ _ _ _ H.out).mono ?_
  rintro r w' ⟨g, cap, rfl, ⟨x, rfl⟩, ho⟩
  have hp : pre ⟨4, a, b, c, e⟩ 4 = [a, b, c, e] := rfl
  rw [hp] at ho
  clear hp
  obtain ⟨hg1, hg2⟩ := own_lt ho
  have HO := Lib.hid ho
  clear ho
  go_wp2_with (at_builtin; refine wpList_push rfl _ _ 36 rfl 3 (.int .i64 0) 1 8 Try.underlying36 info_int rfl (by decide) ((w.alloc (.cells #[.int .i64 4, .int .i64 a, .int .i64 b, .int .i64 c, .int .i64 e] 29)).alloc (.cells #[.int .i64 0, .int .i64 0, .int .i64 0, .int .i64 0, .int .i64 0] 29)) x _ _ 4 _ HO.out _ 1 1 #[.int .i64 0] rfl rfl rfl (by simp [Value.oneCell']) (by decide) (by simp) (by simp [maxLen]) (by omega) (by (first | (simp; done) | (simp; omega) | omega)) (by (first | (simp; done) | (simp; omega) | omega)) ?_; intro g' cap' y ho1)
  obtain ⟨hg3, hg4⟩ := own_lt ho1
  have ho2 : (ext _ y).ownsRow _ _ _ _ _ (ints [a, b, c, e, 0]) := ho1
  refine (of_out _ _ _ _ (by decide)).mono ?_
  rintro r w' ⟨rfl, z, rfl⟩
  have HZ := Lib.hid hg4
  clear hg4
  go_wp2
  go_returns
  exact ⟨rett rfl (by rfl), by (repeat' (first | with_reducible exact Ext.refl _ | with_reducible refine Ext.ext ?_ _ | with_reducible refine Ext.alloc ?_ _ | with_reducible refine Ext.drew ?_ | with_reducible refine Ext.drewN ?_ _ | with_reducible assumption))⟩

set_option maxHeartbeats 400000 in
theorem step_leave_1 (a : Int) (w : World) (h : rightB ⟨1, a, 0, 0, 0⟩ = true) :
    Calls Try.prog 18 #[.agg #[.int .i64 1, .int .i64 a, .int .i64 0, .int .i64 0, .int .i64 0], .int .i64 1] w fun r w' => r = .returned (.tuple #[tv (ofT []), .bool (ofB [])]) ∧ Ext w w' := by
  have H := Lib.hid h
  clear h
  go_enter Try.func18, Try.ntmps18
  go_wp2_with fail
  refine (list_yes _ _ _ _ _ _ H.out).mono ?_
  rintro r w' ⟨g, cap, rfl, ⟨x, rfl⟩, ho⟩
  have hp : pre ⟨1, a, 0, 0, 0⟩ 4 = [a] := rfl
  rw [hp] at ho
  clear hp
  obtain ⟨hg1, hg2⟩ := own_lt ho
  have hcap : (1 : Int) ≤ (cap : Int) := by have := own_le ho; omega
  have HO := Lib.hid ho
  clear ho
  go_wp2_with fail
  have ho := HO.out
  have hg4 := hg2
  refine (of_out _ _ _ _ (by decide)).mono ?_
  rintro r w' ⟨rfl, z, rfl⟩
  have HZ := Lib.hid hg4
  clear hg4
  go_wp2
  go_returns
  exact ⟨rett rfl (by rfl), by (repeat' (first | with_reducible exact Ext.refl _ | with_reducible refine Ext.ext ?_ _ | with_reducible refine Ext.alloc ?_ _ | with_reducible refine Ext.drew ?_ | with_reducible refine Ext.drewN ?_ _ | with_reducible assumption))⟩

set_option maxHeartbeats 400000 in
theorem step_leave_2 (a b : Int) (w : World) (h : rightB ⟨2, a, b, 0, 0⟩ = true) :
    Calls Try.prog 18 #[.agg #[.int .i64 2, .int .i64 a, .int .i64 b, .int .i64 0, .int .i64 0], .int .i64 1] w fun r w' => r = .returned (.tuple #[tv (ofT [a]), .bool (ofB [a])]) ∧ Ext w w' := by
  have H := Lib.hid h
  clear h
  go_enter Try.func18, Try.ntmps18
  go_wp2_with fail
  refine (list_yes _ _ _ _ _ _ H.out).mono ?_
  rintro r w' ⟨g, cap, rfl, ⟨x, rfl⟩, ho⟩
  have hp : pre ⟨2, a, b, 0, 0⟩ 4 = [a, b] := rfl
  rw [hp] at ho
  clear hp
  obtain ⟨hg1, hg2⟩ := own_lt ho
  have hcap : (2 : Int) ≤ (cap : Int) := by have := own_le ho; omega
  have HO := Lib.hid ho
  clear ho
  go_wp2_with fail
  have ho := HO.out
  have hg4 := hg2
  have k0 := own_cells ho 0 (by decide) (a) rfl
  refine (of_1 (a) g 0 cap _ hg4 k0).mono ?_
  rintro r w' ⟨rfl, z, rfl⟩
  have HZ := Lib.hid hg4
  clear hg4
  go_wp2
  go_returns
  exact ⟨rett rfl (by rfl), by (repeat' (first | with_reducible exact Ext.refl _ | with_reducible refine Ext.ext ?_ _ | with_reducible refine Ext.alloc ?_ _ | with_reducible refine Ext.drew ?_ | with_reducible refine Ext.drewN ?_ _ | with_reducible assumption))⟩

set_option maxHeartbeats 400000 in
theorem step_leave_3 (a b c : Int) (w : World) (h : rightB ⟨3, a, b, c, 0⟩ = true) :
    Calls Try.prog 18 #[.agg #[.int .i64 3, .int .i64 a, .int .i64 b, .int .i64 c, .int .i64 0], .int .i64 1] w fun r w' => r = .returned (.tuple #[tv (ofT [a, b]), .bool (ofB [a, b])]) ∧ Ext w w' := by
  have H := Lib.hid h
  clear h
  go_enter Try.func18, Try.ntmps18
  go_wp2_with fail
  refine (list_yes _ _ _ _ _ _ H.out).mono ?_
  rintro r w' ⟨g, cap, rfl, ⟨x, rfl⟩, ho⟩
  have hp : pre ⟨3, a, b, c, 0⟩ 4 = [a, b, c] := rfl
  rw [hp] at ho
  clear hp
  obtain ⟨hg1, hg2⟩ := own_lt ho
  have hcap : (3 : Int) ≤ (cap : Int) := by have := own_le ho; omega
  have HO := Lib.hid ho
  clear ho
  go_wp2_with fail
  have ho := HO.out
  have hg4 := hg2
  have k0 := own_cells ho 0 (by decide) (a) rfl
  have k1 := own_cells ho 1 (by decide) (b) rfl
  refine (of_2 (a) (b) g 0 cap _ hg4 k0 k1).mono ?_
  rintro r w' ⟨rfl, z, rfl⟩
  have HZ := Lib.hid hg4
  clear hg4
  go_wp2
  go_returns
  exact ⟨rett rfl (by rfl), by (repeat' (first | with_reducible exact Ext.refl _ | with_reducible refine Ext.ext ?_ _ | with_reducible refine Ext.alloc ?_ _ | with_reducible refine Ext.drew ?_ | with_reducible refine Ext.drewN ?_ _ | with_reducible assumption))⟩

set_option maxHeartbeats 400000 in
theorem step_leave_4 (a b c e : Int) (w : World) (h : rightB ⟨4, a, b, c, e⟩ = true) :
    Calls Try.prog 18 #[.agg #[.int .i64 4, .int .i64 a, .int .i64 b, .int .i64 c, .int .i64 e], .int .i64 1] w fun r w' => r = .returned (.tuple #[tv (ofT [a, b, c]), .bool (ofB [a, b, c])]) ∧ Ext w w' := by
  have H := Lib.hid h
  clear h
  go_enter Try.func18, Try.ntmps18
  go_wp2_with fail
  refine (list_yes _ _ _ _ _ _ H.out).mono ?_
  rintro r w' ⟨g, cap, rfl, ⟨x, rfl⟩, ho⟩
  have hp : pre ⟨4, a, b, c, e⟩ 4 = [a, b, c, e] := rfl
  rw [hp] at ho
  clear hp
  obtain ⟨hg1, hg2⟩ := own_lt ho
  have hcap : (4 : Int) ≤ (cap : Int) := by have := own_le ho; omega
  have HO := Lib.hid ho
  clear ho
  go_wp2_with fail
  have ho := HO.out
  have hg4 := hg2
  have k0 := own_cells ho 0 (by decide) (a) rfl
  have k1 := own_cells ho 1 (by decide) (b) rfl
  have k2 := own_cells ho 2 (by decide) (c) rfl
  refine (of_3 (a) (b) (c) g 0 cap _ hg4 k0 k1 k2).mono ?_
  rintro r w' ⟨rfl, z, rfl⟩
  have HZ := Lib.hid hg4
  clear hg4
  go_wp2
  go_returns
  exact ⟨rett rfl (by rfl), by (repeat' (first | with_reducible exact Ext.refl _ | with_reducible refine Ext.ext ?_ _ | with_reducible refine Ext.alloc ?_ _ | with_reducible refine Ext.drew ?_ | with_reducible refine Ext.drewN ?_ _ | with_reducible assumption))⟩

set_option maxHeartbeats 400000 in
theorem step_next_1 (a : Int) (w : World) (h : rightB ⟨1, a, 0, 0, 0⟩ = true) (hl : 0 ≤ a) (hl' : a ≤ 1048576) :
    Calls Try.prog 18 #[.agg #[.int .i64 1, .int .i64 a, .int .i64 0, .int .i64 0, .int .i64 0], .int .i64 2] w fun r w' => r = .returned (.tuple #[tv (ofT [a + 1]), .bool (ofB [a + 1])]) ∧ Ext w w' := by
  have H := Lib.hid h
  clear h
  go_enter Try.func18, Try.ntmps18
  go_wp2_with fail
  refine (list_yes _ _ _ _ _ _ H.out).mono ?_
  rintro r w' ⟨g, cap, rfl, ⟨x, rfl⟩, ho⟩
  have hp : pre ⟨1, a, 0, 0, 0⟩ 4 = [a] := rfl
  rw [hp] at ho
  clear hp
  obtain ⟨hg1, hg2⟩ := own_lt ho
  have k0 := own_cells ho 0 (by decide) a rfl
  have HO := Lib.hid ho
  clear ho
  go_wp2_with (refine wpList_store_row rfl _ _ 3 rfl ((w.alloc (.cells #[.int .i64 1, .int .i64 a, .int .i64 0, .int .i64 0, .int .i64 0] 29)).alloc (.cells #[.int .i64 0, .int .i64 0, .int .i64 0, .int .i64 0, .int .i64 0] 29)) x _ _ 1 1 cap g _ HO.out 0 (.int .i64 (a + 1)) rfl rfl [.int .i64 (a + 1)] rfl (by simp [Value.oneCell']) (by kernel_rfl) (by (first | (simp; done) | (simp; omega) | omega)) (by (first | (simp; done) | (simp; omega) | omega)) ?_; intro y ho1)
  have ho2 : (ext _ y).ownsRow _ _ _ _ _ (ints [a + 1]) := ho1
  obtain ⟨hg3, hg4⟩ := own_lt ho2
  have k0 := own_cells ho2 0 (by decide) (a + 1) rfl
  refine (of_1 (a + 1) g 0 cap _ hg4 k0).mono ?_
  rintro r w' ⟨rfl, z, rfl⟩
  have HZ := Lib.hid hg4
  clear hg4
  go_wp2
  go_returns
  exact ⟨rett rfl (by rfl), by (repeat' (first | with_reducible exact Ext.refl _ | with_reducible refine Ext.ext ?_ _ | with_reducible refine Ext.alloc ?_ _ | with_reducible refine Ext.drew ?_ | with_reducible refine Ext.drewN ?_ _ | with_reducible assumption))⟩

set_option maxHeartbeats 400000 in
theorem step_next_2 (a b : Int) (w : World) (h : rightB ⟨2, a, b, 0, 0⟩ = true) (hl : 0 ≤ b) (hl' : b ≤ 1048576) :
    Calls Try.prog 18 #[.agg #[.int .i64 2, .int .i64 a, .int .i64 b, .int .i64 0, .int .i64 0], .int .i64 2] w fun r w' => r = .returned (.tuple #[tv (ofT [a, b + 1]), .bool (ofB [a, b + 1])]) ∧ Ext w w' := by
  have H := Lib.hid h
  clear h
  go_enter Try.func18, Try.ntmps18
  go_wp2_with fail
  refine (list_yes _ _ _ _ _ _ H.out).mono ?_
  rintro r w' ⟨g, cap, rfl, ⟨x, rfl⟩, ho⟩
  have hp : pre ⟨2, a, b, 0, 0⟩ 4 = [a, b] := rfl
  rw [hp] at ho
  clear hp
  obtain ⟨hg1, hg2⟩ := own_lt ho
  have k1 := own_cells ho 1 (by decide) b rfl
  have HO := Lib.hid ho
  clear ho
  go_wp2_with (refine wpList_store_row rfl _ _ 3 rfl ((w.alloc (.cells #[.int .i64 2, .int .i64 a, .int .i64 b, .int .i64 0, .int .i64 0] 29)).alloc (.cells #[.int .i64 0, .int .i64 0, .int .i64 0, .int .i64 0, .int .i64 0] 29)) x _ _ 1 2 cap g _ HO.out 1 (.int .i64 (b + 1)) rfl rfl [.int .i64 (b + 1)] rfl (by simp [Value.oneCell']) (by kernel_rfl) (by (first | (simp; done) | (simp; omega) | omega)) (by (first | (simp; done) | (simp; omega) | omega)) ?_; intro y ho1)
  have ho2 : (ext _ y).ownsRow _ _ _ _ _ (ints [a, b + 1]) := ho1
  obtain ⟨hg3, hg4⟩ := own_lt ho2
  have k0 := own_cells ho2 0 (by decide) (a) rfl
  have k1 := own_cells ho2 1 (by decide) (b + 1) rfl
  refine (of_2 (a) (b + 1) g 0 cap _ hg4 k0 k1).mono ?_
  rintro r w' ⟨rfl, z, rfl⟩
  have HZ := Lib.hid hg4
  clear hg4
  go_wp2
  go_returns
  exact ⟨rett rfl (by rfl), by (repeat' (first | with_reducible exact Ext.refl _ | with_reducible refine Ext.ext ?_ _ | with_reducible refine Ext.alloc ?_ _ | with_reducible refine Ext.drew ?_ | with_reducible refine Ext.drewN ?_ _ | with_reducible assumption))⟩

set_option maxHeartbeats 400000 in
theorem step_next_3 (a b c : Int) (w : World) (h : rightB ⟨3, a, b, c, 0⟩ = true) (hl : 0 ≤ c) (hl' : c ≤ 1048576) :
    Calls Try.prog 18 #[.agg #[.int .i64 3, .int .i64 a, .int .i64 b, .int .i64 c, .int .i64 0], .int .i64 2] w fun r w' => r = .returned (.tuple #[tv (ofT [a, b, c + 1]), .bool (ofB [a, b, c + 1])]) ∧ Ext w w' := by
  have H := Lib.hid h
  clear h
  go_enter Try.func18, Try.ntmps18
  go_wp2_with fail
  refine (list_yes _ _ _ _ _ _ H.out).mono ?_
  rintro r w' ⟨g, cap, rfl, ⟨x, rfl⟩, ho⟩
  have hp : pre ⟨3, a, b, c, 0⟩ 4 = [a, b, c] := rfl
  rw [hp] at ho
  clear hp
  obtain ⟨hg1, hg2⟩ := own_lt ho
  have k2 := own_cells ho 2 (by decide) c rfl
  have HO := Lib.hid ho
  clear ho
  go_wp2_with (refine wpList_store_row rfl _ _ 3 rfl ((w.alloc (.cells #[.int .i64 3, .int .i64 a, .int .i64 b, .int .i64 c, .int .i64 0] 29)).alloc (.cells #[.int .i64 0, .int .i64 0, .int .i64 0, .int .i64 0, .int .i64 0] 29)) x _ _ 1 3 cap g _ HO.out 2 (.int .i64 (c + 1)) rfl rfl [.int .i64 (c + 1)] rfl (by simp [Value.oneCell']) (by kernel_rfl) (by (first | (simp; done) | (simp; omega) | omega)) (by (first | (simp; done) | (simp; omega) | omega)) ?_; intro y ho1)
  have ho2 : (ext _ y).ownsRow _ _ _ _ _ (ints [a, b, c + 1]) := ho1
  obtain ⟨hg3, hg4⟩ := own_lt ho2
  have k0 := own_cells ho2 0 (by decide) (a) rfl
  have k1 := own_cells ho2 1 (by decide) (b) rfl
  have k2 := own_cells ho2 2 (by decide) (c + 1) rfl
  refine (of_3 (a) (b) (c + 1) g 0 cap _ hg4 k0 k1 k2).mono ?_
  rintro r w' ⟨rfl, z, rfl⟩
  have HZ := Lib.hid hg4
  clear hg4
  go_wp2
  go_returns
  exact ⟨rett rfl (by rfl), by (repeat' (first | with_reducible exact Ext.refl _ | with_reducible refine Ext.ext ?_ _ | with_reducible refine Ext.alloc ?_ _ | with_reducible refine Ext.drew ?_ | with_reducible refine Ext.drewN ?_ _ | with_reducible assumption))⟩

set_option maxHeartbeats 400000 in
theorem step_next_4 (a b c e : Int) (w : World) (h : rightB ⟨4, a, b, c, e⟩ = true) (hl : 0 ≤ e) (hl' : e ≤ 1048576) :
    Calls Try.prog 18 #[.agg #[.int .i64 4, .int .i64 a, .int .i64 b, .int .i64 c, .int .i64 e], .int .i64 2] w fun r w' => r = .returned (.tuple #[tv (ofT [a, b, c, e + 1]), .bool (ofB [a, b, c, e + 1])]) ∧ Ext w w' := by
  have H := Lib.hid h
  clear h
  go_enter Try.func18, Try.ntmps18
  go_wp2_with fail
  refine (list_yes _ _ _ _ _ _ H.out).mono ?_
  rintro r w' ⟨g, cap, rfl, ⟨x, rfl⟩, ho⟩
  have hp : pre ⟨4, a, b, c, e⟩ 4 = [a, b, c, e] := rfl
  rw [hp] at ho
  clear hp
  obtain ⟨hg1, hg2⟩ := own_lt ho
  have k3 := own_cells ho 3 (by decide) e rfl
  have HO := Lib.hid ho
  clear ho
  go_wp2_with (refine wpList_store_row rfl _ _ 3 rfl ((w.alloc (.cells #[.int .i64 4, .int .i64 a, .int .i64 b, .int .i64 c, .int .i64 e] 29)).alloc (.cells #[.int .i64 0, .int .i64 0, .int .i64 0, .int .i64 0, .int .i64 0] 29)) x _ _ 1 4 cap g _ HO.out 3 (.int .i64 (e + 1)) rfl rfl [.int .i64 (e + 1)] rfl (by simp [Value.oneCell']) (by kernel_rfl) (by (first | (simp; done) | (simp; omega) | omega)) (by (first | (simp; done) | (simp; omega) | omega)) ?_; intro y ho1)
  have ho2 : (ext _ y).ownsRow _ _ _ _ _ (ints [a, b, c, e + 1]) := ho1
  obtain ⟨hg3, hg4⟩ := own_lt ho2
  have k0 := own_cells ho2 0 (by decide) (a) rfl
  have k1 := own_cells ho2 1 (by decide) (b) rfl
  have k2 := own_cells ho2 2 (by decide) (c) rfl
  have k3 := own_cells ho2 3 (by decide) (e + 1) rfl
  refine (of_4 (a) (b) (c) (e + 1) g 0 cap _ hg4 k0 k1 k2 k3).mono ?_
  rintro r w' ⟨rfl, z, rfl⟩
  have HZ := Lib.hid hg4
  clear hg4
  go_wp2
  go_returns
  exact ⟨rett rfl (by rfl), by (repeat' (first | with_reducible exact Ext.refl _ | with_reducible refine Ext.ext ?_ _ | with_reducible refine Ext.alloc ?_ _ | with_reducible refine Ext.drew ?_ | with_reducible refine Ext.drewN ?_ _ | with_reducible assumption))⟩

end Go.Proofs.Ytfdgeomomafnbaa
