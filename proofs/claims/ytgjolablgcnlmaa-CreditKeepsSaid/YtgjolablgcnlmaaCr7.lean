/- The walk of CreditKeeps. -/
import Derived.Test.YtgjolablgcnlmaaCr6
import Derived.Test.YtgjolablgcnlmaaOpenSl
namespace Go.Proofs.Ytgjolablgcnlmaa
set_option linter.unusedSimpArgs false
set_option linter.unusedVariables false
open Go.RowKit

theorem LaneN.low {B B' : Nat} {a1 : Option Addr} {c1 : Nat} {a2 : Option Addr} {c2 : Nat} {l : Ln} (h : LaneN B a1 c1 a2 c2 l) (hb : B' ≤ B) : LaneN B' a1 c1 a2 c2 l := ⟨h.1.low hb, h.2.low hb⟩

theorem LaneV.swap_al {W1 W2 : World} {x z y : Inc} {o : Obj} {B : Nat} {a1 : Option Addr} {c1 : Nat} {a2 : Option Addr} {c2 : Nat} {l : Ln} (h : LaneV (ext W1 x) a1 c1 a2 c2 l) (hn : LaneN B a1 c1 a2 c2 l) (hs : W1.heap.size = W2.heap.size) (hb : W1.heap.size ≤ B) (hz : z = x ∨ ∃ y, z = x.add y) : LaneV (ext ((ext W2 z).alloc o) y) a1 c1 a2 c2 l :=
  (h.swap hn hs hb hz).of_ext (by (repeat' (first | with_reducible exact Ext.refl _ | with_reducible refine Ext.ext ?_ _ | with_reducible refine Ext.alloc ?_ _ | with_reducible refine Ext.drew ?_ | with_reducible refine Ext.drewN ?_ _ | with_reducible assumption)))

set_option maxRecDepth 100000 in
set_option maxHeartbeats 20000000 in
theorem walk_CreditKeeps (n : Int) (hn : 0 ≤ n ∧ n ≤ 255) (a : Option Addr) (cap : Nat) (xs : List Int) (w : World) (h : Ri w .u8 (.slice a xs.length cap) xs) (hx : ∀ x ∈ xs, 0 ≤ x ∧ x ≤ 255) (hl : xs.length ≤ maxLen) :
    Calls Try.prog 4 #[.int .u8 n, .slice a xs.length cap] w fun r w' => r = .returned (.bool true) ∧ Ext w w' := by
  obtain ⟨n0, n1⟩ := hn
  have H := Lib.hid h
  have HX := Lib.hid hx
  have HL := Lib.hid hl
  unfold maxLen at hl
  clear h hx
  by_cases h0 : n = 0
  · subst h0
    go_enter Try.func4, Try.ntmps4
    go_wp2_with (first | (go_at_call 8; refine (awake35 _).mono ?_; rintro e w' ⟨rfl, x0, rfl⟩) | (go_at_call 9; refine (crNew_any _ _).mono ?_; rintro e w' ⟨rfl, x1, rfl⟩))
    go_returns
    exact ⟨retb rfl rfl, by (repeat' (first | with_reducible exact Ext.refl _ | with_reducible refine Ext.ext ?_ _ | with_reducible refine Ext.alloc ?_ _ | with_reducible refine Ext.drew ?_ | with_reducible refine Ext.drewN ?_ _ | with_reducible assumption))⟩
  · have hn1 : 1 ≤ n := by omega
    have hc : (1 ≤ n ∧ n ≤ 4096) := by omega
    go_enter Try.func4, Try.ntmps4
    go_wp2_with (first | (go_at_call 8; refine (awake35 _).mono ?_; rintro e w' ⟨rfl, x0, rfl⟩) | (go_at_call 9; refine (crNew_any _ _).mono ?_; simp only [hc, and_self, if_true]; rintro e w' ⟨rfl, x1, rfl⟩))
    go_loopw [7, 8, 9] (fun st tk i wr => ∃ (k : Nat) (s t : Int) (l : Ln) (a1 : Option Addr) (c1 : Nat) (a2 : Option Addr) (c2 : Nat) (_ : True), k ≤ xs.length ∧ k ≤ 200 ∧ s ≤ k ∧ Keeps l n s t ∧ i = .int .i64 k ∧ st = .int .i64 s ∧ tk = .int .i64 t ∧ Ext ((ext w (x0.add x1)).alloc (.cells #[.int .i64 l.s, .int .i64 l.m, .slice a1 l.way.length c1, .slice a2 l.waits.length c2, .int .i64 l.b] 24)) wr ∧ LaneV wr a1 c1 a2 c2 l ∧ LaneN (w.heap.size + (x0.add x1).hs.length + 1) a1 c1 a2 c2 l) (fun _ _ i _ => 200 - (intOf i).toNat)
    case atStart =>
      exact ⟨0, 0, 0, ⟨n, n, 0, [], []⟩, none, 0, none, 0, trivial, by omega, by omega, by omega, Keeps.new n hn1 n1, rfl, rfl, rfl, Ext.refl _, laneV_empty _ _ _ _, trivial, trivial⟩
    case round =>
      obtain ⟨k, s, t, l, a1, c1, a2, c2, _, hk1, hk2, hsk, K, rfl, rfl, rfl, ⟨z, rfl⟩, hlv, hln⟩ := hrel
      have HV := Lib.hid (And.intro hlv hln)
      have HK := Lib.hid K
      clear hlv hln K
      by_cases hk : k < xs.length ∧ k < 200
      · obtain ⟨hk3, hk4⟩ := hk
        obtain ⟨_, _, hf, ha⟩ := H.out.form
        obtain ⟨rfl, _, rfl⟩ := Value.slice.inj hf
        obtain ⟨b, off, rfl⟩ := ha (by omega)
        have hcell := H.out.cell k hk3
        have hb := World.block_lt_of_cell? _ _ hcell
        haveI : LtSz b w.heap.size := ⟨hb⟩
        obtain ⟨v0, v1⟩ := HX.out xs[k] (List.getElem_mem _)
        generalize xs[k] = v at hcell v0 v1
        have hr : v % 4 = 0 ∨ v % 4 = 1 ∨ v % 4 = 2 ∨ v % 4 = 3 := by omega
        have t0 := HK.out.t0
        have ts := HK.out.ts
        rcases hr with hr | hr | hr | hr
        · rcases HK.out.send with ⟨hm, K'⟩ | ⟨hm, K'⟩
          · have HM := Lib.hid hm
            clear hm
            generalize hl' : sendN l (s + 1) = l' at K'
            have HL' := Lib.hid hl'
            have HK' := Lib.hid K'
            have HR := Lib.hid K'.right
            obtain ⟨p1, p2⟩ := K'.short
            have ts' := K'.ts
            have e1 : decide (n < (l'.way.length : Int) + l'.waits.length) = false := by have := K'.many; have := K'.sum; have := K'.m0; have := K'.b0; simp; omega
            have e2 : ((s + 1 - t : Int) != (l'.way.length : Int) + l'.waits.length) = false := by have := K'.many; simp; omega
            clear hl' K'
            go_wp2_with (go_at_call 13; apply stop_here)
            unfold Stop
            refine (lane_as (l' := l') (G := fun v e => e = .returned (.tuple #[v, .int .i64 0])) (send_any l a1 a2 c1 c2 _ (HV.out.1.of_ext (by (repeat' (first | with_reducible exact Ext.refl _ | with_reducible refine Ext.ext ?_ _ | with_reducible refine Ext.alloc ?_ _ | with_reducible refine Ext.drew ?_ | with_reducible refine Ext.drewN ?_ _ | with_reducible assumption)))) (by have := HK.out.short; omega) (by have := HK.out.short; omega) (s + 1)) HL'.out (fun _ _ h => by rw [HM.out] at h; exact h)).mono ?_
            rintro e w' ⟨b1, d1, b2, d2, rfl, ⟨x2, rfl⟩, hl2⟩
            (try simp only [ext_ext, add_assoc, ext_drew, ext_drewN, drew_ext, drewN_ext] at hl2)
            have HL2 := Lib.hid hl2
            clear hl2
            go_wp2_with (go_at_call 12; refine (crRight_any _ _ _ _ _ _ _ _ _ _ (by omega) (by omega)).mono ?_; rw [show rightL l'.s l'.m l'.b l'.way.length l'.waits.length = true from HR.out]; rintro e w' ⟨rfl, x3, rfl⟩)
            refine ⟨⟨k + 1, s + 1, t, l', b1, d1, b2, d2, trivial, by omega, by omega, by omega, HK'.out, by go_num, rfl, rfl, by (repeat' (first | with_reducible exact Ext.refl _ | with_reducible refine Ext.ext ?_ _ | with_reducible refine Ext.alloc ?_ _ | with_reducible refine Ext.drew ?_ | with_reducible refine Ext.drewN ?_ _ | with_reducible assumption)), HL2.out.1.swap_al HL2.out.2 (by simp) (by simp) (by first | exact .inl rfl | exact .inr ⟨_, rfl⟩ | exact .inr ⟨_, (add_assoc _ _ _).symm⟩), HL2.out.2.low (by simp)⟩, by simp [intOf]; omega⟩
          · have HM := Lib.hid hm
            clear hm
            generalize hl' : sendN l (s + 1) = l' at K'
            have HL' := Lib.hid hl'
            have HK' := Lib.hid K'
            have HR := Lib.hid K'.right
            obtain ⟨p1, p2⟩ := K'.short
            have ts' := K'.ts
            have e1 : decide (n < (l'.way.length : Int) + l'.waits.length) = false := by have := K'.many; have := K'.sum; have := K'.m0; have := K'.b0; simp; omega
            have e2 : ((s - t : Int) != (l'.way.length : Int) + l'.waits.length) = false := by have := K'.many; simp; omega
            clear hl' K'
            go_wp2_with (go_at_call 13; apply stop_here)
            unfold Stop
            refine (lane_as (l' := l') (G := fun v e => e = .returned (.tuple #[v, .int .i64 9])) (send_any l a1 a2 c1 c2 _ (HV.out.1.of_ext (by (repeat' (first | with_reducible exact Ext.refl _ | with_reducible refine Ext.ext ?_ _ | with_reducible refine Ext.alloc ?_ _ | with_reducible refine Ext.drew ?_ | with_reducible refine Ext.drewN ?_ _ | with_reducible assumption)))) (by have := HK.out.short; omega) (by have := HK.out.short; omega) (s + 1)) HL'.out (fun _ _ h => by rw [HM.out] at h; exact h)).mono ?_
            rintro e w' ⟨b1, d1, b2, d2, rfl, ⟨x2, rfl⟩, hl2⟩
            (try simp only [ext_ext, add_assoc, ext_drew, ext_drewN, drew_ext, drewN_ext] at hl2)
            have HL2 := Lib.hid hl2
            clear hl2
            go_wp2_with (go_at_call 12; refine (crRight_any _ _ _ _ _ _ _ _ _ _ (by omega) (by omega)).mono ?_; rw [show rightL l'.s l'.m l'.b l'.way.length l'.waits.length = true from HR.out]; rintro e w' ⟨rfl, x3, rfl⟩)
            refine ⟨⟨k + 1, s, t, l', b1, d1, b2, d2, trivial, by omega, by omega, by omega, HK'.out, by go_num, rfl, rfl, by (repeat' (first | with_reducible exact Ext.refl _ | with_reducible refine Ext.ext ?_ _ | with_reducible refine Ext.alloc ?_ _ | with_reducible refine Ext.drew ?_ | with_reducible refine Ext.drewN ?_ _ | with_reducible assumption)), HL2.out.1.swap_al HL2.out.2 (by simp) (by simp) (by first | exact .inl rfl | exact .inr ⟨_, rfl⟩ | exact .inr ⟨_, (add_assoc _ _ _).symm⟩), HL2.out.2.low (by simp)⟩, by simp [intOf]; omega⟩
        · have K' := HK.out.arrive.1
          generalize hl' : arriveN l = l' at K'
          have HL' := Lib.hid hl'
          have HK' := Lib.hid K'
          have HR := Lib.hid K'.right
          obtain ⟨p1, p2⟩ := K'.short
          have ts' := K'.ts
          have e1 : decide (n < (l'.way.length : Int) + l'.waits.length) = false := by have := K'.many; have := K'.sum; have := K'.m0; have := K'.b0; simp; omega
          have e2 : ((s - t : Int) != (l'.way.length : Int) + l'.waits.length) = false := by have := K'.many; simp; omega
          clear hl' K'
          go_wp2_with (go_at_call 14; apply stop_here)
          unfold Stop
          refine (lane_as (l' := l') (G := fun v e => e = .returned (.tuple #[v, .int .i64 (mayN l l.way.length 12)])) (arrive_any l a1 a2 c1 c2 _ (HV.out.1.of_ext (by (repeat' (first | with_reducible exact Ext.refl _ | with_reducible refine Ext.ext ?_ _ | with_reducible refine Ext.alloc ?_ _ | with_reducible refine Ext.drew ?_ | with_reducible refine Ext.drewN ?_ _ | with_reducible assumption)))) (by have := HK.out.short; omega) (by have := HK.out.short; omega)) HL'.out (fun _ _ h => h)).mono ?_
          rintro e w' ⟨b1, d1, b2, d2, rfl, ⟨x2, rfl⟩, hl2⟩
          (try simp only [ext_ext, add_assoc, ext_drew, ext_drewN, drew_ext, drewN_ext] at hl2)
          have HL2 := Lib.hid hl2
          clear hl2
          go_wp2_with (go_at_call 12; refine (crRight_any _ _ _ _ _ _ _ _ _ _ (by omega) (by omega)).mono ?_; rw [show rightL l'.s l'.m l'.b l'.way.length l'.waits.length = true from HR.out]; rintro e w' ⟨rfl, x3, rfl⟩)
          refine ⟨⟨k + 1, s, t, l', b1, d1, b2, d2, trivial, by omega, by omega, by omega, HK'.out, by go_num, rfl, rfl, by (repeat' (first | with_reducible exact Ext.refl _ | with_reducible refine Ext.ext ?_ _ | with_reducible refine Ext.alloc ?_ _ | with_reducible refine Ext.drew ?_ | with_reducible refine Ext.drewN ?_ _ | with_reducible assumption)), HL2.out.1.swap HL2.out.2 (by simp) (by simp) (by first | exact .inl rfl | exact .inr ⟨_, rfl⟩ | exact .inr ⟨_, (add_assoc _ _ _).symm⟩), HL2.out.2.low (by simp)⟩, by simp [intOf]; omega⟩
        · rcases HK.out.take with ⟨hm, hk, K', -⟩ | ⟨hm, hl', -⟩
          · have HM := Lib.hid hm
            clear hm
            have HKK := Lib.hid hk
            clear hk
            generalize hl' : takeN l = l' at K'
            have HL' := Lib.hid hl'
            have HK' := Lib.hid K'
            have HR := Lib.hid K'.right
            obtain ⟨p1, p2⟩ := K'.short
            have ts' := K'.ts
            have e1 : decide (n < (l'.way.length : Int) + l'.waits.length) = false := by have := K'.many; have := K'.sum; have := K'.m0; have := K'.b0; simp; omega
            have e2 : ((s - (t + 1) : Int) != (l'.way.length : Int) + l'.waits.length) = false := by have := K'.many; simp; omega
            clear hl' K'
            go_wp2_with (go_at_call 15; apply stop_here)
            unfold Stop
            refine (lane_as (l' := l') (G := fun v e => e = .returned (.tuple #[v, .int .i64 (t + 1), .int .i64 0])) (take_any l a1 a2 c1 c2 _ (HV.out.1.of_ext (by (repeat' (first | with_reducible exact Ext.refl _ | with_reducible refine Ext.ext ?_ _ | with_reducible refine Ext.alloc ?_ _ | with_reducible refine Ext.drew ?_ | with_reducible refine Ext.drewN ?_ _ | with_reducible assumption)))) (by have := HK.out.short; omega) (by have := HK.out.short; omega)) HL'.out (fun _ _ h => by rw [HM.out, HKK.out] at h; exact h)).mono ?_
            rintro e w' ⟨b1, d1, b2, d2, rfl, ⟨x2, rfl⟩, hl2⟩
            (try simp only [ext_ext, add_assoc, ext_drew, ext_drewN, drew_ext, drewN_ext] at hl2)
            have HL2 := Lib.hid hl2
            clear hl2
            go_wp2_with (go_at_call 12; refine (crRight_any _ _ _ _ _ _ _ _ _ _ (by omega) (by omega)).mono ?_; rw [show rightL l'.s l'.m l'.b l'.way.length l'.waits.length = true from HR.out]; rintro e w' ⟨rfl, x3, rfl⟩)
            refine ⟨⟨k + 1, s, t + 1, l', b1, d1, b2, d2, trivial, by omega, by omega, by omega, HK'.out, by go_num, rfl, rfl, by (repeat' (first | with_reducible exact Ext.refl _ | with_reducible refine Ext.ext ?_ _ | with_reducible refine Ext.alloc ?_ _ | with_reducible refine Ext.drew ?_ | with_reducible refine Ext.drewN ?_ _ | with_reducible assumption)), HL2.out.1.swap_al HL2.out.2 (by simp) (by simp) (by first | exact .inl rfl | exact .inr ⟨_, rfl⟩ | exact .inr ⟨_, (add_assoc _ _ _).symm⟩), HL2.out.2.low (by simp)⟩, by simp [intOf]; omega⟩
          · have K' : Keeps (takeN l) n s t := by rw [hl']; exact HK.out
            clear hl'
            have HM := Lib.hid hm
            clear hm
            generalize hl' : takeN l = l' at K'
            have HL' := Lib.hid hl'
            have HK' := Lib.hid K'
            have HR := Lib.hid K'.right
            obtain ⟨p1, p2⟩ := K'.short
            have ts' := K'.ts
            have e1 : decide (n < (l'.way.length : Int) + l'.waits.length) = false := by have := K'.many; have := K'.sum; have := K'.m0; have := K'.b0; simp; omega
            have e2 : ((s - t : Int) != (l'.way.length : Int) + l'.waits.length) = false := by have := K'.many; simp; omega
            clear hl' K'
            go_wp2_with (go_at_call 15; apply stop_here)
            unfold Stop
            refine (lane_as (l' := l') (G := fun v e => e = .returned (.tuple #[v, .int .i64 (tookN l), .int .i64 12])) (take_any l a1 a2 c1 c2 _ (HV.out.1.of_ext (by (repeat' (first | with_reducible exact Ext.refl _ | with_reducible refine Ext.ext ?_ _ | with_reducible refine Ext.alloc ?_ _ | with_reducible refine Ext.drew ?_ | with_reducible refine Ext.drewN ?_ _ | with_reducible assumption)))) (by have := HK.out.short; omega) (by have := HK.out.short; omega)) HL'.out (fun _ _ h => by rw [HM.out] at h; exact h)).mono ?_
            rintro e w' ⟨b1, d1, b2, d2, rfl, ⟨x2, rfl⟩, hl2⟩
            (try simp only [ext_ext, add_assoc, ext_drew, ext_drewN, drew_ext, drewN_ext] at hl2)
            have HL2 := Lib.hid hl2
            clear hl2
            go_wp2_with (go_at_call 12; refine (crRight_any _ _ _ _ _ _ _ _ _ _ (by omega) (by omega)).mono ?_; rw [show rightL l'.s l'.m l'.b l'.way.length l'.waits.length = true from HR.out]; rintro e w' ⟨rfl, x3, rfl⟩)
            refine ⟨⟨k + 1, s, t, l', b1, d1, b2, d2, trivial, by omega, by omega, by omega, HK'.out, by go_num, rfl, rfl, by (repeat' (first | with_reducible exact Ext.refl _ | with_reducible refine Ext.ext ?_ _ | with_reducible refine Ext.alloc ?_ _ | with_reducible refine Ext.drew ?_ | with_reducible refine Ext.drewN ?_ _ | with_reducible assumption)), HL2.out.1.swap_al HL2.out.2 (by simp) (by simp) (by first | exact .inl rfl | exact .inr ⟨_, rfl⟩ | exact .inr ⟨_, (add_assoc _ _ _).symm⟩), HL2.out.2.low (by simp)⟩, by simp [intOf]; omega⟩
        · have K' := HK.out.back.1
          generalize hl' : returnN l = l' at K'
          have HL' := Lib.hid hl'
          have HK' := Lib.hid K'
          have HR := Lib.hid K'.right
          obtain ⟨p1, p2⟩ := K'.short
          have ts' := K'.ts
          have e1 : decide (n < (l'.way.length : Int) + l'.waits.length) = false := by have := K'.many; have := K'.sum; have := K'.m0; have := K'.b0; simp; omega
          have e2 : ((s - t : Int) != (l'.way.length : Int) + l'.waits.length) = false := by have := K'.many; simp; omega
          clear hl' K'
          go_wp2_with (go_at_call 16; apply stop_here)
          unfold Stop
          refine (lane_as (l' := l') (G := fun v e => e = .returned (.tuple #[v, .int .i64 (mayN l l.b 12)])) (return_any l a1 a2 c1 c2 _ (HV.out.1.of_ext (by (repeat' (first | with_reducible exact Ext.refl _ | with_reducible refine Ext.ext ?_ _ | with_reducible refine Ext.alloc ?_ _ | with_reducible refine Ext.drew ?_ | with_reducible refine Ext.drewN ?_ _ | with_reducible assumption)))) (by have := HK.out.short; omega) (by have := HK.out.short; omega)) HL'.out (fun _ _ h => h)).mono ?_
          rintro e w' ⟨b1, d1, b2, d2, rfl, ⟨x2, rfl⟩, hl2⟩
          (try simp only [ext_ext, add_assoc, ext_drew, ext_drewN, drew_ext, drewN_ext] at hl2)
          have HL2 := Lib.hid hl2
          clear hl2
          go_wp2_with (go_at_call 12; refine (crRight_any _ _ _ _ _ _ _ _ _ _ (by omega) (by omega)).mono ?_; rw [show rightL l'.s l'.m l'.b l'.way.length l'.waits.length = true from HR.out]; rintro e w' ⟨rfl, x3, rfl⟩)
          refine ⟨⟨k + 1, s, t, l', b1, d1, b2, d2, trivial, by omega, by omega, by omega, HK'.out, by go_num, rfl, rfl, by (repeat' (first | with_reducible exact Ext.refl _ | with_reducible refine Ext.ext ?_ _ | with_reducible refine Ext.alloc ?_ _ | with_reducible refine Ext.drew ?_ | with_reducible refine Ext.drewN ?_ _ | with_reducible assumption)), HL2.out.1.swap HL2.out.2 (by simp) (by simp) (by first | exact .inl rfl | exact .inr ⟨_, rfl⟩ | exact .inr ⟨_, (add_assoc _ _ _).symm⟩), HL2.out.2.low (by simp)⟩, by simp [intOf]; omega⟩
      · have hkk : xs.length ≤ k ∨ (k < xs.length ∧ 200 ≤ k) := by omega
        clear hk
        rcases hkk with hka | ⟨hka, hkb⟩
        all_goals
          go_wp2
          go_loopw [15] (fun i wr => ∃ (k : Nat) (t : Int) (l : Ln) (a1 : Option Addr) (c1 : Nat) (a2 : Option Addr) (c2 : Nat) (_ : True), k ≤ 256 ∧ Keeps l n s t ∧ l.way.length + l.waits.length + k ≤ 256 ∧ i = .int .i64 k ∧ Ext ((ext w (x0.add x1)).alloc (.cells #[.int .i64 l.s, .int .i64 l.m, .slice a1 l.way.length c1, .slice a2 l.waits.length c2, .int .i64 l.b] 24)) wr ∧ LaneV wr a1 c1 a2 c2 l ∧ LaneN (w.heap.size + (x0.add x1).hs.length + 1) a1 c1 a2 c2 l) (fun i _ => 256 - (intOf i).toNat)
          case atStart => exact ⟨0, t, l, a1, c1, a2, c2, trivial, by omega, HK.out, by have := HK.out.many; have := HK.out.sum; have := HK.out.m0; have := HK.out.b0; have := HK.out.n2; omega, rfl, by (repeat' (first | with_reducible exact Ext.refl _ | with_reducible refine Ext.ext ?_ _ | with_reducible refine Ext.alloc ?_ _ | with_reducible refine Ext.drew ?_ | with_reducible refine Ext.drewN ?_ _ | with_reducible assumption)), HV.out.1, HV.out.2⟩
          case round =>
            clear HV HK
            obtain ⟨k, t, l, a1, c1, a2, c2, _, hk1, K, hk2, rfl, ⟨z, rfl⟩, hlv, hln⟩ := hrel
            have HV := Lib.hid (And.intro hlv hln)
            have HK := Lib.hid K
            have HK2 := Lib.hid hk2
            clear hlv hln K hk2
            by_cases hk : k < 256
            · obtain ⟨K1, w1, w2, w3⟩ := HK.out.arrive
              have hw : (arriveN l).waits = [] → l.way.length + l.waits.length = 0 := by
                intro h0
                rw [h0] at w2
                by_cases h1 : 0 < l.way.length
                · have := w2 h1; simp at this
                · have h2 : l.way.length = 0 := by omega
                  rw [w3 h2] at h0
                  rw [h0, h2]; rfl
              have hs1 : (arriveN l).way.length + (arriveN l).waits.length = l.way.length + l.waits.length := by
                by_cases h1 : 0 < l.way.length
                · have := w2 h1; omega
                · rw [w3 (by omega)]
              clear w1 w2 w3
              have hT : ∃ t', Keeps (takeN (arriveN l)) n s t' ∧ (takeN (arriveN l)).way.length + (takeN (arriveN l)).waits.length + (k + 1) ≤ 256 := by
                have := HK2.out
                rcases K1.take with ⟨_, _, K2, e1, e2⟩ | ⟨_, e1, e2⟩
                · exact ⟨_, K2, by rw [e1]; omega⟩
                · exact ⟨_, by rw [e1]; exact K1, by rw [e1]; have := hw e2; omega⟩
              obtain ⟨t', K2, hs2⟩ := hT
              clear hw hs1
              generalize hl1 : arriveN l = l1 at K1 K2 hs2
              generalize hl2 : takeN l1 = l2 at K2 hs2
              have HL1' := Lib.hid hl1
              have HL2' := Lib.hid hl2
              have HK1 := Lib.hid K1
              have HKE := Lib.hid K2
              have HS2 := Lib.hid hs2
              clear hl1 hl2 K1 K2 hs2
              go_wp2_with (go_at_call 14; apply stop_here)
              unfold Stop
              refine (lane_as (l' := l1) (G := fun v e => e = .returned (.tuple #[v, .int .i64 (mayN l l.way.length 12)])) (arrive_any l a1 a2 c1 c2 _ (HV.out.1.of_ext (by (repeat' (first | with_reducible exact Ext.refl _ | with_reducible refine Ext.ext ?_ _ | with_reducible refine Ext.alloc ?_ _ | with_reducible refine Ext.drew ?_ | with_reducible refine Ext.drewN ?_ _ | with_reducible assumption)))) (by have := HK.out.short; omega) (by have := HK.out.short; omega)) HL1'.out (fun _ _ h => h)).mono ?_
              rintro e w' ⟨b1, d1, b2, d2, rfl, ⟨x2, rfl⟩, hl2⟩
              (try simp only [ext_ext, add_assoc, ext_drew, ext_drewN, drew_ext, drewN_ext] at hl2)
              have HL2 := Lib.hid hl2
              clear hl2
              go_wp2_with (go_at_call 15; apply stop_here)
              unfold Stop
              refine (lane_as (l' := l2) (G := fun v e => e = .returned (.tuple #[v, .int .i64 (tookN l1), .int .i64 (mayN l1 l1.waits.length 12)])) (take_any l1 b1 b2 d1 d2 _ (HL2.out.1.swap HL2.out.2 (by simp) (by simp) (by first | exact .inl rfl | exact .inr ⟨_, rfl⟩ | exact .inr ⟨_, (add_assoc _ _ _).symm⟩)) (by have := HK1.out.short; omega) (by have := HK1.out.short; omega)) HL2'.out (fun _ _ h => h)).mono ?_
              rintro e w' ⟨b3, d3, b4, d4, rfl, ⟨x3, rfl⟩, hl3⟩
              (try simp only [ext_ext, add_assoc, ext_drew, ext_drewN, drew_ext, drewN_ext] at hl3)
              have HL3 := Lib.hid hl3
              clear hl3
              go_wp2
              refine ⟨⟨k + 1, t', l2, b3, d3, b4, d4, trivial, by omega, HKE.out, HS2.out, by go_num, by (repeat' (first | with_reducible exact Ext.refl _ | with_reducible refine Ext.ext ?_ _ | with_reducible refine Ext.alloc ?_ _ | with_reducible refine Ext.drew ?_ | with_reducible refine Ext.drewN ?_ _ | with_reducible assumption)), HL3.out.1.swap HL3.out.2 (by simp) (by simp) (by first | exact .inl rfl | exact .inr ⟨_, rfl⟩ | exact .inr ⟨_, (add_assoc _ _ _).symm⟩), HL3.out.2.low (by (first | (simp; done) | (simp; omega) | omega))⟩, by simp [intOf]; omega⟩
            · obtain ⟨K1, r1, r2, r3⟩ := HK.out.back
              have hz : l.way.length = 0 ∧ l.waits.length = 0 := by have := HK2.out; omega
              rw [← r1, ← r2] at hz
              generalize hl1 : returnN l = l1 at K1 r1 r2 r3 hz
              clear r1 r2
              have hm : l1.m = n := by have := K1.sum; omega
              have HL1' := Lib.hid hl1
              have e1 : (l1.m == n) = true := by simp [hm]
              have e2 : ((l1.way.length : Int) + l1.waits.length + l1.b == 0) = true := by simp; omega
              obtain ⟨p1, p2⟩ := K1.short
              have p3 := K1.b0
              have p4 : l1.b ≤ 255 := by omega
              clear hl1 hm r3 K1 hz
              go_wp2_with (go_at_call 16; apply stop_here)
              unfold Stop
              refine (lane_as (l' := l1) (G := fun v e => e = .returned (.tuple #[v, .int .i64 (mayN l l.b 12)])) (return_any l a1 a2 c1 c2 _ (HV.out.1.of_ext (by (repeat' (first | with_reducible exact Ext.refl _ | with_reducible refine Ext.ext ?_ _ | with_reducible refine Ext.alloc ?_ _ | with_reducible refine Ext.drew ?_ | with_reducible refine Ext.drewN ?_ _ | with_reducible assumption)))) (by have := HK.out.short; omega) (by have := HK.out.short; omega)) HL1'.out (fun _ _ h => h)).mono ?_
              rintro e w' ⟨b1, d1, b2, d2, rfl, ⟨x2, rfl⟩, hl2⟩
              clear hl2
              go_wp2
              go_returns
              exact ⟨retb rfl rfl, by (repeat' (first | with_reducible exact Ext.refl _ | with_reducible refine Ext.ext ?_ _ | with_reducible refine Ext.alloc ?_ _ | with_reducible refine Ext.drew ?_ | with_reducible refine Ext.drewN ?_ _ | with_reducible assumption))⟩
end Go.Proofs.Ytgjolablgcnlmaa
