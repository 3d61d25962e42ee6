/- The walk of FairGaps. -/
import Derived.Test.YtgjolablgcnlmaaLaw36a
namespace Go.Proofs.Ytgjolablgcnlmaa
set_option linter.unusedSimpArgs false
set_option linter.unusedVariables false
open Go.RowKit

theorem mem_win {l : List Int} {q V : Nat} {x : Int} : x ∈ win l q V ↔ ∃ i, q ≤ i ∧ i < q + V ∧ l[i]? = some x := by
  unfold win
  rw [List.mem_iff_getElem?]
  constructor
  · rintro ⟨i, hi⟩
    rw [List.getElem?_take] at hi
    split at hi
    · rw [List.getElem?_drop] at hi
      exact ⟨q + i, by omega, by omega, hi⟩
    · cases hi
  · rintro ⟨i, h1, h2, h3⟩
    refine ⟨i - q, ?_⟩
    rw [List.getElem?_take, if_pos (by omega), List.getElem?_drop, show q + (i - q) = i by omega]
    exact h3
theorem gap_ge (n : Int) (l : List Int) (V : Nat) (hV : 1 ≤ V) : (V : Int) ≤ (gapS n l).1 ↔ ∃ q, q + V ≤ l.length ∧ n ∉ win l q V := by
  obtain ⟨m, r, h1, -, -, -, -, h5⟩ := gap_inv n l l.length (Nat.le_refl _)
  rw [List.take_length] at h1
  rw [h1]
  dsimp only
  rw [show ((V : Int) ≤ (m : Int)) ↔ V ≤ m by omega, h5 V hV]
  constructor
  · rintro ⟨q, hq, ha⟩
    refine ⟨q, hq, fun hm => ?_⟩
    obtain ⟨i, h6, h7, h8⟩ := mem_win.1 hm
    exact ha i h6 h7 h8
  · rintro ⟨q, hq, ha⟩
    exact ⟨q, hq, fun i h6 h7 h8 => ha (mem_win.2 ⟨i, h6, h7, h8⟩)⟩
def gapsB (l : List Int) (v : Int) : Nat → Bool
  | 0 => true
  | k + 1 => gapsB l v k && !decide (v ≤ (gapS (k : Int) l).1)
theorem gapsB_iff (l : List Int) (v : Int) : ∀ k, gapsB l v k = true ↔ ∀ j : Nat, j < k → (gapS (j : Int) l).1 < v
  | 0 => by simp [gapsB]
  | k + 1 => by
    rw [gapsB, Bool.and_eq_true, gapsB_iff l v k, Bool.not_eq_true', decide_eq_false_iff_not]
    constructor
    · rintro ⟨h1, h2⟩ j hj
      rcases Nat.lt_or_ge j k with h | h
      · exact h1 j h
      · obtain rfl : j = k := by omega
        omega
    · intro h
      exact ⟨fun j hj => h j (by omega), by have := h k (by omega); omega⟩
theorem gaps_fair {l : List Int} {TN V : Nat} (hs : schedB l TN = true) (hV : 1 ≤ V) : gapsB l V TN = fairB l TN V := by
  rw [Bool.eq_iff_iff, gapsB_iff, fairB_iff]
  constructor
  · intro h
    refine ⟨hs, by omega, fun q hq k hk => ?_⟩
    simp only [Int.toNat_natCast] at hq hk ⊢
    apply Classical.byContradiction
    intro hn
    have := (gap_ge (k : Int) l V hV).2 ⟨q, hq, hn⟩
    have := h k hk
    omega
  · rintro ⟨-, -, h⟩ j hj
    apply Classical.byContradiction
    intro hn
    obtain ⟨q, hq, hm⟩ := (gap_ge (j : Int) l V hV).1 (by omega)
    exact hm (h q (by simpa using hq) j (by simpa using hj))
theorem fair_more {l : List Int} {T v : Int} (h : fairB l T v = true) : fairB l T (v + 1) = true := by
  rw [fairB_iff] at h ⊢
  obtain ⟨h1, h2, h3⟩ := h
  refine ⟨h1, by omega, fun q hq k hk => ?_⟩
  have e : (v + 1).toNat = v.toNat + 1 := by omega
  rw [e] at hq ⊢
  have := h3 q (by omega) k hk
  rw [mem_win] at this ⊢
  obtain ⟨i, h6, h7, h8⟩ := this
  exact ⟨i, h6, by omega, h8⟩
set_option maxRecDepth 100000 in
set_option maxHeartbeats 8000000 in
theorem walk_FairGaps (w : World) (a : Option Addr) (c : Nat) (l : List Int) (hr : Ri w .i64 (.slice a l.length c) l) (hx : ∀ x ∈ l, -9223372036854775808 ≤ x ∧ x ≤ 9223372036854775807) (hc : l.length ≤ c) (T : Int) (bT : -9223372036854775808 ≤ T ∧ T ≤ 9223372036854775807) (v : Int) (bv : -9223372036854775808 ≤ v ∧ v ≤ 9223372036854775807) :
    Calls Try.prog 7 #[.slice a l.length c, .int .i64 T, .int .i64 v] w fun r w' => r = .returned (.bool true) ∧ Ext w w' := by
  have AW := Lib.hid awake_any
  have hm1 := fun ats ty w => run_min (P := Try.prog) l.length 100 100 rfl ats ty w
  have R1 := Lib.hid (ri_cut hr (m := min l.length 100) (Nat.min_le_left _ _))
  have q1 : min l.length 100 ≤ 100 := Nat.min_le_right _ _
  have p1 : min l.length 100 ≤ l.length := Nat.min_le_left _ _
  have e1 : (l.take (min l.length 100)).length = min l.length 100 := by rw [List.length_take]; omega
  generalize l.take (min l.length 100) = k1 at *
  generalize hn1 : min l.length 100 = n1 at *
  subst e1
  have LN := Lib.hid q1
  have r1 : (k1.length : Int) ≤ c := by omega
  have FA := Lib.hid (fun u W (hx : Ext w W) => fair_any k1 a c T u W (R1.out.of_ext hx) (by omega) bT.2)
  have GA := Lib.hid (fun n W (hx : Ext w W) => gap_any k1 a c n W (R1.out.of_ext hx) (by omega))
  obtain ⟨b1, f1⟩ : ∃ b, decide (T < 1) = b := ⟨_, rfl⟩
  obtain ⟨b2, f2⟩ : ∃ b, decide (30 < T) = b := ⟨_, rfl⟩
  obtain ⟨b3, f3⟩ : ∃ b, decide (v < 1) = b := ⟨_, rfl⟩
  obtain ⟨b4, f4⟩ : ∃ b, decide (200 < v) = b := ⟨_, rfl⟩
  clear hr hx hc bT bv q1 p1 hn1
  by_cases hg : (b1 || (b2 || (b3 || b4))) = true
  · cases b1 <;> cases b2 <;> cases b3 <;> cases b4 <;> first | (exfalso; simp at hg; done) | skip
    all_goals
      clear hg
      go_enter Try.func7, Try.ntmps7
      go_wp2_with (go_at_call 17; refine (AW.out _).mono ?_; rintro e w' ⟨rfl, z0, rfl⟩)
      go_returns
      exact ⟨retb rfl rfl, by (repeat' (first | with_reducible exact Ext.refl _ | with_reducible refine Ext.ext ?_ _ | with_reducible refine Ext.alloc ?_ _ | with_reducible refine Ext.drew ?_ | with_reducible refine Ext.drewN ?_ _ | with_reducible assumption))⟩
  · simp only [Bool.or_eq_true, not_or, Bool.not_eq_true] at hg
    obtain ⟨rfl, rfl, rfl, rfl⟩ := hg
    have g1 : 1 ≤ T := by have := of_decide_eq_false f1; omega
    have g2 : T ≤ 30 := by have := of_decide_eq_false f2; omega
    have g3 : 1 ≤ v := by have := of_decide_eq_false f3; omega
    have g4 : v ≤ 200 := by have := of_decide_eq_false f4; omega
    obtain ⟨TN, rfl⟩ : ∃ TN : Nat, T = TN := ⟨T.toNat, by omega⟩
    obtain ⟨V, rfl⟩ : ∃ V : Nat, v = V := ⟨v.toNat, by omega⟩
    have HB := Lib.hid (show 1 ≤ V ∧ V ≤ 200 ∧ TN ≤ 30 by omega)
    have EV := Lib.hid (show wrap64 ((V : Int) + 1) = (V : Int) + 1 from IntWalk.wrap64_in _ ⟨by omega, by omega⟩)
    have f1' : decide (TN < 1) = false := by rw [← f1]; exact decide_eq_decide.2 (by omega)
    have f3' : decide (V < 1) = false := by rw [← f3]; exact decide_eq_decide.2 (by omega)
    have f2' : decide (30 < TN) = false := by rw [← f2]; exact decide_eq_decide.2 (by omega)
    have f4' : decide (200 < V) = false := by rw [← f4]; exact decide_eq_decide.2 (by omega)
    clear g1 g2 g3 g4
    go_enter Try.func7, Try.ntmps7
    go_wp2_with (go_at_call 17; refine (AW.out _).mono ?_; rintro e w' ⟨rfl, z0, rfl⟩)
    go_loopw [7] (fun i wr => ∃ j : Nat, j ≤ k1.length ∧ i = .int .i64 j ∧ (∀ (k : Nat) y, k < j → k1[k]? = some y → outB TN y = false) ∧ Ext w wr) (fun i _ => k1.length - (intOf i).toNat)
    case atStart => exact ⟨0, by omega, rfl, fun k y hk => absurd hk (Nat.not_lt_zero k), by (repeat' (first | with_reducible exact Ext.refl _ | with_reducible refine Ext.ext ?_ _ | with_reducible refine Ext.alloc ?_ _ | with_reducible refine Ext.drew ?_ | with_reducible refine Ext.drewN ?_ _ | with_reducible assumption))⟩
    case round =>
      obtain ⟨j, hj, rfl, hall, ⟨z, rfl⟩⟩ := hrel
      have HA := Lib.hid hall
      clear hall
      by_cases hlt : j < k1.length
      · obtain ⟨x, hx⟩ : ∃ x, k1[j]? = some x := ⟨k1[j], List.getElem?_eq_getElem _⟩
        obtain ⟨b, off, rfl⟩ : ∃ b off, a = some ⟨b, off, none⟩ := by obtain ⟨b, off, e, -⟩ := Rd.cells R1.out (by omega); exact ⟨b, off, e⟩
        have q0 := ri_at R1.out hx
        haveI : LtSz b w.heap.size := ⟨World.block_lt_of_cell? _ _ q0⟩
        have i1 : (0 : Int) ≤ j := by omega
        have i2 : (j : Int) < k1.length := by omega
        have EW := Lib.hid (show wrap64 ((j : Int) + 1) = ((j + 1 : Nat) : Int) from (IntWalk.wrap64_in _ ⟨by omega, by have := LN.out; omega⟩).trans (by omega))
        have HX := Lib.hid hx
        have HL := Lib.hid hlt
        obtain ⟨b1, f1⟩ : ∃ b, decide (x < 0) = b := ⟨_, rfl⟩
        obtain ⟨b2, f2⟩ : ∃ b, decide ((TN : Int) ≤ x) = b := ⟨_, rfl⟩
        have HO := Lib.hid (show outB TN x = (b1 || b2) by unfold outB; rw [f1, f2])
        clear hx
        cases b1 <;> cases b2
        case false.false =>
          go_wp2
          exact nat_up (P := fun j => (∀ (k : Nat) y, k < j → k1[k]? = some y → outB TN y = false) ∧ Ext w _) EW.out HL.out ⟨fun k y hk hy => by
            rcases Nat.lt_or_ge k j with h | h
            · exact HA.out k y h hy
            · obtain rfl : k = j := by omega
              rw [HX.out] at hy
              cases hy
              exact HO.out, by (repeat' (first | with_reducible exact Ext.refl _ | with_reducible refine Ext.ext ?_ _ | with_reducible refine Ext.alloc ?_ _ | with_reducible refine Ext.drew ?_ | with_reducible refine Ext.drewN ?_ _ | with_reducible assumption))⟩
        all_goals
          have HF : Hid (∀ W, Ext w W → Calls Try.prog 20 #[.slice (some ⟨b, off, none⟩) k1.length c, .int .i64 (TN : Int), .int .i64 (V : Int)] W fun e w' => e = .returned (.bool false) ∧ Ext W w') := Lib.hid (fun W hx => by
            have h := FA.out (V : Int) W hx
            have hf : fairB k1 TN V = false := by
              cases hf : fairB k1 TN V
              · rfl
              · have := (fairB_iff.1 hf).1
                rw [sched_no HX.out (by rw [HO.out]; rfl)] at this
                cases this
            rw [hf] at h
            exact h)
          go_wp2_with (go_at_call 20; (with_reducible refine (HF.out _ (by (repeat' (first | with_reducible exact Ext.refl _ | with_reducible refine Ext.ext ?_ _ | with_reducible refine Ext.alloc ?_ _ | with_reducible refine Ext.drew ?_ | with_reducible refine Ext.drewN ?_ _ | with_reducible assumption)))).mono ?_); rintro e w' ⟨rfl, z5, rfl⟩)
          go_returns
          exact ⟨retb rfl rfl, by (repeat' (first | with_reducible exact Ext.refl _ | with_reducible refine Ext.ext ?_ _ | with_reducible refine Ext.alloc ?_ _ | with_reducible refine Ext.drew ?_ | with_reducible refine Ext.drewN ?_ _ | with_reducible assumption))⟩
      · obtain rfl : j = k1.length := by omega
        have hs : schedB k1 TN = true := by
          unfold schedB
          rw [any_no (fun k y hy => HA.out k y (List.getElem?_eq_some_iff.1 hy).1 hy), decide_eq_true (by have := of_decide_eq_false f1; omega)]
          rfl
        have HGF := Lib.hid (gaps_fair hs HB.out.1)
        clear hs
        go_wp2
        go_loopw [9, 8] (fun sn sg wr => ∃ k : Nat, k ≤ TN ∧ sn = .int .i64 k ∧ sg = .bool (gapsB k1 V k) ∧ Ext w wr) (fun sn _ _ => TN - (intOf sn).toNat)
        case atStart => exact ⟨0, by omega, rfl, rfl, by (repeat' (first | with_reducible exact Ext.refl _ | with_reducible refine Ext.ext ?_ _ | with_reducible refine Ext.alloc ?_ _ | with_reducible refine Ext.drew ?_ | with_reducible refine Ext.drewN ?_ _ | with_reducible assumption))⟩
        case round =>
          obtain ⟨k, hk, rfl, rfl, ⟨z, rfl⟩⟩ := hrel
          by_cases hkt : k < TN
          · have GK := Lib.hid (fun W hx => GA.out (k : Int) W hx)
            have i1 : (0 : Int) ≤ k := by omega
            have i2 : (k : Int) < TN := by omega
            have i3 : decide (k < TN) = true := decide_eq_true hkt
            have EK := Lib.hid (show wrap64 ((k : Int) + 1) = ((k + 1 : Nat) : Int) from (IntWalk.wrap64_in _ ⟨by omega, by have := HB.out; omega⟩).trans (by omega))
            have HST := Lib.hid (show gapsB k1 V (k + 1) = (gapsB k1 V k && !decide ((V : Int) ≤ (gapS (k : Int) k1).1)) from rfl)
            have HKT := Lib.hid hkt
            generalize (gapS (k : Int) k1).1 = gp at *
            obtain ⟨bg, fg⟩ : ∃ b, gapsB k1 V k = b := ⟨_, rfl⟩
            obtain ⟨bq, fq⟩ : ∃ b, decide ((V : Int) ≤ gp) = b := ⟨_, rfl⟩
            rw [fg]
            rw [fg, fq] at HST
            clear fg hkt
            cases bg <;> cases bq
            all_goals
              go_wp2_with (go_at_call 24; (with_reducible refine (GK.out _ (by (repeat' (first | with_reducible exact Ext.refl _ | with_reducible refine Ext.ext ?_ _ | with_reducible refine Ext.alloc ?_ _ | with_reducible refine Ext.drew ?_ | with_reducible refine Ext.drewN ?_ _ | with_reducible assumption)))).mono ?_); rintro e w' ⟨rfl, z5, rfl⟩)
              exact nat_up (P := fun k => Value.bool _ = .bool (gapsB k1 V k) ∧ Ext w _) EK.out HKT.out ⟨congrArg Value.bool (by rw [HST.out]; rfl), by (repeat' (first | with_reducible exact Ext.refl _ | with_reducible refine Ext.ext ?_ _ | with_reducible refine Ext.alloc ?_ _ | with_reducible refine Ext.drew ?_ | with_reducible refine Ext.drewN ?_ _ | with_reducible assumption))⟩
          · obtain rfl : k = TN := by omega
            rw [HGF.out]
            have FK := Lib.hid (fun W hx => FA.out (V : Int) W hx)
            have FM := Lib.hid (fun W hx => FA.out ((V : Int) + 1) W hx)
            obtain ⟨bf, ff⟩ : ∃ b, fairB k1 k V = b := ⟨_, rfl⟩
            have fm := fun h => fair_more (l := k1) (T := k) (v := V) (ff.trans h)
            rw [ff]
            rw [ff] at FK
            cases bf
            · clear fm FM
              go_wp2_with (go_at_call 20; (with_reducible refine (FK.out _ (by (repeat' (first | with_reducible exact Ext.refl _ | with_reducible refine Ext.ext ?_ _ | with_reducible refine Ext.alloc ?_ _ | with_reducible refine Ext.drew ?_ | with_reducible refine Ext.drewN ?_ _ | with_reducible assumption)))).mono ?_); rintro e w' ⟨rfl, z5, rfl⟩)
              go_returns
              exact ⟨retb rfl rfl, by (repeat' (first | with_reducible exact Ext.refl _ | with_reducible refine Ext.ext ?_ _ | with_reducible refine Ext.alloc ?_ _ | with_reducible refine Ext.drew ?_ | with_reducible refine Ext.drewN ?_ _ | with_reducible assumption))⟩
            · have hfm := fm rfl
              rw [hfm] at FM
              clear fm hfm
              have ev := EV.out
              go_wp2_with (first | (go_at_call 20; (with_reducible refine (FK.out _ (by (repeat' (first | with_reducible exact Ext.refl _ | with_reducible refine Ext.ext ?_ _ | with_reducible refine Ext.alloc ?_ _ | with_reducible refine Ext.drew ?_ | with_reducible refine Ext.drewN ?_ _ | with_reducible assumption)))).mono ?_); rintro e w' ⟨rfl, z5, rfl⟩) | (go_at_call 20; (with_reducible refine (FM.out _ (by (repeat' (first | with_reducible exact Ext.refl _ | with_reducible refine Ext.ext ?_ _ | with_reducible refine Ext.alloc ?_ _ | with_reducible refine Ext.drew ?_ | with_reducible refine Ext.drewN ?_ _ | with_reducible assumption)))).mono ?_); rintro e w' ⟨rfl, z6, rfl⟩))
              go_returns
              exact ⟨retb rfl rfl, by (repeat' (first | with_reducible exact Ext.refl _ | with_reducible refine Ext.ext ?_ _ | with_reducible refine Ext.alloc ?_ _ | with_reducible refine Ext.drew ?_ | with_reducible refine Ext.drewN ?_ _ | with_reducible assumption))⟩
end Go.Proofs.Ytgjolablgcnlmaa
