/- Fair: Fair, Gap; the reference's Schedule and Left. -/
import Derived.Test.YtgjolablgcnlmaaFa3
namespace Go.Proofs.Ytgjolablgcnlmaa
set_option linter.unusedSimpArgs false
set_option linter.unusedVariables false
open Go.RowKit

/-- Is a schedule fair within a window? -/
def FairP (l : List Int) (T v : Int) : Prop := schedB l T = true ∧ 1 ≤ v ∧ ∀ q, q + v.toNat ≤ l.length → Full l T.toNat v.toNat q
noncomputable def fairB (l : List Int) (T v : Int) : Bool := @decide (FairP l T v) (Classical.propDecidable _)
theorem fairB_iff {l : List Int} {T v : Int} : fairB l T v = true ↔ FairP l T v := ⟨fun h => @of_decide_eq_true _ (Classical.propDecidable _) h, fun h => @decide_eq_true _ (Classical.propDecidable _) h⟩
theorem fair_left {l : List Int} {T v p k : Int} (h : LeftIs l T v p k) (hs : schedB l T = true) (hv : 1 ≤ v) : decide (p < 0) = fairB l T v := by
  rw [Bool.eq_iff_iff, fairB_iff, decide_eq_true_eq]
  unfold FairP
  by_cases hl : v ≤ l.length
  · rw [h.neg ⟨hs, hv, hl⟩]
    exact ⟨fun h => ⟨hs, hv, h⟩, fun h => h.2.2⟩
  · obtain ⟨rfl, -⟩ := h.none (fun hg => hl hg.2.2)
    exact ⟨fun _ => ⟨hs, hv, fun q hq => by omega⟩, fun _ => by decide⟩
theorem fair_any (l : List Int) (a : Option Addr) (c : Nat) (T v : Int) (w : World) (h : Ri w .i64 (.slice a l.length c) l) (hn : l.length ≤ 1000000) (hT : T ≤ 9223372036854775807) :
    Calls Try.prog 20 #[.slice a l.length c, .int .i64 T, .int .i64 v] w fun e w' => e = .returned (.bool (fairB l T v)) ∧ Ext w w' := by
  have SC := Lib.hid (fun W (hx : Ext w W) => schedule_any l a c T W (h.of_ext hx) (by omega))
  have LF := Lib.hid (fun W (hx : Ext w W) => left_any l a c T v W (h.of_ext hx) hn hT)
  obtain ⟨bs, fs⟩ : ∃ b, schedB l T = b := ⟨_, rfl⟩
  rw [fs] at SC
  obtain ⟨b1, f1⟩ : ∃ b, decide (v < 1) = b := ⟨_, rfl⟩
  obtain ⟨R, hR⟩ : ∃ R, R = fairB l T v := ⟨_, rfl⟩
  rw [← hR]
  have HNO := Lib.hid (show (bs && !b1) = false → false = R from fun hb => by
    rw [hR]
    cases hf : fairB l T v with
    | false => rfl
    | true =>
      have := fairB_iff.1 hf
      rw [← fs, ← f1, this.1, decide_eq_false (show ¬ v < 1 by have := this.2.1; omega)] at hb
      cases hb)
  have HYES := Lib.hid (show (bs && !b1) = true → ∀ p k, LeftIs l T v p k → decide (p < 0) = R from fun hb p k hl => by
    simp only [Bool.and_eq_true, Bool.not_eq_true'] at hb
    rw [hR]
    exact fair_left hl (fs.trans hb.1) (by have := of_decide_eq_false (f1.trans hb.2); omega))
  clear h hn hT fs hR
  cases bs <;> cases b1
  case true.false =>
    go_enter Try.func20, Try.ntmps20
    go_wp2_with (first | (go_at_call 27; (with_reducible refine (SC.out _ (by (repeat' (first | with_reducible exact Ext.refl _ | with_reducible refine Ext.ext ?_ _ | with_reducible refine Ext.alloc ?_ _ | with_reducible refine Ext.drew ?_ | with_reducible refine Ext.drewN ?_ _ | with_reducible assumption)))).mono ?_); rintro e w' ⟨rfl, x1, rfl⟩) | (go_at_call 18; (with_reducible refine (LF.out _ (by (repeat' (first | with_reducible exact Ext.refl _ | with_reducible refine Ext.ext ?_ _ | with_reducible refine Ext.alloc ?_ _ | with_reducible refine Ext.drew ?_ | with_reducible refine Ext.drewN ?_ _ | with_reducible assumption)))).mono ?_); rintro e w' ⟨p, k, rfl, hl, x2, rfl⟩; have HB := Lib.hid (HYES.out rfl p k hl); clear hl))
    go_returns
    exact ⟨retb rfl HB.out, by (repeat' (first | with_reducible exact Ext.refl _ | with_reducible refine Ext.ext ?_ _ | with_reducible refine Ext.alloc ?_ _ | with_reducible refine Ext.drew ?_ | with_reducible refine Ext.drewN ?_ _ | with_reducible assumption))⟩
  all_goals
    have HB := Lib.hid (HNO.out rfl)
    go_enter Try.func20, Try.ntmps20
    go_wp2_with (first | (go_at_call 27; (with_reducible refine (SC.out _ (by (repeat' (first | with_reducible exact Ext.refl _ | with_reducible refine Ext.ext ?_ _ | with_reducible refine Ext.alloc ?_ _ | with_reducible refine Ext.drew ?_ | with_reducible refine Ext.drewN ?_ _ | with_reducible assumption)))).mono ?_); rintro e w' ⟨rfl, x1, rfl⟩))
    go_returns
    exact ⟨retb rfl HB.out, by (repeat' (first | with_reducible exact Ext.refl _ | with_reducible refine Ext.ext ?_ _ | with_reducible refine Ext.alloc ?_ _ | with_reducible refine Ext.drew ?_ | with_reducible refine Ext.drewN ?_ _ | with_reducible assumption))⟩
/-- The longest run without a thing, and the one that goes on. -/
def gapS (n : Int) : List Int → Int × Int
  | l => l.foldl (fun s x => let r := if x = n then 0 else s.2 + 1; (max s.1 r, r)) (0, 0)
theorem gap_snoc (n : Int) {l : List Int} {j : Nat} {x : Int} (h : l[j]? = some x) : gapS n (l.take (j + 1)) = (max (gapS n (l.take j)).1 (if x = n then 0 else (gapS n (l.take j)).2 + 1), if x = n then 0 else (gapS n (l.take j)).2 + 1) := by
  rw [List.take_add_one, h]
  unfold gapS
  rw [show (some x).toList = [x] from rfl, List.foldl_append]
  rfl
/-- What the run says. -/
theorem gap_inv (n : Int) (l : List Int) : ∀ j, j ≤ l.length → ∃ m r : Nat, gapS n (l.take j) = ((m : Int), (r : Int)) ∧ r ≤ j ∧ m ≤ j ∧ (∀ i, j - r ≤ i → i < j → l[i]? ≠ some n) ∧ (r < j → l[j - r - 1]? = some n) ∧ (∀ V, 1 ≤ V → (V ≤ m ↔ ∃ q, q + V ≤ j ∧ ∀ i, q ≤ i → i < q + V → l[i]? ≠ some n))
  | 0, _ => ⟨0, 0, rfl, by omega, by omega, fun i h1 h2 => absurd h2 (Nat.not_lt_zero i), by omega, fun V hV => ⟨by omega, fun ⟨q, hq, _⟩ => by omega⟩⟩
  | j + 1, hj => by
    obtain ⟨m, r, h1, h2, h2', h3, h4, h5⟩ := gap_inv n l j (by omega)
    obtain ⟨x, hx⟩ : ∃ x, l[j]? = some x := ⟨l[j], List.getElem?_eq_getElem _⟩
    rw [gap_snoc n hx, h1]
    dsimp only
    by_cases e : x = n
    · subst e
      refine ⟨m, 0, by rw [if_pos rfl]; congr 1; omega, by omega, by omega, fun i h1 h2 => by omega, fun _ => by simpa using hx, fun V hV => ?_⟩
      rw [h5 V hV]
      constructor
      · rintro ⟨q, hq, ha⟩
        exact ⟨q, by omega, ha⟩
      · rintro ⟨q, hq, ha⟩
        refine ⟨q, ?_, ha⟩
        apply Classical.byContradiction
        intro hn
        exact ha j (by omega) (by omega) hx
    · refine ⟨max m (r + 1), r + 1, by rw [if_neg e]; congr 1; omega, by omega, by omega, fun i hi1 hi2 => ?_, fun hlt => ?_, fun V hV => ?_⟩
      · rcases Nat.lt_or_ge i j with h | h
        · exact h3 i (by omega) h
        · obtain rfl : i = j := by omega
          rw [hx]
          exact fun k => e (Option.some.inj k)
      · rw [show j + 1 - (r + 1) - 1 = j - r - 1 by omega]
        exact h4 (by omega)
      · constructor
        · intro hV2
          by_cases hm : V ≤ m
          · obtain ⟨q, hq, ha⟩ := (h5 V hV).1 hm
            exact ⟨q, by omega, ha⟩
          · refine ⟨j + 1 - V, by omega, fun i h6 h7 => ?_⟩
            rcases Nat.lt_or_ge i j with h | h
            · exact h3 i (by omega) h
            · obtain rfl : i = j := by omega
              rw [hx]
              exact fun k => e (Option.some.inj k)
        · rintro ⟨q, hq, ha⟩
          rcases Nat.lt_or_ge (q + V) (j + 1) with h | h
          · have := (h5 V hV).2 ⟨q, by omega, ha⟩
            omega
          · have : V ≤ r + 1 := by
              apply Classical.byContradiction
              intro hn
              exact ha (j - r - 1) (by omega) (by omega) (h4 (by omega))
            omega
set_option maxHeartbeats 4000000 in
theorem gap_any (l : List Int) (a : Option Addr) (c : Nat) (n : Int) (w : World) (h : Ri w .i64 (.slice a l.length c) l) (hn : l.length ≤ 1000000) :
    Calls Try.prog 24 #[.slice a l.length c, .int .i64 n] w fun e w' => e = .returned (.int .i64 (gapS n l).1) ∧ Ext w w' := by
  have H := Lib.hid h
  have HN := Lib.hid hn
  have hmx : ∀ ats ty w (x y : Int), (Builtin.max_ ats ty #[.int .i64 x, .int .i64 y]).run Try.prog w = .ok (.int .i64 (max x y)) w := fun ats ty w x y => by
    simp only [Builtin.max_, List.foldlM, Builtin.max2, Sem.run_bind, Sem.run_pure, Result.andThen_ok]
    have : (if x < y then y else x) = max x y := by
      rw [Int.max_def]
      split <;> split <;> omega
    first | rw [this] | (simp; omega)
  obtain ⟨R, hR⟩ : ∃ R, R = (gapS n l).1 := ⟨_, rfl⟩
  rw [← hR]
  have HR := Lib.hid hR
  clear h hn hR
  go_enter Try.func24, Try.ntmps24
  go_wp2
  go_loopw [5, 6, 11] (fun sm sr si wr => ∃ j : Nat, j ≤ l.length ∧ si = .int .i64 j ∧ sm = .int .i64 (gapS n (l.take j)).1 ∧ sr = .int .i64 (gapS n (l.take j)).2 ∧ Ext w wr) (fun _ _ si _ => l.length - (intOf si).toNat)
  case atStart => exact ⟨0, by omega, rfl, rfl, rfl, by (repeat' (first | with_reducible exact Ext.refl _ | with_reducible refine Ext.ext ?_ _ | with_reducible refine Ext.alloc ?_ _ | with_reducible refine Ext.drew ?_ | with_reducible refine Ext.drewN ?_ _ | with_reducible assumption))⟩
  case round =>
    obtain ⟨j, hj, rfl, rfl, rfl, ⟨z, rfl⟩⟩ := hrel
    by_cases hlt : j < l.length
    · obtain ⟨x, hx⟩ : ∃ x, l[j]? = some x := ⟨l[j], List.getElem?_eq_getElem _⟩
      obtain ⟨b, off, rfl⟩ : ∃ b off, a = some ⟨b, off, none⟩ := by obtain ⟨b, off, e, -⟩ := Rd.cells H.out (by omega); exact ⟨b, off, e⟩
      have q0 := ri_at H.out hx
      haveI : LtSz b w.heap.size := ⟨World.block_lt_of_cell? _ _ q0⟩
      have i1 : (0 : Int) ≤ j := by omega
      have i2 : (j : Int) < l.length := by omega
      obtain ⟨m, r, g1, g2, -⟩ := gap_inv n l j hj
      have hs := gap_snoc n hx
      rw [g1] at hs ⊢
      dsimp only at hs ⊢
      have HS := Lib.hid hs
      have EW := Lib.hid (show wrap64 ((j : Int) + 1) = ((j + 1 : Nat) : Int) from (IntWalk.wrap64_in _ ⟨by omega, by have := HN.out; omega⟩).trans (by omega))
      have ER := Lib.hid (show wrap64 ((r : Int) + 1) = (r : Int) + 1 from IntWalk.wrap64_in _ ⟨by omega, by have := HN.out; omega⟩)
      have HL := Lib.hid hlt
      have er := ER.out
      clear hs g1 g2 hx
      by_cases e : x = n
      · have e1 : (x == n) = true := by simp [e]
        have HE := Lib.hid e
        clear e
        go_wp2
        have h2 := HS.out
        rw [if_pos HE.out] at h2
        clear er
        exact ⟨⟨j + 1, HL.out, congrArg (Value.int .i64) EW.out, by rw [h2]; first | done | exact congrArg (Value.int .i64) ER.out | (exact congrArg (Value.int .i64) (by dsimp only; omega)) | (dsimp only; rw [ER.out]), by rw [h2]; first | done | exact congrArg (Value.int .i64) ER.out | (exact congrArg (Value.int .i64) (by dsimp only; omega)), by (repeat' (first | with_reducible exact Ext.refl _ | with_reducible refine Ext.ext ?_ _ | with_reducible refine Ext.alloc ?_ _ | with_reducible refine Ext.drew ?_ | with_reducible refine Ext.drewN ?_ _ | with_reducible assumption))⟩, by rw [EW.out]; have := HL.out; simp only [intOf]; omega⟩
      · have e1 : (x == n) = false := by simp [e]
        have HE := Lib.hid e
        clear e
        go_wp2
        have h2 := HS.out
        rw [if_neg HE.out] at h2
        clear er
        exact ⟨⟨j + 1, HL.out, congrArg (Value.int .i64) EW.out, by rw [h2]; first | done | exact congrArg (Value.int .i64) ER.out | (exact congrArg (Value.int .i64) (by dsimp only; omega)) | (dsimp only; rw [ER.out]), by rw [h2]; first | done | exact congrArg (Value.int .i64) ER.out | (exact congrArg (Value.int .i64) (by dsimp only; omega)), by (repeat' (first | with_reducible exact Ext.refl _ | with_reducible refine Ext.ext ?_ _ | with_reducible refine Ext.alloc ?_ _ | with_reducible refine Ext.drew ?_ | with_reducible refine Ext.drewN ?_ _ | with_reducible assumption))⟩, by rw [EW.out]; have := HL.out; simp only [intOf]; omega⟩
    · obtain rfl : j = l.length := by omega
      have HG := Lib.hid (show (gapS n (l.take l.length)).1 = R by rw [List.take_length, HR.out])
      go_wp2
      go_returns
      exact ⟨reti rfl HG.out, by (repeat' (first | with_reducible exact Ext.refl _ | with_reducible refine Ext.ext ?_ _ | with_reducible refine Ext.alloc ?_ _ | with_reducible refine Ext.drew ?_ | with_reducible refine Ext.drewN ?_ _ | with_reducible assumption))⟩
end Go.Proofs.Ytgjolablgcnlmaa
