/- The reference of layer 7: Right; of layer 5: SameRecs, of two lists that are the same. -/
import Derived.Test.YtddckdlkopohhaaPrA
namespace Go.Proofs.Ytddckdlkopohhaa
set_option linter.unusedSimpArgs false
set_option linter.unusedVariables false
open Go.RowKit

set_option maxHeartbeats 4000000 in
theorem refRight_any (ps : List (Int × Int)) (v : Value) (w : World) (h : Rd w 2 ps.length v (recs ps)) (hl : ps.length ≤ 1000) :
    Calls Try.prog 12 #[v] w fun e w' => e = .returned (.bool (rightP ps)) ∧ Ext w w' := by
  obtain ⟨a, c, rfl⟩ := h.form
  have hr : rightP ps = (decide ((ps.length : Int) ≤ 64) && ps.all (fun r => okB ps.length r.1 r.2)) := by
    unfold rightP
    congr 1
    exact decide_eq_decide.2 (by omega)
  rw [hr]
  have H := Lib.hid h
  generalize hn : ps.length = n at *
  have HN := Lib.hid hn
  have HL := Lib.hid hl
  clear h hl hr hn
  go_enter Try.func12, Try.ntmps12
  go_wp2
  go_loopw [3] (fun i wr => ∃ j : Nat, j ≤ n ∧ i = .int .i64 j ∧ Ext w wr ∧ ∀ (k : Nat) (r : Int × Int), k < j → ps[k]? = some r → okB n r.1 r.2 = true) (fun i _ => n - (intOf i).toNat)
  case atStart => exact ⟨0, by omega, rfl, by (repeat' (first | with_reducible exact Ext.refl _ | with_reducible refine Ext.ext ?_ _ | with_reducible refine Ext.alloc ?_ _ | with_reducible refine Ext.drew ?_ | with_reducible refine Ext.drewN ?_ _ | with_reducible assumption)), fun k r hk => absurd hk (Nat.not_lt_zero k)⟩
  case round =>
    obtain ⟨j, hj, rfl, ⟨z, rfl⟩, hok⟩ := hrel
    have HOK := Lib.hid hok
    clear hok
    by_cases hlt : j < n
    · obtain ⟨⟨op, m⟩, hr⟩ : ∃ r, ps[j]? = some r := by
        have := HN.out
        exact ⟨ps[j], List.getElem?_eq_getElem (by omega)⟩
      obtain ⟨b, off, rfl, hc⟩ := H.out.cells (by omega)
      have d1 := hc _ _ (recs_get ps j _ hr).1
      have d2 : w.cell? ⟨b, off + j * 2 + 1, none⟩ = some (.int .i64 m) := by rw [Nat.add_assoc]; exact hc _ _ (recs_get ps j _ hr).2
      have q1 := (keep_cell d1 ⟨z, rfl⟩).1
      have q2 := (keep_cell d2 ⟨z, rfl⟩).1
      simp only [ext_ext] at q1 q2
      have i1 : (0 : Int) ≤ j := by omega
      have i2 : (j : Int) < n := by omega
      have ew : wrap64 ((j : Int) + 1) = ((j + 1 : Nat) : Int) := (IntWalk.wrap64_in _ ⟨by omega, by have := HL.out; omega⟩).trans (by omega)
      have HR := Lib.hid hr
      clear hc d1 d2 hr
      have STEP : okB n op m = true → ∀ (k : Nat) (r : Int × Int), k < j + 1 → ps[k]? = some r → okB n r.1 r.2 = true := fun ho k r hk hr => by
        rcases Nat.lt_or_ge k j with h | h
        · exact HOK.out k r h hr
        · obtain rfl : k = j := by omega
          rw [HR.out] at hr
          cases hr
          exact ho
      have STOP : okB n op m = false → (decide ((n : Int) ≤ 64) && ps.all (fun r => okB n r.1 r.2)) = false := fun ho => by rw [all_false HR.out ho]; simp
      have f8 : (op != 14) = !(op == 14) := rfl
      have f9 : (op != 15) = !(op == 15) := rfl
      obtain ⟨b1, f1⟩ : ∃ b, decide (op < 1) = b := ⟨_, rfl⟩
      obtain ⟨b2, f2⟩ : ∃ b, decide (16 < op) = b := ⟨_, rfl⟩
      obtain ⟨b3, f3⟩ : ∃ b, (op == 14) = b := ⟨_, rfl⟩
      obtain ⟨b3', f3'⟩ : ∃ b, (op == 15) = b := ⟨_, rfl⟩
      obtain ⟨b4, f4⟩ : ∃ b, decide (m < 0) = b := ⟨_, rfl⟩
      obtain ⟨b5, f5⟩ : ∃ b, decide ((n : Int) < m) = b := ⟨_, rfl⟩
      obtain ⟨b6, f6⟩ : ∃ b, (op != 1) = b := ⟨_, rfl⟩
      obtain ⟨b7, f7⟩ : ∃ b, (m != 0) = b := ⟨_, rfl⟩
      have hb : okB n op m = (!b1 && !b2 && bif (b3 || b3') then !b4 && !b5 else !(b6 && b7)) := by
        subst f1 f2 f3 f3' f4 f5 f6 f7
        unfold okB
        have e3 : (op == 14 || op == 15) = decide (op = 14 ∨ op = 15) := by
          rw [show (op == 14) = decide (op = 14) from rfl, show (op == 15) = decide (op = 15) from rfl, ← Bool.decide_or]
        rw [e3]
        by_cases c1 : 1 ≤ op ∧ op ≤ 16
        · rw [decide_eq_true c1, decide_eq_false (p := op < 1) (by omega), decide_eq_false (p := 16 < op) (by omega)]
          by_cases c3 : op = 14 ∨ op = 15
          · rw [if_pos c3, decide_eq_true c3]
            by_cases c4 : m < 0
            · rw [decide_eq_true c4, decide_eq_false (p := 0 ≤ m ∧ m ≤ n) (by omega)]; rfl
            · by_cases c5 : (n : Int) < m
              · rw [decide_eq_true c5, decide_eq_false (p := 0 ≤ m ∧ m ≤ n) (by omega), decide_eq_false c4]; rfl
              · rw [decide_eq_false c5, decide_eq_true (p := 0 ≤ m ∧ m ≤ n) (by omega), decide_eq_false c4]; rfl
          · rw [if_neg c3, decide_eq_false c3]
            by_cases c6 : op = 1
            · rw [decide_eq_true (p := op = 1 ∨ m = 0) (.inl c6), show (op != 1) = false by simp [c6]]; rfl
            · by_cases c7 : m = 0
              · rw [decide_eq_true (p := op = 1 ∨ m = 0) (.inr c7), show (m != 0) = false by simp [c7]]; simp
              · rw [decide_eq_false (p := op = 1 ∨ m = 0) (by omega), show (m != 0) = true by simp [c7], show (op != 1) = true by simp [c6]]; rfl
        · rw [decide_eq_false c1]
          by_cases c2 : op < 1
          · rw [decide_eq_true c2]; rfl
          · rw [decide_eq_true (p := 16 < op) (by omega)]; simp
      rw [hb] at STEP STOP
      rw [f3] at f8
      rw [f3'] at f9
      have ST := Lib.hid STEP
      have SP := Lib.hid STOP
      clear STEP STOP HOK HR hb
      have x35 : b3 = true → b3' = false := by
        subst f3 f3'
        intro h
        simp at h
        simp [h]
      have X35 := Lib.hid x35
      clear x35
      cases b3 <;> cases b3'
      case true.true => exact absurd (X35.out rfl) (by decide)
      all_goals
        clear X35
        dsimp only [Bool.not] at f8 f9
        go_wp2
        refine wp_region_ext (by kernel_rfl) (by kernel_rfl) ?_
        repeat (go_big_quiet_step (fail))
        refine wpQuiet_nil ?_
        intro xK
        go_wp2
        all_goals first | (go_returns; exact ⟨retb rfl (SP.out (by simp [*])).symm, by (repeat' (first | with_reducible exact Ext.refl _ | with_reducible refine Ext.ext ?_ _ | with_reducible refine Ext.alloc ?_ _ | with_reducible refine Ext.drew ?_ | with_reducible refine Ext.drewN ?_ _ | with_reducible assumption))⟩) | exact ⟨⟨j + 1, by omega, congrArg (Value.int .i64) ew, by (repeat' (first | with_reducible exact Ext.refl _ | with_reducible refine Ext.ext ?_ _ | with_reducible refine Ext.alloc ?_ _ | with_reducible refine Ext.drew ?_ | with_reducible refine Ext.drewN ?_ _ | with_reducible assumption)), ST.out (by simp [*])⟩, by rw [ew]; simp only [intOf]; omega⟩
    · obtain rfl : j = n := by omega
      have RR := Lib.hid (all_true (f := fun r => okB j r.1 r.2) (fun k r hr => HOK.out k r (by
        have := (List.getElem?_eq_some_iff.1 hr).1
        have := HN.out
        omega) hr)).symm
      go_wp2
      go_returns
      exact ⟨retb rfl (by rw [← RR.out]; simp), by (repeat' (first | with_reducible exact Ext.refl _ | with_reducible refine Ext.ext ?_ _ | with_reducible refine Ext.alloc ?_ _ | with_reducible refine Ext.drew ?_ | with_reducible refine Ext.drewN ?_ _ | with_reducible assumption))⟩
set_option maxHeartbeats 1000000 in
theorem same_yes (xs : List (Int × Int)) (a b : Option Addr) (c d : Nat) (w : World) (h1 : Rd w 2 xs.length (.slice a xs.length c) (recs xs)) (h2 : Rd w 2 xs.length (.slice b xs.length d) (recs xs)) (hl : xs.length ≤ 1000) :
    Calls Try.prog 13 #[.slice a xs.length c, .slice b xs.length d] w fun e w' => e = .returned (.bool true) ∧ Ext w w' := by
  have H1 := Lib.hid h1
  have H2 := Lib.hid h2
  generalize hn : xs.length = n at *
  have HN := Lib.hid hn
  have HL := Lib.hid hl
  clear h1 h2 hl hn
  go_enter Try.func13, Try.ntmps13
  go_wp2
  go_loopw [5] (fun i wr => ∃ j : Nat, j ≤ n ∧ i = .int .i64 j ∧ Ext w wr) (fun i _ => n - (intOf i).toNat)
  case atStart => exact ⟨0, by omega, rfl, by (repeat' (first | with_reducible exact Ext.refl _ | with_reducible refine Ext.ext ?_ _ | with_reducible refine Ext.alloc ?_ _ | with_reducible refine Ext.drew ?_ | with_reducible refine Ext.drewN ?_ _ | with_reducible assumption))⟩
  case round =>
    obtain ⟨j, hj, rfl, ⟨z, rfl⟩⟩ := hrel
    by_cases hlt : j < n
    · obtain ⟨⟨x, y⟩, hr⟩ : ∃ r, xs[j]? = some r := by
        have := HN.out
        exact ⟨xs[j], List.getElem?_eq_getElem (by omega)⟩
      obtain ⟨g1, o1, rfl, hc1⟩ := H1.out.cells (by omega)
      obtain ⟨g2, o2, rfl, hc2⟩ := H2.out.cells (by omega)
      have d1 := hc1 _ _ (recs_get xs j _ hr).1
      have d2 : w.cell? ⟨g1, o1 + j * 2 + 1, none⟩ = some (.int .i64 y) := by rw [Nat.add_assoc]; exact hc1 _ _ (recs_get xs j _ hr).2
      have d3 := hc2 _ _ (recs_get xs j _ hr).1
      have d4 : w.cell? ⟨g2, o2 + j * 2 + 1, none⟩ = some (.int .i64 y) := by rw [Nat.add_assoc]; exact hc2 _ _ (recs_get xs j _ hr).2
      have q1 := (keep_cell d1 ⟨z, rfl⟩).1
      have q2 := (keep_cell d2 ⟨z, rfl⟩).1
      have q3 := (keep_cell d3 ⟨z, rfl⟩).1
      have q4 := (keep_cell d4 ⟨z, rfl⟩).1
      simp only [ext_ext] at q1 q2 q3 q4
      have i1 : (0 : Int) ≤ j := by omega
      have i2 : (j : Int) < n := by omega
      have ew : wrap64 ((j : Int) + 1) = ((j + 1 : Nat) : Int) := (IntWalk.wrap64_in _ ⟨by omega, by have := HL.out; omega⟩).trans (by omega)
      clear hc1 hc2 d1 d2 d3 d4 hr
      go_wp2
      refine wp_region_ext (by kernel_rfl) (by kernel_rfl) ?_
      repeat (go_big_quiet_step (fail))
      refine wpQuiet_nil ?_
      intro xK
      go_wp2
      exact ⟨⟨j + 1, by omega, congrArg (Value.int .i64) ew, by (repeat' (first | with_reducible exact Ext.refl _ | with_reducible refine Ext.ext ?_ _ | with_reducible refine Ext.alloc ?_ _ | with_reducible refine Ext.drew ?_ | with_reducible refine Ext.drewN ?_ _ | with_reducible assumption))⟩, by rw [ew]; simp only [intOf]; omega⟩
    · obtain rfl : j = n := by omega
      go_wp2
      go_returns
      exact ⟨retb rfl rfl, by (repeat' (first | with_reducible exact Ext.refl _ | with_reducible refine Ext.ext ?_ _ | with_reducible refine Ext.alloc ?_ _ | with_reducible refine Ext.drew ?_ | with_reducible refine Ext.drewN ?_ _ | with_reducible assumption))⟩
end Go.Proofs.Ytddckdlkopohhaa
