/- Prog: jumps, Right. -/
import Derived.Test.YtddckdlkopohhaaPr1
namespace Go.Proofs.Ytddckdlkopohhaa
set_option linter.unusedSimpArgs false
set_option linter.unusedVariables false
open Go.RowKit

def okB (len op n : Int) : Bool := decide (1 ≤ op ∧ op ≤ 16) && (if op = 14 ∨ op = 15 then decide (0 ≤ n ∧ n ≤ len) else decide (op = 1 ∨ n = 0))
def rightP (ps : List (Int × Int)) : Bool := decide (ps.length ≤ 64) && ps.all (fun r => okB ps.length r.1 r.2)
theorem recs_get : ∀ (ps : List (Int × Int)) (j : Nat) (r : Int × Int), ps[j]? = some r → (recs ps)[j * 2]? = some (.int .i64 r.1) ∧ (recs ps)[j * 2 + 1]? = some (.int .i64 r.2)
  | [], j, r, h => by simp at h
  | a :: l, 0, r, h => by
    obtain rfl : a = r := by simpa using h
    exact ⟨rfl, rfl⟩
  | a :: l, j + 1, r, h => by
    have := recs_get l j r (by simpa using h)
    rw [show (j + 1) * 2 = j * 2 + 1 + 1 by omega]
    simpa [recs] using this
theorem jumps_any (op : Int) (w : World) : Calls Try.prog 16 #[.int .i64 op] w fun e w' => e = .returned (.bool (decide (op = 14 ∨ op = 15))) ∧ Ext w w' := by
  by_cases h1 : op = 14
  · have e1 : (op == 14) = true := by simp [h1]
    rw [decide_eq_true (.inl h1)]
    clear h1
    go_enter Try.func16, Try.ntmps16
    go_wp2
    go_returns
    exact ⟨retb rfl rfl, by (repeat' (first | with_reducible exact Ext.refl _ | with_reducible refine Ext.ext ?_ _ | with_reducible refine Ext.alloc ?_ _ | with_reducible refine Ext.drew ?_ | with_reducible refine Ext.drewN ?_ _ | with_reducible assumption))⟩
  · have e1 : (op == 14) = false := by simp [h1]
    by_cases h2 : op = 15
    · have e2 : (op == 15) = true := by simp [h2]
      rw [decide_eq_true (.inr h2)]
      clear h1 h2
      go_enter Try.func16, Try.ntmps16
      go_wp2
      go_returns
      exact ⟨retb rfl rfl, by (repeat' (first | with_reducible exact Ext.refl _ | with_reducible refine Ext.ext ?_ _ | with_reducible refine Ext.alloc ?_ _ | with_reducible refine Ext.drew ?_ | with_reducible refine Ext.drewN ?_ _ | with_reducible assumption))⟩
    · have e2 : (op == 15) = false := by simp [h2]
      rw [decide_eq_false (by omega)]
      clear h1 h2
      go_enter Try.func16, Try.ntmps16
      go_wp2
      go_returns
      exact ⟨retb rfl rfl, by (repeat' (first | with_reducible exact Ext.refl _ | with_reducible refine Ext.ext ?_ _ | with_reducible refine Ext.alloc ?_ _ | with_reducible refine Ext.drew ?_ | with_reducible refine Ext.drewN ?_ _ | with_reducible assumption))⟩
theorem all_false {ps : List (Int × Int)} {j : Nat} {r : Int × Int} {f : Int × Int → Bool} (h : ps[j]? = some r) (hf : f r = false) : ps.all f = false := by
  rw [List.all_eq_false]
  exact ⟨r, List.mem_of_getElem? h, by simp [hf]⟩
theorem all_true {ps : List (Int × Int)} {f : Int × Int → Bool} (h : ∀ (j : Nat) (r : Int × Int), ps[j]? = some r → f r = true) : ps.all f = true := by
  rw [List.all_eq_true]
  intro r hr
  obtain ⟨j, hj⟩ := List.getElem?_of_mem hr
  exact h j r hj
set_option maxHeartbeats 2000000 in
theorem right_any (ps : List (Int × Int)) (v : Value) (w : World) (h : Rd w 2 ps.length v (recs ps)) (hl : ps.length ≤ 1000) :
    Calls Try.prog 11 #[v] w fun e w' => e = .returned (.bool (rightP ps)) ∧ Ext w w' := by
  obtain ⟨a, c, rfl⟩ := h.form
  by_cases h64 : 64 < ps.length
  · have e0 : decide (64 < (ps.length : Int)) = true := by simp; omega
    rw [show rightP ps = false by unfold rightP; rw [decide_eq_false (by omega)]; rfl]
    clear h hl h64
    go_enter Try.func11, Try.ntmps11
    go_wp2
    go_returns
    exact ⟨retb rfl rfl, by (repeat' (first | with_reducible exact Ext.refl _ | with_reducible refine Ext.ext ?_ _ | with_reducible refine Ext.alloc ?_ _ | with_reducible refine Ext.drew ?_ | with_reducible refine Ext.drewN ?_ _ | with_reducible assumption))⟩
  have e0 : decide (64 < (ps.length : Int)) = false := by simp; omega
  have hr : rightP ps = ps.all (fun r => okB ps.length r.1 r.2) := by unfold rightP; rw [decide_eq_true (by omega)]; rfl
  rw [hr]
  have H := Lib.hid h
  have JJ := Lib.hid jumps_any
  generalize hn : ps.length = n at *
  have HN := Lib.hid hn
  have HL := Lib.hid hl
  clear h hl h64 hr hn
  go_enter Try.func11, Try.ntmps11
  go_wp2
  go_loopw [10] (fun i wr => ∃ j : Nat, j ≤ n ∧ i = .int .i64 j ∧ Ext w wr ∧ ∀ (k : Nat) (r : Int × Int), k < j → ps[k]? = some r → okB n r.1 r.2 = true) (fun i _ => n - (intOf i).toNat)
  case atStart => exact ⟨0, by omega, rfl, by (repeat' (first | with_reducible exact Ext.refl _ | with_reducible refine Ext.ext ?_ _ | with_reducible refine Ext.alloc ?_ _ | with_reducible refine Ext.drew ?_ | with_reducible refine Ext.drewN ?_ _ | with_reducible assumption)), fun k r hk => absurd hk (Nat.not_lt_zero k)⟩
  case round =>
    obtain ⟨j, hj, rfl, ⟨z, rfl⟩, hok⟩ := hrel
    have HOK := Lib.hid hok
    clear hok
    by_cases hlt : j < n
    · obtain ⟨⟨op, m⟩, hr⟩ : ∃ r, ps[j]? = some r := by
        have := HN.out
        exact ⟨ps[j], List.getElem?_eq_getElem (by omega)⟩
      obtain ⟨b, off, rfl, hc⟩ := H.out.cells (by omega)
      have d1 := hc _ _ (recs_get ps j _ hr).1
      have d2 : w.cell? ⟨b, off + j * 2 + 1, none⟩ = some (.int .i64 m) := by rw [Nat.add_assoc]; exact hc _ _ (recs_get ps j _ hr).2
      have q1 : (ext w z).cell? ⟨b, off + j * 2, none⟩ = some (.int .i64 op) := by rw [cell_ext_a _ _ _ (World.block_lt_of_cell? _ _ d1), d1]
      have q2 : (ext w z).cell? ⟨b, off + j * 2 + 1, none⟩ = some (.int .i64 m) := by rw [cell_ext_a _ _ _ (World.block_lt_of_cell? _ _ d2), d2]
      have i1 : (0 : Int) ≤ j := by omega
      have i2 : (j : Int) < n := by omega
      have ew : wrap64 ((j : Int) + 1) = ((j + 1 : Nat) : Int) := (IntWalk.wrap64_in _ ⟨by omega, by have := HL.out; omega⟩).trans (by omega)
      have HR := Lib.hid hr
      clear hc d1 d2 hr
      have J := Lib.hid (fun w => JJ.out op w)
      have STEP : okB n op m = true → ∀ (k : Nat) (r : Int × Int), k < j + 1 → ps[k]? = some r → okB n r.1 r.2 = true := fun ho k r hk hr => by
        rcases Nat.lt_or_ge k j with h | h
        · exact HOK.out k r h hr
        · obtain rfl : k = j := by omega
          rw [HR.out] at hr
          cases hr
          exact ho
      have STOP : okB n op m = false → ps.all (fun r => okB n r.1 r.2) = false := fun ho => all_false HR.out ho
      obtain ⟨b1, f1⟩ : ∃ b, decide (op < 1) = b := ⟨_, rfl⟩
      obtain ⟨b2, f2⟩ : ∃ b, decide (16 < op) = b := ⟨_, rfl⟩
      obtain ⟨b3, f3⟩ : ∃ b, decide (op = 14 ∨ op = 15) = b := ⟨_, rfl⟩
      obtain ⟨b4, f4⟩ : ∃ b, decide (m < 0) = b := ⟨_, rfl⟩
      obtain ⟨b5, f5⟩ : ∃ b, decide ((n : Int) < m) = b := ⟨_, rfl⟩
      obtain ⟨b6, f6⟩ : ∃ b, (op != 1) = b := ⟨_, rfl⟩
      obtain ⟨b7, f7⟩ : ∃ b, (m != 0) = b := ⟨_, rfl⟩
      have hb : okB n op m = (!b1 && !b2 && bif b3 then !b4 && !b5 else !(b6 && b7)) := by
        subst f1 f2 f3 f4 f5 f6 f7
        unfold okB
        by_cases c1 : 1 ≤ op ∧ op ≤ 16
        · rw [decide_eq_true c1, decide_eq_false (p := op < 1) (by omega), decide_eq_false (p := 16 < op) (by omega)]
          by_cases c3 : op = 14 ∨ op = 15
          · rw [if_pos c3, decide_eq_true c3]
            by_cases c4 : m < 0
            · rw [decide_eq_true c4, decide_eq_false (p := 0 ≤ m ∧ m ≤ n) (by omega)]; rfl
            · by_cases c5 : (n : Int) < m
              · rw [decide_eq_true c5, decide_eq_false (p := 0 ≤ m ∧ m ≤ n) (by omega), decide_eq_false c4]; rfl
              · rw [decide_eq_false c5, decide_eq_true (p := 0 ≤ m ∧ m ≤ n) (by omega), decide_eq_false c4]; rfl
          · rw [if_neg c3, decide_eq_false c3]
            by_cases c6 : op = 1
            · rw [decide_eq_true (p := op = 1 ∨ m = 0) (.inl c6), show (op != 1) = false by simp [c6]]; rfl
            · by_cases c7 : m = 0
              · rw [decide_eq_true (p := op = 1 ∨ m = 0) (.inr c7), show (m != 0) = false by simp [c7]]; simp
              · rw [decide_eq_false (p := op = 1 ∨ m = 0) (by omega), show (m != 0) = true by simp [c7], show (op != 1) = true by simp [c6]]; rfl
        · rw [decide_eq_false c1]
          by_cases c2 : op < 1
          · rw [decide_eq_true c2]; rfl
          · rw [decide_eq_true (p := 16 < op) (by omega)]; simp
      rw [f3] at J
      rw [hb] at STEP STOP
      have ST := Lib.hid STEP
      have SP := Lib.hid STOP
      clear STEP STOP HOK HR hb f3
      go_wp2_with (go_at_call 16; (with_reducible refine (J.out _).mono ?_); rintro e w' ⟨rfl, x, rfl⟩)
      all_goals first | (go_returns; exact ⟨retb rfl (SP.out (by simp [*])).symm, by (repeat' (first | with_reducible exact Ext.refl _ | with_reducible refine Ext.ext ?_ _ | with_reducible refine Ext.alloc ?_ _ | with_reducible refine Ext.drew ?_ | with_reducible refine Ext.drewN ?_ _ | with_reducible assumption))⟩) | exact ⟨⟨j + 1, by omega, congrArg (Value.int .i64) ew, by (repeat' (first | with_reducible exact Ext.refl _ | with_reducible refine Ext.ext ?_ _ | with_reducible refine Ext.alloc ?_ _ | with_reducible refine Ext.drew ?_ | with_reducible refine Ext.drewN ?_ _ | with_reducible assumption)), ST.out (by simp [*])⟩, by rw [ew]; simp only [intOf]; omega⟩
    · obtain rfl : j = n := by omega
      have RR := Lib.hid (all_true (f := fun r => okB j r.1 r.2) (fun k r hr => HOK.out k r (by
        have := (List.getElem?_eq_some_iff.1 hr).1
        have := HN.out
        omega) hr)).symm
      as_aux_lemma =>
        go_wp2
        go_returns
        exact ⟨retb rfl RR.out, by (repeat' (first | with_reducible exact Ext.refl _ | with_reducible refine Ext.ext ?_ _ | with_reducible refine Ext.alloc ?_ _ | with_reducible refine Ext.drew ?_ | with_reducible refine Ext.drewN ?_ _ | with_reducible assumption))⟩
end Go.Proofs.Ytddckdlkopohhaa
