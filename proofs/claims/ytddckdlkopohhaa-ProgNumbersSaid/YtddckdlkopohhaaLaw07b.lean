/- The walk of ProgNumbers. -/
import Derived.Test.YtddckdlkopohhaaPrA
import Derived.Test.YtddckdlkopohhaaPrB
namespace Go.Proofs.Ytddckdlkopohhaa
set_option linter.unusedSimpArgs false
set_option linter.unusedVariables false
open Go.RowKit

def numP (op a b : Int) : List (Int × Int) := [(1, 0), (1, a), (1, b), (op, 0), (16, 0)]
theorem num_right (op a b : Int) (h4 : 4 ≤ op) (h10 : op ≤ 10) : rightP (numP op a b) = true := by
  obtain rfl | rfl | rfl | rfl | rfl | rfl | rfl : op = 4 ∨ op = 5 ∨ op = 6 ∨ op = 7 ∨ op = 8 ∨ op = 9 ∨ op = 10 := by omega
  all_goals rfl
theorem num_three (op a b : Int) : runM (numP op a b) 256 (m0 0 0) = runM (numP op a b) 253 ⟨0, 0, [b, a, 0], [], 3, 0⟩ := by rfl
theorem num_four (op a b : Int) (h4 : 4 ≤ op) (h10 : op ≤ 10) : runM (numP op a b) 253 ⟨0, 0, [b, a, 0], [], 3, 0⟩ = runM (numP op a b) 252 ⟨0, 0, [(twoS op a b).1, 0], [], 4, (twoS op a b).2⟩ := by
  obtain rfl | rfl | rfl | rfl | rfl | rfl | rfl : op = 4 ∨ op = 5 ∨ op = 6 ∨ op = 7 ∨ op = 8 ∨ op = 9 ∨ op = 10 := by omega
  all_goals rfl
theorem num_ok (op a b y : Int) : runM (numP op a b) 252 ⟨0, 0, [y, 0], [], 4, 0⟩ = ⟨0, 0, [], [(0, y)], 5, 0⟩ := by rfl
theorem num_run (op a b : Int) (h4 : 4 ≤ op) (h10 : op ≤ 10) : ((twoS op a b).2 = 0 → runP (numP op a b) 0 0 = ([(0, (twoS op a b).1)], 0)) ∧ ((twoS op a b).2 ≠ 0 → runP (numP op a b) 0 0 = ([(0, -9223372036854775808 + (twoS op a b).2)], (twoS op a b).2)) := by
  have e : runP (numP op a b) 0 0 = outP (runM (numP op a b) 252 ⟨0, 0, [(twoS op a b).1, 0], [], 4, (twoS op a b).2⟩) := by
    unfold runP
    rw [if_pos (num_right op a b h4 h10), num_three, num_four op a b h4 h10]
  rw [e]
  generalize twoS op a b = r
  obtain ⟨y, e⟩ := r
  refine ⟨fun h => ?_, fun h => ?_⟩
  · dsimp only at h
    subst h
    rw [num_ok]
    rfl
  · dsimp only at h ⊢
    rw [runM, if_neg (fun g => h g.2), outP, if_neg h]
theorem num_in {op a b : Int} (ha : In64 a) (hb : In64 b) : ∀ r ∈ numP op a b, In64 r.2 := by
  intro r hr
  simp only [numP, List.mem_cons, List.not_mem_nil, or_false] at hr
  rcases hr with rfl | rfl | rfl | rfl | rfl
  · decide
  · exact ha
  · exact hb
  · exact (by decide : In64 0)
  · exact (by decide : In64 0)
set_option maxHeartbeats 4000000 in
theorem walk_ProgNumbers (w : World) (a : Int) (ha : In64 a) (b : Int) (hb : In64 b) :
    Calls Try.prog 5 #[.int .i64 a, .int .i64 b] w fun r w' => r = .returned (.bool true) ∧ Ext w w' := by
  have AW := Lib.hid awake_any
  have RUN := Lib.hid (fun op v w h => run_any (numP op a b) v 0 0 w h (by simp [numP]) (by decide) (by decide) (num_in ha hb))
  have OF := Lib.hid (fun op h4 h10 => of_any op a b h4 h10 ha hb)
  clear ha hb
  go_enter Try.func5, Try.ntmps5
  go_wp2_with (first | (go_at_call 8; refine (AW.out _).mono ?_; rintro e w' ⟨rfl, x, rfl⟩))
  go_loopw [5] (fun i wr => ∃ j : Nat, 4 ≤ j ∧ j ≤ 11 ∧ i = .int .i64 j ∧ Ext w wr) (fun i _ => 11 - (intOf i).toNat)
  case atStart => exact ⟨4, by omega, by omega, rfl, by (repeat' (first | with_reducible exact Ext.refl _ | with_reducible refine Ext.ext ?_ _ | with_reducible refine Ext.alloc ?_ _ | with_reducible refine Ext.drew ?_ | with_reducible refine Ext.drewN ?_ _ | with_reducible assumption))⟩
  case round =>
    obtain ⟨j, hj4, hj11, rfl, ⟨z, rfl⟩⟩ := hrel
    by_cases hlt : j ≤ 10
    · have h4 : (4 : Int) ≤ j := by omega
      have h10 : (j : Int) ≤ 10 := by omega
      have R := Lib.hid (RUN.out j)
      have O := Lib.hid (OF.out j h4 h10)
      obtain ⟨n1, n2⟩ := num_run j a b h4 h10
      have ew : wrap64 ((j : Int) + 1) = ((j + 1 : Nat) : Int) := (IntWalk.wrap64_in _ ⟨by omega, by omega⟩).trans (by omega)
      generalize twoS j a b = r at *
      obtain ⟨y, e⟩ := r
      dsimp only at n1 n2
      by_cases he : e = 0
      · subst he
        rw [n1 rfl] at R
        clear n1 n2
        go_wp2_with (first | (go_at_call 9; refine (R.out _ _ (rd_lit _ 2 5 _ _ _ _ (by rfl) (by simp))).mono ?_; intro e w' he; obtain ⟨g, c, rfl, hx, c0, c1, -, -⟩ := he.one; have HX := Lib.hid hx; clear hx he) | (go_at_call 14; refine (O.out _).mono ?_; rintro e w'' ⟨rfl, ⟨z2, rfl⟩⟩))
        exact ⟨⟨j + 1, by omega, by omega, congrArg (Value.int .i64) (by omega), ((((Ext.refl w).ext z).alloc _).trans HX.out).ext z2⟩, by simp only [intOf]; omega⟩
      · rw [n2 he] at R
        have e1 : (e == 0) = false := by simp [he]
        have e2 : (e != e) = false := by simp
        clear n1 n2 he
        go_wp2_with (first | (go_at_call 9; refine (R.out _ _ (rd_lit _ 2 5 _ _ _ _ (by rfl) (by simp))).mono ?_; intro e w' he; obtain ⟨g, c, rfl, hx, c0, c1, -, -⟩ := he.one; have HX := Lib.hid hx; clear hx he) | (go_at_call 14; refine (O.out _).mono ?_; rintro e w'' ⟨rfl, ⟨z2, rfl⟩⟩))
        exact ⟨⟨j + 1, by omega, by omega, congrArg (Value.int .i64) (by omega), ((((Ext.refl w).ext z).alloc _).trans HX.out).ext z2⟩, by simp only [intOf]; omega⟩
    · have h10 : ¬ (j : Int) ≤ 10 := by omega
      go_wp2
      go_returns
      exact ⟨retb rfl rfl, by (repeat' (first | with_reducible exact Ext.refl _ | with_reducible refine Ext.ext ?_ _ | with_reducible refine Ext.alloc ?_ _ | with_reducible refine Ext.drew ?_ | with_reducible refine Ext.drewN ?_ _ | with_reducible assumption))⟩
end Go.Proofs.Ytddckdlkopohhaa
