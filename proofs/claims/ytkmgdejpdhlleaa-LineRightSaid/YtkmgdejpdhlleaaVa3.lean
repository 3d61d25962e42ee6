/- Graphs that may run by deep values: Check. -/
import Derived.Test.YtkmgdejpdhlleaaVaS
namespace Go.Proofs.Ytkmgdejpdhlleaa.Dq
set_option linter.unusedSimpArgs false
set_option linter.unusedVariables false
set_option maxRecDepth 100000
open Go.RowKit
open Va

def chkD : List S1 → CR × Prop
  | [.agg g] => (.tup [.c (.int .i64 (chkS (grC.dec g)).1), .c (.int .i64 (chkS (grC.dec g)).2)], grC.enc (grC.dec g) = g ∧ Sm (grC.dec g))
  | _ => (.one (.c (.bool false)), False)
set_option maxHeartbeats 16000000 in
theorem chk_cal (args : List S1) (h : (chkD args).2) : Cal Try.prog 24 args (chkD args).1 := by
  unfold chkD at h ⊢
  split at h
  · next g0 =>
    have CT := An5 @scoD.eq_1 @nodD.eq_1 @edgD.eq_1 @fulD.eq_1 @agnD.eq_1; refine DV.of (Γ := ⟨[(73, scoD), (74, nodD), (75, edgD), (76, fulD), (77, agnD)], [], []⟩) (rs := [ResultVar.tmp 2, ResultVar.tmp 3]) [0, 1, 2, 3, 4, 5, 6, 7, 8, 9, 10, 29, 32, 33, 34, 39, 57, 60, 61, 62, 68, 74, 75, 76, 82, 88, 89, 90, 95, 100, 101, 102, 106] ⟨by intro p hp; simp only [List.mem_cons, List.not_mem_nil, or_false] at hp; rcases hp with rfl | rfl | rfl | rfl | rfl; exact sco_cal; exact nod_cal; exact edg_cal; exact ful_cal; exact agn_cal, nofun⟩ (by kernel_rfl) Try.func24 rfl rfl (by kernel_rfl) rfl ?_; (repeat (with_reducible first | apply qa | apply qb | apply qc | apply qd | apply qe))
    obtain ⟨hg, ho⟩ := h
    obtain ⟨g, rfl⟩ : ∃ v, g0 = grC.enc v := ⟨_, hg.symm⟩
    rw [grC.de] at ho ⊢
    clear hg
    have hgd : grC.dec [D.sl (encL inC g.p), D.sl (encL inC g.b), D.sl (encL ndC g.n), D.sl (encL egC g.e)] = g := grC.de g
    have hs := ho
    obtain ⟨R, hR⟩ : ∃ R, chkS g = R := ⟨_, rfl⟩
    rw [hR]
    unfold chkS at hR
    obtain ⟨R1, R2⟩ := R
    dsimp only
    obtain ⟨q, hq⟩ : ∃ q, ((decide ((g.p.length : Int) < 1) || decide (8 < (g.p.length : Int))) || (g.b.length : Int) != (g.p.length : Int)) = q := ⟨_, rfl⟩
    rw [hq] at hR
    (have F := @grE; refine Rg3 ?_; clear F; (repeat (with_reducible first | apply qa | apply qb | apply qc | apply qd | apply qe)))
    (have F := An2 @encL_len @hq; refine Rg3 ?_; clear F; (repeat (with_reducible first | apply qa | apply qb | apply qc | apply qd | apply qe)))
    cases q
    rotate_left 1
    · rw [if_pos rfl] at hR
      obtain ⟨rfl, rfl⟩ := Prod.mk.inj hR
      (refine DV.condT rfl (fun _ => rfl) ?_; (repeat (with_reducible first | apply qa | apply qb | apply qc | apply qd | apply qe)))
      (refine Rg2 ?_; (repeat (with_reducible first | apply qa | apply qb | apply qc | apply qd | apply qe)))
      (refine DV.ret ?_; (repeat (first | (with_reducible refine thenD_ret' ?_) | (with_reducible refine blockD_ret' ?_))); (with_reducible refine retD_ret' ?_); try (refine Rt0 ?_; try with_reducible exact True.intro))
      try decide
    rw [if_neg (by decide)] at hR
    have hR : chk1 g = (R1, R2) := hR
    simp only [Bool.or_eq_false_iff, decide_eq_false_iff_not, bne_eq_false_iff_eq] at hq
    obtain ⟨⟨hp1, hp8⟩, hbl⟩ := hq
    unfold chk1 at hR
    obtain ⟨X, hX⟩ : ∃ X, (if ((decide ((g.n.length : Int) < 1) || decide (32 < (g.n.length : Int))) || decide (64 < (g.e.length : Int))) = true then ((11, 0) : Int × Int) else chk2 g) = X := ⟨_, rfl⟩
    rw [hX] at hR
    (refine DV.condF rfl (fun _ => rfl) ?_; (repeat (with_reducible first | apply qa | apply qb | apply qc | apply qd | apply qe)))
    (refine DV.skip ?_; (repeat with_reducible refine qn ?_); (with_reducible refine qm ?_); (repeat (with_reducible first | apply qa | apply qb | apply qc | apply qd | apply qe)))
    (have F := @encL_len; refine Rg3 ?_; clear F; (repeat (with_reducible first | apply qa | apply qb | apply qc | apply qd | apply qe)))
    
    refine DV.loop (fun j : Nat => ⟨[(1, .v true (.box 1 0)), (32, .v true (.c (.int .i64 g.p.length))), (33, .v true (.c (.int .i64 j)))], [(1, some ⟨0, 0, [[.sl (encL inC g.p), .sl (encL inC g.b), .sl (encL ndC g.n), .sl (encL egC g.e)]]⟩)], []⟩) (fun j => j ≤ g.p.length ∧ orE (fstF (f1 g) (g.p.length - j) j) X = (R1, R2) ∧ ∀ i : Int, 0 ≤ i → i < j → f1 g i = 0) (fun j => g.p.length - j) 0 ⟨Nat.zero_le _, hR, fun i h0 h1 => absurd h0 (by omega)⟩ (by (have F := @n0; exact Wk1)) (fun j hj => ?_)
    clear hR
    obtain ⟨hj, hR, hz1⟩ := hj
    (repeat (with_reducible first | apply qa | apply qb | apply qc | apply qd | apply qe))
    by_cases hlt : j < g.p.length
    · have d1 : decide ((j : Int) < (g.p.length : Int)) = true := decide_eq_true (by omega)
      have ew := wr1 j (by omega)
      rw [show g.p.length - j = (g.p.length - (j + 1)) + 1 by omega] at hR
      have hz : f1 g j = 0 → ∀ i : Int, 0 ≤ i → i < ((j + 1 : Nat) : Int) → f1 g i = 0 := fun h i h0 h1 => by
        by_cases e : i = (j : Int)
        · rw [e]; exact h
        · exact hz1 i h0 (by omega)
      have hok : ScOk g j := ⟨hs, by omega, by omega, by omega⟩
      obtain ⟨b, hb⟩ : ∃ b, scoB g j = b := ⟨_, rfl⟩
      (have F := @d1; refine Rg3 ?_; clear F; (repeat (with_reducible first | apply qa | apply qb | apply qc | apply qd | apply qe)))
      (refine DV.condT rfl (fun _ => rfl) ?_; (repeat (with_reducible first | apply qa | apply qb | apply qc | apply qd | apply qe)))
      (refine DV.skip ?_; (repeat with_reducible refine qn ?_); (with_reducible refine qm ?_); (repeat (with_reducible first | apply qa | apply qb | apply qc | apply qd | apply qe)))
      (refine Rg2 ?_; (repeat (with_reducible first | apply qa | apply qb | apply qc | apply qd | apply qe)))
      (have F := An4 @grE @hgd @hok @hb; refine Rg3 ?_; clear F; (repeat (with_reducible first | apply qa | apply qb | apply qc | apply qd | apply qe)))
      cases b
      · have hf : f1 g j ≠ 0 := by unfold f1; rw [hb]; decide
        have hfv : f1 g j = 6 := by unfold f1; rw [hb]; rfl
        rw [orE_hit (by rw [fst_hit hf]; exact hf), fst_hit hf, hfv] at hR
        obtain ⟨rfl, rfl⟩ := Prod.mk.inj hR
        (refine DV.condT rfl (fun _ => rfl) ?_; (repeat (with_reducible first | apply qa | apply qb | apply qc | apply qd | apply qe)))
        (refine Rg2 ?_; (repeat (with_reducible first | apply qa | apply qb | apply qc | apply qd | apply qe)))
        (refine DV.ret ?_; (repeat (first | (with_reducible refine thenD_ret' ?_) | (with_reducible refine blockD_ret' ?_))); (with_reducible refine retD_ret' ?_); try (refine Rt0 ?_; try with_reducible exact True.intro))
        try decide
      · have hf : f1 g j = 0 := by unfold f1; rw [hb]; rfl
        rw [fst_go hf] at hR
        (refine DV.condF rfl (fun _ => rfl) ?_; (repeat (with_reducible first | apply qa | apply qb | apply qc | apply qd | apply qe)))
        (refine DV.skip ?_; (repeat with_reducible refine qn ?_); (with_reducible refine qm ?_); (repeat (with_reducible first | apply qa | apply qb | apply qc | apply qd | apply qe)))
        (have F := @ew; refine Re3 ?_; clear F; (repeat with_reducible refine qn ?_); (try with_reducible refine qm ?_); (repeat (with_reducible first | apply qa | apply qb | apply qc | apply qd | apply qe)))
        exact ⟨j + 1, ⟨⟨hlt, hR, hz hf⟩, by omega⟩, by exact Wk0⟩
    obtain rfl : j = g.p.length := by omega
    have d1 : decide ((g.p.length : Int) < (g.p.length : Int)) = false := decide_eq_false (by omega)
    rw [Nat.sub_self] at hR
    have hR : X = (R1, R2) := hR
    (have F := @d1; refine Rg3 ?_; clear F; (repeat (with_reducible first | apply qa | apply qb | apply qc | apply qd | apply qe)))
    (refine DV.condF rfl (fun _ => rfl) ?_; (repeat (with_reducible first | apply qa | apply qb | apply qc | apply qd | apply qe)))
    (refine DV.exit ?_; (repeat (first | (with_reducible refine thenD_exit' ?_) | (with_reducible refine blockD_other (by decide) ?_))); (with_reducible refine blockD_same ?_); (repeat with_reducible refine qn ?_); (with_reducible refine qm ?_); (repeat (with_reducible first | apply qa | apply qb | apply qc | apply qd | apply qe)))
    rw [← hX] at hR
    clear hX
    have hpar := sco_par hz1
    obtain ⟨q, hq⟩ : ∃ q, ((decide ((g.n.length : Int) < 1) || decide (32 < (g.n.length : Int))) || decide (64 < (g.e.length : Int))) = q := ⟨_, rfl⟩
    rw [hq] at hR
    (have F := An2 @encL_len @hq; refine Rg3 ?_; clear F; (repeat (with_reducible first | apply qa | apply qb | apply qc | apply qd | apply qe)))
    cases q
    rotate_left 1
    · rw [if_pos rfl] at hR
      obtain ⟨rfl, rfl⟩ := Prod.mk.inj hR
      (refine DV.condT rfl (fun _ => rfl) ?_; (repeat (with_reducible first | apply qa | apply qb | apply qc | apply qd | apply qe)))
      (refine Rg2 ?_; (repeat (with_reducible first | apply qa | apply qb | apply qc | apply qd | apply qe)))
      (refine DV.ret ?_; (repeat (first | (with_reducible refine thenD_ret' ?_) | (with_reducible refine blockD_ret' ?_))); (with_reducible refine retD_ret' ?_); try (refine Rt0 ?_; try with_reducible exact True.intro))
      try decide
    rw [if_neg (by decide)] at hR
    simp only [Bool.or_eq_false_iff, decide_eq_false_iff_not] at hq
    obtain ⟨⟨hn1, hn32⟩, he64⟩ := hq
    unfold chk2 at hR
    (refine DV.condF rfl (fun _ => rfl) ?_; (repeat (with_reducible first | apply qa | apply qb | apply qc | apply qd | apply qe)))
    (refine DV.skip ?_; (repeat with_reducible refine qn ?_); (with_reducible refine qm ?_); (repeat (with_reducible first | apply qa | apply qb | apply qc | apply qd | apply qe)))
    (have F := @encL_len; refine Rg3 ?_; clear F; (repeat (with_reducible first | apply qa | apply qb | apply qc | apply qd | apply qe)))
    
    refine DV.loop (fun j : Nat => ⟨[(1, .v true (.box 1 0)), (60, .v true (.c (.int .i64 g.n.length))), (61, .v true (.c (.int .i64 j)))], [(1, some ⟨0, 0, [[.sl (encL inC g.p), .sl (encL inC g.b), .sl (encL ndC g.n), .sl (encL egC g.e)]]⟩)], []⟩) (fun j => j ≤ g.n.length ∧ orE (fstF (f2 g) (g.n.length - j) j) (chk3 g) = (R1, R2) ∧ ∀ i : Int, 0 ≤ i → i < j → f2 g i = 0) (fun j => g.n.length - j) 0 ⟨Nat.zero_le _, hR, fun i h0 h1 => absurd h0 (by omega)⟩ (by (have F := @n0; exact Wk1)) (fun j hj => ?_)
    clear hR
    obtain ⟨hj, hR, hz2⟩ := hj
    (repeat (with_reducible first | apply qa | apply qb | apply qc | apply qd | apply qe))
    by_cases hlt : j < g.n.length
    · have d1 : decide ((j : Int) < (g.n.length : Int)) = true := decide_eq_true (by omega)
      have ew := wr1 j (by omega)
      rw [show g.n.length - j = (g.n.length - (j + 1)) + 1 by omega] at hR
      have hz : f2 g j = 0 → ∀ i : Int, 0 ≤ i → i < ((j + 1 : Nat) : Int) → f2 g i = 0 := fun h i h0 h1 => by
        by_cases e : i = (j : Int)
        · rw [e]; exact h
        · exact hz2 i h0 (by omega)
      have hok : NdOk g j := ⟨hs, hpar, by omega, by omega, fun _ => nod_sc (hz2 _ (by omega) (by omega))⟩
      obtain ⟨F, hF⟩ : ∃ F, f2 g j = F := ⟨_, rfl⟩
      have hF2 : nodI g j (ndAt g j) = F := hF
      (have F := @d1; refine Rg3 ?_; clear F; (repeat (with_reducible first | apply qa | apply qb | apply qc | apply qd | apply qe)))
      (refine DV.condT rfl (fun _ => rfl) ?_; (repeat (with_reducible first | apply qa | apply qb | apply qc | apply qd | apply qe)))
      (refine DV.skip ?_; (repeat with_reducible refine qn ?_); (with_reducible refine qm ?_); (repeat (with_reducible first | apply qa | apply qb | apply qc | apply qd | apply qe)))
      (refine Rg2 ?_; (repeat (with_reducible first | apply qa | apply qb | apply qc | apply qd | apply qe)))
      (have F := An4 @grE @hgd @hok @hF2; refine Rg3 ?_; clear F; (repeat (with_reducible first | apply qa | apply qb | apply qc | apply qd | apply qe)))
      obtain ⟨b, hb⟩ : ∃ b, (F != 0) = b := ⟨_, rfl⟩
      (have F := @hb; refine Rg3 ?_; clear F; (repeat (with_reducible first | apply qa | apply qb | apply qc | apply qd | apply qe)))
      cases b
      rotate_left 1
      · have hf : f2 g j ≠ 0 := by rw [hF]; rwa [bne_iff_ne] at hb
        rw [orE_hit (by rw [fst_hit hf]; exact hf), fst_hit hf, hF] at hR
        obtain ⟨rfl, rfl⟩ := Prod.mk.inj hR
        (refine DV.condT rfl (fun _ => rfl) ?_; (repeat (with_reducible first | apply qa | apply qb | apply qc | apply qd | apply qe)))
        (refine Rg2 ?_; (repeat (with_reducible first | apply qa | apply qb | apply qc | apply qd | apply qe)))
        (refine DV.ret ?_; (repeat (first | (with_reducible refine thenD_ret' ?_) | (with_reducible refine blockD_ret' ?_))); (with_reducible refine retD_ret' ?_); try (refine Rt0 ?_; try with_reducible exact True.intro))
        try decide
      · have hf : f2 g j = 0 := by rw [hF]; simpa using hb
        rw [fst_go hf] at hR
        (refine DV.condF rfl (fun _ => rfl) ?_; (repeat (with_reducible first | apply qa | apply qb | apply qc | apply qd | apply qe)))
        (refine DV.skip ?_; (repeat with_reducible refine qn ?_); (with_reducible refine qm ?_); (repeat (with_reducible first | apply qa | apply qb | apply qc | apply qd | apply qe)))
        (have F := @ew; refine Re3 ?_; clear F; (repeat with_reducible refine qn ?_); (try with_reducible refine qm ?_); (repeat (with_reducible first | apply qa | apply qb | apply qc | apply qd | apply qe)))
        exact ⟨j + 1, ⟨⟨hlt, hR, hz hf⟩, by omega⟩, by exact Wk0⟩
    obtain rfl : j = g.n.length := by omega
    have d1 : decide ((g.n.length : Int) < (g.n.length : Int)) = false := decide_eq_false (by omega)
    rw [Nat.sub_self] at hR
    have hR : (chk3 g) = (R1, R2) := hR
    (have F := @d1; refine Rg3 ?_; clear F; (repeat (with_reducible first | apply qa | apply qb | apply qc | apply qd | apply qe)))
    (refine DV.condF rfl (fun _ => rfl) ?_; (repeat (with_reducible first | apply qa | apply qb | apply qc | apply qd | apply qe)))
    (refine DV.exit ?_; (repeat (first | (with_reducible refine thenD_exit' ?_) | (with_reducible refine blockD_other (by decide) ?_))); (with_reducible refine blockD_same ?_); (repeat with_reducible refine qn ?_); (with_reducible refine qm ?_); (repeat (with_reducible first | apply qa | apply qb | apply qc | apply qd | apply qe)))
    have hnd : ∀ i : Int, 0 ≤ i → i < g.n.length → 0 ≤ (ndAt g i).s ∧ (ndAt g i).s < g.p.length := fun i h0 h1 => nod_sc (hz2 i h0 h1)
    unfold chk3 at hR
    (have F := @encL_len; refine Rg3 ?_; clear F; (repeat (with_reducible first | apply qa | apply qb | apply qc | apply qd | apply qe)))
    
    refine DV.loop (fun j : Nat => ⟨[(1, .v true (.box 1 0)), (74, .v true (.c (.int .i64 g.e.length))), (75, .v true (.c (.int .i64 j)))], [(1, some ⟨0, 0, [[.sl (encL inC g.p), .sl (encL inC g.b), .sl (encL ndC g.n), .sl (encL egC g.e)]]⟩)], []⟩) (fun j => j ≤ g.e.length ∧ orE (fstF (edS g) (g.e.length - j) j) (chk4 g) = (R1, R2) ∧ ∀ i : Int, 0 ≤ i → i < j → edS g i = 0) (fun j => g.e.length - j) 0 ⟨Nat.zero_le _, hR, fun i h0 h1 => absurd h0 (by omega)⟩ (by (have F := @n0; exact Wk1)) (fun j hj => ?_)
    clear hR
    obtain ⟨hj, hR, hz3⟩ := hj
    (repeat (with_reducible first | apply qa | apply qb | apply qc | apply qd | apply qe))
    by_cases hlt : j < g.e.length
    · have d1 : decide ((j : Int) < (g.e.length : Int)) = true := decide_eq_true (by omega)
      have ew := wr1 j (by omega)
      rw [show g.e.length - j = (g.e.length - (j + 1)) + 1 by omega] at hR
      have hz : edS g j = 0 → ∀ i : Int, 0 ≤ i → i < ((j + 1 : Nat) : Int) → edS g i = 0 := fun h i h0 h1 => by
        by_cases e : i = (j : Int)
        · rw [e]; exact h
        · exact hz3 i h0 (by omega)
      have hok : EdOk g j := ⟨hs, by omega, by omega, hnd⟩
      obtain ⟨F, hF⟩ : ∃ F, edS g j = F := ⟨_, rfl⟩
      (have F := @d1; refine Rg3 ?_; clear F; (repeat (with_reducible first | apply qa | apply qb | apply qc | apply qd | apply qe)))
      (refine DV.condT rfl (fun _ => rfl) ?_; (repeat (with_reducible first | apply qa | apply qb | apply qc | apply qd | apply qe)))
      (refine DV.skip ?_; (repeat with_reducible refine qn ?_); (with_reducible refine qm ?_); (repeat (with_reducible first | apply qa | apply qb | apply qc | apply qd | apply qe)))
      (refine Rg2 ?_; (repeat (with_reducible first | apply qa | apply qb | apply qc | apply qd | apply qe)))
      (have F := An4 @grE @hgd @hok @hF; refine Rg3 ?_; clear F; (repeat (with_reducible first | apply qa | apply qb | apply qc | apply qd | apply qe)))
      obtain ⟨b, hb⟩ : ∃ b, (F != 0) = b := ⟨_, rfl⟩
      (have F := @hb; refine Rg3 ?_; clear F; (repeat (with_reducible first | apply qa | apply qb | apply qc | apply qd | apply qe)))
      cases b
      rotate_left 1
      · have hf : edS g j ≠ 0 := by rw [hF]; rwa [bne_iff_ne] at hb
        rw [orE_hit (by rw [fst_hit hf]; exact hf), fst_hit hf, hF] at hR
        obtain ⟨rfl, rfl⟩ := Prod.mk.inj hR
        (refine DV.condT rfl (fun _ => rfl) ?_; (repeat (with_reducible first | apply qa | apply qb | apply qc | apply qd | apply qe)))
        (refine Rg2 ?_; (repeat (with_reducible first | apply qa | apply qb | apply qc | apply qd | apply qe)))
        (refine DV.ret ?_; (repeat (first | (with_reducible refine thenD_ret' ?_) | (with_reducible refine blockD_ret' ?_))); (with_reducible refine retD_ret' ?_); try (refine Rt0 ?_; try with_reducible exact True.intro))
        try decide
      · have hf : edS g j = 0 := by rw [hF]; simpa using hb
        rw [fst_go hf] at hR
        (refine DV.condF rfl (fun _ => rfl) ?_; (repeat (with_reducible first | apply qa | apply qb | apply qc | apply qd | apply qe)))
        (refine DV.skip ?_; (repeat with_reducible refine qn ?_); (with_reducible refine qm ?_); (repeat (with_reducible first | apply qa | apply qb | apply qc | apply qd | apply qe)))
        (have F := @ew; refine Re3 ?_; clear F; (repeat with_reducible refine qn ?_); (try with_reducible refine qm ?_); (repeat (with_reducible first | apply qa | apply qb | apply qc | apply qd | apply qe)))
        exact ⟨j + 1, ⟨⟨hlt, hR, hz hf⟩, by omega⟩, by exact Wk0⟩
    obtain rfl : j = g.e.length := by omega
    have d1 : decide ((g.e.length : Int) < (g.e.length : Int)) = false := decide_eq_false (by omega)
    rw [Nat.sub_self] at hR
    have hR : (chk4 g) = (R1, R2) := hR
    (have F := @d1; refine Rg3 ?_; clear F; (repeat (with_reducible first | apply qa | apply qb | apply qc | apply qd | apply qe)))
    (refine DV.condF rfl (fun _ => rfl) ?_; (repeat (with_reducible first | apply qa | apply qb | apply qc | apply qd | apply qe)))
    (refine DV.exit ?_; (repeat (first | (with_reducible refine thenD_exit' ?_) | (with_reducible refine blockD_other (by decide) ?_))); (with_reducible refine blockD_same ?_); (repeat with_reducible refine qn ?_); (with_reducible refine qm ?_); (repeat (with_reducible first | apply qa | apply qb | apply qc | apply qd | apply qe)))
    have hed := fun i h0 h1 => edS_ok (hz3 i h0 h1)
    unfold chk4 at hR
    (have F := @encL_len; refine Rg3 ?_; clear F; (repeat (with_reducible first | apply qa | apply qb | apply qc | apply qd | apply qe)))
    
    refine DV.loop (fun j : Nat => ⟨[(1, .v true (.box 1 0)), (88, .v true (.c (.int .i64 g.n.length))), (89, .v true (.c (.int .i64 j)))], [(1, some ⟨0, 0, [[.sl (encL inC g.p), .sl (encL inC g.b), .sl (encL ndC g.n), .sl (encL egC g.e)]]⟩)], []⟩) (fun j => j ≤ g.n.length ∧ orE (fstF (f4 g) (g.n.length - j) j) (chk5 g) = (R1, R2) ∧ ∀ i : Int, 0 ≤ i → i < j → f4 g i = 0) (fun j => g.n.length - j) 0 ⟨Nat.zero_le _, hR, fun i h0 h1 => absurd h0 (by omega)⟩ (by (have F := @n0; exact Wk1)) (fun j hj => ?_)
    clear hR
    obtain ⟨hj, hR, hz4⟩ := hj
    (repeat (with_reducible first | apply qa | apply qb | apply qc | apply qd | apply qe))
    by_cases hlt : j < g.n.length
    · have d1 : decide ((j : Int) < (g.n.length : Int)) = true := decide_eq_true (by omega)
      have ew := wr1 j (by omega)
      rw [show g.n.length - j = (g.n.length - (j + 1)) + 1 by omega] at hR
      have hz : f4 g j = 0 → ∀ i : Int, 0 ≤ i → i < ((j + 1 : Nat) : Int) → f4 g i = 0 := fun h i h0 h1 => by
        by_cases e : i = (j : Int)
        · rw [e]; exact h
        · exact hz4 i h0 (by omega)
      have hok : FuOk g j := ⟨hs, by omega, by omega⟩
      obtain ⟨b, hb⟩ : ∃ b, fulB g j (ndAt g j) = b := ⟨_, rfl⟩
      (have F := @d1; refine Rg3 ?_; clear F; (repeat (with_reducible first | apply qa | apply qb | apply qc | apply qd | apply qe)))
      (refine DV.condT rfl (fun _ => rfl) ?_; (repeat (with_reducible first | apply qa | apply qb | apply qc | apply qd | apply qe)))
      (refine DV.skip ?_; (repeat with_reducible refine qn ?_); (with_reducible refine qm ?_); (repeat (with_reducible first | apply qa | apply qb | apply qc | apply qd | apply qe)))
      (refine Rg2 ?_; (repeat (with_reducible first | apply qa | apply qb | apply qc | apply qd | apply qe)))
      (have F := An4 @grE @hgd @hok @hb; refine Rg3 ?_; clear F; (repeat (with_reducible first | apply qa | apply qb | apply qc | apply qd | apply qe)))
      cases b
      · have hf : f4 g j ≠ 0 := by unfold f4; rw [hb]; decide
        have hfv : f4 g j = 7 := by unfold f4; rw [hb]; rfl
        rw [orE_hit (by rw [fst_hit hf]; exact hf), fst_hit hf, hfv] at hR
        obtain ⟨rfl, rfl⟩ := Prod.mk.inj hR
        (refine DV.condT rfl (fun _ => rfl) ?_; (repeat (with_reducible first | apply qa | apply qb | apply qc | apply qd | apply qe)))
        (refine Rg2 ?_; (repeat (with_reducible first | apply qa | apply qb | apply qc | apply qd | apply qe)))
        (refine DV.ret ?_; (repeat (first | (with_reducible refine thenD_ret' ?_) | (with_reducible refine blockD_ret' ?_))); (with_reducible refine retD_ret' ?_); try (refine Rt0 ?_; try with_reducible exact True.intro))
        try decide
      · have hf : f4 g j = 0 := by unfold f4; rw [hb]; rfl
        rw [fst_go hf] at hR
        (refine DV.condF rfl (fun _ => rfl) ?_; (repeat (with_reducible first | apply qa | apply qb | apply qc | apply qd | apply qe)))
        (refine DV.skip ?_; (repeat with_reducible refine qn ?_); (with_reducible refine qm ?_); (repeat (with_reducible first | apply qa | apply qb | apply qc | apply qd | apply qe)))
        (have F := @ew; refine Re3 ?_; clear F; (repeat with_reducible refine qn ?_); (try with_reducible refine qm ?_); (repeat (with_reducible first | apply qa | apply qb | apply qc | apply qd | apply qe)))
        exact ⟨j + 1, ⟨⟨hlt, hR, hz hf⟩, by omega⟩, by exact Wk0⟩
    obtain rfl : j = g.n.length := by omega
    have d1 : decide ((g.n.length : Int) < (g.n.length : Int)) = false := decide_eq_false (by omega)
    rw [Nat.sub_self] at hR
    have hR : (chk5 g) = (R1, R2) := hR
    (have F := @d1; refine Rg3 ?_; clear F; (repeat (with_reducible first | apply qa | apply qb | apply qc | apply qd | apply qe)))
    (refine DV.condF rfl (fun _ => rfl) ?_; (repeat (with_reducible first | apply qa | apply qb | apply qc | apply qd | apply qe)))
    (refine DV.exit ?_; (repeat (first | (with_reducible refine thenD_exit' ?_) | (with_reducible refine blockD_other (by decide) ?_))); (with_reducible refine blockD_same ?_); (repeat with_reducible refine qn ?_); (with_reducible refine qm ?_); (repeat (with_reducible first | apply qa | apply qb | apply qc | apply qd | apply qe)))
    unfold chk5 at hR
    (have F := @encL_len; refine Rg3 ?_; clear F; (repeat (with_reducible first | apply qa | apply qb | apply qc | apply qd | apply qe)))
    
    refine DV.loop (fun j : Nat => ⟨[(1, .v true (.box 1 0)), (100, .v true (.c (.int .i64 g.n.length))), (101, .v true (.c (.int .i64 j)))], [(1, some ⟨0, 0, [[.sl (encL inC g.p), .sl (encL inC g.b), .sl (encL ndC g.n), .sl (encL egC g.e)]]⟩)], []⟩) (fun j => j ≤ g.n.length ∧ orE (fstF (f5 g) (g.n.length - j) j) (0, 0) = (R1, R2) ∧ ∀ i : Int, 0 ≤ i → i < j → f5 g i = 0) (fun j => g.n.length - j) 0 ⟨Nat.zero_le _, hR, fun i h0 h1 => absurd h0 (by omega)⟩ (by (have F := @n0; exact Wk1)) (fun j hj => ?_)
    clear hR
    obtain ⟨hj, hR, hz5⟩ := hj
    (repeat (with_reducible first | apply qa | apply qb | apply qc | apply qd | apply qe))
    by_cases hlt : j < g.n.length
    · have d1 : decide ((j : Int) < (g.n.length : Int)) = true := decide_eq_true (by omega)
      have ew := wr1 j (by omega)
      rw [show g.n.length - j = (g.n.length - (j + 1)) + 1 by omega] at hR
      have hz : f5 g j = 0 → ∀ i : Int, 0 ≤ i → i < ((j + 1 : Nat) : Int) → f5 g i = 0 := fun h i h0 h1 => by
        by_cases e : i = (j : Int)
        · rw [e]; exact h
        · exact hz5 i h0 (by omega)
      have hok : AgOk g j := ⟨hs, by omega, by omega, hpar, hnd, hed⟩
      obtain ⟨b, hb⟩ : ∃ b, agS g j = b := ⟨_, rfl⟩
      have hnk : g.n.length ≤ 1000 := by omega
      (have F := @d1; refine Rg3 ?_; clear F; (repeat (with_reducible first | apply qa | apply qb | apply qc | apply qd | apply qe)))
      (refine DV.condT rfl (fun _ => rfl) ?_; (repeat (with_reducible first | apply qa | apply qb | apply qc | apply qd | apply qe)))
      (refine DV.skip ?_; (repeat with_reducible refine qn ?_); (with_reducible refine qm ?_); (repeat (with_reducible first | apply qa | apply qb | apply qc | apply qd | apply qe)))
      (refine Rg2 ?_; (repeat (with_reducible first | apply qa | apply qb | apply qc | apply qd | apply qe)))
      (have F := An5 @grE @hgd @hok @hb @hnk; refine Rg3 ?_; clear F; (repeat (with_reducible first | apply qa | apply qb | apply qc | apply qd | apply qe)))
      cases b
      rotate_left 1
      · have hf : f5 g j ≠ 0 := by unfold f5; rw [hb]; decide
        have hfv : f5 g j = 8 := by unfold f5; rw [hb]; rfl
        rw [orE_hit (by rw [fst_hit hf]; exact hf), fst_hit hf, hfv] at hR
        obtain ⟨rfl, rfl⟩ := Prod.mk.inj hR
        (refine DV.condT rfl (fun _ => rfl) ?_; (repeat (with_reducible first | apply qa | apply qb | apply qc | apply qd | apply qe)))
        (refine Rg2 ?_; (repeat (with_reducible first | apply qa | apply qb | apply qc | apply qd | apply qe)))
        (refine DV.ret ?_; (repeat (first | (with_reducible refine thenD_ret' ?_) | (with_reducible refine blockD_ret' ?_))); (with_reducible refine retD_ret' ?_); try (refine Rt0 ?_; try with_reducible exact True.intro))
        try decide
      · have hf : f5 g j = 0 := by unfold f5; rw [hb]; rfl
        rw [fst_go hf] at hR
        (refine DV.condF rfl (fun _ => rfl) ?_; (repeat (with_reducible first | apply qa | apply qb | apply qc | apply qd | apply qe)))
        (refine DV.skip ?_; (repeat with_reducible refine qn ?_); (with_reducible refine qm ?_); (repeat (with_reducible first | apply qa | apply qb | apply qc | apply qd | apply qe)))
        (have F := @ew; refine Re3 ?_; clear F; (repeat with_reducible refine qn ?_); (try with_reducible refine qm ?_); (repeat (with_reducible first | apply qa | apply qb | apply qc | apply qd | apply qe)))
        exact ⟨j + 1, ⟨⟨hlt, hR, hz hf⟩, by omega⟩, by exact Wk0⟩
    obtain rfl : j = g.n.length := by omega
    have d1 : decide ((g.n.length : Int) < (g.n.length : Int)) = false := decide_eq_false (by omega)
    rw [Nat.sub_self] at hR
    have hR : (0, 0) = (R1, R2) := hR
    (have F := @d1; refine Rg3 ?_; clear F; (repeat (with_reducible first | apply qa | apply qb | apply qc | apply qd | apply qe)))
    (refine DV.condF rfl (fun _ => rfl) ?_; (repeat (with_reducible first | apply qa | apply qb | apply qc | apply qd | apply qe)))
    (refine DV.exit ?_; (repeat (first | (with_reducible refine thenD_exit' ?_) | (with_reducible refine blockD_other (by decide) ?_))); (with_reducible refine blockD_same ?_); (repeat with_reducible refine qn ?_); (with_reducible refine qm ?_); (repeat (with_reducible first | apply qa | apply qb | apply qc | apply qd | apply qe)))
    obtain ⟨rfl, rfl⟩ := Prod.mk.inj hR
    (refine Rg2 ?_; (repeat (with_reducible first | apply qa | apply qb | apply qc | apply qd | apply qe)))
    (refine DV.ret ?_; (repeat (first | (with_reducible refine thenD_ret' ?_) | (with_reducible refine blockD_ret' ?_))); (with_reducible refine retD_ret' ?_); try (refine Rt0 ?_; try with_reducible exact True.intro))
    try decide
  · exact h.elim
end Go.Proofs.Ytkmgdejpdhlleaa.Dq
