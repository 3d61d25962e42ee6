/- Graphs that may run by deep values: the reference's Check; short graphs. -/
import Derived.Test.YtkmgdejpdhlleaaR9c
namespace Go.Proofs.Ytkmgdejpdhlleaa.Dq
set_option linter.unusedSimpArgs false
set_option linter.unusedVariables false
set_option maxRecDepth 100000
open Go.RowKit
open Va

def r9kD : List S1 → CR × Prop
  | [.agg g] => (.tup [.c (.int .i64 (ck9 (grC.dec g)).1), .c (.int .i64 (ck9 (grC.dec g)).2)], grC.enc (grC.dec g) = g ∧ Sm (grC.dec g) ∧ ∀ x ∈ (grC.dec g).n, x.pr.length ≤ 1073741823)
  | _ => (.one (.c (.bool false)), False)
set_option maxHeartbeats 32000000 in
theorem r9k_cal (args : List S1) (h : (r9kD args).2) : Cal Try.prog 86 args (r9kD args).1 := by
  unfold r9kD at h ⊢
  split at h
  · next g0 =>
    have CT := An5 @r9cD.eq_1 @r9nD.eq_1 @r9eD.eq_1 @r9pD.eq_1 @r9gD.eq_1; refine DV.of (Γ := ⟨[(90, r9cD), (136, r9nD), (137, r9eD), (138, r9pD), (139, r9gD)], [], []⟩) (rs := [ResultVar.tmp 2, ResultVar.tmp 3]) [0, 1, 2, 3, 4, 5, 6, 7, 8, 9, 10, 11, 12, 13, 32, 37, 55, 96, 113, 118, 125, 132, 139, 146, 153, 163, 174, 180, 202] ⟨by intro p hp; simp only [List.mem_cons, List.not_mem_nil, or_false] at hp; rcases hp with rfl | rfl | rfl | rfl | rfl; exact r9c_cal; exact r9n_cal; exact r9e_cal; exact r9p_cal; exact r9g_cal, nofun⟩ (by kernel_rfl) Try.func86 rfl rfl (by kernel_rfl) rfl ?_; (repeat (with_reducible first | apply qa | apply qb | apply qc | apply qd | apply qe))
    obtain ⟨hg, ho⟩ := h
    obtain ⟨g, rfl⟩ : ∃ v, g0 = grC.enc v := ⟨_, hg.symm⟩
    rw [grC.de] at ho ⊢
    clear hg
    have hgd : grC.dec [D.sl (encL inC g.p), D.sl (encL inC g.b), D.sl (encL ndC g.n), D.sl (encL egC g.e)] = g := grC.de g
    obtain ⟨hs, hpr⟩ := ho
    obtain ⟨R, hR⟩ : ∃ R, ck9 g = R := ⟨_, rfl⟩
    rw [hR]
    unfold ck9 at hR
    obtain ⟨R1, R2⟩ := R
    dsimp only
    (have F := @grE; refine Rg3 ?_; clear F; (repeat (with_reducible first | apply qa | apply qb | apply qc | apply qd | apply qe)))
    obtain ⟨q, hq⟩ : ∃ q, (((g.p.length : Int) == 0 || decide (8 < (g.p.length : Int))) || (g.p.length : Int) != (g.b.length : Int)) = q := ⟨_, rfl⟩
    rw [hq] at hR
    (have F := An2 @encL_len @hq; refine Rg3 ?_; clear F; (repeat (with_reducible first | apply qa | apply qb | apply qc | apply qd | apply qe)))
    cases q
    rotate_left 1
    · rw [if_pos rfl] at hR
      obtain ⟨rfl, rfl⟩ := Prod.mk.inj hR
      (refine DV.condT rfl (fun _ => rfl) ?_; (repeat (with_reducible first | apply qa | apply qb | apply qc | apply qd | apply qe)))
      (refine Rg2 ?_; (repeat (with_reducible first | apply qa | apply qb | apply qc | apply qd | apply qe)))
      (refine DV.ret ?_; (repeat (first | (with_reducible refine thenD_ret' ?_) | (with_reducible refine blockD_ret' ?_))); (with_reducible refine retD_ret' ?_); try (refine Rt0 ?_; try with_reducible exact True.intro))
      try decide
    rw [if_neg (by decide)] at hR
    have hR : ck1 g = (R1, R2) := hR
    simp only [Bool.or_eq_false_iff, decide_eq_false_iff_not, bne_eq_false_iff_eq, beq_eq_false_iff_ne] at hq
    obtain ⟨⟨hp1, hp8⟩, hbl⟩ := hq
    unfold ck1 at hR
    obtain ⟨X, hX⟩ : ∃ X, (if (((g.n.length : Int) == 0 || decide (32 < (g.n.length : Int))) || decide (64 < (g.e.length : Int))) = true then ((11, 0) : Int × Int) else ck2 g) = X := ⟨_, rfl⟩
    rw [hX] at hR
    (refine DV.condF rfl (fun _ => rfl) ?_; (repeat (with_reducible first | apply qa | apply qb | apply qc | apply qd | apply qe)))
    (refine DV.skip ?_; (repeat with_reducible refine qn ?_); (with_reducible refine qm ?_); (repeat (with_reducible first | apply qa | apply qb | apply qc | apply qd | apply qe)))
    (refine Rg2 ?_; (repeat (with_reducible first | apply qa | apply qb | apply qc | apply qd | apply qe)))
    refine DV.loop (fun j : Nat => ⟨[(1, .v true (.box 1 0)), (4, .v true (.c (.int .i64 j)))], [(1, some ⟨0, 0, [[.sl (encL inC g.p), .sl (encL inC g.b), .sl (encL ndC g.n), .sl (encL egC g.e)]]⟩)], []⟩) (fun j => j ≤ g.p.length ∧ orE (fstF (r1 g) (g.p.length - j) j) X = (R1, R2) ∧ ∀ i : Int, 0 ≤ i → i < j → r1 g i = 0) (fun j => g.p.length - j) 0 ⟨Nat.zero_le _, hR, fun i h0 h1 => absurd h0 (by omega)⟩ (by (have F := @n0; exact Wk1)) (fun j hj => ?_)
    clear hR
    obtain ⟨hj, hR, hz1⟩ := hj
    (repeat (with_reducible first | apply qa | apply qb | apply qc | apply qd | apply qe))
    by_cases hlt : j < g.p.length
    · have d1 : decide ((j : Int) < (g.p.length : Int)) = true := decide_eq_true (by omega)
      have ew := wr1 j (by omega)
      rw [show g.p.length - j = (g.p.length - (j + 1)) + 1 by omega] at hR
      have hz : r1 g j = 0 → ∀ i : Int, 0 ≤ i → i < ((j + 1 : Nat) : Int) → r1 g i = 0 := fun h i h0 h1 => by
        by_cases e : i = (j : Int)
        · rw [e]; exact h
        · exact hz1 i h0 (by omega)
      have k0 : (0 : Int) ≤ j := by omega
      have k1 : (j : Int) < (g.p.length : Int) := by omega
      have k2 : j < g.p.length := hlt
    
      (have F := An2 @encL_len @d1; refine Rg3 ?_; clear F; (repeat (with_reducible first | apply qa | apply qb | apply qc | apply qd | apply qe)))
      (refine DV.condT rfl (fun _ => rfl) ?_; (repeat (with_reducible first | apply qa | apply qb | apply qc | apply qd | apply qe)))
      (refine DV.skip ?_; (repeat with_reducible refine qn ?_); (with_reducible refine qm ?_); (repeat (with_reducible first | apply qa | apply qb | apply qc | apply qd | apply qe)))
      have m1 : (j : Int) < (g.b.length : Int) := by omega
      have m2 : j < g.b.length := by omega
      have c3 := encL_get (C := inC) (getI_of k0 k1)
      have c4 := encL_get (C := inC) (getI_of k0 m1)
      rw [i2n] at c3 c4
      obtain ⟨b, hb⟩ : ∃ b, sc9 g j = b := ⟨_, rfl⟩
      have hsc := hb
      unfold sc9 at hsc
      obtain ⟨x, hx⟩ : ∃ x, getI g.p j = x := ⟨_, rfl⟩
      obtain ⟨y, hy⟩ : ∃ x, getI g.b j = x := ⟨_, rfl⟩
      obtain ⟨l, hl⟩ : ∃ x, chS g.p j = x := ⟨_, rfl⟩
      rw [hx] at c3
      rw [hy] at c4
      rw [hx, hy, hl] at hsc
      obtain ⟨q, hq⟩ : ∃ q, decide (0 < (j : Int)) = q := ⟨_, rfl⟩
      rw [hq] at hsc
      obtain ⟨q1, hq1⟩ : ∃ q, (x == -1 && y == 0) = q := ⟨_, rfl⟩
      (have F := An11 @i2n @encL_len @k0 @k1 @k2 @m1 @m2 @c3 @c4 @inE @hq1; refine Rg3 ?_; clear F; (repeat (with_reducible first | apply qa | apply qb | apply qc | apply qd | apply qe)))
      (have F := @hq; refine Rg3 ?_; clear F; (repeat (with_reducible first | apply qa | apply qb | apply qc | apply qd | apply qe)))
      cases q
      · rw [if_neg (by decide), hq1] at hsc
        have hsc := hsc.symm
        subst hsc
        (refine DV.condF rfl (fun _ => rfl) ?_; (repeat (with_reducible first | apply qa | apply qb | apply qc | apply qd | apply qe)))
        (refine DV.skip ?_; (repeat with_reducible refine qn ?_); (with_reducible refine qm ?_); (repeat (with_reducible first | apply qa | apply qb | apply qc | apply qd | apply qe)))
        (refine Rg2 ?_; (repeat (with_reducible first | apply qa | apply qb | apply qc | apply qd | apply qe)))
        cases b
        · have hf : r1 g j ≠ 0 := by unfold r1; rw [hb]; decide
          have hfv : r1 g j = 6 := by unfold r1; rw [hb]; rfl
          rw [orE_hit (by rw [fst_hit hf]; exact hf), fst_hit hf, hfv] at hR
          obtain ⟨rfl, rfl⟩ := Prod.mk.inj hR
          (refine DV.condT rfl (fun _ => rfl) ?_; (repeat (with_reducible first | apply qa | apply qb | apply qc | apply qd | apply qe)))
          (refine Rg2 ?_; (repeat (with_reducible first | apply qa | apply qb | apply qc | apply qd | apply qe)))
          (refine DV.ret ?_; (repeat (first | (with_reducible refine thenD_ret' ?_) | (with_reducible refine blockD_ret' ?_))); (with_reducible refine retD_ret' ?_); try (refine Rt0 ?_; try with_reducible exact True.intro))
          try decide
        · have hf : r1 g j = 0 := by unfold r1; rw [hb]; rfl
          rw [fst_go hf] at hR
          (refine DV.condF rfl (fun _ => rfl) ?_; (repeat (with_reducible first | apply qa | apply qb | apply qc | apply qd | apply qe)))
          (refine DV.skip ?_; (repeat with_reducible refine qn ?_); (with_reducible refine qm ?_); (repeat (with_reducible first | apply qa | apply qb | apply qc | apply qd | apply qe)))
          (have F := @ew; refine Re3 ?_; clear F; (repeat with_reducible refine qn ?_); (try with_reducible refine qm ?_); (repeat (with_reducible first | apply qa | apply qb | apply qc | apply qd | apply qe)))
          exact ⟨j + 1, ⟨⟨hlt, hR, hz hf⟩, by omega⟩, by exact Wk0⟩
      · rw [if_pos rfl] at hsc
        obtain ⟨q2, hq2⟩ : ∃ q, (((decide (0 ≤ x) && decide (x < (j : Int))) && decide (1 ≤ y)) && decide (y ≤ 64)) = q := ⟨_, rfl⟩
        rw [hq2] at hsc
        (refine DV.condT rfl (fun _ => rfl) ?_; (repeat (with_reducible first | apply qa | apply qb | apply qc | apply qd | apply qe)))
        (have F := An11 @i2n @encL_len @k0 @k1 @k2 @m1 @m2 @c3 @c4 @inE @hq2; refine Rg3 ?_; clear F; (repeat (with_reducible first | apply qa | apply qb | apply qc | apply qd | apply qe)))
        (have F := An6 @grE @hgd @hs @hl @encL_len @hsc; refine Re3 ?_; clear F; (repeat with_reducible refine qn ?_); (try with_reducible refine qm ?_); (repeat (with_reducible first | apply qa | apply qb | apply qc | apply qd | apply qe)))
        (refine Rg2 ?_; (repeat (with_reducible first | apply qa | apply qb | apply qc | apply qd | apply qe)))
        cases b
        · have hf : r1 g j ≠ 0 := by unfold r1; rw [hb]; decide
          have hfv : r1 g j = 6 := by unfold r1; rw [hb]; rfl
          rw [orE_hit (by rw [fst_hit hf]; exact hf), fst_hit hf, hfv] at hR
          obtain ⟨rfl, rfl⟩ := Prod.mk.inj hR
          (refine DV.condT rfl (fun _ => rfl) ?_; (repeat (with_reducible first | apply qa | apply qb | apply qc | apply qd | apply qe)))
          (refine Rg2 ?_; (repeat (with_reducible first | apply qa | apply qb | apply qc | apply qd | apply qe)))
          (refine DV.ret ?_; (repeat (first | (with_reducible refine thenD_ret' ?_) | (with_reducible refine blockD_ret' ?_))); (with_reducible refine retD_ret' ?_); try (refine Rt0 ?_; try with_reducible exact True.intro))
          try decide
        · have hf : r1 g j = 0 := by unfold r1; rw [hb]; rfl
          rw [fst_go hf] at hR
          (refine DV.condF rfl (fun _ => rfl) ?_; (repeat (with_reducible first | apply qa | apply qb | apply qc | apply qd | apply qe)))
          (refine DV.skip ?_; (repeat with_reducible refine qn ?_); (with_reducible refine qm ?_); (repeat (with_reducible first | apply qa | apply qb | apply qc | apply qd | apply qe)))
          (have F := @ew; refine Re3 ?_; clear F; (repeat with_reducible refine qn ?_); (try with_reducible refine qm ?_); (repeat (with_reducible first | apply qa | apply qb | apply qc | apply qd | apply qe)))
          exact ⟨j + 1, ⟨⟨hlt, hR, hz hf⟩, by omega⟩, by exact Wk0⟩
    obtain rfl : j = g.p.length := by omega
    have d1 : decide ((g.p.length : Int) < (g.p.length : Int)) = false := decide_eq_false (by omega)
    rw [Nat.sub_self] at hR
    have hR : X = (R1, R2) := hR
    (have F := An2 @encL_len @d1; refine Rg3 ?_; clear F; (repeat (with_reducible first | apply qa | apply qb | apply qc | apply qd | apply qe)))
    (refine DV.condF rfl (fun _ => rfl) ?_; (repeat (with_reducible first | apply qa | apply qb | apply qc | apply qd | apply qe)))
    (refine DV.exit ?_; (repeat (first | (with_reducible refine thenD_exit' ?_) | (with_reducible refine blockD_other (by decide) ?_))); (with_reducible refine blockD_same ?_); (repeat with_reducible refine qn ?_); (with_reducible refine qm ?_); (repeat (with_reducible first | apply qa | apply qb | apply qc | apply qd | apply qe)))
    rw [← hX] at hR
    clear hX
    obtain ⟨q, hq⟩ : ∃ q, (((g.n.length : Int) == 0 || decide (32 < (g.n.length : Int))) || decide (64 < (g.e.length : Int))) = q := ⟨_, rfl⟩
    rw [hq] at hR
    (have F := An2 @encL_len @hq; refine Rg3 ?_; clear F; (repeat (with_reducible first | apply qa | apply qb | apply qc | apply qd | apply qe)))
    cases q
    rotate_left 1
    · rw [if_pos rfl] at hR
      obtain ⟨rfl, rfl⟩ := Prod.mk.inj hR
      (refine DV.condT rfl (fun _ => rfl) ?_; (repeat (with_reducible first | apply qa | apply qb | apply qc | apply qd | apply qe)))
      (refine Rg2 ?_; (repeat (with_reducible first | apply qa | apply qb | apply qc | apply qd | apply qe)))
      (refine DV.ret ?_; (repeat (first | (with_reducible refine thenD_ret' ?_) | (with_reducible refine blockD_ret' ?_))); (with_reducible refine retD_ret' ?_); try (refine Rt0 ?_; try with_reducible exact True.intro))
      try decide
    rw [if_neg (by decide)] at hR
    simp only [Bool.or_eq_false_iff, decide_eq_false_iff_not, beq_eq_false_iff_ne] at hq
    obtain ⟨⟨hn1, hn32⟩, he64⟩ := hq
    unfold ck2 at hR
    (refine DV.condF rfl (fun _ => rfl) ?_; (repeat (with_reducible first | apply qa | apply qb | apply qc | apply qd | apply qe)))
    (refine DV.skip ?_; (repeat with_reducible refine qn ?_); (with_reducible refine qm ?_); (repeat (with_reducible first | apply qa | apply qb | apply qc | apply qd | apply qe)))
    (refine Rg2 ?_; (repeat (with_reducible first | apply qa | apply qb | apply qc | apply qd | apply qe)))
    refine DV.loop (fun j : Nat => ⟨[(1, .v true (.box 1 0)), (6, .v true (.c (.int .i64 j)))], [(1, some ⟨0, 0, [[.sl (encL inC g.p), .sl (encL inC g.b), .sl (encL ndC g.n), .sl (encL egC g.e)]]⟩)], []⟩) (fun j => j ≤ g.n.length ∧ orE (fstF (r2 g) (g.n.length - j) j) (ck3 g) = (R1, R2) ∧ ∀ i : Int, 0 ≤ i → i < j → r2 g i = 0) (fun j => g.n.length - j) 0 ⟨Nat.zero_le _, hR, fun i h0 h1 => absurd h0 (by omega)⟩ (by (have F := @n0; exact Wk1)) (fun j hj => ?_)
    clear hR
    obtain ⟨hj, hR, hz2⟩ := hj
    (repeat (with_reducible first | apply qa | apply qb | apply qc | apply qd | apply qe))
    by_cases hlt : j < g.n.length
    · have d1 : decide ((j : Int) < (g.n.length : Int)) = true := decide_eq_true (by omega)
      have ew := wr1 j (by omega)
      rw [show g.n.length - j = (g.n.length - (j + 1)) + 1 by omega] at hR
      have hz : r2 g j = 0 → ∀ i : Int, 0 ≤ i → i < ((j + 1 : Nat) : Int) → r2 g i = 0 := fun h i h0 h1 => by
        by_cases e : i = (j : Int)
        · rw [e]; exact h
        · exact hz2 i h0 (by omega)
      have k0 : (0 : Int) ≤ j := by omega
      have k1 : (j : Int) < (g.n.length : Int) := by omega
      have k2 : j < g.n.length := hlt
      have hok : NnOk g j := ⟨hs, by omega, by omega⟩
      have hpl : (ndAt g j).pr.length ≤ 1073741823 := hpr _ (List.mem_of_getElem? (ndAt_of k0 k1))
      obtain ⟨F, hF⟩ : ∃ F, r2 g j = F := ⟨_, rfl⟩
      have hF2 : nd9 g j (ndAt g j) = F := hF
      (have F := An2 @encL_len @d1; refine Rg3 ?_; clear F; (repeat (with_reducible first | apply qa | apply qb | apply qc | apply qd | apply qe)))
      (refine DV.condT rfl (fun _ => rfl) ?_; (repeat (with_reducible first | apply qa | apply qb | apply qc | apply qd | apply qe)))
      (refine DV.skip ?_; (repeat with_reducible refine qn ?_); (with_reducible refine qm ?_); (repeat (with_reducible first | apply qa | apply qb | apply qc | apply qd | apply qe)))
      (have F := An6 @i2n @grE @hgd @hok @hpl @hF2; refine Rg3 ?_; clear F; (repeat (with_reducible first | apply qa | apply qb | apply qc | apply qd | apply qe)))
      obtain ⟨b, hb⟩ : ∃ b, (F != 0) = b := ⟨_, rfl⟩
      (have F := @hb; refine Rg3 ?_; clear F; (repeat (with_reducible first | apply qa | apply qb | apply qc | apply qd | apply qe)))
      cases b
      rotate_left 1
      · have hf : r2 g j ≠ 0 := by rw [hF]; rwa [bne_iff_ne] at hb
        have hfv : r2 g j = F := by exact hF
        rw [orE_hit (by rw [fst_hit hf]; exact hf), fst_hit hf, hfv] at hR
        obtain ⟨rfl, rfl⟩ := Prod.mk.inj hR
        (refine DV.condT rfl (fun _ => rfl) ?_; (repeat (with_reducible first | apply qa | apply qb | apply qc | apply qd | apply qe)))
        (refine Rg2 ?_; (repeat (with_reducible first | apply qa | apply qb | apply qc | apply qd | apply qe)))
        (refine DV.ret ?_; (repeat (first | (with_reducible refine thenD_ret' ?_) | (with_reducible refine blockD_ret' ?_))); (with_reducible refine retD_ret' ?_); try (refine Rt0 ?_; try with_reducible exact True.intro))
        try decide
      · have hf : r2 g j = 0 := by rw [hF]; simpa using hb
        rw [fst_go hf] at hR
        (refine DV.condF rfl (fun _ => rfl) ?_; (repeat (with_reducible first | apply qa | apply qb | apply qc | apply qd | apply qe)))
        (refine DV.skip ?_; (repeat with_reducible refine qn ?_); (with_reducible refine qm ?_); (repeat (with_reducible first | apply qa | apply qb | apply qc | apply qd | apply qe)))
        (have F := @ew; refine Re3 ?_; clear F; (repeat with_reducible refine qn ?_); (try with_reducible refine qm ?_); (repeat (with_reducible first | apply qa | apply qb | apply qc | apply qd | apply qe)))
        exact ⟨j + 1, ⟨⟨hlt, hR, hz hf⟩, by omega⟩, by exact Wk0⟩
    obtain rfl : j = g.n.length := by omega
    have d1 : decide ((g.n.length : Int) < (g.n.length : Int)) = false := decide_eq_false (by omega)
    rw [Nat.sub_self] at hR
    have hR : (ck3 g) = (R1, R2) := hR
    (have F := An2 @encL_len @d1; refine Rg3 ?_; clear F; (repeat (with_reducible first | apply qa | apply qb | apply qc | apply qd | apply qe)))
    (refine DV.condF rfl (fun _ => rfl) ?_; (repeat (with_reducible first | apply qa | apply qb | apply qc | apply qd | apply qe)))
    (refine DV.exit ?_; (repeat (first | (with_reducible refine thenD_exit' ?_) | (with_reducible refine blockD_other (by decide) ?_))); (with_reducible refine blockD_same ?_); (repeat with_reducible refine qn ?_); (with_reducible refine qm ?_); (repeat (with_reducible first | apply qa | apply qb | apply qc | apply qd | apply qe)))
    have hnd : ∀ i : Int, 0 ≤ i → i < g.n.length → 0 ≤ (ndAt g i).s ∧ (ndAt g i).s < g.p.length := fun i h0 h1 => nd9_ok (hz2 i h0 h1)
    unfold ck3 at hR
    (refine Rg2 ?_; (repeat (with_reducible first | apply qa | apply qb | apply qc | apply qd | apply qe)))
    refine DV.loop (fun j : Nat => ⟨[(1, .v true (.box 1 0)), (8, .v true (.c (.int .i64 j)))], [(1, some ⟨0, 0, [[.sl (encL inC g.p), .sl (encL inC g.b), .sl (encL ndC g.n), .sl (encL egC g.e)]]⟩)], []⟩) (fun j => j ≤ g.e.length ∧ orE (fstF (ed9 g) (g.e.length - j) j) (ck4 g) = (R1, R2) ∧ ∀ i : Int, 0 ≤ i → i < j → ed9 g i = 0) (fun j => g.e.length - j) 0 ⟨Nat.zero_le _, hR, fun i h0 h1 => absurd h0 (by omega)⟩ (by (have F := @n0; exact Wk1)) (fun j hj => ?_)
    clear hR
    obtain ⟨hj, hR, hz3⟩ := hj
    (repeat (with_reducible first | apply qa | apply qb | apply qc | apply qd | apply qe))
    by_cases hlt : j < g.e.length
    · have d1 : decide ((j : Int) < (g.e.length : Int)) = true := decide_eq_true (by omega)
      have ew := wr1 j (by omega)
      rw [show g.e.length - j = (g.e.length - (j + 1)) + 1 by omega] at hR
      have hz : ed9 g j = 0 → ∀ i : Int, 0 ≤ i → i < ((j + 1 : Nat) : Int) → ed9 g i = 0 := fun h i h0 h1 => by
        by_cases e : i = (j : Int)
        · rw [e]; exact h
        · exact hz3 i h0 (by omega)
      have k0 : (0 : Int) ≤ j := by omega
      have k1 : (j : Int) < (g.e.length : Int) := by omega
      have k2 : j < g.e.length := hlt
      have hok : EeOk g j := ⟨hs, by omega, by omega, hnd⟩
      obtain ⟨F, hF⟩ : ∃ F, ed9 g j = F := ⟨_, rfl⟩
      (have F := An2 @encL_len @d1; refine Rg3 ?_; clear F; (repeat (with_reducible first | apply qa | apply qb | apply qc | apply qd | apply qe)))
      (refine DV.condT rfl (fun _ => rfl) ?_; (repeat (with_reducible first | apply qa | apply qb | apply qc | apply qd | apply qe)))
      (refine DV.skip ?_; (repeat with_reducible refine qn ?_); (with_reducible refine qm ?_); (repeat (with_reducible first | apply qa | apply qb | apply qc | apply qd | apply qe)))
      (have F := An4 @grE @hgd @hok @hF; refine Rg3 ?_; clear F; (repeat (with_reducible first | apply qa | apply qb | apply qc | apply qd | apply qe)))
      obtain ⟨b, hb⟩ : ∃ b, (F != 0) = b := ⟨_, rfl⟩
      (have F := @hb; refine Rg3 ?_; clear F; (repeat (with_reducible first | apply qa | apply qb | apply qc | apply qd | apply qe)))
      cases b
      rotate_left 1
      · have hf : ed9 g j ≠ 0 := by rw [hF]; rwa [bne_iff_ne] at hb
        have hfv : ed9 g j = F := by exact hF
        rw [orE_hit (by rw [fst_hit hf]; exact hf), fst_hit hf, hfv] at hR
        obtain ⟨rfl, rfl⟩ := Prod.mk.inj hR
        (refine DV.condT rfl (fun _ => rfl) ?_; (repeat (with_reducible first | apply qa | apply qb | apply qc | apply qd | apply qe)))
        (refine Rg2 ?_; (repeat (with_reducible first | apply qa | apply qb | apply qc | apply qd | apply qe)))
        (refine DV.ret ?_; (repeat (first | (with_reducible refine thenD_ret' ?_) | (with_reducible refine blockD_ret' ?_))); (with_reducible refine retD_ret' ?_); try (refine Rt0 ?_; try with_reducible exact True.intro))
        try decide
      · have hf : ed9 g j = 0 := by rw [hF]; simpa using hb
        rw [fst_go hf] at hR
        (refine DV.condF rfl (fun _ => rfl) ?_; (repeat (with_reducible first | apply qa | apply qb | apply qc | apply qd | apply qe)))
        (refine DV.skip ?_; (repeat with_reducible refine qn ?_); (with_reducible refine qm ?_); (repeat (with_reducible first | apply qa | apply qb | apply qc | apply qd | apply qe)))
        (have F := @ew; refine Re3 ?_; clear F; (repeat with_reducible refine qn ?_); (try with_reducible refine qm ?_); (repeat (with_reducible first | apply qa | apply qb | apply qc | apply qd | apply qe)))
        exact ⟨j + 1, ⟨⟨hlt, hR, hz hf⟩, by omega⟩, by exact Wk0⟩
    obtain rfl : j = g.e.length := by omega
    have d1 : decide ((g.e.length : Int) < (g.e.length : Int)) = false := decide_eq_false (by omega)
    rw [Nat.sub_self] at hR
    have hR : (ck4 g) = (R1, R2) := hR
    (have F := An2 @encL_len @d1; refine Rg3 ?_; clear F; (repeat (with_reducible first | apply qa | apply qb | apply qc | apply qd | apply qe)))
    (refine DV.condF rfl (fun _ => rfl) ?_; (repeat (with_reducible first | apply qa | apply qb | apply qc | apply qd | apply qe)))
    (refine DV.exit ?_; (repeat (first | (with_reducible refine thenD_exit' ?_) | (with_reducible refine blockD_other (by decide) ?_))); (with_reducible refine blockD_same ?_); (repeat with_reducible refine qn ?_); (with_reducible refine qm ?_); (repeat (with_reducible first | apply qa | apply qb | apply qc | apply qd | apply qe)))
    have hga : GaOk g := ⟨hs, by omega, fun e he => by
      obtain ⟨k, hk⟩ := List.getElem?_of_mem he
      obtain ⟨hk1, -⟩ := List.getElem?_eq_some_iff.1 hk
      have h := ed9_ok (hz3 k (by omega) (by omega))
      rwa [show egAt g k = e by unfold egAt; rw [i2n, hk]; rfl] at h⟩
    unfold ck4 at hR
    (refine Rg2 ?_; (repeat (with_reducible first | apply qa | apply qb | apply qc | apply qd | apply qe)))
    refine DV.loop (fun j : Nat => ⟨[(1, .v true (.box 1 0)), (10, .v true (.c (.int .i64 j)))], [(1, some ⟨0, 0, [[.sl (encL inC g.p), .sl (encL inC g.b), .sl (encL ndC g.n), .sl (encL egC g.e)]]⟩)], []⟩) (fun j => j ≤ g.n.length ∧ orE (fstF (r4 g) (g.n.length - j) j) (ck5 g) = (R1, R2) ∧ ∀ i : Int, 0 ≤ i → i < j → r4 g i = 0) (fun j => g.n.length - j) 0 ⟨Nat.zero_le _, hR, fun i h0 h1 => absurd h0 (by omega)⟩ (by (have F := @n0; exact Wk1)) (fun j hj => ?_)
    clear hR
    obtain ⟨hj, hR, hz4⟩ := hj
    (repeat (with_reducible first | apply qa | apply qb | apply qc | apply qd | apply qe))
    by_cases hlt : j < g.n.length
    · have d1 : decide ((j : Int) < (g.n.length : Int)) = true := decide_eq_true (by omega)
      have ew := wr1 j (by omega)
      rw [show g.n.length - j = (g.n.length - (j + 1)) + 1 by omega] at hR
      have hz : r4 g j = 0 → ∀ i : Int, 0 ≤ i → i < ((j + 1 : Nat) : Int) → r4 g i = 0 := fun h i h0 h1 => by
        by_cases e : i = (j : Int)
        · rw [e]; exact h
        · exact hz4 i h0 (by omega)
      have k0 : (0 : Int) ≤ j := by omega
      have k1 : (j : Int) < (g.n.length : Int) := by omega
      have k2 : j < g.n.length := hlt
    
      (have F := An2 @encL_len @d1; refine Rg3 ?_; clear F; (repeat (with_reducible first | apply qa | apply qb | apply qc | apply qd | apply qe)))
      (refine DV.condT rfl (fun _ => rfl) ?_; (repeat (with_reducible first | apply qa | apply qb | apply qc | apply qd | apply qe)))
      (refine DV.skip ?_; (repeat with_reducible refine qn ?_); (with_reducible refine qm ?_); (repeat (with_reducible first | apply qa | apply qb | apply qc | apply qd | apply qe)))
      have c3 := encL_get (C := ndC) (ndAt_of k0 k1)
      rw [i2n] at c3
      obtain ⟨b, hb⟩ : ∃ b, decide (cntE g.e j < portsI (ndAt g j).k) = b := ⟨_, rfl⟩
      have hb2 := hb
      obtain ⟨x, hx⟩ : ∃ x, ndAt g j = x := ⟨_, rfl⟩
      rw [hx] at c3 hb2
      obtain ⟨p, hp⟩ : ∃ p, portsI x.k = p := ⟨_, rfl⟩
      have hpk := hp
      rw [hp] at hb2
      (refine Rg2 ?_; (repeat (with_reducible first | apply qa | apply qb | apply qc | apply qd | apply qe)))
      (refine Rg2 ?_; (repeat (with_reducible first | apply qa | apply qb | apply qc | apply qd | apply qe)))
      refine DV.loop (fun p : Nat × Int => ⟨[(1, .v true (.box 1 0)), (10, .v true (.c (.int .i64 j))), (11, .v true (.c (.int .i64 p.2))), (12, .v true (.c (.int .i64 p.1)))], [(1, some ⟨0, 0, [[.sl (encL inC g.p), .sl (encL inC g.b), .sl (encL ndC g.n), .sl (encL egC g.e)]]⟩)], []⟩) (fun p => p.1 ≤ g.e.length ∧ p.2 = cntE (g.e.take p.1) j) (fun p => g.e.length - p.1) (0, 0) ⟨Nat.zero_le _, rfl⟩ (by (have F := @n0; exact Wk1)) (fun p hp => ?_)
      obtain ⟨i, c⟩ := p
      dsimp only at hp ⊢
      obtain ⟨hi, hc⟩ := hp
      have cb : 0 ≤ c ∧ c ≤ i := by
        rw [hc]
        unfold cntE
        have h1 := List.countP_le_length (p := fun e : Eg => e.t == (j : Int)) (l := g.e.take i)
        rw [List.length_take] at h1
        omega
      (repeat (with_reducible first | apply qa | apply qb | apply qc | apply qd | apply qe))
      by_cases hit : i < g.e.length
      · obtain ⟨e, he⟩ : ∃ x, g.e[i]? = some x := ⟨_, List.getElem?_eq_getElem hit⟩
        have d2 : decide ((i : Int) < (g.e.length : Int)) = true := decide_eq_true (by omega)
        have i0 : (0 : Int) ≤ i := by omega
        have i1 : (i : Int) < (g.e.length : Int) := by omega
        have ce := encL_get (C := egC) he
        have ewi := wr1 i (by omega)
        have ewc := wrI (c + 1) (by omega) (by omega)
        obtain ⟨q, hq⟩ : ∃ q, (e.t == (j : Int)) = q := ⟨_, rfl⟩
        have hn : cntE (g.e.take (i + 1)) j = cntE (g.e.take i) j + if q = true then 1 else 0 := by
          unfold cntE
          rw [List.take_add_one, he, Option.toList_some, List.countP_append, List.countP_singleton, hq]
          split <;> simp
        (have F := An2 @encL_len @d2; refine Rg3 ?_; clear F; (repeat (with_reducible first | apply qa | apply qb | apply qc | apply qd | apply qe)))
        (refine DV.condT rfl (fun _ => rfl) ?_; (repeat (with_reducible first | apply qa | apply qb | apply qc | apply qd | apply qe)))
        (refine DV.skip ?_; (repeat with_reducible refine qn ?_); (with_reducible refine qm ?_); (repeat (with_reducible first | apply qa | apply qb | apply qc | apply qd | apply qe)))
        (have F := An8 @i2n @encL_len @i0 @i1 @hit @ce @egE @hq; refine Rg3 ?_; clear F; (repeat (with_reducible first | apply qa | apply qb | apply qc | apply qd | apply qe)))
        cases q
        · (refine DV.condF rfl (fun _ => rfl) ?_; (repeat (with_reducible first | apply qa | apply qb | apply qc | apply qd | apply qe)))
          (refine DV.skip ?_; (repeat with_reducible refine qn ?_); (with_reducible refine qm ?_); (repeat (with_reducible first | apply qa | apply qb | apply qc | apply qd | apply qe)))
          (have F := @ewi; refine Re3 ?_; clear F; (repeat with_reducible refine qn ?_); (try with_reducible refine qm ?_); (repeat (with_reducible first | apply qa | apply qb | apply qc | apply qd | apply qe)))
          exact ⟨(i + 1, c), ⟨⟨hit, by rw [hn, ← hc]; exact (Int.add_zero _).symm⟩, by dsimp only; omega⟩, by exact Wk0⟩
        · (refine DV.condT rfl (fun _ => rfl) ?_; (repeat (with_reducible first | apply qa | apply qb | apply qc | apply qd | apply qe)))
          (have F := @ewc; refine Re3 ?_; clear F; (repeat with_reducible refine qn ?_); (try with_reducible refine qm ?_); (repeat (with_reducible first | apply qa | apply qb | apply qc | apply qd | apply qe)))
          (have F := @ewi; refine Re3 ?_; clear F; (repeat with_reducible refine qn ?_); (try with_reducible refine qm ?_); (repeat (with_reducible first | apply qa | apply qb | apply qc | apply qd | apply qe)))
          exact ⟨(i + 1, c + 1), ⟨⟨hit, by rw [hn, ← hc]; rfl⟩, by dsimp only; omega⟩, by exact Wk0⟩
      obtain rfl : i = g.e.length := by omega
      have d2 : decide ((g.e.length : Int) < (g.e.length : Int)) = false := decide_eq_false (by omega)
      rw [List.take_length] at hc
      rw [← hc] at hb2
      (have F := An2 @encL_len @d2; refine Rg3 ?_; clear F; (repeat (with_reducible first | apply qa | apply qb | apply qc | apply qd | apply qe)))
      (refine DV.condF rfl (fun _ => rfl) ?_; (repeat (with_reducible first | apply qa | apply qb | apply qc | apply qd | apply qe)))
      (refine DV.exit ?_; (repeat (first | (with_reducible refine thenD_exit' ?_) | (with_reducible refine blockD_other (by decide) ?_))); (with_reducible refine blockD_same ?_); (repeat with_reducible refine qn ?_); (with_reducible refine qm ?_); (repeat (with_reducible first | apply qa | apply qb | apply qc | apply qd | apply qe)))
      (have F := An9 @i2n @encL_len @k0 @k1 @k2 @c3 @ndE @hpk @hb2; refine Rg3 ?_; clear F; (repeat (with_reducible first | apply qa | apply qb | apply qc | apply qd | apply qe)))
      cases b
      rotate_left 1
      · have hf : r4 g j ≠ 0 := by unfold r4; rw [hb]; decide
        have hfv : r4 g j = 7 := by unfold r4; rw [hb]; rfl
        rw [orE_hit (by rw [fst_hit hf]; exact hf), fst_hit hf, hfv] at hR
        obtain ⟨rfl, rfl⟩ := Prod.mk.inj hR
        (refine DV.condT rfl (fun _ => rfl) ?_; (repeat (with_reducible first | apply qa | apply qb | apply qc | apply qd | apply qe)))
        (refine Rg2 ?_; (repeat (with_reducible first | apply qa | apply qb | apply qc | apply qd | apply qe)))
        (refine DV.ret ?_; (repeat (first | (with_reducible refine thenD_ret' ?_) | (with_reducible refine blockD_ret' ?_))); (with_reducible refine retD_ret' ?_); try (refine Rt0 ?_; try with_reducible exact True.intro))
        try decide
      · have hf : r4 g j = 0 := by unfold r4; rw [hb]; rfl
        rw [fst_go hf] at hR
        (refine DV.condF rfl (fun _ => rfl) ?_; (repeat (with_reducible first | apply qa | apply qb | apply qc | apply qd | apply qe)))
        (refine DV.skip ?_; (repeat with_reducible refine qn ?_); (with_reducible refine qm ?_); (repeat (with_reducible first | apply qa | apply qb | apply qc | apply qd | apply qe)))
        (have F := @ew; refine Re3 ?_; clear F; (repeat with_reducible refine qn ?_); (try with_reducible refine qm ?_); (repeat (with_reducible first | apply qa | apply qb | apply qc | apply qd | apply qe)))
        exact ⟨j + 1, ⟨⟨hlt, hR, hz hf⟩, by omega⟩, by exact Wk0⟩
    obtain rfl : j = g.n.length := by omega
    have d1 : decide ((g.n.length : Int) < (g.n.length : Int)) = false := decide_eq_false (by omega)
    rw [Nat.sub_self] at hR
    have hR : (ck5 g) = (R1, R2) := hR
    (have F := An2 @encL_len @d1; refine Rg3 ?_; clear F; (repeat (with_reducible first | apply qa | apply qb | apply qc | apply qd | apply qe)))
    (refine DV.condF rfl (fun _ => rfl) ?_; (repeat (with_reducible first | apply qa | apply qb | apply qc | apply qd | apply qe)))
    (refine DV.exit ?_; (repeat (first | (with_reducible refine thenD_exit' ?_) | (with_reducible refine blockD_other (by decide) ?_))); (with_reducible refine blockD_same ?_); (repeat with_reducible refine qn ?_); (with_reducible refine qm ?_); (repeat (with_reducible first | apply qa | apply qb | apply qc | apply qd | apply qe)))
    unfold ck5 at hR
    (refine Rg2 ?_; (repeat (with_reducible first | apply qa | apply qb | apply qc | apply qd | apply qe)))
    refine DV.loop (fun j : Nat => ⟨[(1, .v true (.box 1 0)), (13, .v true (.c (.int .i64 j)))], [(1, some ⟨0, 0, [[.sl (encL inC g.p), .sl (encL inC g.b), .sl (encL ndC g.n), .sl (encL egC g.e)]]⟩)], []⟩) (fun j => j ≤ g.n.length ∧ orE (fstF (r5 g) (g.n.length - j) j) (0, 0) = (R1, R2) ∧ ∀ i : Int, 0 ≤ i → i < j → r5 g i = 0) (fun j => g.n.length - j) 0 ⟨Nat.zero_le _, hR, fun i h0 h1 => absurd h0 (by omega)⟩ (by (have F := @n0; exact Wk1)) (fun j hj => ?_)
    clear hR
    obtain ⟨hj, hR, hz5⟩ := hj
    (repeat (with_reducible first | apply qa | apply qb | apply qc | apply qd | apply qe))
    by_cases hlt : j < g.n.length
    · have d1 : decide ((j : Int) < (g.n.length : Int)) = true := decide_eq_true (by omega)
      have ew := wr1 j (by omega)
      rw [show g.n.length - j = (g.n.length - (j + 1)) + 1 by omega] at hR
      have hz : r5 g j = 0 → ∀ i : Int, 0 ≤ i → i < ((j + 1 : Nat) : Int) → r5 g i = 0 := fun h i h0 h1 => by
        by_cases e : i = (j : Int)
        · rw [e]; exact h
        · exact hz5 i h0 (by omega)
      have k0 : (0 : Int) ≤ j := by omega
      have k1 : (j : Int) < (g.n.length : Int) := by omega
      have k2 : j < g.n.length := hlt
    
      (have F := An2 @encL_len @d1; refine Rg3 ?_; clear F; (repeat (with_reducible first | apply qa | apply qb | apply qc | apply qd | apply qe)))
      (refine DV.condT rfl (fun _ => rfl) ?_; (repeat (with_reducible first | apply qa | apply qb | apply qc | apply qd | apply qe)))
      (refine DV.skip ?_; (repeat with_reducible refine qn ?_); (with_reducible refine qm ?_); (repeat (with_reducible first | apply qa | apply qb | apply qc | apply qd | apply qe)))
      have c3 := encL_get (C := ndC) (ndAt_of k0 k1)
      rw [i2n] at c3
      obtain ⟨b, hb⟩ : ∃ b, ((ndAt g j).k == 10 && ((ag9 g (ndAt g j).s)[(j : Int).toNat]?).getD false) = b := ⟨_, rfl⟩
      have hb2 := hb
      rw [i2n] at hb2
      obtain ⟨x, hx⟩ : ∃ x, ndAt g j = x := ⟨_, rfl⟩
      rw [hx] at c3 hb2
      have hAl := ag9_len g x.s
      obtain ⟨A, hA⟩ : ∃ A, ag9 g x.s = A := ⟨_, rfl⟩
      rw [hA] at hAl hb2
      obtain ⟨q, hq⟩ : ∃ q, A[j]? = some q := ⟨_, List.getElem?_eq_getElem (by omega)⟩
      rw [hq, Option.getD_some] at hb2
      have c4 := encL_get (C := boC) hq
      have a1 : (j : Int) < (A.length : Int) := by omega
      have a2 : j < A.length := by omega
      (have F := An16 @i2n @encL_len @grE @hgd @k0 @k1 @k2 @c3 @ndE @hga @hA @c4 @a1 @a2 @boE @hb2; refine Rd3 ?_; clear F; (repeat (with_reducible first | apply qa | apply qb | apply qc | apply qd | apply qe)))
      cases b
      rotate_left 1
      · have hf : r5 g j ≠ 0 := by unfold r5; rw [hb]; decide
        have hfv : r5 g j = 8 := by unfold r5; rw [hb]; rfl
        rw [orE_hit (by rw [fst_hit hf]; exact hf), fst_hit hf, hfv] at hR
        obtain ⟨rfl, rfl⟩ := Prod.mk.inj hR
        (refine DV.condT rfl (fun _ => rfl) ?_; (repeat (with_reducible first | apply qa | apply qb | apply qc | apply qd | apply qe)))
        (refine Rg2 ?_; (repeat (with_reducible first | apply qa | apply qb | apply qc | apply qd | apply qe)))
        (refine DV.ret ?_; (repeat (first | (with_reducible refine thenD_ret' ?_) | (with_reducible refine blockD_ret' ?_))); (with_reducible refine retD_ret' ?_); try (refine Rt0 ?_; try with_reducible exact True.intro))
        try decide
      · have hf : r5 g j = 0 := by unfold r5; rw [hb]; rfl
        rw [fst_go hf] at hR
        (refine DV.condF rfl (fun _ => rfl) ?_; (repeat (with_reducible first | apply qa | apply qb | apply qc | apply qd | apply qe)))
        (refine DV.skip ?_; (repeat with_reducible refine qn ?_); (with_reducible refine qm ?_); (repeat (with_reducible first | apply qa | apply qb | apply qc | apply qd | apply qe)))
        (have F := @ew; refine Re3 ?_; clear F; (repeat with_reducible refine qn ?_); (try with_reducible refine qm ?_); (repeat (with_reducible first | apply qa | apply qb | apply qc | apply qd | apply qe)))
        exact ⟨j + 1, ⟨⟨hlt, hR, hz hf⟩, by omega⟩, by exact Wk0⟩
    obtain rfl : j = g.n.length := by omega
    have d1 : decide ((g.n.length : Int) < (g.n.length : Int)) = false := decide_eq_false (by omega)
    rw [Nat.sub_self] at hR
    have hR : (0, 0) = (R1, R2) := hR
    (have F := An2 @encL_len @d1; refine Rg3 ?_; clear F; (repeat (with_reducible first | apply qa | apply qb | apply qc | apply qd | apply qe)))
    (refine DV.condF rfl (fun _ => rfl) ?_; (repeat (with_reducible first | apply qa | apply qb | apply qc | apply qd | apply qe)))
    (refine DV.exit ?_; (repeat (first | (with_reducible refine thenD_exit' ?_) | (with_reducible refine blockD_other (by decide) ?_))); (with_reducible refine blockD_same ?_); (repeat with_reducible refine qn ?_); (with_reducible refine qm ?_); (repeat (with_reducible first | apply qa | apply qb | apply qc | apply qd | apply qe)))
    obtain ⟨rfl, rfl⟩ := Prod.mk.inj hR
    (refine Rg2 ?_; (repeat (with_reducible first | apply qa | apply qb | apply qc | apply qd | apply qe)))
    (refine DV.ret ?_; (repeat (first | (with_reducible refine thenD_ret' ?_) | (with_reducible refine blockD_ret' ?_))); (with_reducible refine retD_ret' ?_); try (refine Rt0 ?_; try with_reducible exact True.intro))
    try decide
  · exact h.elim
/-- A short graph; one that may run, and is short. -/
def shoB (g : Gr) : Bool := if (((decide (20 < (g.p.length : Int)) || decide (20 < (g.b.length : Int))) || decide (60 < (g.n.length : Int))) || decide (100 < (g.e.length : Int))) = true then false else !(g.n.any fun x => decide (100 < (x.pr.length : Int)))
theorem sho_sm {g : Gr} (h : shoB g = true) : Sm g ∧ ∀ x ∈ g.n, x.pr.length ≤ 100 := by
  unfold shoB at h
  split at h
  · cases h
  next hn =>
  simp only [Bool.or_eq_true, decide_eq_true_iff, not_or] at hn
  refine ⟨⟨by omega, by omega, by omega, by omega⟩, fun x hx => ?_⟩
  have h1 : (g.n.any fun x => decide (100 < (x.pr.length : Int))) = false := by simpa using h
  have h2 := List.any_eq_false.1 h1 x hx
  rw [decide_eq_true_iff] at h2
  omega
def r8sD : List S1 → CR × Prop
  | [.agg g] => (.one (.c (.bool (shoB (grC.dec g)))), grC.enc (grC.dec g) = g)
  | _ => (.one (.c (.bool false)), False)
set_option maxHeartbeats 16000000 in
theorem r8s_cal (args : List S1) (h : (r8sD args).2) : Cal Try.prog 28 args (r8sD args).1 := by
  unfold r8sD at h ⊢
  split at h
  · next g0 =>
    refine DV.of (Γ := ⟨[], [], []⟩) (rs := [ResultVar.tmp 2]) [0, 1, 2, 3, 25, 30, 40] ⟨nofun, nofun⟩ (by kernel_rfl) Try.func28 rfl rfl (by kernel_rfl) rfl ?_; (repeat (with_reducible first | apply qa | apply qb | apply qc | apply qd | apply qe))
    have hg := h
    obtain ⟨g, rfl⟩ : ∃ v, g0 = grC.enc v := ⟨_, hg.symm⟩
    rw [grC.de]
    clear hg h
    obtain ⟨R, hR⟩ : ∃ R, shoB g = R := ⟨_, rfl⟩
    rw [hR]
    unfold shoB at hR
    obtain ⟨q, hq⟩ : ∃ q, (((decide (20 < (g.p.length : Int)) || decide (20 < (g.b.length : Int))) || decide (60 < (g.n.length : Int))) || decide (100 < (g.e.length : Int))) = q := ⟨_, rfl⟩
    rw [hq] at hR
    (have F := @grE; refine Rg1 ?_; clear F; (repeat (with_reducible first | apply qa | apply qb | apply qc | apply qd | apply qe)))
    (have F := An2 @encL_len @hq; refine Rg1 ?_; clear F; (repeat (with_reducible first | apply qa | apply qb | apply qc | apply qd | apply qe)))
    cases q
    rotate_left 1
    · rw [if_pos rfl] at hR
      (refine DV.condT rfl (fun _ => rfl) ?_; (repeat (with_reducible first | apply qa | apply qb | apply qc | apply qd | apply qe)))
      (refine Rg0 ?_; (repeat (with_reducible first | apply qa | apply qb | apply qc | apply qd | apply qe)))
      (refine DV.ret ?_; (repeat (first | (with_reducible refine thenD_ret' ?_) | (with_reducible refine blockD_ret' ?_))); (with_reducible refine retD_ret' ?_); try (refine Rt0 ?_; try with_reducible exact True.intro))
      exact hR
    rw [if_neg (by decide)] at hR
    simp only [Bool.or_eq_false_iff, decide_eq_false_iff_not] at hq
    (refine DV.condF rfl (fun _ => rfl) ?_; (repeat (with_reducible first | apply qa | apply qb | apply qc | apply qd | apply qe)))
    (refine DV.skip ?_; (repeat with_reducible refine qn ?_); (with_reducible refine qm ?_); (repeat (with_reducible first | apply qa | apply qb | apply qc | apply qd | apply qe)))
    (refine Rg0 ?_; (repeat (with_reducible first | apply qa | apply qb | apply qc | apply qd | apply qe)))
    refine DV.loop (fun j : Nat => ⟨[(1, .v true (.box 1 0)), (3, .v true (.c (.int .i64 j)))], [(1, some ⟨0, 0, [[.sl (encL inC g.p), .sl (encL inC g.b), .sl (encL ndC g.n), .sl (encL egC g.e)]]⟩)], []⟩) (fun j => j ≤ g.n.length ∧ ∀ (k : Nat) y, k < j → g.n[k]? = some y → decide (100 < (y.pr.length : Int)) = false) (fun j => g.n.length - j) 0 ⟨Nat.zero_le _, fun k y hk => absurd hk (Nat.not_lt_zero k)⟩ (by (have F := @n0; exact Wk1)) (fun j hj => ?_)
    obtain ⟨hj, hall⟩ := hj
    (repeat (with_reducible first | apply qa | apply qb | apply qc | apply qd | apply qe))
    by_cases hlt : j < g.n.length
    · obtain ⟨y, hy⟩ : ∃ y, g.n[j]? = some y := ⟨_, List.getElem?_eq_getElem hlt⟩
      have d1 : decide ((j : Int) < (g.n.length : Int)) = true := decide_eq_true (by omega)
      have c1 : (0 : Int) ≤ j := by omega
      have c2 : (j : Int) < (g.n.length : Int) := by omega
      have c3 := encL_get (C := ndC) hy
      have ew := wr1 j (by omega)
      obtain ⟨b, hb⟩ : ∃ b, decide (100 < (y.pr.length : Int)) = b := ⟨_, rfl⟩
      (have F := An2 @encL_len @d1; refine Rg1 ?_; clear F; (repeat (with_reducible first | apply qa | apply qb | apply qc | apply qd | apply qe)))
      (refine DV.condT rfl (fun _ => rfl) ?_; (repeat (with_reducible first | apply qa | apply qb | apply qc | apply qd | apply qe)))
      (refine DV.skip ?_; (repeat with_reducible refine qn ?_); (with_reducible refine qm ?_); (repeat (with_reducible first | apply qa | apply qb | apply qc | apply qd | apply qe)))
      (have F := An8 @i2n @encL_len @c1 @c2 @hlt @c3 @ndE @hb; refine Rg1 ?_; clear F; (repeat (with_reducible first | apply qa | apply qb | apply qc | apply qd | apply qe)))
      cases b
      · (refine DV.condF rfl (fun _ => rfl) ?_; (repeat (with_reducible first | apply qa | apply qb | apply qc | apply qd | apply qe)))
        (refine DV.skip ?_; (repeat with_reducible refine qn ?_); (with_reducible refine qm ?_); (repeat (with_reducible first | apply qa | apply qb | apply qc | apply qd | apply qe)))
        (have F := @ew; refine Re1 ?_; clear F; (repeat with_reducible refine qn ?_); (try with_reducible refine qm ?_); (repeat (with_reducible first | apply qa | apply qb | apply qc | apply qd | apply qe)))
        refine ⟨j + 1, ⟨⟨hlt, fun k z hk hz => ?_⟩, by omega⟩, by exact Wk0⟩
        rcases Nat.lt_or_ge k j with h | h
        · exact hall k z h hz
        · obtain rfl : k = j := by omega
          rw [hy] at hz
          obtain rfl := Option.some.inj hz
          exact hb
      · have hany : (g.n.any fun x => decide (100 < (x.pr.length : Int))) = true := List.any_eq_true.2 ⟨y, List.mem_of_getElem? hy, hb⟩
        rw [hany] at hR
        (refine DV.condT rfl (fun _ => rfl) ?_; (repeat (with_reducible first | apply qa | apply qb | apply qc | apply qd | apply qe)))
        (refine Rg0 ?_; (repeat (with_reducible first | apply qa | apply qb | apply qc | apply qd | apply qe)))
        (refine DV.ret ?_; (repeat (first | (with_reducible refine thenD_ret' ?_) | (with_reducible refine blockD_ret' ?_))); (with_reducible refine retD_ret' ?_); try (refine Rt0 ?_; try with_reducible exact True.intro))
        exact hR
    obtain rfl : j = g.n.length := by omega
    have d1 : decide ((g.n.length : Int) < (g.n.length : Int)) = false := decide_eq_false (by omega)
    have hno : (g.n.any fun x => decide (100 < (x.pr.length : Int))) = false := List.any_eq_false.2 fun y hy => by
      obtain ⟨k, hk⟩ := List.getElem?_of_mem hy
      rw [hall k y (List.getElem?_eq_some_iff.1 hk).1 hk]
      decide
    rw [hno] at hR
    (have F := An2 @encL_len @d1; refine Rg1 ?_; clear F; (repeat (with_reducible first | apply qa | apply qb | apply qc | apply qd | apply qe)))
    (refine DV.condF rfl (fun _ => rfl) ?_; (repeat (with_reducible first | apply qa | apply qb | apply qc | apply qd | apply qe)))
    (refine DV.exit ?_; (repeat (first | (with_reducible refine thenD_exit' ?_) | (with_reducible refine blockD_other (by decide) ?_))); (with_reducible refine blockD_same ?_); (repeat with_reducible refine qn ?_); (with_reducible refine qm ?_); (repeat (with_reducible first | apply qa | apply qb | apply qc | apply qd | apply qe)))
    (refine Rg0 ?_; (repeat (with_reducible first | apply qa | apply qb | apply qc | apply qd | apply qe)))
    (refine DV.ret ?_; (repeat (first | (with_reducible refine thenD_ret' ?_) | (with_reducible refine blockD_ret' ?_))); (with_reducible refine retD_ret' ?_); try (refine Rt0 ?_; try with_reducible exact True.intro))
    exact hR
  · exact h.elim
end Go.Proofs.Ytkmgdejpdhlleaa.Dq
