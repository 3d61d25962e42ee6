/- Graphs that may run by deep values: scopes, nodes, edges. -/
import Derived.Test.YtkmgdejpdhlleaaVa1
namespace Go.Proofs.Ytkmgdejpdhlleaa.Dq
set_option linter.unusedSimpArgs false
set_option linter.unusedVariables false
set_option maxRecDepth 100000
open Go.RowKit
open Va

def prgD : List S1 → CR × Prop
  | [.c (.sl p)] => (.one (.c (.bool (prgB (decL isC p)))), isL isC p)
  | _ => (.one (.c (.bool false)), False)
set_option maxHeartbeats 8000000 in
theorem prg_cal (args : List S1) (h : (prgD args).2) : Cal Try.prog 124 args (prgD args).1 := by
  unfold prgD at h ⊢
  split at h
  · next p0 =>
    have CT := @jmpD.eq_1; refine DV.of (Γ := ⟨[(168, jmpD)], [], []⟩) (rs := [ResultVar.tmp 2]) [0, 2, 4, 7, 8, 9, 10, 11, 14, 23, 36, 37] ⟨by intro p hp; simp only [List.mem_singleton] at hp; subst hp; exact jmp_cal, nofun⟩ (by kernel_rfl) Try.func124 rfl rfl (by kernel_rfl) rfl ?_; (repeat (with_reducible first | apply qa | apply qb | apply qc | apply qd | apply qe))
    obtain ⟨p, rfl⟩ : ∃ v, p0 = encL isC v := ⟨_, h.symm⟩
    rw [decL_encL]
    clear h
    obtain ⟨R, hR⟩ : ∃ R, prgB p = R := ⟨_, rfl⟩
    rw [hR]
    unfold prgB at hR
    (refine Rg2 ?_; (repeat (with_reducible first | apply qa | apply qb | apply qc | apply qd | apply qe)))
    by_cases h64 : 64 < p.length
    · rw [if_pos h64] at hR
      have d0 : decide ((64 : Int) < (p.length : Int)) = true := decide_eq_true (by omega)
      (have F := An2 @encL_len @d0; refine Rg3 ?_; clear F; (repeat (with_reducible first | apply qa | apply qb | apply qc | apply qd | apply qe)))
      (refine DV.condT rfl (fun _ => rfl) ?_; (repeat (with_reducible first | apply qa | apply qb | apply qc | apply qd | apply qe)))
      (refine Rg2 ?_; (repeat (with_reducible first | apply qa | apply qb | apply qc | apply qd | apply qe)))
      (refine DV.ret ?_; (repeat (first | (with_reducible refine thenD_ret' ?_) | (with_reducible refine blockD_ret' ?_))); (with_reducible refine retD_ret' ?_); try (refine Rt0 ?_; try with_reducible exact True.intro))
      exact hR
    rw [if_neg h64] at hR
    have d0 : decide ((64 : Int) < (p.length : Int)) = false := decide_eq_false (by omega)
    (have F := An2 @encL_len @d0; refine Rg3 ?_; clear F; (repeat (with_reducible first | apply qa | apply qb | apply qc | apply qd | apply qe)))
    (refine DV.condF rfl (fun _ => rfl) ?_; (repeat (with_reducible first | apply qa | apply qb | apply qc | apply qd | apply qe)))
    (refine DV.skip ?_; (repeat with_reducible refine qn ?_); (with_reducible refine qm ?_); (repeat (with_reducible first | apply qa | apply qb | apply qc | apply qd | apply qe)))
    (have F := @encL_len; refine Rg3 ?_; clear F; (repeat (with_reducible first | apply qa | apply qb | apply qc | apply qd | apply qe)))
    refine DV.loop (fun j : Nat => ⟨[(0, .v true (.c (.sl (encL isC p)))), (8, .v true (.c (.sl (encL isC p)))), (9, .v true (.c (.int .i64 p.length))), (10, .v true (.c (.int .i64 j)))], [], []⟩) (fun j => j ≤ p.length ∧ ∀ (k : Nat) y, k < j → p[k]? = some y → insBad p.length y = false) (fun j => p.length - j) 0 ⟨Nat.zero_le _, fun k y hk => absurd hk (Nat.not_lt_zero k)⟩ (by exact Wk0) (fun j hj => ?_)
    obtain ⟨hj, hall⟩ := hj
    (repeat (with_reducible first | apply qa | apply qb | apply qc | apply qd | apply qe))
    by_cases hlt : j < p.length
    · obtain ⟨x, hx⟩ : ∃ x, p[j]? = some x := ⟨p[j], List.getElem?_eq_getElem _⟩
      have d1 : decide ((j : Int) < (p.length : Int)) = true := decide_eq_true (by omega)
      have c1 : (0 : Int) ≤ j := by omega
      have c2 : (j : Int) < (p.length : Int) := by omega
      have c3 := encL_get (C := isC) hx
      have ew := wr1 j (by omega)
      have hbad : insBad p.length x = true → false = R := fun hb => by
        rw [← hR, List.any_eq_true.2 ⟨x, List.mem_of_getElem? hx, hb⟩]
        rfl
      have hgood : insBad p.length x = false → ∀ (k : Nat) y, k < j + 1 → p[k]? = some y → insBad p.length y = false := fun hb k y hk hy => by
        rcases Nat.lt_or_ge k j with g | g
        · exact hall k y g hy
        · obtain rfl : k = j := by omega
          rw [hx] at hy
          obtain rfl := Option.some.inj hy
          exact hb
      obtain ⟨q, hq⟩ : ∃ q, insBad p.length x = q := ⟨_, rfl⟩
      rw [hq] at hbad hgood
      unfold insBad at hq
      obtain ⟨q1, hq1⟩ : ∃ q, (decide (x.o < 1) || decide (16 < x.o)) = q := ⟨_, rfl⟩
      obtain ⟨q2, hq2⟩ : ∃ q, jmpB x.o = q := ⟨_, rfl⟩
      obtain ⟨q3, hq3⟩ : ∃ q, (decide (x.n < 0) || decide ((p.length : Int) < x.n)) = q := ⟨_, rfl⟩
      obtain ⟨q4, hq4⟩ : ∃ q, (x.o != 1 && x.n != 0) = q := ⟨_, rfl⟩
      rw [hq1, hq2, hq3, hq4] at hq
      (have F := An2 @encL_len @d1; refine Rg3 ?_; clear F; (repeat (with_reducible first | apply qa | apply qb | apply qc | apply qd | apply qe)))
      (refine DV.condT rfl (fun _ => rfl) ?_; (repeat (with_reducible first | apply qa | apply qb | apply qc | apply qd | apply qe)))
      (refine DV.skip ?_; (repeat with_reducible refine qn ?_); (with_reducible refine qm ?_); (repeat (with_reducible first | apply qa | apply qb | apply qc | apply qd | apply qe)))
      (have F := An6 @i2n @encL_len @c1 @c2 @c3 @isE; refine Rg3 ?_; clear F; (repeat (with_reducible first | apply qa | apply qb | apply qc | apply qd | apply qe)))
      (have F := @hq1; refine Rg3 ?_; clear F; (repeat (with_reducible first | apply qa | apply qb | apply qc | apply qd | apply qe)))
      cases q1
      rotate_left 1
      · (refine DV.condT rfl (fun _ => rfl) ?_; (repeat (with_reducible first | apply qa | apply qb | apply qc | apply qd | apply qe)))
        (refine Rg2 ?_; (repeat (with_reducible first | apply qa | apply qb | apply qc | apply qd | apply qe)))
        (refine DV.ret ?_; (repeat (first | (with_reducible refine thenD_ret' ?_) | (with_reducible refine blockD_ret' ?_))); (with_reducible refine retD_ret' ?_); try (refine Rt0 ?_; try with_reducible exact True.intro))
        exact hbad hq.symm
      rw [if_neg (by decide)] at hq
      (refine DV.condF rfl (fun _ => rfl) ?_; (repeat (with_reducible first | apply qa | apply qb | apply qc | apply qd | apply qe)))
      (have F := @hq2; refine Rg3 ?_; clear F; (repeat (with_reducible first | apply qa | apply qb | apply qc | apply qd | apply qe)))
      cases q2
      · rw [if_neg (by decide)] at hq
        subst hq
        (refine DV.condF rfl (fun _ => rfl) ?_; (repeat (with_reducible first | apply qa | apply qb | apply qc | apply qd | apply qe)))
        (have F := @hq4; refine Rg3 ?_; clear F; (repeat (with_reducible first | apply qa | apply qb | apply qc | apply qd | apply qe)))
        cases q4
        · (refine DV.condF rfl (fun _ => rfl) ?_; (repeat (with_reducible first | apply qa | apply qb | apply qc | apply qd | apply qe)))
          (refine DV.skip ?_; (repeat with_reducible refine qn ?_); (with_reducible refine qm ?_); (repeat (with_reducible first | apply qa | apply qb | apply qc | apply qd | apply qe)))
          (have F := @ew; refine Re3 ?_; clear F; (repeat with_reducible refine qn ?_); (try with_reducible refine qm ?_); (repeat (with_reducible first | apply qa | apply qb | apply qc | apply qd | apply qe)))
          exact ⟨j + 1, ⟨⟨hlt, hgood rfl⟩, by omega⟩, by exact Wk0⟩
        · (refine DV.condT rfl (fun _ => rfl) ?_; (repeat (with_reducible first | apply qa | apply qb | apply qc | apply qd | apply qe)))
          (refine Rg2 ?_; (repeat (with_reducible first | apply qa | apply qb | apply qc | apply qd | apply qe)))
          (refine DV.ret ?_; (repeat (first | (with_reducible refine thenD_ret' ?_) | (with_reducible refine blockD_ret' ?_))); (with_reducible refine retD_ret' ?_); try (refine Rt0 ?_; try with_reducible exact True.intro))
          exact hbad rfl
      · rw [if_pos rfl] at hq
        subst hq
        (refine DV.condT rfl (fun _ => rfl) ?_; (repeat (with_reducible first | apply qa | apply qb | apply qc | apply qd | apply qe)))
        (have F := An2 @encL_len @hq3; refine Rg3 ?_; clear F; (repeat (with_reducible first | apply qa | apply qb | apply qc | apply qd | apply qe)))
        cases q3
        · (refine DV.condF rfl (fun _ => rfl) ?_; (repeat (with_reducible first | apply qa | apply qb | apply qc | apply qd | apply qe)))
          (refine DV.skip ?_; (repeat with_reducible refine qn ?_); (with_reducible refine qm ?_); (repeat (with_reducible first | apply qa | apply qb | apply qc | apply qd | apply qe)))
          (have F := @ew; refine Re3 ?_; clear F; (repeat with_reducible refine qn ?_); (try with_reducible refine qm ?_); (repeat (with_reducible first | apply qa | apply qb | apply qc | apply qd | apply qe)))
          exact ⟨j + 1, ⟨⟨hlt, hgood rfl⟩, by omega⟩, by exact Wk0⟩
        · (refine DV.condT rfl (fun _ => rfl) ?_; (repeat (with_reducible first | apply qa | apply qb | apply qc | apply qd | apply qe)))
          (refine Rg2 ?_; (repeat (with_reducible first | apply qa | apply qb | apply qc | apply qd | apply qe)))
          (refine DV.ret ?_; (repeat (first | (with_reducible refine thenD_ret' ?_) | (with_reducible refine blockD_ret' ?_))); (with_reducible refine retD_ret' ?_); try (refine Rt0 ?_; try with_reducible exact True.intro))
          exact hbad rfl
    · obtain rfl : j = p.length := by omega
      have d1 : decide ((p.length : Int) < (p.length : Int)) = false := decide_eq_false (by omega)
      have hno : p.any (insBad p.length) = false := List.any_eq_false.2 fun y hy => by
        obtain ⟨k, hk⟩ := List.getElem?_of_mem hy
        rw [hall k y (List.getElem?_eq_some_iff.1 hk).1 hk]
        decide
      rw [hno] at hR
      (have F := @d1; refine Rg3 ?_; clear F; (repeat (with_reducible first | apply qa | apply qb | apply qc | apply qd | apply qe)))
      (refine DV.condF rfl (fun _ => rfl) ?_; (repeat (with_reducible first | apply qa | apply qb | apply qc | apply qd | apply qe)))
      (refine DV.exit ?_; (repeat (first | (with_reducible refine thenD_exit' ?_) | (with_reducible refine blockD_other (by decide) ?_))); (with_reducible refine blockD_same ?_); (repeat with_reducible refine qn ?_); (with_reducible refine qm ?_); (repeat (with_reducible first | apply qa | apply qb | apply qc | apply qd | apply qe)))
      (refine Rg2 ?_; (repeat (with_reducible first | apply qa | apply qb | apply qc | apply qd | apply qe)))
      (refine DV.ret ?_; (repeat (first | (with_reducible refine thenD_ret' ?_) | (with_reducible refine blockD_ret' ?_))); (with_reducible refine retD_ret' ?_); try (refine Rt0 ?_; try with_reducible exact True.intro))
      exact hR
  · exact h.elim
structure ScOk (g : Gr) (s : Int) : Prop where
  sm : Sm g
  b : g.b.length = g.p.length
  n0 : 0 ≤ s
  n1 : s < g.p.length
structure NdOk (g : Gr) (n : Int) : Prop where
  sm : Sm g
  par : Par g.p
  n0 : 0 ≤ n
  n1 : n < g.n.length
  was : n ≠ 0 → 0 ≤ scI g (n - 1) ∧ scI g (n - 1) < g.p.length
structure BhOk (g : Gr) (n : Int) : Prop where
  nd : NdOk g n
  c0 : 0 ≤ scI g n
  c1 : scI g n < g.p.length
structure EdOk (g : Gr) (n : Int) : Prop where
  sm : Sm g
  n0 : 0 ≤ n
  n1 : n < g.e.length
  all : ∀ i : Int, 0 ≤ i → i < g.n.length → 0 ≤ (ndAt g i).s ∧ (ndAt g i).s < g.p.length
structure FuOk (g : Gr) (n : Int) : Prop where
  sm : Sm g
  n0 : 0 ≤ n
  n1 : n < g.n.length
theorem scI_of (g : Gr) (n : Int) : scI g n = (ndAt g n).s := rfl
def scoD : List S1 → CR × Prop
  | [.agg g, .c (.int .i64 s)] => (.one (.c (.bool (scoB (grC.dec g) s))), grC.enc (grC.dec g) = g ∧ ScOk (grC.dec g) s)
  | _ => (.one (.c (.bool false)), False)
set_option maxHeartbeats 8000000 in
theorem sco_cal (args : List S1) (h : (scoD args).2) : Cal Try.prog 73 args (scoD args).1 := by
  unfold scoD at h ⊢
  split at h
  · next g0 s =>
    have CT := An2 @insD.eq_1 @dptD.eq_1; refine DV.of (Γ := ⟨[(120, insD), (121, dptD)], [], []⟩) (rs := [ResultVar.tmp 4]) [0, 1, 2, 4, 6] ⟨by intro p hp; simp only [List.mem_cons, List.not_mem_nil, or_false] at hp; rcases hp with rfl | rfl; exact ins_cal; exact dpt_cal, nofun⟩ (by kernel_rfl) Try.func73 rfl rfl (by kernel_rfl) rfl ?_; (repeat (with_reducible first | apply qa | apply qb | apply qc | apply qd | apply qe))
    obtain ⟨hg, ho⟩ := h
    obtain ⟨g, rfl⟩ : ∃ v, g0 = grC.enc v := ⟨_, hg.symm⟩
    rw [grC.de] at ho ⊢
    clear hg
    have hgd : grC.dec [D.sl (encL inC g.p), D.sl (encL inC g.b), D.sl (encL ndC g.n), D.sl (encL egC g.e)] = g := grC.de g
    obtain ⟨R, hR⟩ : ∃ R, scoB g s = R := ⟨_, rfl⟩
    rw [hR]
    unfold scoB at hR
    obtain ⟨hs, hb, n0, n1⟩ := ho
    have n2 : s < (g.b.length : Int) := by omega
    by_cases h0 : s = 0
    · subst h0
      have c3 : (encL inC g.p)[0]? = some [.int .i64 (getI g.p 0)] := encL_get (C := inC) (getI_of n0 n1)
      have c4 : (encL inC g.b)[0]? = some [.int .i64 (getI g.b 0)] := encL_get (C := inC) (getI_of n0 n2)
      rw [if_pos (show ((0 : Int) == 0) = true from rfl)] at hR
      have y1 : ((0 : Int) == 0) = true := rfl
      have m1 : 0 < g.p.length := by omega
      have m2 : 0 < g.b.length := by omega
      obtain ⟨q, hq⟩ : ∃ q, (getI g.p 0 == -1 && getI g.b 0 == 0) = q := ⟨_, rfl⟩
      (have F := @grE; refine Rg3 ?_; clear F; (repeat (with_reducible first | apply qa | apply qb | apply qc | apply qd | apply qe)))
      (have F := @y1; refine Rg3 ?_; clear F; (repeat (with_reducible first | apply qa | apply qb | apply qc | apply qd | apply qe)))
      (refine DV.condT rfl (fun _ => rfl) ?_; (repeat (with_reducible first | apply qa | apply qb | apply qc | apply qd | apply qe)))
      (have F := An8 @encL_len @n1 @n2 @c3 @c4 @m1 @m2 @hq; refine Rg3 ?_; clear F; (repeat (with_reducible first | apply qa | apply qb | apply qc | apply qd | apply qe)))
      (refine DV.ret ?_; (repeat (first | (with_reducible refine thenD_ret' ?_) | (with_reducible refine blockD_ret' ?_))); (with_reducible refine retD_ret' ?_); try (refine Rt0 ?_; try with_reducible exact True.intro))
      rw [← hq, hR]
    · have y1 : (s == 0) = false := by rw [beq_eq_false_iff_ne]; exact h0
      rw [y1, if_neg (by decide)] at hR
      have c3 := encL_get (C := inC) (getI_of n0 n1)
      have c4 := encL_get (C := inC) (getI_of n0 n2)
      (have F := @grE; refine Rg3 ?_; clear F; (repeat (with_reducible first | apply qa | apply qb | apply qc | apply qd | apply qe)))
      (have F := @y1; refine Rg3 ?_; clear F; (repeat (with_reducible first | apply qa | apply qb | apply qc | apply qd | apply qe)))
      (refine DV.condF rfl (fun _ => rfl) ?_; (repeat (with_reducible first | apply qa | apply qb | apply qc | apply qd | apply qe)))
      (refine DV.skip ?_; (repeat with_reducible refine qn ?_); (with_reducible refine qm ?_); (repeat (with_reducible first | apply qa | apply qb | apply qc | apply qd | apply qe)))
      (have F := An11 @encL_len @n0 @n1 @n2 @c3 @c4 @inE @grE @hgd @hs @hR; refine Rg3 ?_; clear F; (repeat (with_reducible first | apply qa | apply qb | apply qc | apply qd | apply qe)))
      (refine DV.ret ?_; (repeat (first | (with_reducible refine thenD_ret' ?_) | (with_reducible refine blockD_ret' ?_))); (with_reducible refine retD_ret' ?_); try (refine Rt0 ?_; try with_reducible exact True.intro))
      try exact hR
  · exact h.elim
def behD : List S1 → CR × Prop
  | [.agg g, .c (.int .i64 n)] => (.one (.c (.bool (behB (grC.dec g) n))), grC.enc (grC.dec g) = g ∧ BhOk (grC.dec g) n)
  | _ => (.one (.c (.bool false)), False)
set_option maxHeartbeats 8000000 in
theorem beh_cal (args : List S1) (h : (behD args).2) : Cal Try.prog 123 args (behD args).1 := by
  unfold behD at h ⊢
  split at h
  · next g0 n =>
    have CT := @cnD.eq_1; refine DV.of (Γ := ⟨[(166, cnD)], [], []⟩) (rs := [ResultVar.tmp 4]) [0, 1, 2, 4, 5, 6, 7, 8, 9, 17, 34, 42] ⟨by intro p hp; simp only [List.mem_singleton] at hp; subst hp; exact cn_cal, nofun⟩ (by kernel_rfl) Try.func123 rfl rfl (by kernel_rfl) rfl ?_; (repeat (with_reducible first | apply qa | apply qb | apply qc | apply qd | apply qe))
    obtain ⟨hg, ho⟩ := h
    obtain ⟨g, rfl⟩ : ∃ v, g0 = grC.enc v := ⟨_, hg.symm⟩
    rw [grC.de] at ho ⊢
    clear hg
    have hgd : grC.dec [D.sl (encL inC g.p), D.sl (encL inC g.b), D.sl (encL ndC g.n), D.sl (encL egC g.e)] = g := grC.de g
    obtain ⟨R, hR⟩ : ∃ R, behB g n = R := ⟨_, rfl⟩
    rw [hR]
    unfold behB at hR
    obtain ⟨⟨hs, hp, n0, n1, hw⟩, s0, s1⟩ := ho
    have c3 := encL_get (C := ndC) (ndAt_of n0 n1)
    rw [scI_of] at s0 s1 hR
    obtain ⟨x, hx⟩ : ∃ x, ndAt g n = x := ⟨_, rfl⟩
    rw [hx] at c3 s0 s1 hR
    (have F := @grE; refine Rg3 ?_; clear F; (repeat (with_reducible first | apply qa | apply qb | apply qc | apply qd | apply qe)))
    (have F := An5 @encL_len @n0 @n1 @c3 @ndE; refine Rg3 ?_; clear F; (repeat (with_reducible first | apply qa | apply qb | apply qc | apply qd | apply qe)))
    by_cases h0 : n = 0
    · subst h0
      have y1 : ((0 : Int) == 0) = true := rfl
      rw [if_pos y1] at hR
      (have F := @y1; refine Rg3 ?_; clear F; (repeat (with_reducible first | apply qa | apply qb | apply qc | apply qd | apply qe)))
      (refine DV.condT rfl (fun _ => rfl) ?_; (repeat (with_reducible first | apply qa | apply qb | apply qc | apply qd | apply qe)))
      (have F := @hR; refine Rg3 ?_; clear F; (repeat (with_reducible first | apply qa | apply qb | apply qc | apply qd | apply qe)))
      (refine DV.ret ?_; (repeat (first | (with_reducible refine thenD_ret' ?_) | (with_reducible refine blockD_ret' ?_))); (with_reducible refine retD_ret' ?_); try (refine Rt0 ?_; try with_reducible exact True.intro))
      try exact hR
    have y1 : (n == 0) = false := by rw [beq_eq_false_iff_ne]; exact h0
    rw [y1, if_neg (by decide)] at hR
    obtain ⟨w0, w1⟩ := hw h0
    have n2 : 0 ≤ n - 1 := by omega
    have n3 : n - 1 < (g.n.length : Int) := by omega
    have c4 := encL_get (C := ndC) (ndAt_of n2 n3)
    have ew : IntKind.wrap .i64 (n - 1) = n - 1 := by rw [IntKind.wrap_i64]; have := hs.n; omega
    rw [scI_of] at w0 w1 hR
    obtain ⟨y, hy⟩ : ∃ y, ndAt g (n - 1) = y := ⟨_, rfl⟩
    rw [hy] at c4 w0 w1 hR
    have c5 := encL_get (C := inC) (getI_of s0 s1)
    obtain ⟨O, hO⟩ : ∃ O, getI g.p x.s = O := ⟨_, rfl⟩
    rw [hO] at c5 hR
    have nn : n ≤ (g.n.length : Int) := by omega
    obtain ⟨a, ha⟩ : ∃ a, ((g.n.take n.toNat).any fun z => z.s == x.s) = a := ⟨_, rfl⟩
    rw [ha] at hR
    (have F := @y1; refine Rg3 ?_; clear F; (repeat (with_reducible first | apply qa | apply qb | apply qc | apply qd | apply qe)))
    (refine DV.condF rfl (fun _ => rfl) ?_; (repeat (with_reducible first | apply qa | apply qb | apply qc | apply qd | apply qe)))
    (refine DV.skip ?_; (repeat with_reducible refine qn ?_); (with_reducible refine qm ?_); (repeat (with_reducible first | apply qa | apply qb | apply qc | apply qd | apply qe)))
    (have F := An6 @encL_len @n2 @n3 @ew @c4 @ndE; refine Rg3 ?_; clear F; (repeat (with_reducible first | apply qa | apply qb | apply qc | apply qd | apply qe)))
    (have F := An5 @encL_len @s0 @s1 @c5 @inE; refine Rg3 ?_; clear F; (repeat (with_reducible first | apply qa | apply qb | apply qc | apply qd | apply qe)))
    (refine Rg2 ?_; (repeat (with_reducible first | apply qa | apply qb | apply qc | apply qd | apply qe)))
    (refine Rg2 ?_; (repeat (with_reducible first | apply qa | apply qb | apply qc | apply qd | apply qe)))
    clear c3 c4 c5
    obtain ⟨W, hW⟩ : ∃ W, bhF g.p x.s O (g.p.length + 1) y.s false = W := ⟨_, rfl⟩
    rw [hW] at hR
    refine DV.loop (fun z : (Int × Nat) × Bool => ⟨[(1, .v true (.c (.int .i64 n))), (2, .v true (.box 2 0)), (5, .v true (.box 5 0)), (7, .v true (.c (.int .i64 O))), (8, .v true (.c (.bool z.2))), (9, .v true (.c (.int .i64 z.1.1)))], [(2, some ⟨0, 0, [[.sl (encL inC g.p), .sl (encL inC g.b), .sl (encL ndC g.n), .sl (encL egC g.e)]]⟩), (5, some ⟨0, 0, [[.int .i64 x.s]]⟩)], []⟩) (fun z => z.1.1 < z.1.2 ∧ z.1.1 < g.p.length ∧ bhF g.p x.s O z.1.2 z.1.1 z.2 = W) (fun z => z.1.2) ((y.s, g.p.length + 1), false) ⟨by dsimp only; omega, w1, hW⟩ (by exact Wk0) (fun z hz => ?_)
    obtain ⟨⟨p, f⟩, fr⟩ := z
    obtain ⟨hf, hpl, hW⟩ := hz
    dsimp only at hf hpl hW
    (repeat (with_reducible first | apply qa | apply qb | apply qc | apply qd | apply qe))
    by_cases hp0 : 0 ≤ p
    · have d1 := decide_eq_true hp0
      obtain ⟨f, rfl⟩ : ∃ f', f = f' + 1 := ⟨f - 1, by omega⟩
      rw [bhF, if_pos hp0] at hW
      have c6 := encL_get (C := inC) (getI_of hp0 hpl)
      have hpp := hp p hp0 hpl
      obtain ⟨b, hb⟩ : ∃ b, (p == x.s) = b := ⟨_, rfl⟩
      obtain ⟨fr', hfr⟩ : ∃ b, (fr || p == O) = b := ⟨_, rfl⟩
      rw [hb, hfr] at hW
      (have F := @d1; refine Rg3 ?_; clear F; (repeat (with_reducible first | apply qa | apply qb | apply qc | apply qd | apply qe)))
      (refine DV.condT rfl (fun _ => rfl) ?_; (repeat (with_reducible first | apply qa | apply qb | apply qc | apply qd | apply qe)))
      (refine DV.skip ?_; (repeat with_reducible refine qn ?_); (with_reducible refine qm ?_); (repeat (with_reducible first | apply qa | apply qb | apply qc | apply qd | apply qe)))
      (have F := @hb; refine Rg3 ?_; clear F; (repeat (with_reducible first | apply qa | apply qb | apply qc | apply qd | apply qe)))
      cases b
      · rw [if_neg (by decide)] at hW
        (refine DV.condF rfl (fun _ => rfl) ?_; (repeat (with_reducible first | apply qa | apply qb | apply qc | apply qd | apply qe)))
        (refine DV.skip ?_; (repeat with_reducible refine qn ?_); (with_reducible refine qm ?_); (repeat (with_reducible first | apply qa | apply qb | apply qc | apply qd | apply qe)))
        (have F := @hfr; refine Re3 ?_; clear F; (repeat with_reducible refine qn ?_); (try with_reducible refine qm ?_); (repeat (with_reducible first | apply qa | apply qb | apply qc | apply qd | apply qe)))
        (have F := An5 @encL_len @hp0 @hpl @c6 @inE; refine Re3 ?_; clear F; (repeat with_reducible refine qn ?_); (try with_reducible refine qm ?_); (repeat (with_reducible first | apply qa | apply qb | apply qc | apply qd | apply qe)))
        exact ⟨((getI g.p p, f), fr'), ⟨⟨by dsimp only; omega, by dsimp only; omega, hW⟩, by dsimp only; omega⟩, by exact Wk0⟩
      · rw [if_pos rfl] at hW
        subst hW
        rw [if_pos rfl] at hR
        (refine DV.condT rfl (fun _ => rfl) ?_; (repeat (with_reducible first | apply qa | apply qb | apply qc | apply qd | apply qe)))
        (refine Rg2 ?_; (repeat (with_reducible first | apply qa | apply qb | apply qc | apply qd | apply qe)))
        (refine DV.ret ?_; (repeat (first | (with_reducible refine thenD_ret' ?_) | (with_reducible refine blockD_ret' ?_))); (with_reducible refine retD_ret' ?_); try (refine Rt0 ?_; try with_reducible exact True.intro))
        exact hR
    · have d1 := decide_eq_false hp0
      have hW2 : (false, fr) = W := by
        cases f with
        | zero => exact hW
        | succ f => rw [bhF, if_neg hp0] at hW; exact hW
      subst hW2
      rw [if_neg (show ¬ ((false, fr) : Bool × Bool).1 = true from Bool.false_ne_true)] at hR
      dsimp only at hR
      have n4 : n.toNat ≤ g.n.length := by omega
      have ka := nd_all g.n
      have q1 : (g.n.take n.toNat).length ≤ 1073741823 := by rw [List.length_take]; have := hs.n; omega
      (have F := @d1; refine Rg3 ?_; clear F; (repeat (with_reducible first | apply qa | apply qb | apply qc | apply qd | apply qe)))
      (refine DV.condF rfl (fun _ => rfl) ?_; (repeat (with_reducible first | apply qa | apply qb | apply qc | apply qd | apply qe)))
      (refine DV.exit ?_; (repeat (first | (with_reducible refine thenD_exit' ?_) | (with_reducible refine blockD_other (by decide) ?_))); (with_reducible refine blockD_same ?_); (repeat with_reducible refine qn ?_); (with_reducible refine qm ?_); (repeat (with_reducible first | apply qa | apply qb | apply qc | apply qd | apply qe)))
      (have F := An11 @ka @encL_len @n0 @nn @n4 @encL_take @decL_encL @isL_enc @q1 @ha @hR; refine Rg3 ?_; clear F; (repeat (with_reducible first | apply qa | apply qb | apply qc | apply qd | apply qe)))
      (refine DV.ret ?_; (repeat (first | (with_reducible refine thenD_ret' ?_) | (with_reducible refine blockD_ret' ?_))); (with_reducible refine retD_ret' ?_); try (refine Rt0 ?_; try with_reducible exact True.intro))
      try exact hR
  · exact h.elim
def nodD : List S1 → CR × Prop
  | [.agg g, .c (.int .i64 n)] => (.one (.c (.int .i64 (nodI (grC.dec g) n (ndAt (grC.dec g) n)))), grC.enc (grC.dec g) = g ∧ NdOk (grC.dec g) n)
  | _ => (.one (.c (.bool false)), False)
set_option maxHeartbeats 8000000 in
theorem nod_cal (args : List S1) (h : (nodD args).2) : Cal Try.prog 74 args (nodD args).1 := by
  unfold nodD at h ⊢
  split at h
  · next g0 n =>
    have CT := An4 @aroD.eq_1 @insD.eq_1 @behD.eq_1 @prgD.eq_1; refine DV.of (Γ := ⟨[(122, aroD), (120, insD), (123, behD), (124, prgD)], [], []⟩) (rs := [ResultVar.tmp 4]) [0, 1, 2, 4, 5, 6, 7, 19, 28, 58, 82] ⟨by intro p hp; simp only [List.mem_cons, List.not_mem_nil, or_false] at hp; rcases hp with rfl | rfl | rfl | rfl; exact aro_cal; exact ins_cal; exact beh_cal; exact prg_cal, nofun⟩ (by kernel_rfl) Try.func74 rfl rfl (by kernel_rfl) rfl ?_; (repeat (with_reducible first | apply qa | apply qb | apply qc | apply qd | apply qe))
    obtain ⟨hg, ho⟩ := h
    obtain ⟨g, rfl⟩ : ∃ v, g0 = grC.enc v := ⟨_, hg.symm⟩
    rw [grC.de] at ho ⊢
    clear hg
    have hgd : grC.dec [D.sl (encL inC g.p), D.sl (encL inC g.b), D.sl (encL ndC g.n), D.sl (encL egC g.e)] = g := grC.de g
    have hs := ho.sm
    have n0 := ho.n0
    have n1 := ho.n1
    have c3 := encL_get (C := ndC) (ndAt_of n0 n1)
    have hbo : insB (ndAt g n).s g.p.length = true → BhOk g n := fun h => ⟨ho, (insB_iff.1 h).1, (insB_iff.1 h).2⟩
    obtain ⟨x, hx⟩ : ∃ x, ndAt g n = x := ⟨_, rfl⟩
    rw [hx] at c3 hbo ⊢
    clear ho
    obtain ⟨R, hR⟩ : ∃ R, nodI g n x = R := ⟨_, rfl⟩
    rw [hR]
    unfold nodI at hR
    obtain ⟨A, hA⟩ : ∃ A, arA x.k = A := ⟨_, rfl⟩
    obtain ⟨B, hB⟩ : ∃ A, arB x.k = A := ⟨_, rfl⟩
    obtain ⟨q1, hq1⟩ : ∃ q, (decide (x.k < 1) || decide (15 < x.k)) = q := ⟨_, rfl⟩
    obtain ⟨q3, hq3⟩ : ∃ q, ((x.k == 4 && decide (x.a < 1)) || ((x.k != 4 && x.k != 3) && x.a != 0)) = q := ⟨_, rfl⟩
    obtain ⟨p1, hp1⟩ : ∃ q, prgB x.pr = q := ⟨_, rfl⟩
    obtain ⟨q4, hq4⟩ : ∃ q, (!p1 || (x.k != 2 && decide (0 < (x.pr.length : Int)))) = q := ⟨_, rfl⟩
    rw [hA, hB, hq1, hq3, hp1, hq4] at hR
    (have F := @grE; refine Rg3 ?_; clear F; (repeat (with_reducible first | apply qa | apply qb | apply qc | apply qd | apply qe)))
    (have F := An5 @encL_len @n0 @n1 @c3 @ndE; refine Rg3 ?_; clear F; (repeat (with_reducible first | apply qa | apply qb | apply qc | apply qd | apply qe)))
    (have F := An2 @hA @hB; refine Rg3 ?_; clear F; (repeat (with_reducible first | apply qa | apply qb | apply qc | apply qd | apply qe)))
    (have F := @hq1; refine Rg3 ?_; clear F; (repeat (with_reducible first | apply qa | apply qb | apply qc | apply qd | apply qe)))
    cases q1
    rotate_left 1
    · rw [if_pos rfl] at hR
      (refine DV.condT rfl (fun _ => rfl) ?_; (repeat (with_reducible first | apply qa | apply qb | apply qc | apply qd | apply qe)))
      (refine Rg2 ?_; (repeat (with_reducible first | apply qa | apply qb | apply qc | apply qd | apply qe)))
      (refine DV.ret ?_; (repeat (first | (with_reducible refine thenD_ret' ?_) | (with_reducible refine blockD_ret' ?_))); (with_reducible refine retD_ret' ?_); try (refine Rt0 ?_; try with_reducible exact True.intro))
      exact hR
    rw [if_neg (by decide)] at hR
    (refine DV.condF rfl (fun _ => rfl) ?_; (repeat (with_reducible first | apply qa | apply qb | apply qc | apply qd | apply qe)))
    obtain ⟨i, hi⟩ : ∃ i, insB x.s g.p.length = i := ⟨_, rfl⟩
    rw [hi] at hR hbo
    cases i
    · have e1 : (((!false || (A && x.s == 0)) || (B && x.s != 0)) || !behB g n) = true := by rw [Bool.not_false, Bool.true_or, Bool.true_or, Bool.true_or]
      rw [if_pos e1] at hR
      (have F := An2 @encL_len @hi; refine Rg3 ?_; clear F; (repeat (with_reducible first | apply qa | apply qb | apply qc | apply qd | apply qe)))
      (refine DV.condT rfl (fun _ => rfl) ?_; (repeat (with_reducible first | apply qa | apply qb | apply qc | apply qd | apply qe)))
      (refine Rg2 ?_; (repeat (with_reducible first | apply qa | apply qb | apply qc | apply qd | apply qe)))
      (refine DV.ret ?_; (repeat (first | (with_reducible refine thenD_ret' ?_) | (with_reducible refine blockD_ret' ?_))); (with_reducible refine retD_ret' ?_); try (refine Rt0 ?_; try with_reducible exact True.intro))
      exact hR
    have hbo := hbo rfl
    obtain ⟨b, hb⟩ : ∃ i, behB g n = i := ⟨_, rfl⟩
    rw [hb] at hR
    have e1 : (((!true || (A && x.s == 0)) || (B && x.s != 0)) || !b) = (((A && x.s == 0) || (B && x.s != 0)) || !b) := by rw [Bool.not_true, Bool.false_or]
    rw [e1] at hR
    obtain ⟨q2, hq2⟩ : ∃ q, (((A && x.s == 0) || (B && x.s != 0)) || !b) = q := ⟨_, rfl⟩
    rw [hq2] at hR
    (have F := An7 @encL_len @hi @grE @hgd @hbo @hb @hq2; refine Rg3 ?_; clear F; (repeat (with_reducible first | apply qa | apply qb | apply qc | apply qd | apply qe)))
    cases q2
    rotate_left 1
    · rw [if_pos rfl] at hR
      (refine DV.condT rfl (fun _ => rfl) ?_; (repeat (with_reducible first | apply qa | apply qb | apply qc | apply qd | apply qe)))
      (refine Rg2 ?_; (repeat (with_reducible first | apply qa | apply qb | apply qc | apply qd | apply qe)))
      (refine DV.ret ?_; (repeat (first | (with_reducible refine thenD_ret' ?_) | (with_reducible refine blockD_ret' ?_))); (with_reducible refine retD_ret' ?_); try (refine Rt0 ?_; try with_reducible exact True.intro))
      exact hR
    rw [if_neg (by decide)] at hR
    (refine DV.condF rfl (fun _ => rfl) ?_; (repeat (with_reducible first | apply qa | apply qb | apply qc | apply qd | apply qe)))
    (have F := @hq3; refine Rg3 ?_; clear F; (repeat (with_reducible first | apply qa | apply qb | apply qc | apply qd | apply qe)))
    cases q3
    rotate_left 1
    · rw [if_pos rfl] at hR
      (refine DV.condT rfl (fun _ => rfl) ?_; (repeat (with_reducible first | apply qa | apply qb | apply qc | apply qd | apply qe)))
      (refine Rg2 ?_; (repeat (with_reducible first | apply qa | apply qb | apply qc | apply qd | apply qe)))
      (refine DV.ret ?_; (repeat (first | (with_reducible refine thenD_ret' ?_) | (with_reducible refine blockD_ret' ?_))); (with_reducible refine retD_ret' ?_); try (refine Rt0 ?_; try with_reducible exact True.intro))
      exact hR
    rw [if_neg (by decide)] at hR
    (refine DV.condF rfl (fun _ => rfl) ?_; (repeat (with_reducible first | apply qa | apply qb | apply qc | apply qd | apply qe)))
    (have F := An5 @decL_encL @isL_enc @encL_len @hp1 @hq4; refine Rg3 ?_; clear F; (repeat (with_reducible first | apply qa | apply qb | apply qc | apply qd | apply qe)))
    cases q4
    rotate_left 1
    · rw [if_pos rfl] at hR
      (refine DV.condT rfl (fun _ => rfl) ?_; (repeat (with_reducible first | apply qa | apply qb | apply qc | apply qd | apply qe)))
      (refine Rg2 ?_; (repeat (with_reducible first | apply qa | apply qb | apply qc | apply qd | apply qe)))
      (refine DV.ret ?_; (repeat (first | (with_reducible refine thenD_ret' ?_) | (with_reducible refine blockD_ret' ?_))); (with_reducible refine retD_ret' ?_); try (refine Rt0 ?_; try with_reducible exact True.intro))
      exact hR
    rw [if_neg (by decide)] at hR
    (refine DV.condF rfl (fun _ => rfl) ?_; (repeat (with_reducible first | apply qa | apply qb | apply qc | apply qd | apply qe)))
    (refine DV.skip ?_; (repeat with_reducible refine qn ?_); (with_reducible refine qm ?_); (repeat (with_reducible first | apply qa | apply qb | apply qc | apply qd | apply qe)))
    (refine Rg2 ?_; (repeat (with_reducible first | apply qa | apply qb | apply qc | apply qd | apply qe)))
    (refine DV.ret ?_; (repeat (first | (with_reducible refine thenD_ret' ?_) | (with_reducible refine blockD_ret' ?_))); (with_reducible refine retD_ret' ?_); try (refine Rt0 ?_; try with_reducible exact True.intro))
    exact hR
  · exact h.elim
def fulD : List S1 → CR × Prop
  | [.agg g, .c (.int .i64 n)] => (.one (.c (.bool (fulB (grC.dec g) n (ndAt (grC.dec g) n)))), grC.enc (grC.dec g) = g ∧ FuOk (grC.dec g) n)
  | _ => (.one (.c (.bool false)), False)
set_option maxHeartbeats 8000000 in
theorem ful_cal (args : List S1) (h : (fulD args).2) : Cal Try.prog 76 args (fulD args).1 := by
  unfold fulD at h ⊢
  split at h
  · next g0 n =>
    have CT := An2 @ptsD.eq_1 @fedD.eq_1; refine DV.of (Γ := ⟨[(125, ptsD), (129, fedD)], [], []⟩) (rs := [ResultVar.tmp 4]) [0, 1, 2, 4, 5, 12, 13, 14, 21] ⟨by intro p hp; simp only [List.mem_cons, List.not_mem_nil, or_false] at hp; rcases hp with rfl | rfl; exact pts_cal; exact fed_cal, nofun⟩ (by kernel_rfl) Try.func76 rfl rfl (by kernel_rfl) rfl ?_; (repeat (with_reducible first | apply qa | apply qb | apply qc | apply qd | apply qe))
    obtain ⟨hg, ho⟩ := h
    obtain ⟨g, rfl⟩ : ∃ v, g0 = grC.enc v := ⟨_, hg.symm⟩
    rw [grC.de] at ho ⊢
    clear hg
    have hgd : grC.dec [D.sl (encL inC g.p), D.sl (encL inC g.b), D.sl (encL ndC g.n), D.sl (encL egC g.e)] = g := grC.de g
    obtain ⟨hs, n0, n1⟩ := ho
    have he := hs.e
    have c3 := encL_get (C := ndC) (ndAt_of n0 n1)
    obtain ⟨x, hx⟩ : ∃ x, ndAt g n = x := ⟨_, rfl⟩
    rw [hx] at c3 ⊢
    obtain ⟨R, hR⟩ : ∃ R, fulB g n x = R := ⟨_, rfl⟩
    rw [hR]
    unfold fulB at hR
    obtain ⟨p0, p2⟩ := portsI_bd x.k
    obtain ⟨P, hP⟩ : ∃ P : Nat, portsI x.k = (P : Int) := ⟨(portsI x.k).toNat, by omega⟩
    rw [hP] at hR p2
    have hR : fulF g.e n P 0 = R := hR
    (have F := @grE; refine Rg3 ?_; clear F; (repeat (with_reducible first | apply qa | apply qb | apply qc | apply qd | apply qe)))
    (have F := An6 @encL_len @n0 @n1 @c3 @ndE @hP; refine Rg3 ?_; clear F; (repeat (with_reducible first | apply qa | apply qb | apply qc | apply qd | apply qe)))
    refine DV.loop (fun j : Nat => ⟨[(1, .v true (.c (.int .i64 n))), (2, .v true (.box 2 0)), (12, .v true (.c (.int .i64 P))), (13, .v true (.c (.int .i64 j)))], [(2, some ⟨0, 0, [[.sl (encL inC g.p), .sl (encL inC g.b), .sl (encL ndC g.n), .sl (encL egC g.e)]]⟩)], []⟩) (fun j => j ≤ P ∧ fulF g.e n (P - j) j = R) (fun j => P - j) 0 ⟨Nat.zero_le _, hR⟩ (by (have F := @n0; exact Wk1)) (fun j hj => ?_)
    obtain ⟨hj, hR⟩ := hj
    (repeat (with_reducible first | apply qa | apply qb | apply qc | apply qd | apply qe))
    have ew := wr1 j (by omega)
    by_cases hlt : j < P
    · have d1 : decide ((j : Int) < (P : Int)) = true := decide_eq_true (by omega)
      rw [show P - j = (P - (j + 1)) + 1 by omega, fulF] at hR
      obtain ⟨b, hb⟩ : ∃ b, fedB g.e n j = b := ⟨_, rfl⟩
      rw [hb] at hR
      (have F := @d1; refine Rg3 ?_; clear F; (repeat (with_reducible first | apply qa | apply qb | apply qc | apply qd | apply qe)))
      (refine DV.condT rfl (fun _ => rfl) ?_; (repeat (with_reducible first | apply qa | apply qb | apply qc | apply qd | apply qe)))
      (refine DV.skip ?_; (repeat with_reducible refine qn ?_); (with_reducible refine qm ?_); (repeat (with_reducible first | apply qa | apply qb | apply qc | apply qd | apply qe)))
      (refine Rg2 ?_; (repeat (with_reducible first | apply qa | apply qb | apply qc | apply qd | apply qe)))
      (have F := An4 @decL_encL @isL_enc @he @hb; refine Rg3 ?_; clear F; (repeat (with_reducible first | apply qa | apply qb | apply qc | apply qd | apply qe)))
      cases b
      · rw [if_neg (by decide)] at hR
        (refine DV.condT rfl (fun _ => rfl) ?_; (repeat (with_reducible first | apply qa | apply qb | apply qc | apply qd | apply qe)))
        (refine Rg2 ?_; (repeat (with_reducible first | apply qa | apply qb | apply qc | apply qd | apply qe)))
        (refine DV.ret ?_; (repeat (first | (with_reducible refine thenD_ret' ?_) | (with_reducible refine blockD_ret' ?_))); (with_reducible refine retD_ret' ?_); try (refine Rt0 ?_; try with_reducible exact True.intro))
        exact hR
      · rw [if_pos rfl] at hR
        (refine DV.condF rfl (fun _ => rfl) ?_; (repeat (with_reducible first | apply qa | apply qb | apply qc | apply qd | apply qe)))
        (refine DV.skip ?_; (repeat with_reducible refine qn ?_); (with_reducible refine qm ?_); (repeat (with_reducible first | apply qa | apply qb | apply qc | apply qd | apply qe)))
        (have F := @ew; refine Re3 ?_; clear F; (repeat with_reducible refine qn ?_); (try with_reducible refine qm ?_); (repeat (with_reducible first | apply qa | apply qb | apply qc | apply qd | apply qe)))
        exact ⟨j + 1, ⟨⟨hlt, hR⟩, by omega⟩, by exact Wk0⟩
    · obtain rfl : j = P := by omega
      have d1 : decide ((j : Int) < (j : Int)) = false := decide_eq_false (by omega)
      rw [Nat.sub_self] at hR
      (have F := @d1; refine Rg3 ?_; clear F; (repeat (with_reducible first | apply qa | apply qb | apply qc | apply qd | apply qe)))
      (refine DV.condF rfl (fun _ => rfl) ?_; (repeat (with_reducible first | apply qa | apply qb | apply qc | apply qd | apply qe)))
      (refine DV.exit ?_; (repeat (first | (with_reducible refine thenD_exit' ?_) | (with_reducible refine blockD_other (by decide) ?_))); (with_reducible refine blockD_same ?_); (repeat with_reducible refine qn ?_); (with_reducible refine qm ?_); (repeat (with_reducible first | apply qa | apply qb | apply qc | apply qd | apply qe)))
      (refine Rg2 ?_; (repeat (with_reducible first | apply qa | apply qb | apply qc | apply qd | apply qe)))
      (refine DV.ret ?_; (repeat (first | (with_reducible refine thenD_ret' ?_) | (with_reducible refine blockD_ret' ?_))); (with_reducible refine retD_ret' ?_); try (refine Rt0 ?_; try with_reducible exact True.intro))
      exact hR
  · exact h.elim
def edgD : List S1 → CR × Prop
  | [.agg g, .c (.int .i64 n)] => (.one (.c (.int .i64 (edS (grC.dec g) n))), grC.enc (grC.dec g) = g ∧ EdOk (grC.dec g) n)
  | _ => (.one (.c (.bool false)), False)
set_option maxHeartbeats 8000000 in
theorem edg_cal (args : List S1) (h : (edgD args).2) : Cal Try.prog 75 args (edgD args).1 := by
  unfold edgD at h ⊢
  split at h
  · next g0 n =>
    have CT := An6 @insD.eq_1 @ptsD.eq_1 @givD.eq_1 @takD.eq_1 @kydD.eq_1 @fedD.eq_1; refine DV.of (Γ := ⟨[(120, insD), (125, ptsD), (126, givD), (127, takD), (128, kydD), (129, fedD)], [], []⟩) (rs := [ResultVar.tmp 4]) [0, 1, 2, 4, 5, 6, 7, 28, 41, 54, 62, 73, 82] ⟨by intro p hp; simp only [List.mem_cons, List.not_mem_nil, or_false] at hp; rcases hp with rfl | rfl | rfl | rfl | rfl | rfl; exact ins_cal; exact pts_cal; exact giv_cal; exact tak_cal; exact kyd_cal; exact fed_cal, nofun⟩ (by kernel_rfl) Try.func75 rfl rfl (by kernel_rfl) rfl ?_; (repeat (with_reducible first | apply qa | apply qb | apply qc | apply qd | apply qe))
    obtain ⟨hg, ho⟩ := h
    obtain ⟨g, rfl⟩ : ∃ v, g0 = grC.enc v := ⟨_, hg.symm⟩
    rw [grC.de] at ho ⊢
    clear hg
    have hgd : grC.dec [D.sl (encL inC g.p), D.sl (encL inC g.b), D.sl (encL ndC g.n), D.sl (encL egC g.e)] = g := grC.de g
    obtain ⟨hs, n0, n1, hall⟩ := ho
    have c3 := encL_get (C := egC) (egAt_of n0 n1)
    obtain ⟨R, hR⟩ : ∃ R, edS g n = R := ⟨_, rfl⟩
    rw [hR]
    unfold edS at hR
    obtain ⟨e, he⟩ : ∃ e, egAt g n = e := ⟨_, rfl⟩
    rw [he] at c3 hR
    unfold edgI at hR
    obtain ⟨i1, hi1⟩ : ∃ i, insB e.f g.n.length = i := ⟨_, rfl⟩
    obtain ⟨i2, hi2⟩ : ∃ i, insB e.t g.n.length = i := ⟨_, rfl⟩
    rw [hi1, hi2] at hR
    obtain ⟨q1, hq1⟩ : ∃ q, (!i1 || !i2) = q := ⟨_, rfl⟩
    rw [hq1] at hR
    (have F := @grE; refine Rg3 ?_; clear F; (repeat (with_reducible first | apply qa | apply qb | apply qc | apply qd | apply qe)))
    (have F := An5 @encL_len @n0 @n1 @c3 @egE; refine Rg3 ?_; clear F; (repeat (with_reducible first | apply qa | apply qb | apply qc | apply qd | apply qe)))
    (have F := An4 @encL_len @hi1 @hi2 @hq1; refine Rg3 ?_; clear F; (repeat (with_reducible first | apply qa | apply qb | apply qc | apply qd | apply qe)))
    cases q1
    rotate_left 1
    · rw [if_pos rfl] at hR
      (refine DV.condT rfl (fun _ => rfl) ?_; (repeat (with_reducible first | apply qa | apply qb | apply qc | apply qd | apply qe)))
      (refine Rg2 ?_; (repeat (with_reducible first | apply qa | apply qb | apply qc | apply qd | apply qe)))
      (refine DV.ret ?_; (repeat (first | (with_reducible refine thenD_ret' ?_) | (with_reducible refine blockD_ret' ?_))); (with_reducible refine retD_ret' ?_); try (refine Rt0 ?_; try with_reducible exact True.intro))
      exact hR
    rw [if_neg (by decide)] at hR
    rw [Bool.or_eq_false_iff] at hq1
    obtain ⟨g1, g2⟩ := hq1
    have hi1 : insB e.f g.n.length = true := by rw [hi1]; simpa using g1
    have hi2 : insB e.t g.n.length = true := by rw [hi2]; simpa using g2
    obtain ⟨f0, f1⟩ := insB_iff.1 hi1
    obtain ⟨t0, t1⟩ := insB_iff.1 hi2
    clear g1 g2 hi1 hi2
    have c4 := encL_get (C := ndC) (ndAt_of f0 f1)
    have c5 := encL_get (C := ndC) (ndAt_of t0 t1)
    have hx1 := hall e.f f0 f1
    have hy1 := hall e.t t0 t1
    obtain ⟨x, hx⟩ : ∃ x, ndAt g e.f = x := ⟨_, rfl⟩
    rw [hx] at c4 hR hx1
    obtain ⟨y, hy⟩ : ∃ y, ndAt g e.t = y := ⟨_, rfl⟩
    rw [hy] at c5 hR hy1
    clear hall he hx hy
    have hx2 : (x.k = 11 → 0 ≤ x.s ∧ x.s < (g.p.length : Int)) = True := eq_true fun _ => hx1
    have hy2 : (y.k = 10 → 0 ≤ y.s ∧ y.s < (g.p.length : Int)) = True := eq_true fun _ => hy1
    have hxd : ndC.dec [D.int .i64 x.k, D.int .i64 x.s, D.int .i64 x.a, D.sl (encL isC x.pr)] = x := ndC.de x
    have hyd : ndC.dec [D.int .i64 y.k, D.int .i64 y.s, D.int .i64 y.a, D.sl (encL isC y.pr)] = y := ndC.de y
    obtain ⟨P, hP⟩ : ∃ P, portsI y.k = P := ⟨_, rfl⟩
    obtain ⟨i3, hi3⟩ : ∃ i, insB e.p P = i := ⟨_, rfl⟩
    obtain ⟨q2, hq2⟩ : ∃ q, (x.k == 15 || !i3) = q := ⟨_, rfl⟩
    obtain ⟨G, hG⟩ : ∃ G, givI g x = G := ⟨_, rfl⟩
    obtain ⟨T, hT⟩ : ∃ G, takI g y = G := ⟨_, rfl⟩
    obtain ⟨q3, hq3⟩ : ∃ q, (G != T) = q := ⟨_, rfl⟩
    obtain ⟨q4, hq4⟩ : ∃ q, (decide (e.t ≤ e.f) && x.k != 12) = q := ⟨_, rfl⟩
    obtain ⟨ky, hky⟩ : ∃ q, keyB y.k = q := ⟨_, rfl⟩
    obtain ⟨q5, hq5⟩ : ∃ q, (ky && !e.x) = q := ⟨_, rfl⟩
    obtain ⟨q6, hq6⟩ : ∃ q, fedB (g.e.take n.toNat) e.t e.p = q := ⟨_, rfl⟩
    rw [hP, hi3, hq2, hG, hT, hq3, hq4, hky, hq5, hq6] at hR
    (refine DV.condF rfl (fun _ => rfl) ?_; (repeat (with_reducible first | apply qa | apply qb | apply qc | apply qd | apply qe)))
    (refine DV.skip ?_; (repeat with_reducible refine qn ?_); (with_reducible refine qm ?_); (repeat (with_reducible first | apply qa | apply qb | apply qc | apply qd | apply qe)))
    (have F := An8 @encL_len @f0 @f1 @t0 @t1 @c4 @c5 @ndE; refine Rd3 ?_; clear F; (repeat (with_reducible first | apply qa | apply qb | apply qc | apply qd | apply qe)))
    (have F := An3 @hP @hi3 @hq2; refine Rd3 ?_; clear F; (repeat (with_reducible first | apply qa | apply qb | apply qc | apply qd | apply qe)))
    cases q2
    rotate_left 1
    · rw [if_pos rfl] at hR
      (refine DV.condT rfl (fun _ => rfl) ?_; (repeat (with_reducible first | apply qa | apply qb | apply qc | apply qd | apply qe)))
      (refine Rg2 ?_; (repeat (with_reducible first | apply qa | apply qb | apply qc | apply qd | apply qe)))
      (refine DV.ret ?_; (repeat (first | (with_reducible refine thenD_ret' ?_) | (with_reducible refine blockD_ret' ?_))); (with_reducible refine retD_ret' ?_); try (refine Rt0 ?_; try with_reducible exact True.intro))
      exact hR
    rw [if_neg (by decide)] at hR
    (refine DV.condF rfl (fun _ => rfl) ?_; (repeat (with_reducible first | apply qa | apply qb | apply qc | apply qd | apply qe)))
    (have F := An11 @grE @hgd @hxd @hyd @ndE @hs @hx2 @hy2 @hG @hT @hq3; refine Rd3 ?_; clear F; (repeat (with_reducible first | apply qa | apply qb | apply qc | apply qd | apply qe)))
    cases q3
    rotate_left 1
    · rw [if_pos rfl] at hR
      (refine DV.condT rfl (fun _ => rfl) ?_; (repeat (with_reducible first | apply qa | apply qb | apply qc | apply qd | apply qe)))
      (refine Rg2 ?_; (repeat (with_reducible first | apply qa | apply qb | apply qc | apply qd | apply qe)))
      (refine DV.ret ?_; (repeat (first | (with_reducible refine thenD_ret' ?_) | (with_reducible refine blockD_ret' ?_))); (with_reducible refine retD_ret' ?_); try (refine Rt0 ?_; try with_reducible exact True.intro))
      exact hR
    rw [if_neg (by decide)] at hR
    (refine DV.condF rfl (fun _ => rfl) ?_; (repeat (with_reducible first | apply qa | apply qb | apply qc | apply qd | apply qe)))
    (have F := @hq4; refine Rg3 ?_; clear F; (repeat (with_reducible first | apply qa | apply qb | apply qc | apply qd | apply qe)))
    cases q4
    rotate_left 1
    · rw [if_pos rfl] at hR
      (refine DV.condT rfl (fun _ => rfl) ?_; (repeat (with_reducible first | apply qa | apply qb | apply qc | apply qd | apply qe)))
      (refine Rg2 ?_; (repeat (with_reducible first | apply qa | apply qb | apply qc | apply qd | apply qe)))
      (refine DV.ret ?_; (repeat (first | (with_reducible refine thenD_ret' ?_) | (with_reducible refine blockD_ret' ?_))); (with_reducible refine retD_ret' ?_); try (refine Rt0 ?_; try with_reducible exact True.intro))
      exact hR
    rw [if_neg (by decide)] at hR
    (refine DV.condF rfl (fun _ => rfl) ?_; (repeat (with_reducible first | apply qa | apply qb | apply qc | apply qd | apply qe)))
    (have F := An2 @hky @hq5; refine Rg3 ?_; clear F; (repeat (with_reducible first | apply qa | apply qb | apply qc | apply qd | apply qe)))
    cases q5
    rotate_left 1
    · rw [if_pos rfl] at hR
      (refine DV.condT rfl (fun _ => rfl) ?_; (repeat (with_reducible first | apply qa | apply qb | apply qc | apply qd | apply qe)))
      (refine Rg2 ?_; (repeat (with_reducible first | apply qa | apply qb | apply qc | apply qd | apply qe)))
      (refine DV.ret ?_; (repeat (first | (with_reducible refine thenD_ret' ?_) | (with_reducible refine blockD_ret' ?_))); (with_reducible refine retD_ret' ?_); try (refine Rt0 ?_; try with_reducible exact True.intro))
      exact hR
    rw [if_neg (by decide)] at hR
    have n2 : n.toNat ≤ g.e.length := by omega
    have ka := eg_all g.e
    have n3 : n ≤ (g.e.length : Int) := by omega
    have q1 : (g.e.take n.toNat).length ≤ 1073741823 := by rw [List.length_take]; have := hs.e; omega
    (refine DV.condF rfl (fun _ => rfl) ?_; (repeat (with_reducible first | apply qa | apply qb | apply qc | apply qd | apply qe)))
    (have F := An10 @ka @encL_len @n0 @n2 @n3 @encL_take @decL_encL @isL_enc @q1 @hq6; refine Rd3 ?_; clear F; (repeat (with_reducible first | apply qa | apply qb | apply qc | apply qd | apply qe)))
    cases q6
    rotate_left 1
    · rw [if_pos rfl] at hR
      (refine DV.condT rfl (fun _ => rfl) ?_; (repeat (with_reducible first | apply qa | apply qb | apply qc | apply qd | apply qe)))
      (refine Rg2 ?_; (repeat (with_reducible first | apply qa | apply qb | apply qc | apply qd | apply qe)))
      (refine DV.ret ?_; (repeat (first | (with_reducible refine thenD_ret' ?_) | (with_reducible refine blockD_ret' ?_))); (with_reducible refine retD_ret' ?_); try (refine Rt0 ?_; try with_reducible exact True.intro))
      exact hR
    rw [if_neg (by decide)] at hR
    (refine DV.condF rfl (fun _ => rfl) ?_; (repeat (with_reducible first | apply qa | apply qb | apply qc | apply qd | apply qe)))
    (refine DV.skip ?_; (repeat with_reducible refine qn ?_); (with_reducible refine qm ?_); (repeat (with_reducible first | apply qa | apply qb | apply qc | apply qd | apply qe)))
    (refine Rg2 ?_; (repeat (with_reducible first | apply qa | apply qb | apply qc | apply qd | apply qe)))
    (refine DV.ret ?_; (repeat (first | (with_reducible refine thenD_ret' ?_) | (with_reducible refine blockD_ret' ?_))); (with_reducible refine retD_ret' ?_); try (refine Rt0 ?_; try with_reducible exact True.intro))
    exact hR
  · exact h.elim
end Go.Proofs.Ytkmgdejpdhlleaa.Dq
