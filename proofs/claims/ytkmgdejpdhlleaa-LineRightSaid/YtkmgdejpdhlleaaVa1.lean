/- Graphs that may run by deep values: what they are; the small functions. -/
import Derived.Test.YtkmgdejpdhlleaaTyp
import Derived.Test.YtkmgdejpdhlleaaDqC
import Derived.Test.YtkmgdejpdhlleaaVaP
namespace Go.Proofs.Ytkmgdejpdhlleaa.Dq
set_option linter.unusedSimpArgs false
set_option linter.unusedVariables false
set_option maxRecDepth 100000
open Go.RowKit
open Va

def inC : Cod Int where
  K := 1
  enc := fun m => [.int .i64 m]
  dec := fun l => match l with
    | [.int _ f] => f
    | _ => 0
  de := fun _ => rfl
  len := fun _ => rfl
  lf := fun _ => rfl
theorem inE (m : Int) : inC.enc m = [.int .i64 m] := rfl
def isC : Cod Is where
  K := 2
  enc := fun m => [.int .i64 m.o, .int .i64 m.n]
  dec := fun l => match l with
    | [.int _ f, .int _ n] => ⟨f, n⟩
    | _ => ⟨0, 0⟩
  de := fun _ => rfl
  len := fun _ => rfl
  lf := fun _ => rfl
theorem isE (m : Is) : isC.enc m = [.int .i64 m.o, .int .i64 m.n] := rfl
def ndC : Cod Nd where
  K := 4
  enc := fun m => [.int .i64 m.k, .int .i64 m.s, .int .i64 m.a, .sl (encL isC m.pr)]
  dec := fun l => match l with
    | [.int _ k, .int _ s, .int _ a, .sl p] => ⟨k, s, a, decL isC p⟩
    | _ => ⟨0, 0, 0, []⟩
  de := fun m => by dsimp only; rw [decL_encL]
  len := fun _ => rfl
  lf := fun _ => rfl
theorem ndE (m : Nd) : ndC.enc m = [.int .i64 m.k, .int .i64 m.s, .int .i64 m.a, .sl (encL isC m.pr)] := rfl
def egC : Cod Eg where
  K := 4
  enc := fun m => [.int .i64 m.f, .int .i64 m.t, .int .i64 m.p, .bool m.x]
  dec := fun l => match l with
    | [.int _ k, .int _ s, .int _ a, .bool p] => ⟨k, s, a, p⟩
    | _ => ⟨0, 0, 0, false⟩
  de := fun _ => rfl
  len := fun _ => rfl
  lf := fun _ => rfl
theorem egE (m : Eg) : egC.enc m = [.int .i64 m.f, .int .i64 m.t, .int .i64 m.p, .bool m.x] := rfl
def grC : Cod Gr where
  K := 4
  enc := fun g => [.sl (encL inC g.p), .sl (encL inC g.b), .sl (encL ndC g.n), .sl (encL egC g.e)]
  dec := fun l => match l with
    | [.sl p, .sl b, .sl n, .sl e] => ⟨decL inC p, decL inC b, decL ndC n, decL egC e⟩
    | _ => ⟨[], [], [], []⟩
  de := fun v => by dsimp only; rw [decL_encL, decL_encL, decL_encL, decL_encL]
  len := fun _ => rfl
  lf := fun _ => rfl
theorem grE (g : Gr) : grC.enc g = [.sl (encL inC g.p), .sl (encL inC g.b), .sl (encL ndC g.n), .sl (encL egC g.e)] := rfl
theorem nd_all (l : List Nd) : allK 4 (encL ndC l) := encL_all (C := ndC) l
theorem eg_all (l : List Eg) : allK 4 (encL egC l) := encL_all (C := egC) l
theorem in_all (l : List Int) : allK 1 (encL inC l) := encL_all (C := inC) l
/-- A graph whose lists are short. -/
structure Sm (g : Gr) : Prop where
  p : g.p.length ≤ 1073741823
  b : g.b.length ≤ 1073741823
  n : g.n.length ≤ 1073741823
  e : g.e.length ≤ 1073741823
def insD : List S1 → CR × Prop
  | [.c (.int .i64 n), .c (.int .i64 m)] => (.one (.c (.bool (insB n m))), True)
  | _ => (.one (.c (.bool false)), False)
theorem ins_cal (args : List S1) (h : (insD args).2) : Cal Try.prog 120 args (insD args).1 := by
  unfold insD at h ⊢
  split at h
  · next n m =>
    refine DV.of (Γ := ⟨[], [], []⟩) (rs := [ResultVar.tmp 4]) [0, 1, 4] ⟨nofun, nofun⟩ (by kernel_rfl) Try.func120 rfl rfl (by kernel_rfl) rfl ?_; (repeat (with_reducible first | apply qa | apply qb | apply qc | apply qd | apply qe))
    (refine Rg0 ?_; (repeat (with_reducible first | apply qa | apply qb | apply qc | apply qd | apply qe)))
    (refine Rg0 ?_; (repeat (with_reducible first | apply qa | apply qb | apply qc | apply qd | apply qe)))
    (refine DV.ret ?_; (repeat (first | (with_reducible refine thenD_ret' ?_) | (with_reducible refine blockD_ret' ?_))); (with_reducible refine retD_ret' ?_); try (refine Rt0 ?_; try with_reducible exact True.intro))
    try rfl
  · exact h.elim
def aroD : List S1 → CR × Prop
  | [.c (.int .i64 k)] => (.tup [.c (.bool (arA k)), .c (.bool (arB k))], True)
  | _ => (.one (.c (.bool false)), False)
theorem aro_cal (args : List S1) (h : (aroD args).2) : Cal Try.prog 122 args (aroD args).1 := by
  unfold aroD at h ⊢
  split at h
  · next k =>
    refine DV.of (Γ := ⟨[], [], []⟩) (rs := [ResultVar.tmp 2, ResultVar.tmp 3]) [0, 2, 3] ⟨nofun, nofun⟩ (by kernel_rfl) Try.func122 rfl rfl (by kernel_rfl) rfl ?_; (repeat (with_reducible first | apply qa | apply qb | apply qc | apply qd | apply qe))
    (refine Rg0 ?_; (repeat (with_reducible first | apply qa | apply qb | apply qc | apply qd | apply qe)))
    (refine Rg0 ?_; (repeat (with_reducible first | apply qa | apply qb | apply qc | apply qd | apply qe)))
    (refine DV.ret ?_; (repeat (first | (with_reducible refine thenD_ret' ?_) | (with_reducible refine blockD_ret' ?_))); (with_reducible refine retD_ret' ?_); try (refine Rt0 ?_; try with_reducible exact True.intro))
    exact ⟨by decide, rfl, rfl⟩
  · exact h.elim
def kydD : List S1 → CR × Prop
  | [.c (.int .i64 k)] => (.one (.c (.bool (keyB k))), True)
  | _ => (.one (.c (.bool false)), False)
theorem kyd_cal (args : List S1) (h : (kydD args).2) : Cal Try.prog 128 args (kydD args).1 := by
  unfold kydD at h ⊢
  split at h
  · next k =>
    refine DV.of (Γ := ⟨[], [], []⟩) (rs := [ResultVar.tmp 2]) [0, 2] ⟨nofun, nofun⟩ (by kernel_rfl) Try.func128 rfl rfl (by kernel_rfl) rfl ?_; (repeat (with_reducible first | apply qa | apply qb | apply qc | apply qd | apply qe))
    (refine Rg0 ?_; (repeat (with_reducible first | apply qa | apply qb | apply qc | apply qd | apply qe)))
    (refine Rg0 ?_; (repeat (with_reducible first | apply qa | apply qb | apply qc | apply qd | apply qe)))
    (refine DV.ret ?_; (repeat (first | (with_reducible refine thenD_ret' ?_) | (with_reducible refine blockD_ret' ?_))); (with_reducible refine retD_ret' ?_); try (refine Rt0 ?_; try with_reducible exact True.intro))
    try rfl
  · exact h.elim
def jmpD : List S1 → CR × Prop
  | [.c (.int .i64 k)] => (.one (.c (.bool (jmpB k))), True)
  | _ => (.one (.c (.bool false)), False)
theorem jmp_cal (args : List S1) (h : (jmpD args).2) : Cal Try.prog 168 args (jmpD args).1 := by
  unfold jmpD at h ⊢
  split at h
  · next k =>
    refine DV.of (Γ := ⟨[], [], []⟩) (rs := [ResultVar.tmp 2]) [0, 2] ⟨nofun, nofun⟩ (by kernel_rfl) Try.func168 rfl rfl (by kernel_rfl) rfl ?_; (repeat (with_reducible first | apply qa | apply qb | apply qc | apply qd | apply qe))
    (refine Rg0 ?_; (repeat (with_reducible first | apply qa | apply qb | apply qc | apply qd | apply qe)))
    (refine Rg0 ?_; (repeat (with_reducible first | apply qa | apply qb | apply qc | apply qd | apply qe)))
    (refine DV.ret ?_; (repeat (first | (with_reducible refine thenD_ret' ?_) | (with_reducible refine blockD_ret' ?_))); (with_reducible refine retD_ret' ?_); try (refine Rt0 ?_; try with_reducible exact True.intro))
    try rfl
  · exact h.elim
def ptsD : List S1 → CR × Prop
  | [.c (.int .i64 k)] => (.one (.c (.int .i64 (portsI k))), True)
  | _ => (.one (.c (.bool false)), False)
theorem pts_cal (args : List S1) (h : (ptsD args).2) : Cal Try.prog 125 args (ptsD args).1 := by
  unfold ptsD at h ⊢
  split at h
  · next k =>
    refine DV.of (Γ := ⟨[], [], []⟩) (rs := [ResultVar.tmp 2]) [0, 2, 3, 10] ⟨nofun, nofun⟩ (by kernel_rfl) Try.func125 rfl rfl (by kernel_rfl) rfl ?_; (repeat (with_reducible first | apply qa | apply qb | apply qc | apply qd | apply qe))
    obtain ⟨R, hR⟩ : ∃ R, portsI k = R := ⟨_, rfl⟩
    rw [hR]
    unfold portsI at hR
    obtain ⟨b, hb⟩ : ∃ b, (k == 5 || k == 9) = b := ⟨_, rfl⟩
    obtain ⟨c, hc⟩ : ∃ c, (decide (1 < k) && decide (k ≤ 15)) = c := ⟨_, rfl⟩
    rw [hb, hc] at hR
    (refine Rg0 ?_; (repeat (with_reducible first | apply qa | apply qb | apply qc | apply qd | apply qe)))
    (have F := @hb; refine Rg1 ?_; clear F; (repeat (with_reducible first | apply qa | apply qb | apply qc | apply qd | apply qe)))
    cases b
    rotate_left 1
    · (refine DV.condT rfl (fun _ => rfl) ?_; (repeat (with_reducible first | apply qa | apply qb | apply qc | apply qd | apply qe)))
      (refine Rg0 ?_; (repeat (with_reducible first | apply qa | apply qb | apply qc | apply qd | apply qe)))
      (refine DV.ret ?_; (repeat (first | (with_reducible refine thenD_ret' ?_) | (with_reducible refine blockD_ret' ?_))); (with_reducible refine retD_ret' ?_); try (refine Rt0 ?_; try with_reducible exact True.intro))
      exact hR
    (refine DV.condF rfl (fun _ => rfl) ?_; (repeat (with_reducible first | apply qa | apply qb | apply qc | apply qd | apply qe)))
    (have F := @hc; refine Rg1 ?_; clear F; (repeat (with_reducible first | apply qa | apply qb | apply qc | apply qd | apply qe)))
    cases c
    · (refine DV.condF rfl (fun _ => rfl) ?_; (repeat (with_reducible first | apply qa | apply qb | apply qc | apply qd | apply qe)))
      (refine DV.skip ?_; (repeat with_reducible refine qn ?_); (with_reducible refine qm ?_); (repeat (with_reducible first | apply qa | apply qb | apply qc | apply qd | apply qe)))
      (refine Rg0 ?_; (repeat (with_reducible first | apply qa | apply qb | apply qc | apply qd | apply qe)))
      (refine DV.ret ?_; (repeat (first | (with_reducible refine thenD_ret' ?_) | (with_reducible refine blockD_ret' ?_))); (with_reducible refine retD_ret' ?_); try (refine Rt0 ?_; try with_reducible exact True.intro))
      exact hR
    · (refine DV.condT rfl (fun _ => rfl) ?_; (repeat (with_reducible first | apply qa | apply qb | apply qc | apply qd | apply qe)))
      (refine Rg0 ?_; (repeat (with_reducible first | apply qa | apply qb | apply qc | apply qd | apply qe)))
      (refine DV.ret ?_; (repeat (first | (with_reducible refine thenD_ret' ?_) | (with_reducible refine blockD_ret' ?_))); (with_reducible refine retD_ret' ?_); try (refine Rt0 ?_; try with_reducible exact True.intro))
      exact hR
  · exact h.elim
def takD : List S1 → CR × Prop
  | [.agg g, .agg x] => (.one (.c (.int .i64 (takI (grC.dec g) (ndC.dec x)))), grC.enc (grC.dec g) = g ∧ ndC.enc (ndC.dec x) = x ∧ ((ndC.dec x).k = 10 → 0 ≤ (ndC.dec x).s ∧ (ndC.dec x).s < ((grC.dec g).p.length : Int)) ∧ Sm (grC.dec g))
  | _ => (.one (.c (.bool false)), False)
set_option maxHeartbeats 4000000 in
theorem tak_cal (args : List S1) (h : (takD args).2) : Cal Try.prog 127 args (takD args).1 := by
  unfold takD at h ⊢
  split at h
  · next g0 x0 =>
    refine DV.of (Γ := ⟨[], [], []⟩) (rs := [ResultVar.tmp 4]) [0, 1, 2, 3, 4, 7] ⟨nofun, nofun⟩ (by kernel_rfl) Try.func127 rfl rfl (by kernel_rfl) rfl ?_; (repeat (with_reducible first | apply qa | apply qb | apply qc | apply qd | apply qe))
    obtain ⟨hg, hx, hk, hs⟩ := h
    obtain ⟨g, rfl⟩ : ∃ v, g0 = grC.enc v := ⟨_, hg.symm⟩
    obtain ⟨x, rfl⟩ : ∃ v, x0 = ndC.enc v := ⟨_, hx.symm⟩
    rw [ndC.de, grC.de] at hk
    rw [grC.de] at hs
    rw [ndC.de, grC.de]
    clear hg hx
    obtain ⟨R, hR⟩ : ∃ R, takI g x = R := ⟨_, rfl⟩
    rw [hR]
    unfold takI at hR
    obtain ⟨b, hb⟩ : ∃ b, (x.k == 10) = b := ⟨_, rfl⟩
    rw [hb] at hR
    (have F := An2 @grE @ndE; refine Rg1 ?_; clear F; (repeat (with_reducible first | apply qa | apply qb | apply qc | apply qd | apply qe)))
    (have F := An3 @grE @ndE @hb; refine Rg1 ?_; clear F; (repeat (with_reducible first | apply qa | apply qb | apply qc | apply qd | apply qe)))
    cases b
    rotate_left 1
    · obtain ⟨c1, c2⟩ := hk (by simpa using hb)
      have c3 := encL_get (C := inC) (getI_of c1 c2)
      (refine DV.condT rfl (fun _ => rfl) ?_; (repeat (with_reducible first | apply qa | apply qb | apply qc | apply qd | apply qe)))
      (have F := An5 @encL_len @c1 @c2 @c3 @inE; refine Rg1 ?_; clear F; (repeat (with_reducible first | apply qa | apply qb | apply qc | apply qd | apply qe)))
      (refine DV.ret ?_; (repeat (first | (with_reducible refine thenD_ret' ?_) | (with_reducible refine blockD_ret' ?_))); (with_reducible refine retD_ret' ?_); try (refine Rt0 ?_; try with_reducible exact True.intro))
      exact hR
    · (refine DV.condF rfl (fun _ => rfl) ?_; (repeat (with_reducible first | apply qa | apply qb | apply qc | apply qd | apply qe)))
      (refine DV.skip ?_; (repeat with_reducible refine qn ?_); (with_reducible refine qm ?_); (repeat (with_reducible first | apply qa | apply qb | apply qc | apply qd | apply qe)))
      (refine Rg0 ?_; (repeat (with_reducible first | apply qa | apply qb | apply qc | apply qd | apply qe)))
      (refine DV.ret ?_; (repeat (first | (with_reducible refine thenD_ret' ?_) | (with_reducible refine blockD_ret' ?_))); (with_reducible refine retD_ret' ?_); try (refine Rt0 ?_; try with_reducible exact True.intro))
      exact hR
  · exact h.elim
def givD : List S1 → CR × Prop
  | [.agg g, .agg x] => (.one (.c (.int .i64 (givI (grC.dec g) (ndC.dec x)))), grC.enc (grC.dec g) = g ∧ ndC.enc (ndC.dec x) = x ∧ ((ndC.dec x).k = 11 → 0 ≤ (ndC.dec x).s ∧ (ndC.dec x).s < ((grC.dec g).p.length : Int)) ∧ Sm (grC.dec g))
  | _ => (.one (.c (.bool false)), False)
set_option maxHeartbeats 4000000 in
theorem giv_cal (args : List S1) (h : (givD args).2) : Cal Try.prog 126 args (givD args).1 := by
  unfold givD at h ⊢
  split at h
  · next g0 x0 =>
    refine DV.of (Γ := ⟨[], [], []⟩) (rs := [ResultVar.tmp 4]) [0, 1, 2, 3, 4, 7] ⟨nofun, nofun⟩ (by kernel_rfl) Try.func126 rfl rfl (by kernel_rfl) rfl ?_; (repeat (with_reducible first | apply qa | apply qb | apply qc | apply qd | apply qe))
    obtain ⟨hg, hx, hk, hs⟩ := h
    obtain ⟨g, rfl⟩ : ∃ v, g0 = grC.enc v := ⟨_, hg.symm⟩
    obtain ⟨x, rfl⟩ : ∃ v, x0 = ndC.enc v := ⟨_, hx.symm⟩
    rw [ndC.de, grC.de] at hk
    rw [grC.de] at hs
    rw [ndC.de, grC.de]
    clear hg hx
    obtain ⟨R, hR⟩ : ∃ R, givI g x = R := ⟨_, rfl⟩
    rw [hR]
    unfold givI at hR
    obtain ⟨b, hb⟩ : ∃ b, (x.k == 11) = b := ⟨_, rfl⟩
    rw [hb] at hR
    (have F := An2 @grE @ndE; refine Rg1 ?_; clear F; (repeat (with_reducible first | apply qa | apply qb | apply qc | apply qd | apply qe)))
    (have F := An3 @grE @ndE @hb; refine Rg1 ?_; clear F; (repeat (with_reducible first | apply qa | apply qb | apply qc | apply qd | apply qe)))
    cases b
    rotate_left 1
    · obtain ⟨c1, c2⟩ := hk (by simpa using hb)
      have c3 := encL_get (C := inC) (getI_of c1 c2)
      (refine DV.condT rfl (fun _ => rfl) ?_; (repeat (with_reducible first | apply qa | apply qb | apply qc | apply qd | apply qe)))
      (have F := An5 @encL_len @c1 @c2 @c3 @inE; refine Rg1 ?_; clear F; (repeat (with_reducible first | apply qa | apply qb | apply qc | apply qd | apply qe)))
      (refine DV.ret ?_; (repeat (first | (with_reducible refine thenD_ret' ?_) | (with_reducible refine blockD_ret' ?_))); (with_reducible refine retD_ret' ?_); try (refine Rt0 ?_; try with_reducible exact True.intro))
      exact hR
    · (refine DV.condF rfl (fun _ => rfl) ?_; (repeat (with_reducible first | apply qa | apply qb | apply qc | apply qd | apply qe)))
      (refine DV.skip ?_; (repeat with_reducible refine qn ?_); (with_reducible refine qm ?_); (repeat (with_reducible first | apply qa | apply qb | apply qc | apply qd | apply qe)))
      (refine Rg0 ?_; (repeat (with_reducible first | apply qa | apply qb | apply qc | apply qd | apply qe)))
      (refine DV.ret ?_; (repeat (first | (with_reducible refine thenD_ret' ?_) | (with_reducible refine blockD_ret' ?_))); (with_reducible refine retD_ret' ?_); try (refine Rt0 ?_; try with_reducible exact True.intro))
      exact hR
  · exact h.elim
def dptD : List S1 → CR × Prop
  | [.agg g, .c (.int .i64 s)] => (.one (.c (.int .i64 (dpS (grC.dec g).p s))), grC.enc (grC.dec g) = g ∧ Sm (grC.dec g))
  | _ => (.one (.c (.bool false)), False)
set_option maxHeartbeats 4000000 in
theorem dpt_cal (args : List S1) (h : (dptD args).2) : Cal Try.prog 121 args (dptD args).1 := by
  unfold dptD at h ⊢
  split at h
  · next g0 s =>
    have CT := @insD.eq_1; refine DV.of (Γ := ⟨[(120, insD)], [], []⟩) (rs := [ResultVar.tmp 4]) [0, 1, 2, 4, 5, 6, 16] ⟨by intro p hp; simp only [List.mem_singleton] at hp; subst hp; exact ins_cal, nofun⟩ (by kernel_rfl) Try.func121 rfl rfl (by kernel_rfl) rfl ?_; (repeat (with_reducible first | apply qa | apply qb | apply qc | apply qd | apply qe))
    obtain ⟨hg, hs⟩ := h
    obtain ⟨g, rfl⟩ : ∃ v, g0 = grC.enc v := ⟨_, hg.symm⟩
    rw [grC.de] at hs ⊢
    clear hg
    obtain ⟨R, hR⟩ : ∃ R, dpS g.p s = R := ⟨_, rfl⟩
    rw [hR]
    (have F := @grE; refine Rg3 ?_; clear F; (repeat (with_reducible first | apply qa | apply qb | apply qc | apply qd | apply qe)))
    (refine Rg2 ?_; (repeat (with_reducible first | apply qa | apply qb | apply qc | apply qd | apply qe)))
    (refine Rg2 ?_; (repeat (with_reducible first | apply qa | apply qb | apply qc | apply qd | apply qe)))
    refine DV.loop (fun x : Int × Nat => ⟨[(2, .v true (.box 2 0)), (5, .v true (.c (.int .i64 x.2))), (6, .v true (.c (.int .i64 x.1)))], [(2, some ⟨0, 0, [[.sl (encL inC g.p), .sl (encL inC g.b), .sl (encL ndC g.n), .sl (encL egC g.e)]]⟩)], []⟩) (fun x => x.2 ≤ 9 ∧ dpF g.p (9 - x.2) x.1 x.2 = R) (fun x => 9 - x.2) (s, 0) ⟨Nat.zero_le _, hR⟩ (by (have F := @n0; exact Wk1)) (fun x hx => ?_)
    obtain ⟨s, j⟩ := x
    obtain ⟨hj, hR⟩ := hx
    dsimp only at hj hR
    (repeat (with_reducible first | apply qa | apply qb | apply qc | apply qd | apply qe))
    obtain ⟨b, hb⟩ : ∃ b, (insB s g.p.length && decide ((j : Int) ≤ 8)) = b := ⟨_, rfl⟩
    (have F := An2 @encL_len @hb; refine Rg3 ?_; clear F; (repeat (with_reducible first | apply qa | apply qb | apply qc | apply qd | apply qe)))
    cases b
    · have hR2 : (j : Int) = R := by
        obtain ⟨k, hk⟩ : ∃ k, 9 - j = k := ⟨_, rfl⟩
        rw [hk] at hR
        cases k with
        | zero => exact hR
        | succ k => rw [dpF, hb, if_neg (by decide)] at hR; exact hR
      (refine DV.condF rfl (fun _ => rfl) ?_; (repeat (with_reducible first | apply qa | apply qb | apply qc | apply qd | apply qe)))
      (refine DV.exit ?_; (repeat (first | (with_reducible refine thenD_exit' ?_) | (with_reducible refine blockD_other (by decide) ?_))); (with_reducible refine blockD_same ?_); (repeat with_reducible refine qn ?_); (with_reducible refine qm ?_); (repeat (with_reducible first | apply qa | apply qb | apply qc | apply qd | apply qe)))
      (refine Rg2 ?_; (repeat (with_reducible first | apply qa | apply qb | apply qc | apply qd | apply qe)))
      (refine DV.ret ?_; (repeat (first | (with_reducible refine thenD_ret' ?_) | (with_reducible refine blockD_ret' ?_))); (with_reducible refine retD_ret' ?_); try (refine Rt0 ?_; try with_reducible exact True.intro))
      exact hR2
    · have h8 : (j : Int) ≤ 8 := by
        rw [Bool.and_eq_true, decide_eq_true_iff] at hb
        exact hb.2
      have hi : insB s g.p.length = true := by
        rw [Bool.and_eq_true] at hb
        exact hb.1
      obtain ⟨c1, c2⟩ := insB_iff.1 hi
      have c3 := encL_get (C := inC) (getI_of c1 c2)
      have ew := wr1 j (by omega)
      have hR2 : dpF g.p (9 - (j + 1)) (getI g.p s) ((j + 1 : Nat) : Int) = R := by
        rw [show 9 - j = (9 - (j + 1)) + 1 by omega, dpF, hb, if_pos rfl] at hR
        exact hR
      (refine DV.condT rfl (fun _ => rfl) ?_; (repeat (with_reducible first | apply qa | apply qb | apply qc | apply qd | apply qe)))
      (refine DV.skip ?_; (repeat with_reducible refine qn ?_); (with_reducible refine qm ?_); (repeat (with_reducible first | apply qa | apply qb | apply qc | apply qd | apply qe)))
      (have F := @ew; refine Re3 ?_; clear F; (repeat with_reducible refine qn ?_); (try with_reducible refine qm ?_); (repeat (with_reducible first | apply qa | apply qb | apply qc | apply qd | apply qe)))
      (have F := An5 @encL_len @c1 @c2 @c3 @inE; refine Re3 ?_; clear F; (repeat with_reducible refine qn ?_); (try with_reducible refine qm ?_); (repeat (with_reducible first | apply qa | apply qb | apply qc | apply qd | apply qe)))
      exact ⟨(getI g.p s, j + 1), ⟨⟨by dsimp only; omega, hR2⟩, by dsimp only; omega⟩, by exact Wk0⟩
  · exact h.elim
def tksD : List S1 → CR × Prop
  | [.agg g, .c (.int .i64 n)] => (.one (.c (.int .i64 (if insB n (grC.dec g).n.length = true then dpS (grC.dec g).p (takI (grC.dec g) (ndAt (grC.dec g) n)) else 0))), grC.enc (grC.dec g) = g ∧ Sm (grC.dec g) ∧ (insB n (grC.dec g).n.length = true → (ndAt (grC.dec g) n).k = 10 → 0 ≤ (ndAt (grC.dec g) n).s ∧ (ndAt (grC.dec g) n).s < ((grC.dec g).p.length : Int)))
  | _ => (.one (.c (.bool false)), False)
set_option maxHeartbeats 4000000 in
theorem tks_cal (args : List S1) (h : (tksD args).2) : Cal Try.prog 83 args (tksD args).1 := by
  unfold tksD at h ⊢
  split at h
  · next g0 n =>
    have CT := An3 @insD.eq_1 @dptD.eq_1 @takD.eq_1; refine DV.of (Γ := ⟨[(120, insD), (121, dptD), (127, takD)], [], []⟩) (rs := [ResultVar.tmp 4]) [0, 1, 2, 4, 10] ⟨by intro p hp; simp only [List.mem_cons, List.not_mem_nil, or_false] at hp; rcases hp with rfl | rfl | rfl; exact ins_cal; exact dpt_cal; exact tak_cal, nofun⟩ (by kernel_rfl) Try.func83 rfl rfl (by kernel_rfl) rfl ?_; (repeat (with_reducible first | apply qa | apply qb | apply qc | apply qd | apply qe))
    obtain ⟨hg, hs, hk⟩ := h
    obtain ⟨g, rfl⟩ : ∃ v, g0 = grC.enc v := ⟨_, hg.symm⟩
    rw [grC.de] at hs hk ⊢
    clear hg
    obtain ⟨R, hR⟩ : ∃ R, (if insB n g.n.length = true then dpS g.p (takI g (ndAt g n)) else 0) = R := ⟨_, rfl⟩
    rw [hR]
    have hgd : grC.dec [D.sl (encL inC g.p), D.sl (encL inC g.b), D.sl (encL ndC g.n), D.sl (encL egC g.e)] = g := grC.de g
    obtain ⟨b, hb⟩ : ∃ b, insB n g.n.length = b := ⟨_, rfl⟩
    rw [hb] at hR hk
    (have F := @grE; refine Rg3 ?_; clear F; (repeat (with_reducible first | apply qa | apply qb | apply qc | apply qd | apply qe)))
    (have F := An2 @encL_len @hb; refine Rg3 ?_; clear F; (repeat (with_reducible first | apply qa | apply qb | apply qc | apply qd | apply qe)))
    cases b
    · rw [if_neg (by decide)] at hR
      (refine DV.condT rfl (fun _ => rfl) ?_; (repeat (with_reducible first | apply qa | apply qb | apply qc | apply qd | apply qe)))
      (refine Rg2 ?_; (repeat (with_reducible first | apply qa | apply qb | apply qc | apply qd | apply qe)))
      (refine DV.ret ?_; (repeat (first | (with_reducible refine thenD_ret' ?_) | (with_reducible refine blockD_ret' ?_))); (with_reducible refine retD_ret' ?_); try (refine Rt0 ?_; try with_reducible exact True.intro))
      exact hR
    · rw [if_pos rfl] at hR
      have hk := hk rfl
      obtain ⟨c1, c2⟩ := insB_iff.1 hb
      have c3 := encL_get (C := ndC) (ndAt_of c1 c2)
      obtain ⟨x, hx⟩ : ∃ x, ndAt g n = x := ⟨_, rfl⟩
      rw [hx] at c3 hk hR
      have hxd : ndC.dec [D.int .i64 x.k, D.int .i64 x.s, D.int .i64 x.a, D.sl (encL isC x.pr)] = x := ndC.de x
      (refine DV.condF rfl (fun _ => rfl) ?_; (repeat (with_reducible first | apply qa | apply qb | apply qc | apply qd | apply qe)))
      (refine DV.skip ?_; (repeat with_reducible refine qn ?_); (with_reducible refine qm ?_); (repeat (with_reducible first | apply qa | apply qb | apply qc | apply qd | apply qe)))
      (apply DV.seqdrw; kernel_rfl; kernel_rfl; (simp only [wpS, wpT, go1, evS, cutE_t, cutE_f, cutE_0, ev, Qc, Qd, Qh, Qk, Qo, Qs, Qu, QB, QE, QF, nilB, gdS, put1, sv, gs, gb, opd, cst, XW, QK, okS, QL, setAt, bad, dem, QP, QR, QS, QT, QU, QV, QW, QY, QZ, Q2, Q3, Q4, Q5, Q6, Q7, Q8, Q9, Xc, lf, lfs, Xd, Xe, Xg, Xh, Xj, Xk, asP, pOk, Xp, Xt, Nat.reduceBEq, cv, cvL, wrL, Xw, Xy, XA, XB, keep, kp, cand, cor, List.map, List.append, Option.bind, ↓reduceIte, Nat.reduceEqDiff, Nat.reduceAdd, Nat.reduceMul, Nat.reduceLT, Nat.reduceLeDiff, reduceCtorEq, Int.reduceLT, Int.reduceLE, Int.reduceBEq, Int.reduceBNe, Int.reduceAdd, Int.reduceSub, Int.reduceToNat, dq, tya, insD, dptD, takD, encL_len, c1, c2, c3, ndE, grE, hgd, hxd, hs]; exact ⟨hk, rfl, rfl⟩); kernel_rfl; (repeat (with_reducible first | apply qa | apply qb | apply qc | apply qd | apply qe)))
      (refine DV.ret ?_; (repeat (first | (with_reducible refine thenD_ret' ?_) | (with_reducible refine blockD_ret' ?_))); (with_reducible refine retD_ret' ?_); try (refine Rt0 ?_; try with_reducible exact True.intro))
      exact hR
  · exact h.elim
def undD : List S1 → CR × Prop
  | [.agg g, .c (.int .i64 s), .c (.int .i64 o)] => (.one (.c (.bool (undB (grC.dec g).p s o))), grC.enc (grC.dec g) = g ∧ Sm (grC.dec g) ∧ Par (grC.dec g).p ∧ 0 ≤ o ∧ o < ((grC.dec g).p.length : Int))
  | _ => (.one (.c (.bool false)), False)
set_option maxHeartbeats 4000000 in
theorem und_cal (args : List S1) (h : (undD args).2) : Cal Try.prog 131 args (undD args).1 := by
  unfold undD at h ⊢
  split at h
  · next g0 s o =>
    refine DV.of (Γ := ⟨[], [], []⟩) (rs := [ResultVar.tmp 6]) [0, 1, 2, 3, 6, 7, 14, 22] ⟨nofun, nofun⟩ (by kernel_rfl) Try.func131 rfl rfl (by kernel_rfl) rfl ?_; (repeat (with_reducible first | apply qa | apply qb | apply qc | apply qd | apply qe))
    obtain ⟨hg, hs, hp, c1, c2⟩ := h
    obtain ⟨g, rfl⟩ : ∃ v, g0 = grC.enc v := ⟨_, hg.symm⟩
    rw [grC.de] at hs hp c2 ⊢
    clear hg
    obtain ⟨R, hR⟩ : ∃ R, undB g.p s o = R := ⟨_, rfl⟩
    rw [hR]
    unfold undB at hR
    have c3 := encL_get (C := inC) (getI_of c1 c2)
    have hpo := hp o c1 c2
    (have F := @grE; refine Rg1 ?_; clear F; (repeat (with_reducible first | apply qa | apply qb | apply qc | apply qd | apply qe)))
    (have F := An5 @encL_len @c1 @c2 @c3 @inE; refine Rg1 ?_; clear F; (repeat (with_reducible first | apply qa | apply qb | apply qc | apply qd | apply qe)))
    clear c3
    refine DV.loop (fun x : Int × Nat => ⟨[(1, .v true (.c (.int .i64 s))), (3, .v true (.box 3 0)), (7, .v true (.c (.int .i64 x.1)))], [(3, some ⟨0, 0, [[.sl (encL inC g.p), .sl (encL inC g.b), .sl (encL ndC g.n), .sl (encL egC g.e)]]⟩)], []⟩) (fun x => x.1 < x.2 ∧ x.1 < g.p.length ∧ unF g.p s x.2 x.1 = R) (fun x => x.2) (getI g.p o, g.p.length + 1) ⟨by dsimp only; omega, by dsimp only; omega, hR⟩ (by exact Wk0) (fun x hx => ?_)
    obtain ⟨p, f⟩ := x
    obtain ⟨hf, hpl, hR⟩ := hx
    dsimp only at hf hpl hR
    (repeat (with_reducible first | apply qa | apply qb | apply qc | apply qd | apply qe))
    by_cases hp0 : 0 ≤ p
    · have d1 := decide_eq_true hp0
      obtain ⟨f, rfl⟩ : ∃ f', f = f' + 1 := ⟨f - 1, by omega⟩
      rw [unF, if_pos hp0] at hR
      have c3 := encL_get (C := inC) (getI_of hp0 hpl)
      have hpp := hp p hp0 hpl
      obtain ⟨b, hb⟩ : ∃ b, (p == s) = b := ⟨_, rfl⟩
      rw [hb] at hR
      (have F := @d1; refine Rg1 ?_; clear F; (repeat (with_reducible first | apply qa | apply qb | apply qc | apply qd | apply qe)))
      (refine DV.condT rfl (fun _ => rfl) ?_; (repeat (with_reducible first | apply qa | apply qb | apply qc | apply qd | apply qe)))
      (refine DV.skip ?_; (repeat with_reducible refine qn ?_); (with_reducible refine qm ?_); (repeat (with_reducible first | apply qa | apply qb | apply qc | apply qd | apply qe)))
      (have F := @hb; refine Rg1 ?_; clear F; (repeat (with_reducible first | apply qa | apply qb | apply qc | apply qd | apply qe)))
      cases b
      · rw [if_neg (by decide)] at hR
        (refine DV.condF rfl (fun _ => rfl) ?_; (repeat (with_reducible first | apply qa | apply qb | apply qc | apply qd | apply qe)))
        (refine DV.skip ?_; (repeat with_reducible refine qn ?_); (with_reducible refine qm ?_); (repeat (with_reducible first | apply qa | apply qb | apply qc | apply qd | apply qe)))
        (have F := An5 @encL_len @hp0 @hpl @c3 @inE; refine Re1 ?_; clear F; (repeat with_reducible refine qn ?_); (try with_reducible refine qm ?_); (repeat (with_reducible first | apply qa | apply qb | apply qc | apply qd | apply qe)))
        exact ⟨(getI g.p p, f), ⟨⟨by dsimp only; omega, by dsimp only; omega, hR⟩, by dsimp only; omega⟩, by exact Wk0⟩
      · rw [if_pos rfl] at hR
        (refine DV.condT rfl (fun _ => rfl) ?_; (repeat (with_reducible first | apply qa | apply qb | apply qc | apply qd | apply qe)))
        (refine Rg0 ?_; (repeat (with_reducible first | apply qa | apply qb | apply qc | apply qd | apply qe)))
        (refine DV.ret ?_; (repeat (first | (with_reducible refine thenD_ret' ?_) | (with_reducible refine blockD_ret' ?_))); (with_reducible refine retD_ret' ?_); try (refine Rt0 ?_; try with_reducible exact True.intro))
        exact hR
    · have d1 := decide_eq_false hp0
      have hR2 : false = R := by
        cases f with
        | zero => exact hR
        | succ f => rw [unF, if_neg hp0] at hR; exact hR
      (have F := @d1; refine Rg1 ?_; clear F; (repeat (with_reducible first | apply qa | apply qb | apply qc | apply qd | apply qe)))
      (refine DV.condF rfl (fun _ => rfl) ?_; (repeat (with_reducible first | apply qa | apply qb | apply qc | apply qd | apply qe)))
      (refine DV.exit ?_; (repeat (first | (with_reducible refine thenD_exit' ?_) | (with_reducible refine blockD_other (by decide) ?_))); (with_reducible refine blockD_same ?_); (repeat with_reducible refine qn ?_); (with_reducible refine qm ?_); (repeat (with_reducible first | apply qa | apply qb | apply qc | apply qd | apply qe)))
      (refine Rg0 ?_; (repeat (with_reducible first | apply qa | apply qb | apply qc | apply qd | apply qe)))
      (refine DV.ret ?_; (repeat (first | (with_reducible refine thenD_ret' ?_) | (with_reducible refine blockD_ret' ?_))); (with_reducible refine retD_ret' ?_); try (refine Rt0 ?_; try with_reducible exact True.intro))
      exact hR2
  · exact h.elim
def knD : List S1 → CR × Prop
  | [.agg x, .ptr [.int .i64 s]] => (.one (.c (.bool ((fun x : Nd => x.s == s) (ndC.dec x)))), ndC.enc (ndC.dec x) = x)
  | _ => (.one (.c (.bool false)), False)
theorem kn_cal (args : List S1) (h : (knD args).2) : Cal Try.prog 167 args (knD args).1 := by
  unfold knD at h ⊢
  split at h
  · next x0 s =>
    refine DV.of (Γ := ⟨[], [], []⟩) (rs := [ResultVar.tmp 3]) [0, 1, 2, 3] ⟨nofun, nofun⟩ (by kernel_rfl) Try.func167 rfl rfl (by kernel_rfl) rfl ?_; (repeat (with_reducible first | apply qa | apply qb | apply qc | apply qd | apply qe))
    obtain ⟨x, rfl⟩ : ∃ v, x0 = ndC.enc v := ⟨_, h.symm⟩
    rw [ndC.de]
    clear h
    (have F := @ndE; refine Rg1 ?_; clear F; (repeat (with_reducible first | apply qa | apply qb | apply qc | apply qd | apply qe)))
    (have F := @ndE; refine Rg1 ?_; clear F; (repeat (with_reducible first | apply qa | apply qb | apply qc | apply qd | apply qe)))
    (refine DV.ret ?_; (repeat (first | (with_reducible refine thenD_ret' ?_) | (with_reducible refine blockD_ret' ?_))); (with_reducible refine retD_ret' ?_); try (refine Rt0 ?_; try with_reducible exact True.intro))
    try rfl
  · exact h.elim
def inD : List S1 → CR × Prop
  | [.c (.sl l), .fn f [.ptr [.int .i64 s]]] => (.one (.c (.int .i64 (idxN (fun x : Nd => x.s == s) (decL ndC l)))), f = 167 ∧ isL ndC l ∧ (decL ndC l).length ≤ 1073741823)
  | _ => (.one (.c (.bool false)), False)
set_option maxHeartbeats 4000000 in
theorem in_cal (args : List S1) (h : (inD args).2) : Cal Try.prog 190 args (inD args).1 := by
  unfold inD at h ⊢
  split at h
  · rename_i l0 f s
    have CT := @knD.eq_1; refine DV.of (Γ := ⟨[(167, knD)], [], []⟩) (rs := [ResultVar.tmp 4]) [0, 1, 4, 5, 7, 8, 9, 16] ⟨by intro p hp; simp only [List.mem_singleton] at hp; subst hp; exact kn_cal, nofun⟩ (by kernel_rfl) Try.func190 rfl rfl (by kernel_rfl) rfl ?_; (repeat (with_reducible first | apply qa | apply qb | apply qc | apply qd | apply qe))
    obtain ⟨rfl, hl, hn⟩ := h
    obtain ⟨L, rfl⟩ : ∃ l, l0 = encL ndC l := ⟨_, hl.symm⟩
    rw [decL_encL] at hn ⊢
    clear hl
    (refine Rg2 ?_; (repeat (with_reducible first | apply qa | apply qb | apply qc | apply qd | apply qe)))
    (have F := @encL_len; refine Rg3 ?_; clear F; (repeat (with_reducible first | apply qa | apply qb | apply qc | apply qd | apply qe)))
    refine DV.loop (fun j : Nat => ⟨[(0, .v true (.c (.sl (encL ndC L)))), (1, .v true (.fn 167 [.ptr [.int .i64 s]])), (7, .v true (.c (.int .i64 L.length))), (8, .v true (.c (.int .i64 j)))], [], []⟩) (fun j => j ≤ L.length ∧ ∀ (k : Nat) y, k < j → L[k]? = some y → (fun x : Nd => x.s == s) y = false) (fun j => L.length - j) 0 ⟨Nat.zero_le _, fun k y hk => absurd hk (Nat.not_lt_zero k)⟩ (by exact Wk0) (fun j hj => ?_)
    obtain ⟨hj, hall⟩ := hj
    (repeat (with_reducible first | apply qa | apply qb | apply qc | apply qd | apply qe))
    by_cases hlt : j < L.length
    · obtain ⟨x, hx⟩ : ∃ x, L[j]? = some x := ⟨L[j], List.getElem?_eq_getElem _⟩
      have d1 : decide ((j : Int) < (L.length : Int)) = true := decide_eq_true (by omega)
      have c1 : (0 : Int) ≤ j := by omega
      have c2 : (j : Int) < (L.length : Int) := by omega
      have c3 := encL_get (C := ndC) hx
      have ew := wr1 j (by omega)
      obtain ⟨px, hpx⟩ : ∃ px, (fun x : Nd => x.s == s) x = px := ⟨_, rfl⟩
      have hxd : ndC.dec [D.int .i64 x.k, D.int .i64 x.s, D.int .i64 x.a, D.sl (encL isC x.pr)] = x := ndC.de x
      dsimp only at hpx
      (have F := An2 @encL_len @d1; refine Rg3 ?_; clear F; (repeat (with_reducible first | apply qa | apply qb | apply qc | apply qd | apply qe)))
      (refine DV.condT rfl (fun _ => rfl) ?_; (repeat (with_reducible first | apply qa | apply qb | apply qc | apply qd | apply qe)))
      (refine DV.skip ?_; (repeat with_reducible refine qn ?_); (with_reducible refine qm ?_); (repeat (with_reducible first | apply qa | apply qb | apply qc | apply qd | apply qe)))
      (refine Rg2 ?_; (repeat (with_reducible first | apply qa | apply qb | apply qc | apply qd | apply qe)))
      (have F := An9 @i2n @encL_len @c1 @c2 @c3 @ndE @hxd @hpx @isfn167; refine Rg3 ?_; clear F; (repeat (with_reducible first | apply qa | apply qb | apply qc | apply qd | apply qe)))
      (refine DV.cond rfl (fun _ => rfl) (fun hb => ?_) (fun hb => ?_))
      · (refine Rg2 ?_; (repeat (with_reducible first | apply qa | apply qb | apply qc | apply qd | apply qe)))
        (refine DV.ret ?_; (repeat (first | (with_reducible refine thenD_ret' ?_) | (with_reducible refine blockD_ret' ?_))); (with_reducible refine retD_ret' ?_); try (refine Rt0 ?_; try with_reducible exact True.intro))
        rw [idxN_at hx (hpx.trans hb) hall]
      (refine DV.skip ?_; (repeat with_reducible refine qn ?_); (with_reducible refine qm ?_); (repeat (with_reducible first | apply qa | apply qb | apply qc | apply qd | apply qe)))
      (have F := @ew; refine Re3 ?_; clear F; (repeat with_reducible refine qn ?_); (try with_reducible refine qm ?_); (repeat (with_reducible first | apply qa | apply qb | apply qc | apply qd | apply qe)))
      refine ⟨j + 1, ⟨⟨hlt, fun k y hk hy => ?_⟩, by omega⟩, by exact Wk0⟩
      rcases Nat.lt_or_ge k j with h | h
      · exact hall k y h hy
      · obtain rfl : k = j := by omega
        rw [hx] at hy
        obtain rfl := Option.some.inj hy
        exact hpx.trans hb
    · have d1 : decide ((j : Int) < (L.length : Int)) = false := decide_eq_false (by omega)
      (have F := An2 @encL_len @d1; refine Rg3 ?_; clear F; (repeat (with_reducible first | apply qa | apply qb | apply qc | apply qd | apply qe)))
      (refine DV.condF rfl (fun _ => rfl) ?_; (repeat (with_reducible first | apply qa | apply qb | apply qc | apply qd | apply qe)))
      (refine DV.exit ?_; (repeat (first | (with_reducible refine thenD_exit' ?_) | (with_reducible refine blockD_other (by decide) ?_))); (with_reducible refine blockD_same ?_); (repeat with_reducible refine qn ?_); (with_reducible refine qm ?_); (repeat (with_reducible first | apply qa | apply qb | apply qc | apply qd | apply qe)))
      (refine Rg2 ?_; (repeat (with_reducible first | apply qa | apply qb | apply qc | apply qd | apply qe)))
      (refine DV.ret ?_; (repeat (first | (with_reducible refine thenD_ret' ?_) | (with_reducible refine blockD_ret' ?_))); (with_reducible refine retD_ret' ?_); try (refine Rt0 ?_; try with_reducible exact True.intro))
      rw [idxN_no fun k y hy => hall k y (by have := (List.getElem?_eq_some_iff.1 hy).1; omega) hy]
  · exact h.elim
def cnD : List S1 → CR × Prop
  | [.c (.sl l), .fn f [.ptr [.int .i64 s]]] => (.one (.c (.bool ((decL ndC l).any (fun x : Nd => x.s == s)))), f = 167 ∧ isL ndC l ∧ (decL ndC l).length ≤ 1073741823)
  | _ => (.one (.c (.bool false)), False)
theorem cn_cal (args : List S1) (h : (cnD args).2) : Cal Try.prog 166 args (cnD args).1 := by
  unfold cnD at h ⊢
  split at h
  · rename_i l0 f s
    have CT := @inD.eq_1; refine DV.of (Γ := ⟨[(190, inD)], [], []⟩) (rs := [ResultVar.tmp 4]) [0, 1, 4] ⟨by intro p hp; simp only [List.mem_singleton] at hp; subst hp; exact in_cal, nofun⟩ (by kernel_rfl) Try.func166 rfl rfl (by kernel_rfl) rfl ?_; (repeat (with_reducible first | apply qa | apply qb | apply qc | apply qd | apply qe))
    obtain ⟨rfl, hl, hn⟩ := h
    obtain ⟨L, rfl⟩ : ∃ l, l0 = encL ndC l := ⟨_, hl.symm⟩
    rw [decL_encL] at hn ⊢
    clear hl
    have hany := idxN_any (fun x : Nd => x.s == s) L
    (refine Rg2 ?_; (repeat (with_reducible first | apply qa | apply qb | apply qc | apply qd | apply qe)))
    (have F := An4 @decL_encL @isL_enc @hn @hany; refine Rg3 ?_; clear F; (repeat (with_reducible first | apply qa | apply qb | apply qc | apply qd | apply qe)))
    (refine DV.ret ?_; (repeat (first | (with_reducible refine thenD_ret' ?_) | (with_reducible refine blockD_ret' ?_))); (with_reducible refine retD_ret' ?_); try (refine Rt0 ?_; try with_reducible exact True.intro))
  · exact h.elim
def keD : List S1 → CR × Prop
  | [.agg x, .ptr [.int .i64 s], .ptr [.int .i64 t]] => (.one (.c (.bool ((fun x : Eg => x.t == s && x.p == t) (egC.dec x)))), egC.enc (egC.dec x) = x)
  | _ => (.one (.c (.bool false)), False)
theorem ke_cal (args : List S1) (h : (keD args).2) : Cal Try.prog 170 args (keD args).1 := by
  unfold keD at h ⊢
  split at h
  · next x0 s t =>
    refine DV.of (Γ := ⟨[], [], []⟩) (rs := [ResultVar.tmp 4]) [0, 1, 2, 3, 4] ⟨nofun, nofun⟩ (by kernel_rfl) Try.func170 rfl rfl (by kernel_rfl) rfl ?_; (repeat (with_reducible first | apply qa | apply qb | apply qc | apply qd | apply qe))
    obtain ⟨x, rfl⟩ : ∃ v, x0 = egC.enc v := ⟨_, h.symm⟩
    rw [egC.de]
    clear h
    (have F := @egE; refine Rg1 ?_; clear F; (repeat (with_reducible first | apply qa | apply qb | apply qc | apply qd | apply qe)))
    (have F := @egE; refine Rg1 ?_; clear F; (repeat (with_reducible first | apply qa | apply qb | apply qc | apply qd | apply qe)))
    (refine DV.ret ?_; (repeat (first | (with_reducible refine thenD_ret' ?_) | (with_reducible refine blockD_ret' ?_))); (with_reducible refine retD_ret' ?_); try (refine Rt0 ?_; try with_reducible exact True.intro))
    try rfl
  · exact h.elim
def ieD : List S1 → CR × Prop
  | [.c (.sl l), .fn f [.ptr [.int .i64 s], .ptr [.int .i64 t]]] => (.one (.c (.int .i64 (idxN (fun x : Eg => x.t == s && x.p == t) (decL egC l)))), f = 170 ∧ isL egC l ∧ (decL egC l).length ≤ 1073741823)
  | _ => (.one (.c (.bool false)), False)
set_option maxHeartbeats 4000000 in
theorem ie_cal (args : List S1) (h : (ieD args).2) : Cal Try.prog 191 args (ieD args).1 := by
  unfold ieD at h ⊢
  split at h
  · rename_i l0 f s t
    have CT := @keD.eq_1; refine DV.of (Γ := ⟨[(170, keD)], [], []⟩) (rs := [ResultVar.tmp 4]) [0, 1, 4, 5, 7, 8, 9, 16] ⟨by intro p hp; simp only [List.mem_singleton] at hp; subst hp; exact ke_cal, nofun⟩ (by kernel_rfl) Try.func191 rfl rfl (by kernel_rfl) rfl ?_; (repeat (with_reducible first | apply qa | apply qb | apply qc | apply qd | apply qe))
    obtain ⟨rfl, hl, hn⟩ := h
    obtain ⟨L, rfl⟩ : ∃ l, l0 = encL egC l := ⟨_, hl.symm⟩
    rw [decL_encL] at hn ⊢
    clear hl
    (refine Rg2 ?_; (repeat (with_reducible first | apply qa | apply qb | apply qc | apply qd | apply qe)))
    (have F := @encL_len; refine Rg3 ?_; clear F; (repeat (with_reducible first | apply qa | apply qb | apply qc | apply qd | apply qe)))
    refine DV.loop (fun j : Nat => ⟨[(0, .v true (.c (.sl (encL egC L)))), (1, .v true (.fn 170 [.ptr [.int .i64 s], .ptr [.int .i64 t]])), (7, .v true (.c (.int .i64 L.length))), (8, .v true (.c (.int .i64 j)))], [], []⟩) (fun j => j ≤ L.length ∧ ∀ (k : Nat) y, k < j → L[k]? = some y → (fun x : Eg => x.t == s && x.p == t) y = false) (fun j => L.length - j) 0 ⟨Nat.zero_le _, fun k y hk => absurd hk (Nat.not_lt_zero k)⟩ (by exact Wk0) (fun j hj => ?_)
    obtain ⟨hj, hall⟩ := hj
    (repeat (with_reducible first | apply qa | apply qb | apply qc | apply qd | apply qe))
    by_cases hlt : j < L.length
    · obtain ⟨x, hx⟩ : ∃ x, L[j]? = some x := ⟨L[j], List.getElem?_eq_getElem _⟩
      have d1 : decide ((j : Int) < (L.length : Int)) = true := decide_eq_true (by omega)
      have c1 : (0 : Int) ≤ j := by omega
      have c2 : (j : Int) < (L.length : Int) := by omega
      have c3 := encL_get (C := egC) hx
      have ew := wr1 j (by omega)
      obtain ⟨px, hpx⟩ : ∃ px, (fun x : Eg => x.t == s && x.p == t) x = px := ⟨_, rfl⟩
      have hxd : egC.dec [D.int .i64 x.f, D.int .i64 x.t, D.int .i64 x.p, D.bool x.x] = x := egC.de x
      dsimp only at hpx
      (have F := An2 @encL_len @d1; refine Rg3 ?_; clear F; (repeat (with_reducible first | apply qa | apply qb | apply qc | apply qd | apply qe)))
      (refine DV.condT rfl (fun _ => rfl) ?_; (repeat (with_reducible first | apply qa | apply qb | apply qc | apply qd | apply qe)))
      (refine DV.skip ?_; (repeat with_reducible refine qn ?_); (with_reducible refine qm ?_); (repeat (with_reducible first | apply qa | apply qb | apply qc | apply qd | apply qe)))
      (refine Rg2 ?_; (repeat (with_reducible first | apply qa | apply qb | apply qc | apply qd | apply qe)))
      (have F := An9 @i2n @encL_len @c1 @c2 @c3 @egE @hxd @hpx @isfn170; refine Rg3 ?_; clear F; (repeat (with_reducible first | apply qa | apply qb | apply qc | apply qd | apply qe)))
      (refine DV.cond rfl (fun _ => rfl) (fun hb => ?_) (fun hb => ?_))
      · (refine Rg2 ?_; (repeat (with_reducible first | apply qa | apply qb | apply qc | apply qd | apply qe)))
        (refine DV.ret ?_; (repeat (first | (with_reducible refine thenD_ret' ?_) | (with_reducible refine blockD_ret' ?_))); (with_reducible refine retD_ret' ?_); try (refine Rt0 ?_; try with_reducible exact True.intro))
        rw [idxN_at hx (hpx.trans hb) hall]
      (refine DV.skip ?_; (repeat with_reducible refine qn ?_); (with_reducible refine qm ?_); (repeat (with_reducible first | apply qa | apply qb | apply qc | apply qd | apply qe)))
      (have F := @ew; refine Re3 ?_; clear F; (repeat with_reducible refine qn ?_); (try with_reducible refine qm ?_); (repeat (with_reducible first | apply qa | apply qb | apply qc | apply qd | apply qe)))
      refine ⟨j + 1, ⟨⟨hlt, fun k y hk hy => ?_⟩, by omega⟩, by exact Wk0⟩
      rcases Nat.lt_or_ge k j with h | h
      · exact hall k y h hy
      · obtain rfl : k = j := by omega
        rw [hx] at hy
        obtain rfl := Option.some.inj hy
        exact hpx.trans hb
    · have d1 : decide ((j : Int) < (L.length : Int)) = false := decide_eq_false (by omega)
      (have F := An2 @encL_len @d1; refine Rg3 ?_; clear F; (repeat (with_reducible first | apply qa | apply qb | apply qc | apply qd | apply qe)))
      (refine DV.condF rfl (fun _ => rfl) ?_; (repeat (with_reducible first | apply qa | apply qb | apply qc | apply qd | apply qe)))
      (refine DV.exit ?_; (repeat (first | (with_reducible refine thenD_exit' ?_) | (with_reducible refine blockD_other (by decide) ?_))); (with_reducible refine blockD_same ?_); (repeat with_reducible refine qn ?_); (with_reducible refine qm ?_); (repeat (with_reducible first | apply qa | apply qb | apply qc | apply qd | apply qe)))
      (refine Rg2 ?_; (repeat (with_reducible first | apply qa | apply qb | apply qc | apply qd | apply qe)))
      (refine DV.ret ?_; (repeat (first | (with_reducible refine thenD_ret' ?_) | (with_reducible refine blockD_ret' ?_))); (with_reducible refine retD_ret' ?_); try (refine Rt0 ?_; try with_reducible exact True.intro))
      rw [idxN_no fun k y hy => hall k y (by have := (List.getElem?_eq_some_iff.1 hy).1; omega) hy]
  · exact h.elim
def ceD : List S1 → CR × Prop
  | [.c (.sl l), .fn f [.ptr [.int .i64 s], .ptr [.int .i64 t]]] => (.one (.c (.bool ((decL egC l).any (fun x : Eg => x.t == s && x.p == t)))), f = 170 ∧ isL egC l ∧ (decL egC l).length ≤ 1073741823)
  | _ => (.one (.c (.bool false)), False)
theorem ce_cal (args : List S1) (h : (ceD args).2) : Cal Try.prog 169 args (ceD args).1 := by
  unfold ceD at h ⊢
  split at h
  · rename_i l0 f s t
    have CT := @ieD.eq_1; refine DV.of (Γ := ⟨[(191, ieD)], [], []⟩) (rs := [ResultVar.tmp 4]) [0, 1, 4] ⟨by intro p hp; simp only [List.mem_singleton] at hp; subst hp; exact ie_cal, nofun⟩ (by kernel_rfl) Try.func169 rfl rfl (by kernel_rfl) rfl ?_; (repeat (with_reducible first | apply qa | apply qb | apply qc | apply qd | apply qe))
    obtain ⟨rfl, hl, hn⟩ := h
    obtain ⟨L, rfl⟩ : ∃ l, l0 = encL egC l := ⟨_, hl.symm⟩
    rw [decL_encL] at hn ⊢
    clear hl
    have hany := idxN_any (fun x : Eg => x.t == s && x.p == t) L
    (refine Rg2 ?_; (repeat (with_reducible first | apply qa | apply qb | apply qc | apply qd | apply qe)))
    (have F := An4 @decL_encL @isL_enc @hn @hany; refine Rg3 ?_; clear F; (repeat (with_reducible first | apply qa | apply qb | apply qc | apply qd | apply qe)))
    (refine DV.ret ?_; (repeat (first | (with_reducible refine thenD_ret' ?_) | (with_reducible refine blockD_ret' ?_))); (with_reducible refine retD_ret' ?_); try (refine Rt0 ?_; try with_reducible exact True.intro))
  · exact h.elim
def fedD : List S1 → CR × Prop
  | [.c (.sl l), .c (.int .i64 n), .c (.int .i64 p)] => (.one (.c (.bool (fedB (decL egC l) n p))), isL egC l ∧ (decL egC l).length ≤ 1073741823)
  | _ => (.one (.c (.bool false)), False)
theorem fed_cal (args : List S1) (h : (fedD args).2) : Cal Try.prog 129 args (fedD args).1 := by
  unfold fedD at h ⊢
  split at h
  · next l0 n p =>
    have CT := @ceD.eq_1; refine DV.of (Γ := ⟨[(169, ceD)], [], []⟩) (rs := [ResultVar.tmp 6]) [0, 1, 2, 4, 5, 6] ⟨by intro p hp; simp only [List.mem_singleton] at hp; subst hp; exact ce_cal, nofun⟩ (by kernel_rfl) Try.func129 rfl rfl (by kernel_rfl) rfl ?_; (repeat (with_reducible first | apply qa | apply qb | apply qc | apply qd | apply qe))
    obtain ⟨hl, hn⟩ := h
    obtain ⟨L, rfl⟩ : ∃ l, l0 = encL egC l := ⟨_, hl.symm⟩
    rw [decL_encL] at hn ⊢
    clear hl
    obtain ⟨R, hR⟩ : ∃ R, fedB L n p = R := ⟨_, rfl⟩
    rw [hR]
    have hR2 : (L.any fun x : Eg => x.t == n && x.p == p) = R := hR
    (refine Rg2 ?_; (repeat (with_reducible first | apply qa | apply qb | apply qc | apply qd | apply qe)))
    (have F := An4 @decL_encL @isL_enc @hn @hR2; refine Rg3 ?_; clear F; (repeat (with_reducible first | apply qa | apply qb | apply qc | apply qd | apply qe)))
    (refine DV.ret ?_; (repeat (first | (with_reducible refine thenD_ret' ?_) | (with_reducible refine blockD_ret' ?_))); (with_reducible refine retD_ret' ?_); try (refine Rt0 ?_; try with_reducible exact True.intro))
  · exact h.elim
end Go.Proofs.Ytkmgdejpdhlleaa.Dq
