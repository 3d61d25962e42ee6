/- What a record hangs on, by deep values: the program's small functions; the reference's Same. -/
import Derived.Test.YtkmgdejpdhlleaaLnR
namespace Go.Proofs.Ytkmgdejpdhlleaa.Dq
set_option linter.unusedSimpArgs false
set_option linter.unusedVariables false
set_option maxRecDepth 100000
open Go.RowKit
open Pa Va

/-- A feed; what a sink gives. -/
structure Fd where
  n : Int
  e : Int
  k : Int
  v : Int
structure Ou where
  n : Int
  e : Int
  k : Int
  v : Int
def fdC : Cod Fd where
  K := 4
  enc := fun m => [.int .i64 m.n, .int .i64 m.e, .int .i64 m.k, .int .i64 m.v]
  dec := fun l => match l with
    | [.int _ n, .int _ e, .int _ k, .int _ v] => ⟨n, e, k, v⟩
    | _ => ⟨0, 0, 0, 0⟩
  de := fun _ => rfl
  len := fun _ => rfl
  lf := fun _ => rfl
theorem fdE (m : Fd) : fdC.enc m = [.int .i64 m.n, .int .i64 m.e, .int .i64 m.k, .int .i64 m.v] := rfl
def ouC : Cod Ou where
  K := 4
  enc := fun m => [.int .i64 m.n, .int .i64 m.e, .int .i64 m.k, .int .i64 m.v]
  dec := fun l => match l with
    | [.int _ n, .int _ e, .int _ k, .int _ v] => ⟨n, e, k, v⟩
    | _ => ⟨0, 0, 0, 0⟩
  de := fun _ => rfl
  len := fun _ => rfl
  lf := fun _ => rfl
theorem ouE (m : Ou) : ouC.enc m = [.int .i64 m.n, .int .i64 m.e, .int .i64 m.k, .int .i64 m.v] := rfl
theorem ou_all (l : List Ou) : allK 4 (encL ouC l) := encL_all (C := ouC) l
def epoB (e : Int) : Bool := decide (0 ≤ e) && decide (e ≤ 1048576)
def kinB (g : Gr) (n k : Int) : Bool := (decide (0 ≤ n) && decide (n < (g.n.length : Int))) && (ndAt g n).k == k
/-- May a feed be asked? -/
def fdB (g : Gr) (x : Fd) : Bool := kinB g x.n 1 && epoB x.e
def askB (g : Gr) (l : List Fd) : Bool := (chkS g).1 == 0 && !(l.any fun x => !fdB g x)
set_option maxHeartbeats 4000000 in
theorem eqin32 (d : Nat) (w : World) (x0 : Int) (x1 : Int) (y0 : Int) (y1 : Int) : (Op.equalIn (d + 2) 32 (.agg #[Value.int .i64 x0, Value.int .i64 x1]) (.agg #[Value.int .i64 y0, Value.int .i64 y1])).run Try.prog w = .ok ((x0 == y0) && (x1 == y1)) w := by
  rw [run_equalIn_struct (ht := by kernel_rfl) (hp := by kernel_rfl)]
  have qa2 : ∀ w, (isAgg 2).run Try.prog w = .ok false w := fun w => by rfl
  have qs2 : ∀ w, (sizeOf 2).run Try.prog w = .ok 1 w := fun w => by rfl
  have e0 := run_equalIn_int (P := Try.prog) w d 2 .i64 .i64 x0 y0 Try.underlying2
  have e1 := run_equalIn_int (P := Try.prog) w d 2 .i64 .i64 x1 y1 Try.underlying2
  cases h0 : (x0 == y0) <;> cases h1 : (x1 == y1)
  all_goals
    rw [h0] at e0
    rw [h1] at e1
    simp [Program.fieldsOf, Try.underlying32, Op.eqFields, part, qa2, qs2, e0, e1]
set_option maxHeartbeats 4000000 in
theorem eqin161 (d : Nat) (w : World) (x0 : Int) (x1 : Int) (x2 : Int) (x3 : Int) (y0 : Int) (y1 : Int) (y2 : Int) (y3 : Int) : (Op.equalIn (d + 3) 161 (.agg #[Value.int .i64 x0, Value.int .i64 x1, Value.int .i64 x2, Value.int .i64 x3]) (.agg #[Value.int .i64 y0, Value.int .i64 y1, Value.int .i64 y2, Value.int .i64 y3])).run Try.prog w = .ok (((x0 == y0) && (x1 == y1)) && ((x2 == y2) && (x3 == y3))) w := by
  rw [run_equalIn_struct (ht := by kernel_rfl) (hp := by kernel_rfl)]
  have qa3 : ∀ w, (isAgg 3).run Try.prog w = .ok false w := fun w => by rfl
  have qs3 : ∀ w, (sizeOf 3).run Try.prog w = .ok 1 w := fun w => by rfl
  have qa32 : ∀ w, (isAgg 32).run Try.prog w = .ok true w := fun w => by rfl
  have qs32 : ∀ w, (sizeOf 32).run Try.prog w = .ok 2 w := fun w => by rfl
  have e0 := run_equalIn_int (P := Try.prog) w (d + 1) 3 .i64 .i64 x0 y0 Try.underlying3
  have e1 := run_equalIn_int (P := Try.prog) w (d + 1) 3 .i64 .i64 x1 y1 Try.underlying3
  have e2 := eqin32 d w x2 x3 y2 y3
  cases h0 : (x0 == y0) <;> cases h1 : (x1 == y1) <;> cases h2 : ((x2 == y2) && (x3 == y3))
  all_goals
    rw [h0] at e0
    rw [h1] at e1
    rw [h2] at e2
    simp [Program.fieldsOf, Try.underlying161, Op.eqFields, part, qa3, qa32, qs3, qs32, e0, e1, e2]
theorem eqok161 (x0 : Int) (x1 : Int) (x2 : Int) (x3 : Int) (y0 : Int) (y1 : Int) (y2 : Int) (y3 : Int) : EqOk Try.prog 161 [D.int .i64 x0, D.int .i64 x1, D.int .i64 x2, D.int .i64 x3] [D.int .i64 y0, D.int .i64 y1, D.int .i64 y2, D.int .i64 y3] := by
  intro A w us vs x y hu hv
  obtain rfl : us = #[Value.int .i64 x0, Value.int .i64 x1, Value.int .i64 x2, Value.int .i64 x3] := flatXU hu
  obtain rfl : vs = #[Value.int .i64 y0, Value.int .i64 y1, Value.int .i64 y2, Value.int .i64 y3] := flatXU hv
  have hg : Try.prog.eqGuardType Try.prog.depth 161 = false := by kernel_rfl
  refine ⟨run_eqGuard_agg w _ _ x y _ _ hg, run_eqGuard_agg w _ _ x y _ _ hg, ?_⟩
  have h := eqin161 9997 w x0 x1 x2 x3 y0 y1 y2 y3
  refine Eq.trans (b := _) h ?_
  congr 1
  simp only [eqF, Bool.and_assoc, Bool.and_true, beq_self_eq_true, Bool.true_and]

def lepD : List S1 → CR × Prop
  | [.c (.int .i64 e)] => (.one (.c (.bool (epoB e))), True)
  | _ => (.one (.c (.bool false)), False)
theorem lep_cal (args : List S1) (h : (lepD args).2) : Cal Try.prog 105 args (lepD args).1 := by
  unfold lepD at h ⊢
  split at h
  · next e =>
    refine DV.of (Γ := ⟨[], [], []⟩) (rs := [ResultVar.tmp 2]) [0, 2] ⟨nofun, nofun⟩ (by kernel_rfl) Try.func105 rfl rfl (by kernel_rfl) rfl ?_; (repeat (with_reducible first | apply qa | apply qb | apply qc | apply qd | apply qe))
    obtain ⟨b, hb⟩ : ∃ b, epoB e = b := ⟨_, rfl⟩
    rw [hb]
    unfold epoB at hb
    (refine Rg0 ?_; (repeat (with_reducible first | apply qa | apply qb | apply qc | apply qd | apply qe)))
    (have F := @hb; refine Rg1 ?_; clear F; (repeat (with_reducible first | apply qa | apply qb | apply qc | apply qd | apply qe)))
    (refine DV.ret ?_; (repeat (first | (with_reducible refine thenD_ret' ?_) | (with_reducible refine blockD_ret' ?_))); (with_reducible refine retD_ret' ?_); try (refine Rt0 ?_; try with_reducible exact True.intro))
  · exact h.elim
def latD : List S1 → CR × Prop
  | [.c (.int .i64 e)] => (.one (.agg (tiC.enc (atT e))), True)
  | _ => (.one (.c (.bool false)), False)
theorem lat_cal (args : List S1) (h : (latD args).2) : Cal Try.prog 106 args (latD args).1 := by
  unfold latD at h ⊢
  split at h
  · next e =>
    refine DV.of (Γ := ⟨[], [], []⟩) (rs := [ResultVar.cell 2 73]) [0, 2] ⟨nofun, nofun⟩ (by kernel_rfl) Try.func106 rfl rfl (by kernel_rfl) rfl ?_; (repeat (with_reducible first | apply qa | apply qb | apply qc | apply qd | apply qe))
    have hat : tiC.enc (atT e) = [.int .i64 1, .int .i64 e, .int .i64 0, .int .i64 0, .int .i64 0] := rfl
    (refine Rg0 ?_; (repeat (with_reducible first | apply qa | apply qb | apply qc | apply qd | apply qe)))
    (refine Rg0 ?_; (repeat (with_reducible first | apply qa | apply qb | apply qc | apply qd | apply qe)))
    (refine DV.ret ?_; (repeat (first | (with_reducible refine thenD_ret' ?_) | (with_reducible refine blockD_ret' ?_))); (with_reducible refine retD_ret' ?_); try (have F := @hat; refine Rt1 ?_; clear F; try with_reducible exact True.intro))
  · exact h.elim
def lkdD : List S1 → CR × Prop
  | [.agg g, .c (.int .i64 n), .c (.int .i64 k)] => (.one (.c (.bool (kinB (grC.dec g) n k))), grC.enc (grC.dec g) = g)
  | _ => (.one (.c (.bool false)), False)
set_option maxHeartbeats 4000000 in
theorem lkd_cal (args : List S1) (h : (lkdD args).2) : Cal Try.prog 104 args (lkdD args).1 := by
  unfold lkdD at h ⊢
  split at h
  · next g0 n k =>
    refine DV.of (Γ := ⟨[], [], []⟩) (rs := [ResultVar.tmp 6]) [0, 1, 2, 3, 6] ⟨nofun, nofun⟩ (by kernel_rfl) Try.func104 rfl rfl (by kernel_rfl) rfl ?_; (repeat (with_reducible first | apply qa | apply qb | apply qc | apply qd | apply qe))
    have hg := h
    obtain ⟨g, rfl⟩ : ∃ v, g0 = grC.enc v := ⟨_, hg.symm⟩
    rw [grC.de]
    clear hg
    have hgd : grC.dec [D.sl (encL inC g.p), D.sl (encL inC g.b), D.sl (encL ndC g.n), D.sl (encL egC g.e)] = g := grC.de g
    clear h
    obtain ⟨R, hR⟩ : ∃ b, kinB g n k = b := ⟨_, rfl⟩
    rw [hR]
    unfold kinB at hR
    obtain ⟨v, hv⟩ : ∃ u, g.n[n.toNat]? = u := ⟨_, rfl⟩
    have ce : (encL ndC g.n)[n.toNat]? = v.map ndC.enc := by rw [← hv]; unfold encL; rw [List.getElem?_map]
    (have F := @grE; refine Rg1 ?_; clear F; (repeat (with_reducible first | apply qa | apply qb | apply qc | apply qd | apply qe)))
    by_cases hk : 0 ≤ n ∧ n < (g.n.length : Int)
    · obtain ⟨n0, n1⟩ := hk
      have n2 : n.toNat < g.n.length := by omega
      have c3 := encL_get (C := ndC) (ndAt_of n0 n1)
      have hq : (decide (0 ≤ n) && decide (n < (g.n.length : Int))) = true := by rw [decide_eq_true n0, decide_eq_true n1]; rfl
      rw [hq, Bool.true_and] at hR
      obtain ⟨x, hx⟩ : ∃ x, ndAt g n = x := ⟨_, rfl⟩
      rw [hx] at c3 hR
      (have F := An8 @encL_len @hq @n0 @n1 @n2 @c3 @ndE @hR; refine Rg1 ?_; clear F; (repeat (with_reducible first | apply qa | apply qb | apply qc | apply qd | apply qe)))
      (refine DV.ret ?_; (repeat (first | (with_reducible refine thenD_ret' ?_) | (with_reducible refine blockD_ret' ?_))); (with_reducible refine retD_ret' ?_); try (refine Rt0 ?_; try with_reducible exact True.intro))
    · have hq : (decide (0 ≤ n) && decide (n < (g.n.length : Int))) = false := by
        rw [Bool.and_eq_false_iff, decide_eq_false_iff_not, decide_eq_false_iff_not]
        omega
      rw [hq, Bool.false_and] at hR
      subst hR
      clear hv
      cases v
      all_goals
        (apply DV.seqreg; kernel_rfl; (simp only [wpS, wpT, go1, evS, cutE_t, cutE_f, cutE_0, ev, Qc, Qd, Qe, Qg, Qk, Qo, Qs, Qu, QB, nilB, gdS, put1, sv, gs, gb, opd, cst, XW, QK, okS, QL, setAt, bad, dem, QP, QR, QS, QT, QU, QV, QW, QY, QZ, Q2, Q3, Q4, Q5, Q6, lf, lfs, asP, pOk, Xp, Nat.reduceBEq, XA, XB, keep, kp, cand, cor, List.map, List.append, Option.bind, ↓reduceIte, Nat.reduceEqDiff, Nat.reduceAdd, Nat.reduceMul, Nat.reduceLT, Nat.reduceLeDiff, reduceCtorEq, Int.reduceLT, Int.reduceLE, Int.reduceBEq, Int.reduceBNe, Int.reduceAdd, Int.reduceSub, Int.reduceToNat, dq, tya, encL_len, hq, ce, Option.map_none, Option.map_some, Option.getD_none, Option.getD_some, undef, ndE]; exact rfl); (repeat (with_reducible first | apply qa | apply qb | apply qc | apply qd | apply qe)))
        (refine DV.ret ?_; (repeat (first | (with_reducible refine thenD_ret' ?_) | (with_reducible refine blockD_ret' ?_))); (with_reducible refine retD_ret' ?_); try (refine Rt0 ?_; try with_reducible exact True.intro))
  · exact h.elim
def laqD : List S1 → CR × Prop
  | [.agg x, .ptr g] => (.one (.c (.bool (!fdB (grC.dec g) (fdC.dec x)))), fdC.enc (fdC.dec x) = x ∧ grC.enc (grC.dec g) = g)
  | _ => (.one (.c (.bool false)), False)
set_option maxHeartbeats 4000000 in
theorem laq_cal (args : List S1) (h : (laqD args).2) : Cal Try.prog 153 args (laqD args).1 := by
  unfold laqD at h ⊢
  split at h
  · next x0 g0 =>
    have CT := An2 @lkdD.eq_1 @lepD.eq_1; refine DV.of (Γ := ⟨[(104, lkdD), (105, lepD)], [], []⟩) (rs := [ResultVar.tmp 3]) [0, 1, 2, 3] ⟨by intro p hp; simp only [List.mem_cons, List.not_mem_nil, or_false] at hp; rcases hp with rfl | rfl; exact lkd_cal; exact lep_cal, nofun⟩ (by kernel_rfl) Try.func153 rfl rfl (by kernel_rfl) rfl ?_; (repeat (with_reducible first | apply qa | apply qb | apply qc | apply qd | apply qe))
    obtain ⟨hx, hg⟩ := h
    obtain ⟨x, rfl⟩ : ∃ v, x0 = fdC.enc v := ⟨_, hx.symm⟩
    obtain ⟨g, rfl⟩ : ∃ v, g0 = grC.enc v := ⟨_, hg.symm⟩
    rw [grC.de]
    clear hg
    have hgd : grC.dec [D.sl (encL inC g.p), D.sl (encL inC g.b), D.sl (encL ndC g.n), D.sl (encL egC g.e)] = g := grC.de g
    rw [fdC.de]
    clear hx
    unfold fdB
    obtain ⟨b1, h1⟩ : ∃ b, kinB g x.n 1 = b := ⟨_, rfl⟩
    obtain ⟨b2, h2⟩ : ∃ b, epoB x.e = b := ⟨_, rfl⟩
    obtain ⟨b, hb⟩ : ∃ b, (!b1 || !b2) = b := ⟨_, rfl⟩
    rw [h1, h2, Bool.not_and, hb]
    (have F := @fdE; refine Rg3 ?_; clear F; (repeat (with_reducible first | apply qa | apply qb | apply qc | apply qd | apply qe)))
    (have F := An6 @fdE @grE @hgd @h1 @h2 @hb; refine Rg3 ?_; clear F; (repeat (with_reducible first | apply qa | apply qb | apply qc | apply qd | apply qe)))
    (refine DV.ret ?_; (repeat (first | (with_reducible refine thenD_ret' ?_) | (with_reducible refine blockD_ret' ?_))); (with_reducible refine retD_ret' ?_); try (refine Rt0 ?_; try with_reducible exact True.intro))
  · exact h.elim
def liqD : List S1 → CR × Prop
  | [.c (.sl l), .fn f [.ptr t]] => (.one (.c (.int .i64 (idxN (fun x : Fd => !fdB (grC.dec t) x) (decL fdC l)))), f = 153 ∧ isL fdC l ∧ (decL fdC l).length ≤ 1073741823 ∧ grC.enc (grC.dec t) = t)
  | _ => (.one (.c (.bool false)), False)
set_option maxHeartbeats 4000000 in
theorem liq_cal (args : List S1) (h : (liqD args).2) : Cal Try.prog 179 args (liqD args).1 := by
  unfold liqD at h ⊢
  split at h
  · rename_i l0 f t0
    have CT := @laqD.eq_1; refine DV.of (Γ := ⟨[(153, laqD)], [], []⟩) (rs := [ResultVar.tmp 4]) [0, 1, 4, 5, 7, 8, 9, 16] ⟨by intro p hp; simp only [List.mem_singleton] at hp; subst hp; exact laq_cal, nofun⟩ (by kernel_rfl) Try.func179 rfl rfl (by kernel_rfl) rfl ?_; (repeat (with_reducible first | apply qa | apply qb | apply qc | apply qd | apply qe))
    obtain ⟨rfl, hl, hn, hg⟩ := h
    obtain ⟨L, rfl⟩ : ∃ l, l0 = encL fdC l := ⟨_, hl.symm⟩
    obtain ⟨g, rfl⟩ : ∃ v, t0 = grC.enc v := ⟨_, hg.symm⟩
    rw [decL_encL] at hn ⊢
    rw [grC.de]
    clear hl hg
    have hgd : grC.dec [D.sl (encL inC g.p), D.sl (encL inC g.b), D.sl (encL ndC g.n), D.sl (encL egC g.e)] = g := grC.de g
    
    (refine Rg2 ?_; (repeat (with_reducible first | apply qa | apply qb | apply qc | apply qd | apply qe)))
    (have F := @encL_len; refine Rg3 ?_; clear F; (repeat (with_reducible first | apply qa | apply qb | apply qc | apply qd | apply qe)))
    refine DV.loop (fun j : Nat => ⟨[(0, .v true (.c (.sl (encL fdC L)))), (1, .v true (.fn 153 [.ptr [.sl (encL inC g.p), .sl (encL inC g.b), .sl (encL ndC g.n), .sl (encL egC g.e)]])), (7, .v true (.c (.int .i64 L.length))), (8, .v true (.c (.int .i64 j)))], [], []⟩) (fun j => j ≤ L.length ∧ ∀ (k : Nat) y, k < j → L[k]? = some y → (fun x : Fd => !fdB g x) y = false) (fun j => L.length - j) 0 ⟨Nat.zero_le _, fun k y hk => absurd hk (Nat.not_lt_zero k)⟩ (by (have F := An2 @n0 @grE; exact Wk1)) (fun j hj => ?_)
    obtain ⟨hj, hall⟩ := hj
    (repeat (with_reducible first | apply qa | apply qb | apply qc | apply qd | apply qe))
    by_cases hlt : j < L.length
    · obtain ⟨x, hx⟩ : ∃ x, L[j]? = some x := ⟨L[j], List.getElem?_eq_getElem _⟩
      have d1 : decide ((j : Int) < (L.length : Int)) = true := decide_eq_true (by omega)
      have c1 : (0 : Int) ≤ j := by omega
      have c2 : (j : Int) < (L.length : Int) := by omega
      have c3 := encL_get (C := fdC) hx
      have ew := wr1 j (by omega)
      obtain ⟨px, hpx⟩ : ∃ px, (fun x : Fd => !fdB g x) x = px := ⟨_, rfl⟩
      have hxd : fdC.dec [D.int .i64 x.n, D.int .i64 x.e, D.int .i64 x.k, D.int .i64 x.v] = x := fdC.de x
      dsimp only at hpx
      (have F := An2 @encL_len @d1; refine Rg3 ?_; clear F; (repeat (with_reducible first | apply qa | apply qb | apply qc | apply qd | apply qe)))
      (refine DV.condT rfl (fun _ => rfl) ?_; (repeat (with_reducible first | apply qa | apply qb | apply qc | apply qd | apply qe)))
      (refine DV.skip ?_; (repeat with_reducible refine qn ?_); (with_reducible refine qm ?_); (repeat (with_reducible first | apply qa | apply qb | apply qc | apply qd | apply qe)))
      (refine Rg2 ?_; (repeat (with_reducible first | apply qa | apply qb | apply qc | apply qd | apply qe)))
      (have F := An12 @i2n @encL_len @c1 @c2 @hlt @c3 @fdE @hxd @grE @hgd @hpx @isfn153; refine Rg3 ?_; clear F; (repeat (with_reducible first | apply qa | apply qb | apply qc | apply qd | apply qe)))
      (refine DV.cond rfl (fun _ => rfl) (fun hb => ?_) (fun hb => ?_))
      · (refine Rg2 ?_; (repeat (with_reducible first | apply qa | apply qb | apply qc | apply qd | apply qe)))
        (refine DV.ret ?_; (repeat (first | (with_reducible refine thenD_ret' ?_) | (with_reducible refine blockD_ret' ?_))); (with_reducible refine retD_ret' ?_); try (refine Rt0 ?_; try with_reducible exact True.intro))
        rw [idxN_at hx (hpx.trans hb) hall]
      (refine DV.skip ?_; (repeat with_reducible refine qn ?_); (with_reducible refine qm ?_); (repeat (with_reducible first | apply qa | apply qb | apply qc | apply qd | apply qe)))
      (have F := @ew; refine Re3 ?_; clear F; (repeat with_reducible refine qn ?_); (try with_reducible refine qm ?_); (repeat (with_reducible first | apply qa | apply qb | apply qc | apply qd | apply qe)))
      refine ⟨j + 1, ⟨⟨hlt, fun k y hk hy => ?_⟩, by omega⟩, by exact Wk0⟩
      rcases Nat.lt_or_ge k j with h | h
      · exact hall k y h hy
      · obtain rfl : k = j := by omega
        rw [hx] at hy
        obtain rfl := Option.some.inj hy
        exact hpx.trans hb
    · have d1 : decide ((j : Int) < (L.length : Int)) = false := decide_eq_false (by omega)
      (have F := An2 @encL_len @d1; refine Rg3 ?_; clear F; (repeat (with_reducible first | apply qa | apply qb | apply qc | apply qd | apply qe)))
      (refine DV.condF rfl (fun _ => rfl) ?_; (repeat (with_reducible first | apply qa | apply qb | apply qc | apply qd | apply qe)))
      (refine DV.exit ?_; (repeat (first | (with_reducible refine thenD_exit' ?_) | (with_reducible refine blockD_other (by decide) ?_))); (with_reducible refine blockD_same ?_); (repeat with_reducible refine qn ?_); (with_reducible refine qm ?_); (repeat (with_reducible first | apply qa | apply qb | apply qc | apply qd | apply qe)))
      (refine Rg2 ?_; (repeat (with_reducible first | apply qa | apply qb | apply qc | apply qd | apply qe)))
      (refine DV.ret ?_; (repeat (first | (with_reducible refine thenD_ret' ?_) | (with_reducible refine blockD_ret' ?_))); (with_reducible refine retD_ret' ?_); try (refine Rt0 ?_; try with_reducible exact True.intro))
      rw [idxN_no fun k y hy => hall k y (by have := (List.getElem?_eq_some_iff.1 hy).1; omega) hy]
  · exact h.elim
def lcqD : List S1 → CR × Prop
  | [.c (.sl l), .fn f [.ptr t]] => (.one (.c (.bool ((decL fdC l).any (fun x : Fd => !fdB (grC.dec t) x)))), f = 153 ∧ isL fdC l ∧ (decL fdC l).length ≤ 1073741823 ∧ grC.enc (grC.dec t) = t)
  | _ => (.one (.c (.bool false)), False)
set_option maxHeartbeats 4000000 in
theorem lcq_cal (args : List S1) (h : (lcqD args).2) : Cal Try.prog 152 args (lcqD args).1 := by
  unfold lcqD at h ⊢
  split at h
  · rename_i l0 f t0
    have CT := @liqD.eq_1; refine DV.of (Γ := ⟨[(179, liqD)], [], []⟩) (rs := [ResultVar.tmp 4]) [0, 1, 4] ⟨by intro p hp; simp only [List.mem_singleton] at hp; subst hp; exact liq_cal, nofun⟩ (by kernel_rfl) Try.func152 rfl rfl (by kernel_rfl) rfl ?_; (repeat (with_reducible first | apply qa | apply qb | apply qc | apply qd | apply qe))
    obtain ⟨rfl, hl, hn, hg⟩ := h
    obtain ⟨L, rfl⟩ : ∃ l, l0 = encL fdC l := ⟨_, hl.symm⟩
    obtain ⟨g, rfl⟩ : ∃ v, t0 = grC.enc v := ⟨_, hg.symm⟩
    rw [decL_encL] at hn ⊢
    rw [grC.de]
    clear hl hg
    have hgd : grC.dec [D.sl (encL inC g.p), D.sl (encL inC g.b), D.sl (encL ndC g.n), D.sl (encL egC g.e)] = g := grC.de g
    
    have hany := idxN_any (fun x : Fd => !fdB g x) L
    (refine Rg2 ?_; (repeat (with_reducible first | apply qa | apply qb | apply qc | apply qd | apply qe)))
    (have F := An6 @decL_encL @isL_enc @hn @grE @hgd @hany; refine Rg3 ?_; clear F; (repeat (with_reducible first | apply qa | apply qb | apply qc | apply qd | apply qe)))
    (refine DV.ret ?_; (repeat (first | (with_reducible refine thenD_ret' ?_) | (with_reducible refine blockD_ret' ?_))); (with_reducible refine retD_ret' ?_); try (refine Rt0 ?_; try with_reducible exact True.intro))
  · exact h.elim
def lakD : List S1 → CR × Prop
  | [.agg g, .c (.sl l)] => (.one (.c (.bool (askB (grC.dec g) (decL fdC l)))), grC.enc (grC.dec g) = g ∧ isL fdC l ∧ (decL fdC l).length ≤ 1073741823 ∧ Sm (grC.dec g))
  | _ => (.one (.c (.bool false)), False)
set_option maxHeartbeats 8000000 in
theorem lak_cal (args : List S1) (h : (lakD args).2) : Cal Try.prog 103 args (lakD args).1 := by
  unfold lakD at h ⊢
  split at h
  · next g0 l0 =>
    have CT := An2 @chkD.eq_1 @lcqD.eq_1; refine DV.of (Γ := ⟨[(24, chkD), (152, lcqD)], [], []⟩) (rs := [ResultVar.tmp 4]) [0, 1, 2, 4, 5, 13] ⟨by intro p hp; simp only [List.mem_cons, List.not_mem_nil, or_false] at hp; rcases hp with rfl | rfl; exact chk_cal; exact lcq_cal, nofun⟩ (by kernel_rfl) Try.func103 rfl rfl (by kernel_rfl) rfl ?_; (repeat (with_reducible first | apply qa | apply qb | apply qc | apply qd | apply qe))
    obtain ⟨hg, hl, hn, hs⟩ := h
    obtain ⟨g, rfl⟩ : ∃ v, g0 = grC.enc v := ⟨_, hg.symm⟩
    rw [grC.de] at hs ⊢
    clear hg
    have hgd : grC.dec [D.sl (encL inC g.p), D.sl (encL inC g.b), D.sl (encL ndC g.n), D.sl (encL egC g.e)] = g := grC.de g
    obtain ⟨l, rfl⟩ : ∃ v, l0 = encL fdC v := ⟨_, hl.symm⟩
    rw [decL_encL] at hn ⊢
    clear hl
    obtain ⟨R, hR⟩ : ∃ b, askB g l = b := ⟨_, rfl⟩
    rw [hR]
    unfold askB at hR
    obtain ⟨ce, hce⟩ : ∃ c, (chkS g).1 = c := ⟨_, rfl⟩
    obtain ⟨cn, hcn⟩ : ∃ c, (chkS g).2 = c := ⟨_, rfl⟩
    obtain ⟨bc, hbc⟩ : ∃ b, (ce != 0) = b := ⟨_, rfl⟩
    obtain ⟨ba, hba⟩ : ∃ b, (l.any fun x => !fdB g x) = b := ⟨_, rfl⟩
    rw [hce, hba] at hR
    (have F := @grE; refine Rg3 ?_; clear F; (repeat (with_reducible first | apply qa | apply qb | apply qc | apply qd | apply qe)))
    (have F := An5 @grE @hgd @hs @hce @hcn; refine Rg3 ?_; clear F; (repeat (with_reducible first | apply qa | apply qb | apply qc | apply qd | apply qe)))
    (have F := @hbc; refine Rg3 ?_; clear F; (repeat (with_reducible first | apply qa | apply qb | apply qc | apply qd | apply qe)))
    cases bc
    rotate_left 1
    · have : (ce == 0) = false := by rw [beq_eq_false_iff_ne]; rwa [bne_iff_ne] at hbc
      rw [this, Bool.false_and] at hR
      (refine DV.condT rfl (fun _ => rfl) ?_; (repeat (with_reducible first | apply qa | apply qb | apply qc | apply qd | apply qe)))
      (refine Rg2 ?_; (repeat (with_reducible first | apply qa | apply qb | apply qc | apply qd | apply qe)))
      (refine DV.ret ?_; (repeat (first | (with_reducible refine thenD_ret' ?_) | (with_reducible refine blockD_ret' ?_))); (with_reducible refine retD_ret' ?_); try (refine Rt0 ?_; try with_reducible exact True.intro))
      exact hR
    have : (ce == 0) = true := by simpa using hbc
    rw [this, Bool.true_and] at hR
    (refine DV.condF rfl (fun _ => rfl) ?_; (repeat (with_reducible first | apply qa | apply qb | apply qc | apply qd | apply qe)))
    (refine DV.skip ?_; (repeat with_reducible refine qn ?_); (with_reducible refine qm ?_); (repeat (with_reducible first | apply qa | apply qb | apply qc | apply qd | apply qe)))
    (have F := An8 @grE @hgd @decL_encL @isL_enc @hn @hba @hR @isfn153; refine Rg3 ?_; clear F; (repeat (with_reducible first | apply qa | apply qb | apply qc | apply qd | apply qe)))
    (refine DV.ret ?_; (repeat (first | (with_reducible refine thenD_ret' ?_) | (with_reducible refine blockD_ret' ?_))); (with_reducible refine retD_ret' ?_); try (refine Rt0 ?_; try with_reducible exact True.intro))
  · exact h.elim
def s37D : List S1 → CR × Prop
  | [.c (.sl l), .c (.sl m)] => (.one (.c (.bool true)), isL inC l ∧ l = m ∧ (decL inC l).length ≤ 1073741823)
  | _ => (.one (.c (.bool false)), False)
set_option maxHeartbeats 8000000 in
theorem s37_cal (args : List S1) (h : (s37D args).2) : Cal Try.prog 49 args (s37D args).1 := by
  unfold s37D at h ⊢
  split at h
  · next a0 b0 =>
    refine DV.of (Γ := ⟨[], [], []⟩) (rs := [ResultVar.tmp 4]) [0, 1, 4, 5, 10, 14, 25] ⟨nofun, nofun⟩ (by kernel_rfl) Try.func49 rfl rfl (by kernel_rfl) rfl ?_; (repeat (with_reducible first | apply qa | apply qb | apply qc | apply qd | apply qe))
    obtain ⟨hl, he, hn⟩ := h
    subst he
    obtain ⟨l, rfl⟩ : ∃ z, a0 = encL inC z := ⟨_, hl.symm⟩
    rw [decL_encL] at hn
    clear hl
    have e0 : ((l.length : Int) != (l.length : Int)) = false := by simp
    (refine Rg0 ?_; (repeat (with_reducible first | apply qa | apply qb | apply qc | apply qd | apply qe)))
    (have F := An2 @encL_len @e0; refine Rg1 ?_; clear F; (repeat (with_reducible first | apply qa | apply qb | apply qc | apply qd | apply qe)))
    (refine DV.condF rfl (fun _ => rfl) ?_; (repeat (with_reducible first | apply qa | apply qb | apply qc | apply qd | apply qe)))
    (refine DV.skip ?_; (repeat with_reducible refine qn ?_); (with_reducible refine qm ?_); (repeat (with_reducible first | apply qa | apply qb | apply qc | apply qd | apply qe)))
    (refine Rg0 ?_; (repeat (with_reducible first | apply qa | apply qb | apply qc | apply qd | apply qe)))
    refine DV.loop (fun j : Nat => ⟨[(0, .v true (.c (.sl (encL inC l)))), (1, .v true (.c (.sl (encL inC l)))), (5, .v true (.c (.int .i64 j)))], [], []⟩) (fun j => j ≤ l.length) (fun j => l.length - j) 0 (Nat.zero_le _) (by (have F := @n0; exact Wk1)) (fun j hj => ?_)
    (repeat (with_reducible first | apply qa | apply qb | apply qc | apply qd | apply qe))
    by_cases hlt : j < l.length
    · obtain ⟨x, hx⟩ : ∃ x, l[j]? = some x := ⟨_, List.getElem?_eq_getElem hlt⟩
      have d1 : decide ((j : Int) < (l.length : Int)) = true := decide_eq_true (by omega)
      have c1 : (0 : Int) ≤ j := by omega
      have c2 : (j : Int) < (l.length : Int) := by omega
      have c3 := encL_get (C := inC) hx
      have ew := wr1 j (by omega)
      have hqq : (x != x) = false := by simp
      (have F := An2 @encL_len @d1; refine Rg1 ?_; clear F; (repeat (with_reducible first | apply qa | apply qb | apply qc | apply qd | apply qe)))
      (refine DV.condT rfl (fun _ => rfl) ?_; (repeat (with_reducible first | apply qa | apply qb | apply qc | apply qd | apply qe)))
      (refine DV.skip ?_; (repeat with_reducible refine qn ?_); (with_reducible refine qm ?_); (repeat (with_reducible first | apply qa | apply qb | apply qc | apply qd | apply qe)))
      (have F := An8 @i2n @encL_len @c1 @c2 @hlt @c3 @inE @hqq; refine Rd1 ?_; clear F; (repeat (with_reducible first | apply qa | apply qb | apply qc | apply qd | apply qe)))
      (refine DV.condF rfl (fun _ => rfl) ?_; (repeat (with_reducible first | apply qa | apply qb | apply qc | apply qd | apply qe)))
      (refine DV.skip ?_; (repeat with_reducible refine qn ?_); (with_reducible refine qm ?_); (repeat (with_reducible first | apply qa | apply qb | apply qc | apply qd | apply qe)))
      (have F := @ew; refine Re1 ?_; clear F; (repeat with_reducible refine qn ?_); (try with_reducible refine qm ?_); (repeat (with_reducible first | apply qa | apply qb | apply qc | apply qd | apply qe)))
      exact ⟨j + 1, ⟨hlt, by omega⟩, by exact Wk0⟩
    obtain rfl : j = l.length := by omega
    have d1 : decide ((l.length : Int) < (l.length : Int)) = false := decide_eq_false (by omega)
    (have F := An2 @encL_len @d1; refine Rg1 ?_; clear F; (repeat (with_reducible first | apply qa | apply qb | apply qc | apply qd | apply qe)))
    (refine DV.condF rfl (fun _ => rfl) ?_; (repeat (with_reducible first | apply qa | apply qb | apply qc | apply qd | apply qe)))
    (refine DV.exit ?_; (repeat (first | (with_reducible refine thenD_exit' ?_) | (with_reducible refine blockD_other (by decide) ?_))); (with_reducible refine blockD_same ?_); (repeat with_reducible refine qn ?_); (with_reducible refine qm ?_); (repeat (with_reducible first | apply qa | apply qb | apply qc | apply qd | apply qe)))
    (refine Rg0 ?_; (repeat (with_reducible first | apply qa | apply qb | apply qc | apply qd | apply qe)))
    (refine DV.ret ?_; (repeat (first | (with_reducible refine thenD_ret' ?_) | (with_reducible refine blockD_ret' ?_))); (with_reducible refine retD_ret' ?_); try (refine Rt0 ?_; try with_reducible exact True.intro))
  · exact h.elim
def s12D : List S1 → CR × Prop
  | [.c (.sl l), .c (.sl m)] => (.one (.c (.bool true)), isL ouC l ∧ l = m ∧ (decL ouC l).length ≤ 1073741823)
  | _ => (.one (.c (.bool false)), False)
set_option maxHeartbeats 8000000 in
theorem s12_cal (args : List S1) (h : (s12D args).2) : Cal Try.prog 52 args (s12D args).1 := by
  unfold s12D at h ⊢
  split at h
  · next a0 b0 =>
    refine DV.of (Γ := ⟨[], [], []⟩) (rs := [ResultVar.tmp 4]) [0, 1, 4, 5, 10, 14, 25] ⟨nofun, nofun⟩ (by kernel_rfl) Try.func52 rfl rfl (by kernel_rfl) rfl ?_; (repeat (with_reducible first | apply qa | apply qb | apply qc | apply qd | apply qe))
    obtain ⟨hl, he, hn⟩ := h
    subst he
    obtain ⟨l, rfl⟩ : ∃ z, a0 = encL ouC z := ⟨_, hl.symm⟩
    rw [decL_encL] at hn
    clear hl
    have e0 : ((l.length : Int) != (l.length : Int)) = false := by simp
    (refine Rg0 ?_; (repeat (with_reducible first | apply qa | apply qb | apply qc | apply qd | apply qe)))
    (have F := An2 @encL_len @e0; refine Rg1 ?_; clear F; (repeat (with_reducible first | apply qa | apply qb | apply qc | apply qd | apply qe)))
    (refine DV.condF rfl (fun _ => rfl) ?_; (repeat (with_reducible first | apply qa | apply qb | apply qc | apply qd | apply qe)))
    (refine DV.skip ?_; (repeat with_reducible refine qn ?_); (with_reducible refine qm ?_); (repeat (with_reducible first | apply qa | apply qb | apply qc | apply qd | apply qe)))
    (refine Rg0 ?_; (repeat (with_reducible first | apply qa | apply qb | apply qc | apply qd | apply qe)))
    refine DV.loop (fun j : Nat => ⟨[(0, .v true (.c (.sl (encL ouC l)))), (1, .v true (.c (.sl (encL ouC l)))), (5, .v true (.c (.int .i64 j)))], [], []⟩) (fun j => j ≤ l.length) (fun j => l.length - j) 0 (Nat.zero_le _) (by (have F := @n0; exact Wk1)) (fun j hj => ?_)
    (repeat (with_reducible first | apply qa | apply qb | apply qc | apply qd | apply qe))
    by_cases hlt : j < l.length
    · obtain ⟨x, hx⟩ : ∃ x, l[j]? = some x := ⟨_, List.getElem?_eq_getElem hlt⟩
      have d1 : decide ((j : Int) < (l.length : Int)) = true := decide_eq_true (by omega)
      have c1 : (0 : Int) ≤ j := by omega
      have c2 : (j : Int) < (l.length : Int) := by omega
      have c3 := encL_get (C := ouC) hx
      have ew := wr1 j (by omega)
      have hq : EqOk Try.prog 161 [D.int .i64 x.n, D.int .i64 x.e, D.int .i64 x.k, D.int .i64 x.v] [D.int .i64 x.n, D.int .i64 x.e, D.int .i64 x.k, D.int .i64 x.v] := eqok161 x.n x.e x.k x.v x.n x.e x.k x.v
      have hqq : (!eqF [D.int .i64 x.n, D.int .i64 x.e, D.int .i64 x.k, D.int .i64 x.v] [D.int .i64 x.n, D.int .i64 x.e, D.int .i64 x.k, D.int .i64 x.v]) = false := by simp [eqF]
      (have F := An2 @encL_len @d1; refine Rg1 ?_; clear F; (repeat (with_reducible first | apply qa | apply qb | apply qc | apply qd | apply qe)))
      (refine DV.condT rfl (fun _ => rfl) ?_; (repeat (with_reducible first | apply qa | apply qb | apply qc | apply qd | apply qe)))
      (refine DV.skip ?_; (repeat with_reducible refine qn ?_); (with_reducible refine qm ?_); (repeat (with_reducible first | apply qa | apply qb | apply qc | apply qd | apply qe)))
      (have F := An9 @i2n @encL_len @c1 @c2 @hlt @c3 @ouE @hq @hqq; refine Rd1 ?_; clear F; (repeat (with_reducible first | apply qa | apply qb | apply qc | apply qd | apply qe)))
      (refine DV.condF rfl (fun _ => rfl) ?_; (repeat (with_reducible first | apply qa | apply qb | apply qc | apply qd | apply qe)))
      (refine DV.skip ?_; (repeat with_reducible refine qn ?_); (with_reducible refine qm ?_); (repeat (with_reducible first | apply qa | apply qb | apply qc | apply qd | apply qe)))
      (have F := @ew; refine Re1 ?_; clear F; (repeat with_reducible refine qn ?_); (try with_reducible refine qm ?_); (repeat (with_reducible first | apply qa | apply qb | apply qc | apply qd | apply qe)))
      exact ⟨j + 1, ⟨hlt, by omega⟩, by exact Wk0⟩
    obtain rfl : j = l.length := by omega
    have d1 : decide ((l.length : Int) < (l.length : Int)) = false := decide_eq_false (by omega)
    (have F := An2 @encL_len @d1; refine Rg1 ?_; clear F; (repeat (with_reducible first | apply qa | apply qb | apply qc | apply qd | apply qe)))
    (refine DV.condF rfl (fun _ => rfl) ?_; (repeat (with_reducible first | apply qa | apply qb | apply qc | apply qd | apply qe)))
    (refine DV.exit ?_; (repeat (first | (with_reducible refine thenD_exit' ?_) | (with_reducible refine blockD_other (by decide) ?_))); (with_reducible refine blockD_same ?_); (repeat with_reducible refine qn ?_); (with_reducible refine qm ?_); (repeat (with_reducible first | apply qa | apply qb | apply qc | apply qd | apply qe)))
    (refine Rg0 ?_; (repeat (with_reducible first | apply qa | apply qb | apply qc | apply qd | apply qe)))
    (refine DV.ret ?_; (repeat (first | (with_reducible refine thenD_ret' ?_) | (with_reducible refine blockD_ret' ?_))); (with_reducible refine retD_ret' ?_); try (refine Rt0 ?_; try with_reducible exact True.intro))
  · exact h.elim
end Go.Proofs.Ytkmgdejpdhlleaa.Dq
