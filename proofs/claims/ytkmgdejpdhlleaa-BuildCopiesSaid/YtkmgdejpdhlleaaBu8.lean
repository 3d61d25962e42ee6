/- Graphs put together step by step, by deep values: BuildCopies. -/
import Derived.Test.YtkmgdejpdhlleaaBu7
import Derived.Test.YtkmgdejpdhlleaaBuT
namespace Go.Proofs.Ytkmgdejpdhlleaa.Dq
set_option linter.unusedSimpArgs false
set_option linter.unusedVariables false
set_option maxRecDepth 100000
open Go.RowKit
open Va

set_option maxHeartbeats 4000000 in
theorem eqin183 (d : Nat) (w : World) (x0 : Int) (x1 : Int) (y0 : Int) (y1 : Int) : (Op.equalIn (d + 2) 183 (.agg #[Value.int .i64 x0, Value.int .i64 x1]) (.agg #[Value.int .i64 y0, Value.int .i64 y1])).run Try.prog w = .ok ((x0 == y0) && (x1 == y1)) w := by
  rw [run_equalIn_struct (ht := by kernel_rfl) (hp := by kernel_rfl)]
  have qa2 : ∀ w, (isAgg 2).run Try.prog w = .ok false w := fun w => by rfl
  have qs2 : ∀ w, (sizeOf 2).run Try.prog w = .ok 1 w := fun w => by rfl
  have qa3 : ∀ w, (isAgg 3).run Try.prog w = .ok false w := fun w => by rfl
  have qs3 : ∀ w, (sizeOf 3).run Try.prog w = .ok 1 w := fun w => by rfl
  have e0 := run_equalIn_int (P := Try.prog) w d 3 .i64 .i64 x0 y0 Try.underlying3
  have e1 := run_equalIn_int (P := Try.prog) w d 2 .i64 .i64 x1 y1 Try.underlying2
  cases h0 : (x0 == y0) <;> cases h1 : (x1 == y1)
  all_goals
    rw [h0] at e0
    rw [h1] at e1
    simp [Program.fieldsOf, Try.underlying183, Op.eqFields, part, qa2, qa3, qs2, qs3, e0, e1]
theorem eqok183 (x0 : Int) (x1 : Int) (y0 : Int) (y1 : Int) : EqOk Try.prog 183 [D.int .i64 x0, D.int .i64 x1] [D.int .i64 y0, D.int .i64 y1] := by
  intro A w us vs x y hu hv
  obtain rfl : us = #[Value.int .i64 x0, Value.int .i64 x1] := flatXU hu
  obtain rfl : vs = #[Value.int .i64 y0, Value.int .i64 y1] := flatXU hv
  have hg : Try.prog.eqGuardType Try.prog.depth 183 = false := by kernel_rfl
  refine ⟨run_eqGuard_agg w _ _ x y _ _ hg, run_eqGuard_agg w _ _ x y _ _ hg, ?_⟩
  have h := eqin183 9998 w x0 x1 y0 y1
  refine Eq.trans (b := _) h ?_
  congr 1
  simp only [eqF, Bool.and_assoc, Bool.and_true, beq_self_eq_true, Bool.true_and]
set_option maxHeartbeats 4000000 in
theorem eqin78 (d : Nat) (w : World) (x0 : Int) (x1 : Int) (x2 : Int) (x3 : Bool) (y0 : Int) (y1 : Int) (y2 : Int) (y3 : Bool) : (Op.equalIn (d + 2) 78 (.agg #[Value.int .i64 x0, Value.int .i64 x1, Value.int .i64 x2, Value.bool x3]) (.agg #[Value.int .i64 y0, Value.int .i64 y1, Value.int .i64 y2, Value.bool y3])).run Try.prog w = .ok ((((x0 == y0) && (x1 == y1)) && (x2 == y2)) && (x3 == y3)) w := by
  rw [run_equalIn_struct (ht := by kernel_rfl) (hp := by kernel_rfl)]
  have qa3 : ∀ w, (isAgg 3).run Try.prog w = .ok false w := fun w => by rfl
  have qs3 : ∀ w, (sizeOf 3).run Try.prog w = .ok 1 w := fun w => by rfl
  have qa4 : ∀ w, (isAgg 4).run Try.prog w = .ok false w := fun w => by rfl
  have qs4 : ∀ w, (sizeOf 4).run Try.prog w = .ok 1 w := fun w => by rfl
  have e0 := run_equalIn_int (P := Try.prog) w d 3 .i64 .i64 x0 y0 Try.underlying3
  have e1 := run_equalIn_int (P := Try.prog) w d 3 .i64 .i64 x1 y1 Try.underlying3
  have e2 := run_equalIn_int (P := Try.prog) w d 3 .i64 .i64 x2 y2 Try.underlying3
  have e3 := run_equalIn_bool' (P := Try.prog) w d 4 x3 y3 Try.underlying4
  cases h0 : (x0 == y0) <;> cases h1 : (x1 == y1) <;> cases h2 : (x2 == y2) <;> cases h3 : (x3 == y3)
  all_goals
    rw [h0] at e0
    rw [h1] at e1
    rw [h2] at e2
    rw [h3] at e3
    simp [Program.fieldsOf, Try.underlying78, Op.eqFields, part, qa3, qa4, qs3, qs4, e0, e1, e2, e3]
theorem eqok78 (x0 : Int) (x1 : Int) (x2 : Int) (x3 : Bool) (y0 : Int) (y1 : Int) (y2 : Int) (y3 : Bool) : EqOk Try.prog 78 [D.int .i64 x0, D.int .i64 x1, D.int .i64 x2, D.bool x3] [D.int .i64 y0, D.int .i64 y1, D.int .i64 y2, D.bool y3] := by
  intro A w us vs x y hu hv
  obtain rfl : us = #[Value.int .i64 x0, Value.int .i64 x1, Value.int .i64 x2, Value.bool x3] := flatXU hu
  obtain rfl : vs = #[Value.int .i64 y0, Value.int .i64 y1, Value.int .i64 y2, Value.bool y3] := flatXU hv
  have hg : Try.prog.eqGuardType Try.prog.depth 78 = false := by kernel_rfl
  refine ⟨run_eqGuard_agg w _ _ x y _ _ hg, run_eqGuard_agg w _ _ x y _ _ hg, ?_⟩
  have h := eqin78 9998 w x0 x1 x2 x3 y0 y1 y2 y3
  refine Eq.trans (b := _) h ?_
  congr 1
  simp only [eqF, Bool.and_assoc, Bool.and_true, beq_self_eq_true, Bool.true_and]

theorem nod_pm {M : Nat} {v : Bs} {x : Nd} {l : List Int} (h : ∀ y ∈ v.n, y.pr.length ≤ M) (hx : x.pr.length ≤ M) : ∀ y ∈ (nodS v x l).n, y.pr.length ≤ M := by
  rw [(nod_sme v x l).n]
  intro y hy
  rcases List.mem_append.1 (show y ∈ v.n ++ [_] from hy) with h1 | h1
  · exact h y h1
  · rw [List.mem_singleton.1 h1]
    exact hx
theorem do_pm {M : Nat} {v : Bs} {s : Sp} (hm : mayI v s = 0) (h : ∀ y ∈ v.n, y.pr.length ≤ M) (hs : s.pr.length ≤ M) : ∀ y ∈ (doS v s).n, y.pr.length ≤ M := by
  obtain ⟨hf, -, -, -, -⟩ := may_0 hm
  obtain ⟨k1, k8⟩ := for_k hf
  have z : ([] : List Is).length ≤ M := Nat.zero_le _
  rcases do_cases v s k1 k8 with ⟨e, hd⟩ | ⟨e, hd⟩ | ⟨e, hd⟩ | ⟨e, hd⟩ | ⟨e, hd⟩ | ⟨e, hd⟩ | ⟨e, hd⟩ | ⟨e, hd⟩ <;> rw [hd]
  · exact nod_pm (v := v) (x := ⟨1, 0, 0, []⟩) h z
  · exact nod_pm (x := ⟨s.nd, 0, s.a, s.pr⟩) (by rw [(pops_np _ v).1]; exact h) hs
  · exact nod_pm (v := popS v) (x := ⟨15, 0, 0, []⟩) h z
  · exact h
  · exact h
  · have h2 : ∀ y ∈ (bg2 v s.a).n, y.pr.length ≤ M := nod_pm (v := bg1 v s.a) (x := ⟨10, 0, 0, []⟩) h z
    exact nod_pm (v := bg2 v s.a) (x := ⟨5, 0, 0, []⟩) h2 z
  · have h2 : ∀ y ∈ (en1 v).n, y.pr.length ≤ M := nod_pm (v := popS v) (x := ⟨12, 0, 0, []⟩) h z
    exact nod_pm (v := en2 v) (x := ⟨11, 0, 0, []⟩) h2 z
  · exact h
theorem all_pm {M : Nat} : ∀ (l : List Sp) (i : Int) (v : Bs), (∀ y ∈ v.n, y.pr.length ≤ M) → (∀ s ∈ l, s.pr.length ≤ M) → ∀ y ∈ (allS l i v).1.n, y.pr.length ≤ M
  | [], _, _, h, _ => h
  | s :: l, i, v, h, hs => by
    unfold allS
    by_cases hm : (mayI v s != 0) = true
    · rw [if_pos hm]
      exact h
    · rw [if_neg hm]
      have hm : mayI v s = 0 := by simpa using hm
      exact all_pm l (i + 1) (doS v s) (do_pm hm h (hs s List.mem_cons_self)) (fun t ht => hs t (List.mem_cons_of_mem _ ht))
/-- A graph whose lists and programs are short. -/
structure Sh (g : Gr) : Prop where
  s : Sm g
  n : ∀ y ∈ g.n, y.pr.length ≤ 1000000
theorem gra_sh {l : List Sp} (h : SpOk l) : Sh (graS l).1 := by
  have hall := all_ok l 0 fre0 1 Ok.zero Fit.zero
  have hpm := all_pm l 0 fre0 (M := 1000000) nofun h.pr
  have hlen := h.len
  have hgg : (graS l).1 = gr0 ∨ (graS l).1 = grB (allS l 0 fre0).1 := by
    unfold graS
    split
    · exact .inl rfl
    split
    · exact .inl rfl
    split
    · exact .inl rfl
    · exact .inr rfl
  rcases hgg with e | e <;> rw [e]
  · exact ⟨⟨by decide, by decide, by decide, by decide⟩, nofun⟩
  · have f := hall.2.n
    have f1 := f.p
    have f2 := f.b
    have f3 := f.n
    have f4 := f.e
    exact ⟨⟨by show (allS l 0 fre0).1.p.length ≤ _; omega, by show (allS l 0 fre0).1.b.length ≤ _; omega, by show (allS l 0 fre0).1.n.length ≤ _; omega, by show (allS l 0 fre0).1.e.length ≤ _; omega⟩, hpm⟩
def inqD : List S1 → CR × Prop
  | [.c (.sl a), .c (.sl b)] => (.one (.c (.bool true)), isL inC a ∧ a = b ∧ (decL inC a).length ≤ 1073741823)
  | _ => (.one (.c (.bool false)), False)
set_option maxHeartbeats 4000000 in
theorem inq_cal (args : List S1) (h : (inqD args).2) : Cal Try.prog 79 args (inqD args).1 := by
  unfold inqD at h ⊢
  split at h
  · next a0 b0 =>
    obtain ⟨hl, he, hn⟩ := h
    subst he
    obtain ⟨l, rfl⟩ : ∃ z, a0 = encL inC z := ⟨_, hl.symm⟩
    rw [decL_encL] at hn
    clear hl
    have e0 : ((l.length : Int) != (l.length : Int)) = false := by simp
    refine DV.of (Γ := ⟨[], [], []⟩) (rs := [ResultVar.tmp 4]) [0, 1, 4, 5, 10, 14, 25] ⟨nofun, nofun⟩ (by kernel_rfl) Try.func79 rfl rfl (by kernel_rfl) rfl ?_; (repeat (with_reducible first | apply qa | apply qb | apply qc | apply qd | apply qe))
    (apply DV.seqreg; kernel_rfl; (simp only [wpS, wpT, go1, evS, ev, Qc, Qd, Qg, Qo, Qs, QB, nilB, gdS, put1, sv, gs, gb, opd, cst, XW, QK, okS, QL, setAt, bad, dem, QP, QR, QS, QT, QU, QV, QW, QY, QZ, Q2, Q3, Q4, Q5, Q6, lf, lfs, asP, pOk, Xp, Nat.reduceBEq, XA, XB, keep, kp, cand, cor, List.map, List.append, Option.bind, ↓reduceIte, Nat.reduceEqDiff, Nat.reduceAdd, Nat.reduceMul, Nat.reduceLT, Nat.reduceLeDiff, reduceCtorEq, Int.reduceLT, Int.reduceLE, Int.reduceBEq, Int.reduceBNe, Int.reduceAdd, Int.reduceSub, Int.reduceToNat, dq, tya]; exact rfl); (repeat (with_reducible first | apply qa | apply qb | apply qc | apply qd | apply qe)))
    (apply DV.seqreg; kernel_rfl; (simp only [wpS, wpT, go1, evS, ev, Qc, Qd, Qg, Qo, Qs, QB, nilB, gdS, put1, sv, gs, gb, opd, cst, XW, QK, okS, QL, setAt, bad, dem, QP, QR, QS, QT, QU, QV, QW, QY, QZ, Q2, Q3, Q4, Q5, Q6, lf, lfs, asP, pOk, Xp, Nat.reduceBEq, XA, XB, keep, kp, cand, cor, List.map, List.append, Option.bind, ↓reduceIte, Nat.reduceEqDiff, Nat.reduceAdd, Nat.reduceMul, Nat.reduceLT, Nat.reduceLeDiff, reduceCtorEq, Int.reduceLT, Int.reduceLE, Int.reduceBEq, Int.reduceBNe, Int.reduceAdd, Int.reduceSub, Int.reduceToNat, dq, tya, encL_len, e0]; exact rfl); (repeat (with_reducible first | apply qa | apply qb | apply qc | apply qd | apply qe)))
    (refine DV.condF rfl (fun _ => rfl) ?_; (repeat (with_reducible first | apply qa | apply qb | apply qc | apply qd | apply qe)))
    (refine DV.skip ?_; (repeat (with_reducible refine blockD_norm' ?_)); (with_reducible refine thenD_norm' ?_); (repeat (with_reducible first | apply qa | apply qb | apply qc | apply qd | apply qe)))
    (apply DV.seqreg; kernel_rfl; (simp only [wpS, wpT, go1, evS, ev, Qc, Qd, Qg, Qo, Qs, QB, nilB, gdS, put1, sv, gs, gb, opd, cst, XW, QK, okS, QL, setAt, bad, dem, QP, QR, QS, QT, QU, QV, QW, QY, QZ, Q2, Q3, Q4, Q5, Q6, lf, lfs, asP, pOk, Xp, Nat.reduceBEq, XA, XB, keep, kp, cand, cor, List.map, List.append, Option.bind, ↓reduceIte, Nat.reduceEqDiff, Nat.reduceAdd, Nat.reduceMul, Nat.reduceLT, Nat.reduceLeDiff, reduceCtorEq, Int.reduceLT, Int.reduceLE, Int.reduceBEq, Int.reduceBNe, Int.reduceAdd, Int.reduceSub, Int.reduceToNat, dq, tya]; exact rfl); (repeat (with_reducible first | apply qa | apply qb | apply qc | apply qd | apply qe)))
    refine DV.loop (fun j : Nat => ⟨[(0, .v true (.c (.sl (encL inC l)))), (1, .v true (.c (.sl (encL inC l)))), (5, .v true (.c (.int .i64 j)))], [], []⟩) (fun j => j ≤ l.length) (fun j => l.length - j) 0 (Nat.zero_le _) (by (refine wk_of [] ?_ ?_ ?_ ?_ ?_ <;> (simp only [false_and, and_false, and_self, XC, XD, XE, XF, XG, XH, XI, convK, XJ, XK, XL, XM, XN, look, XO, XP, XR, XS, XT, XU, XV, encL_nil, encL_app, encL_cons, List.length_append, gdS, put1, sv, gs, gb, QK, setAt, bad, dem, QP, QR, QS, QT, QU, QV, QW, QY, Q2, Q3, lf, lfs, pOk, Nat.reduceBEq, XA, XB, keep, kp, cand, cor, List.map, List.append, Option.bind, ↓reduceIte, Nat.reduceEqDiff, Nat.reduceAdd, Nat.reduceMul, Nat.reduceLT, Nat.reduceLeDiff, reduceCtorEq, Int.reduceLT, Int.reduceLE, Int.reduceBEq, Int.reduceBNe, Int.reduceAdd, Int.reduceSub, Int.reduceToNat, dq, n0]; try trivial))) (fun j hj => ?_)
    (repeat (with_reducible first | apply qa | apply qb | apply qc | apply qd | apply qe))
    by_cases hlt : j < l.length
    · obtain ⟨x, hx⟩ : ∃ x, l[j]? = some x := ⟨_, List.getElem?_eq_getElem hlt⟩
      have d1 : decide ((j : Int) < (l.length : Int)) = true := decide_eq_true (by omega)
      have c1 : (0 : Int) ≤ j := by omega
      have c2 : (j : Int) < (l.length : Int) := by omega
      have c3 := encL_get (C := inC) hx
      have ew := wr1 j (by omega)
      have hq : (x != x) = false := by simp
      (apply DV.seqreg; kernel_rfl; (simp only [wpS, wpT, go1, evS, ev, Qc, Qd, Qg, Qo, Qs, QB, nilB, gdS, put1, sv, gs, gb, opd, cst, XW, QK, okS, QL, setAt, bad, dem, QP, QR, QS, QT, QU, QV, QW, QY, QZ, Q2, Q3, Q4, Q5, Q6, lf, lfs, asP, pOk, Xp, Nat.reduceBEq, XA, XB, keep, kp, cand, cor, List.map, List.append, Option.bind, ↓reduceIte, Nat.reduceEqDiff, Nat.reduceAdd, Nat.reduceMul, Nat.reduceLT, Nat.reduceLeDiff, reduceCtorEq, Int.reduceLT, Int.reduceLE, Int.reduceBEq, Int.reduceBNe, Int.reduceAdd, Int.reduceSub, Int.reduceToNat, dq, tya, encL_len, d1]; exact rfl); (repeat (with_reducible first | apply qa | apply qb | apply qc | apply qd | apply qe)))
      (refine DV.condT rfl (fun _ => rfl) ?_; (repeat (with_reducible first | apply qa | apply qb | apply qc | apply qd | apply qe)))
      (refine DV.skip ?_; (repeat (with_reducible refine blockD_norm' ?_)); (with_reducible refine thenD_norm' ?_); (repeat (with_reducible first | apply qa | apply qb | apply qc | apply qd | apply qe)))
      (apply DV.seqdrw; kernel_rfl; kernel_rfl; (simp only [wpS, wpT, go1, evS, ev, Qc, Qd, Qg, Qo, Qs, QB, nilB, gdS, put1, sv, gs, gb, opd, cst, XW, QK, okS, QL, setAt, bad, dem, QP, QR, QS, QT, QU, QV, QW, QY, QZ, Q2, Q3, Q4, Q5, Q6, lf, lfs, asP, pOk, Xp, Nat.reduceBEq, XA, XB, keep, kp, cand, cor, List.map, List.append, Option.bind, ↓reduceIte, Nat.reduceEqDiff, Nat.reduceAdd, Nat.reduceMul, Nat.reduceLT, Nat.reduceLeDiff, reduceCtorEq, Int.reduceLT, Int.reduceLE, Int.reduceBEq, Int.reduceBNe, Int.reduceAdd, Int.reduceSub, Int.reduceToNat, dq, tya, i2n, encL_len, c1, c2, c3, inE, hq]; exact ⟨rfl, rfl⟩); kernel_rfl; (repeat (with_reducible first | apply qa | apply qb | apply qc | apply qd | apply qe)))
      (refine DV.condF rfl (fun _ => rfl) ?_; (repeat (with_reducible first | apply qa | apply qb | apply qc | apply qd | apply qe)))
      (refine DV.skip ?_; (repeat (with_reducible refine blockD_norm' ?_)); (with_reducible refine thenD_norm' ?_); (repeat (with_reducible first | apply qa | apply qb | apply qc | apply qd | apply qe)))
      (apply DV.reg; kernel_rfl; (simp only [wpS, wpT, go1, evS, ev, Qc, Qd, Qg, Qo, Qs, QB, nilB, gdS, put1, sv, gs, gb, opd, cst, XW, QK, okS, QL, setAt, bad, dem, QP, QR, QS, QT, QU, QV, QW, QY, QZ, Q2, Q3, Q4, Q5, Q6, lf, lfs, asP, pOk, Xp, Nat.reduceBEq, XA, XB, keep, kp, cand, cor, List.map, List.append, Option.bind, ↓reduceIte, Nat.reduceEqDiff, Nat.reduceAdd, Nat.reduceMul, Nat.reduceLT, Nat.reduceLeDiff, reduceCtorEq, Int.reduceLT, Int.reduceLE, Int.reduceBEq, Int.reduceBNe, Int.reduceAdd, Int.reduceSub, Int.reduceToNat, dq, tya, ew]; exact rfl); (repeat (with_reducible refine blockD_norm' ?_)); (try with_reducible refine thenD_norm' ?_); (repeat (with_reducible first | apply qa | apply qb | apply qc | apply qd | apply qe)))
      exact ⟨j + 1, ⟨hlt, by omega⟩, by (refine wk_of [] ?_ ?_ ?_ ?_ ?_ <;> (simp only [false_and, and_false, and_self, XC, XD, XE, XF, XG, XH, XI, convK, XJ, XK, XL, XM, XN, look, XO, XP, XR, XS, XT, XU, XV, encL_nil, encL_app, encL_cons, List.length_append, gdS, put1, sv, gs, gb, QK, setAt, bad, dem, QP, QR, QS, QT, QU, QV, QW, QY, Q2, Q3, lf, lfs, pOk, Nat.reduceBEq, XA, XB, keep, kp, cand, cor, List.map, List.append, Option.bind, ↓reduceIte, Nat.reduceEqDiff, Nat.reduceAdd, Nat.reduceMul, Nat.reduceLT, Nat.reduceLeDiff, reduceCtorEq, Int.reduceLT, Int.reduceLE, Int.reduceBEq, Int.reduceBNe, Int.reduceAdd, Int.reduceSub, Int.reduceToNat, dq]; try trivial))⟩
    obtain rfl : j = l.length := by omega
    have d1 : decide ((l.length : Int) < (l.length : Int)) = false := decide_eq_false (by omega)
    (apply DV.seqreg; kernel_rfl; (simp only [wpS, wpT, go1, evS, ev, Qc, Qd, Qg, Qo, Qs, QB, nilB, gdS, put1, sv, gs, gb, opd, cst, XW, QK, okS, QL, setAt, bad, dem, QP, QR, QS, QT, QU, QV, QW, QY, QZ, Q2, Q3, Q4, Q5, Q6, lf, lfs, asP, pOk, Xp, Nat.reduceBEq, XA, XB, keep, kp, cand, cor, List.map, List.append, Option.bind, ↓reduceIte, Nat.reduceEqDiff, Nat.reduceAdd, Nat.reduceMul, Nat.reduceLT, Nat.reduceLeDiff, reduceCtorEq, Int.reduceLT, Int.reduceLE, Int.reduceBEq, Int.reduceBNe, Int.reduceAdd, Int.reduceSub, Int.reduceToNat, dq, tya, encL_len, d1]; exact rfl); (repeat (with_reducible first | apply qa | apply qb | apply qc | apply qd | apply qe)))
    (refine DV.condF rfl (fun _ => rfl) ?_; (repeat (with_reducible first | apply qa | apply qb | apply qc | apply qd | apply qe)))
    (refine DV.exit ?_; (repeat (first | (with_reducible refine thenD_exit' ?_) | (with_reducible refine blockD_other (by decide) ?_))); (with_reducible refine blockD_same ?_); (repeat (with_reducible refine blockD_norm' ?_)); (with_reducible refine thenD_norm' ?_); (repeat (with_reducible first | apply qa | apply qb | apply qc | apply qd | apply qe)))
    (apply DV.seqreg; kernel_rfl; (simp only [wpS, wpT, go1, evS, ev, Qc, Qd, Qg, Qo, Qs, QB, nilB, gdS, put1, sv, gs, gb, opd, cst, XW, QK, okS, QL, setAt, bad, dem, QP, QR, QS, QT, QU, QV, QW, QY, QZ, Q2, Q3, Q4, Q5, Q6, lf, lfs, asP, pOk, Xp, Nat.reduceBEq, XA, XB, keep, kp, cand, cor, List.map, List.append, Option.bind, ↓reduceIte, Nat.reduceEqDiff, Nat.reduceAdd, Nat.reduceMul, Nat.reduceLT, Nat.reduceLeDiff, reduceCtorEq, Int.reduceLT, Int.reduceLE, Int.reduceBEq, Int.reduceBNe, Int.reduceAdd, Int.reduceSub, Int.reduceToNat, dq, tya]; exact rfl); (repeat (with_reducible first | apply qa | apply qb | apply qc | apply qd | apply qe)))
    (refine DV.ret ?_; (repeat (first | (with_reducible refine thenD_ret' ?_) | (with_reducible refine blockD_ret' ?_))); (with_reducible refine retD_ret' ?_); (try simp only [resOk, resL, rvS, toR, noMu, wpS, wpT, go1, evS, ev, Qc, Qd, Qg, Qo, Qs, QB, nilB, gdS, put1, sv, gs, gb, opd, cst, XW, QK, okS, QL, setAt, bad, dem, QP, QR, QS, QT, QU, QV, QW, QY, QZ, Q2, Q3, Q4, Q5, Q6, lf, lfs, asP, pOk, Xp, Nat.reduceBEq, XA, XB, keep, kp, cand, cor, List.map, List.append, Option.bind, ↓reduceIte, Nat.reduceEqDiff, Nat.reduceAdd, Nat.reduceMul, Nat.reduceLT, Nat.reduceLeDiff, reduceCtorEq, Int.reduceLT, Int.reduceLE, Int.reduceBEq, Int.reduceBNe, Int.reduceAdd, Int.reduceSub, Int.reduceToNat, dq, tya]))
  · exact h.elim
def isqD : List S1 → CR × Prop
  | [.c (.sl a), .c (.sl b)] => (.one (.c (.bool true)), isL isC a ∧ a = b ∧ (decL isC a).length ≤ 1073741823)
  | _ => (.one (.c (.bool false)), False)
set_option maxHeartbeats 4000000 in
theorem isq_cal (args : List S1) (h : (isqD args).2) : Cal Try.prog 80 args (isqD args).1 := by
  unfold isqD at h ⊢
  split at h
  · next a0 b0 =>
    obtain ⟨hl, he, hn⟩ := h
    subst he
    obtain ⟨l, rfl⟩ : ∃ z, a0 = encL isC z := ⟨_, hl.symm⟩
    rw [decL_encL] at hn
    clear hl
    have e0 : ((l.length : Int) != (l.length : Int)) = false := by simp
    refine DV.of (Γ := ⟨[], [], []⟩) (rs := [ResultVar.tmp 4]) [0, 1, 4, 5, 10, 14, 25] ⟨nofun, nofun⟩ (by kernel_rfl) Try.func80 rfl rfl (by kernel_rfl) rfl ?_; (repeat (with_reducible first | apply qa | apply qb | apply qc | apply qd | apply qe))
    (apply DV.seqreg; kernel_rfl; (simp only [wpS, wpT, go1, evS, ev, Qc, Qd, Qg, Qo, Qs, QB, nilB, gdS, put1, sv, gs, gb, opd, cst, XW, QK, okS, QL, setAt, bad, dem, QP, QR, QS, QT, QU, QV, QW, QY, QZ, Q2, Q3, Q4, Q5, Q6, lf, lfs, asP, pOk, Xp, Nat.reduceBEq, XA, XB, keep, kp, cand, cor, List.map, List.append, Option.bind, ↓reduceIte, Nat.reduceEqDiff, Nat.reduceAdd, Nat.reduceMul, Nat.reduceLT, Nat.reduceLeDiff, reduceCtorEq, Int.reduceLT, Int.reduceLE, Int.reduceBEq, Int.reduceBNe, Int.reduceAdd, Int.reduceSub, Int.reduceToNat, dq, tya]; exact rfl); (repeat (with_reducible first | apply qa | apply qb | apply qc | apply qd | apply qe)))
    (apply DV.seqreg; kernel_rfl; (simp only [wpS, wpT, go1, evS, ev, Qc, Qd, Qg, Qo, Qs, QB, nilB, gdS, put1, sv, gs, gb, opd, cst, XW, QK, okS, QL, setAt, bad, dem, QP, QR, QS, QT, QU, QV, QW, QY, QZ, Q2, Q3, Q4, Q5, Q6, lf, lfs, asP, pOk, Xp, Nat.reduceBEq, XA, XB, keep, kp, cand, cor, List.map, List.append, Option.bind, ↓reduceIte, Nat.reduceEqDiff, Nat.reduceAdd, Nat.reduceMul, Nat.reduceLT, Nat.reduceLeDiff, reduceCtorEq, Int.reduceLT, Int.reduceLE, Int.reduceBEq, Int.reduceBNe, Int.reduceAdd, Int.reduceSub, Int.reduceToNat, dq, tya, encL_len, e0]; exact rfl); (repeat (with_reducible first | apply qa | apply qb | apply qc | apply qd | apply qe)))
    (refine DV.condF rfl (fun _ => rfl) ?_; (repeat (with_reducible first | apply qa | apply qb | apply qc | apply qd | apply qe)))
    (refine DV.skip ?_; (repeat (with_reducible refine blockD_norm' ?_)); (with_reducible refine thenD_norm' ?_); (repeat (with_reducible first | apply qa | apply qb | apply qc | apply qd | apply qe)))
    (apply DV.seqreg; kernel_rfl; (simp only [wpS, wpT, go1, evS, ev, Qc, Qd, Qg, Qo, Qs, QB, nilB, gdS, put1, sv, gs, gb, opd, cst, XW, QK, okS, QL, setAt, bad, dem, QP, QR, QS, QT, QU, QV, QW, QY, QZ, Q2, Q3, Q4, Q5, Q6, lf, lfs, asP, pOk, Xp, Nat.reduceBEq, XA, XB, keep, kp, cand, cor, List.map, List.append, Option.bind, ↓reduceIte, Nat.reduceEqDiff, Nat.reduceAdd, Nat.reduceMul, Nat.reduceLT, Nat.reduceLeDiff, reduceCtorEq, Int.reduceLT, Int.reduceLE, Int.reduceBEq, Int.reduceBNe, Int.reduceAdd, Int.reduceSub, Int.reduceToNat, dq, tya]; exact rfl); (repeat (with_reducible first | apply qa | apply qb | apply qc | apply qd | apply qe)))
    refine DV.loop (fun j : Nat => ⟨[(0, .v true (.c (.sl (encL isC l)))), (1, .v true (.c (.sl (encL isC l)))), (5, .v true (.c (.int .i64 j)))], [], []⟩) (fun j => j ≤ l.length) (fun j => l.length - j) 0 (Nat.zero_le _) (by (refine wk_of [] ?_ ?_ ?_ ?_ ?_ <;> (simp only [false_and, and_false, and_self, XC, XD, XE, XF, XG, XH, XI, convK, XJ, XK, XL, XM, XN, look, XO, XP, XR, XS, XT, XU, XV, encL_nil, encL_app, encL_cons, List.length_append, gdS, put1, sv, gs, gb, QK, setAt, bad, dem, QP, QR, QS, QT, QU, QV, QW, QY, Q2, Q3, lf, lfs, pOk, Nat.reduceBEq, XA, XB, keep, kp, cand, cor, List.map, List.append, Option.bind, ↓reduceIte, Nat.reduceEqDiff, Nat.reduceAdd, Nat.reduceMul, Nat.reduceLT, Nat.reduceLeDiff, reduceCtorEq, Int.reduceLT, Int.reduceLE, Int.reduceBEq, Int.reduceBNe, Int.reduceAdd, Int.reduceSub, Int.reduceToNat, dq, n0]; try trivial))) (fun j hj => ?_)
    (repeat (with_reducible first | apply qa | apply qb | apply qc | apply qd | apply qe))
    by_cases hlt : j < l.length
    · obtain ⟨x, hx⟩ : ∃ x, l[j]? = some x := ⟨_, List.getElem?_eq_getElem hlt⟩
      have d1 : decide ((j : Int) < (l.length : Int)) = true := decide_eq_true (by omega)
      have c1 : (0 : Int) ≤ j := by omega
      have c2 : (j : Int) < (l.length : Int) := by omega
      have c3 := encL_get (C := isC) hx
      have ew := wr1 j (by omega)
      have hq : EqOk Try.prog 183 [D.int .i64 x.o, D.int .i64 x.n] [D.int .i64 x.o, D.int .i64 x.n] := eqok183 x.o x.n x.o x.n
      have hqq : (!eqF [D.int .i64 x.o, D.int .i64 x.n] [D.int .i64 x.o, D.int .i64 x.n]) = false := by simp [eqF]
      (apply DV.seqreg; kernel_rfl; (simp only [wpS, wpT, go1, evS, ev, Qc, Qd, Qg, Qo, Qs, QB, nilB, gdS, put1, sv, gs, gb, opd, cst, XW, QK, okS, QL, setAt, bad, dem, QP, QR, QS, QT, QU, QV, QW, QY, QZ, Q2, Q3, Q4, Q5, Q6, lf, lfs, asP, pOk, Xp, Nat.reduceBEq, XA, XB, keep, kp, cand, cor, List.map, List.append, Option.bind, ↓reduceIte, Nat.reduceEqDiff, Nat.reduceAdd, Nat.reduceMul, Nat.reduceLT, Nat.reduceLeDiff, reduceCtorEq, Int.reduceLT, Int.reduceLE, Int.reduceBEq, Int.reduceBNe, Int.reduceAdd, Int.reduceSub, Int.reduceToNat, dq, tya, encL_len, d1]; exact rfl); (repeat (with_reducible first | apply qa | apply qb | apply qc | apply qd | apply qe)))
      (refine DV.condT rfl (fun _ => rfl) ?_; (repeat (with_reducible first | apply qa | apply qb | apply qc | apply qd | apply qe)))
      (refine DV.skip ?_; (repeat (with_reducible refine blockD_norm' ?_)); (with_reducible refine thenD_norm' ?_); (repeat (with_reducible first | apply qa | apply qb | apply qc | apply qd | apply qe)))
      (apply DV.seqdrw; kernel_rfl; kernel_rfl; (simp only [wpS, wpT, go1, evS, ev, Qc, Qd, Qg, Qo, Qs, QB, nilB, gdS, put1, sv, gs, gb, opd, cst, XW, QK, okS, QL, setAt, bad, dem, QP, QR, QS, QT, QU, QV, QW, QY, QZ, Q2, Q3, Q4, Q5, Q6, lf, lfs, asP, pOk, Xp, Nat.reduceBEq, XA, XB, keep, kp, cand, cor, List.map, List.append, Option.bind, ↓reduceIte, Nat.reduceEqDiff, Nat.reduceAdd, Nat.reduceMul, Nat.reduceLT, Nat.reduceLeDiff, reduceCtorEq, Int.reduceLT, Int.reduceLE, Int.reduceBEq, Int.reduceBNe, Int.reduceAdd, Int.reduceSub, Int.reduceToNat, dq, tya, i2n, encL_len, c1, c2, c3, isE, hq, hqq]; exact ⟨rfl, rfl⟩); kernel_rfl; (repeat (with_reducible first | apply qa | apply qb | apply qc | apply qd | apply qe)))
      (refine DV.condF rfl (fun _ => rfl) ?_; (repeat (with_reducible first | apply qa | apply qb | apply qc | apply qd | apply qe)))
      (refine DV.skip ?_; (repeat (with_reducible refine blockD_norm' ?_)); (with_reducible refine thenD_norm' ?_); (repeat (with_reducible first | apply qa | apply qb | apply qc | apply qd | apply qe)))
      (apply DV.reg; kernel_rfl; (simp only [wpS, wpT, go1, evS, ev, Qc, Qd, Qg, Qo, Qs, QB, nilB, gdS, put1, sv, gs, gb, opd, cst, XW, QK, okS, QL, setAt, bad, dem, QP, QR, QS, QT, QU, QV, QW, QY, QZ, Q2, Q3, Q4, Q5, Q6, lf, lfs, asP, pOk, Xp, Nat.reduceBEq, XA, XB, keep, kp, cand, cor, List.map, List.append, Option.bind, ↓reduceIte, Nat.reduceEqDiff, Nat.reduceAdd, Nat.reduceMul, Nat.reduceLT, Nat.reduceLeDiff, reduceCtorEq, Int.reduceLT, Int.reduceLE, Int.reduceBEq, Int.reduceBNe, Int.reduceAdd, Int.reduceSub, Int.reduceToNat, dq, tya, ew]; exact rfl); (repeat (with_reducible refine blockD_norm' ?_)); (try with_reducible refine thenD_norm' ?_); (repeat (with_reducible first | apply qa | apply qb | apply qc | apply qd | apply qe)))
      exact ⟨j + 1, ⟨hlt, by omega⟩, by (refine wk_of [] ?_ ?_ ?_ ?_ ?_ <;> (simp only [false_and, and_false, and_self, XC, XD, XE, XF, XG, XH, XI, convK, XJ, XK, XL, XM, XN, look, XO, XP, XR, XS, XT, XU, XV, encL_nil, encL_app, encL_cons, List.length_append, gdS, put1, sv, gs, gb, QK, setAt, bad, dem, QP, QR, QS, QT, QU, QV, QW, QY, Q2, Q3, lf, lfs, pOk, Nat.reduceBEq, XA, XB, keep, kp, cand, cor, List.map, List.append, Option.bind, ↓reduceIte, Nat.reduceEqDiff, Nat.reduceAdd, Nat.reduceMul, Nat.reduceLT, Nat.reduceLeDiff, reduceCtorEq, Int.reduceLT, Int.reduceLE, Int.reduceBEq, Int.reduceBNe, Int.reduceAdd, Int.reduceSub, Int.reduceToNat, dq]; try trivial))⟩
    obtain rfl : j = l.length := by omega
    have d1 : decide ((l.length : Int) < (l.length : Int)) = false := decide_eq_false (by omega)
    (apply DV.seqreg; kernel_rfl; (simp only [wpS, wpT, go1, evS, ev, Qc, Qd, Qg, Qo, Qs, QB, nilB, gdS, put1, sv, gs, gb, opd, cst, XW, QK, okS, QL, setAt, bad, dem, QP, QR, QS, QT, QU, QV, QW, QY, QZ, Q2, Q3, Q4, Q5, Q6, lf, lfs, asP, pOk, Xp, Nat.reduceBEq, XA, XB, keep, kp, cand, cor, List.map, List.append, Option.bind, ↓reduceIte, Nat.reduceEqDiff, Nat.reduceAdd, Nat.reduceMul, Nat.reduceLT, Nat.reduceLeDiff, reduceCtorEq, Int.reduceLT, Int.reduceLE, Int.reduceBEq, Int.reduceBNe, Int.reduceAdd, Int.reduceSub, Int.reduceToNat, dq, tya, encL_len, d1]; exact rfl); (repeat (with_reducible first | apply qa | apply qb | apply qc | apply qd | apply qe)))
    (refine DV.condF rfl (fun _ => rfl) ?_; (repeat (with_reducible first | apply qa | apply qb | apply qc | apply qd | apply qe)))
    (refine DV.exit ?_; (repeat (first | (with_reducible refine thenD_exit' ?_) | (with_reducible refine blockD_other (by decide) ?_))); (with_reducible refine blockD_same ?_); (repeat (with_reducible refine blockD_norm' ?_)); (with_reducible refine thenD_norm' ?_); (repeat (with_reducible first | apply qa | apply qb | apply qc | apply qd | apply qe)))
    (apply DV.seqreg; kernel_rfl; (simp only [wpS, wpT, go1, evS, ev, Qc, Qd, Qg, Qo, Qs, QB, nilB, gdS, put1, sv, gs, gb, opd, cst, XW, QK, okS, QL, setAt, bad, dem, QP, QR, QS, QT, QU, QV, QW, QY, QZ, Q2, Q3, Q4, Q5, Q6, lf, lfs, asP, pOk, Xp, Nat.reduceBEq, XA, XB, keep, kp, cand, cor, List.map, List.append, Option.bind, ↓reduceIte, Nat.reduceEqDiff, Nat.reduceAdd, Nat.reduceMul, Nat.reduceLT, Nat.reduceLeDiff, reduceCtorEq, Int.reduceLT, Int.reduceLE, Int.reduceBEq, Int.reduceBNe, Int.reduceAdd, Int.reduceSub, Int.reduceToNat, dq, tya]; exact rfl); (repeat (with_reducible first | apply qa | apply qb | apply qc | apply qd | apply qe)))
    (refine DV.ret ?_; (repeat (first | (with_reducible refine thenD_ret' ?_) | (with_reducible refine blockD_ret' ?_))); (with_reducible refine retD_ret' ?_); (try simp only [resOk, resL, rvS, toR, noMu, wpS, wpT, go1, evS, ev, Qc, Qd, Qg, Qo, Qs, QB, nilB, gdS, put1, sv, gs, gb, opd, cst, XW, QK, okS, QL, setAt, bad, dem, QP, QR, QS, QT, QU, QV, QW, QY, QZ, Q2, Q3, Q4, Q5, Q6, lf, lfs, asP, pOk, Xp, Nat.reduceBEq, XA, XB, keep, kp, cand, cor, List.map, List.append, Option.bind, ↓reduceIte, Nat.reduceEqDiff, Nat.reduceAdd, Nat.reduceMul, Nat.reduceLT, Nat.reduceLeDiff, reduceCtorEq, Int.reduceLT, Int.reduceLE, Int.reduceBEq, Int.reduceBNe, Int.reduceAdd, Int.reduceSub, Int.reduceToNat, dq, tya]))
  · exact h.elim
def sagD : List S1 → CR × Prop
  | [.agg a, .agg b] => (.one (.c (.bool true)), grC.enc (grC.dec a) = a ∧ a = b ∧ Sh (grC.dec a))
  | _ => (.one (.c (.bool false)), False)
set_option maxHeartbeats 16000000 in
theorem sag_cal (args : List S1) (h : (sagD args).2) : Cal Try.prog 26 args (sagD args).1 := by
  unfold sagD at h ⊢
  split at h
  · next a0 b0 =>
    obtain ⟨hg, he, hsh⟩ := h
    subst he
    obtain ⟨g, rfl⟩ : ∃ z, a0 = grC.enc z := ⟨_, hg.symm⟩
    rw [grC.de] at hsh
    clear hg
    obtain ⟨⟨m1, m2, m3, m4⟩, hpr⟩ := hsh
    have z1 : ((g.n.length : Int) != (g.n.length : Int)) = false := by simp
    have z2 : ((g.e.length : Int) != (g.e.length : Int)) = false := by simp
    refine DV.of (Γ := ⟨[(79, inqD), (80, isqD)], [], []⟩) (rs := [ResultVar.tmp 4]) [0, 1, 2, 3, 4, 5, 6, 7, 8, 40, 45, 84, 89, 102] ⟨by intro p hp; simp only [List.mem_cons, List.not_mem_nil, or_false] at hp; rcases hp with rfl | rfl; exact inq_cal; exact isq_cal, nofun⟩ (by kernel_rfl) Try.func26 rfl rfl (by kernel_rfl) rfl ?_; (repeat (with_reducible first | apply qa | apply qb | apply qc | apply qd | apply qe))
    (apply DV.seqreg; kernel_rfl; (simp only [wpS, wpT, go1, evS, ev, Qc, Qd, Qe, Qg, Qh, Qk, Qo, Qs, Qt, Qu, Qv, QB, QE, QF, nilB, gdS, put1, sv, gs, gb, opd, cst, XW, QK, okS, QL, setAt, bad, dem, QP, QR, QS, QT, QU, QV, QW, QY, stC, QZ, Q2, Q3, Q4, Q5, Q6, Q7, Q8, Q9, Xc, lf, lfs, Xd, Xe, Xg, Xh, Xj, Xk, asP, pOk, Xp, Xt, Nat.reduceBEq, cv, cvL, wrL, Xw, Xy, XA, XB, keep, kp, cand, cor, List.map, List.append, Option.bind, ↓reduceIte, Nat.reduceEqDiff, Nat.reduceAdd, Nat.reduceMul, Nat.reduceLT, Nat.reduceLeDiff, reduceCtorEq, Int.reduceLT, Int.reduceLE, Int.reduceBEq, Int.reduceBNe, Int.reduceAdd, Int.reduceSub, Int.reduceToNat, dq, tya, inqD, isqD, grE]; exact rfl); (repeat (with_reducible first | apply qa | apply qb | apply qc | apply qd | apply qe)))
    (apply DV.seqreg; kernel_rfl; (simp only [wpS, wpT, go1, evS, ev, Qc, Qd, Qe, Qg, Qh, Qk, Qo, Qs, Qt, Qu, Qv, QB, QE, QF, nilB, gdS, put1, sv, gs, gb, opd, cst, XW, QK, okS, QL, setAt, bad, dem, QP, QR, QS, QT, QU, QV, QW, QY, stC, QZ, Q2, Q3, Q4, Q5, Q6, Q7, Q8, Q9, Xc, lf, lfs, Xd, Xe, Xg, Xh, Xj, Xk, asP, pOk, Xp, Xt, Nat.reduceBEq, cv, cvL, wrL, Xw, Xy, XA, XB, keep, kp, cand, cor, List.map, List.append, Option.bind, ↓reduceIte, Nat.reduceEqDiff, Nat.reduceAdd, Nat.reduceMul, Nat.reduceLT, Nat.reduceLeDiff, reduceCtorEq, Int.reduceLT, Int.reduceLE, Int.reduceBEq, Int.reduceBNe, Int.reduceAdd, Int.reduceSub, Int.reduceToNat, dq, tya, inqD, isqD, grE, decL_encL, isL_enc, encL_len, m1, m2, z1, z2]; exact rfl); (repeat (with_reducible first | apply qa | apply qb | apply qc | apply qd | apply qe)))
    (refine DV.condF rfl (fun _ => rfl) ?_; (repeat (with_reducible first | apply qa | apply qb | apply qc | apply qd | apply qe)))
    (refine DV.skip ?_; (repeat (with_reducible refine blockD_norm' ?_)); (with_reducible refine thenD_norm' ?_); (repeat (with_reducible first | apply qa | apply qb | apply qc | apply qd | apply qe)))
    (apply DV.seqreg; kernel_rfl; (simp only [wpS, wpT, go1, evS, ev, Qc, Qd, Qe, Qg, Qh, Qk, Qo, Qs, Qt, Qu, Qv, QB, QE, QF, nilB, gdS, put1, sv, gs, gb, opd, cst, XW, QK, okS, QL, setAt, bad, dem, QP, QR, QS, QT, QU, QV, QW, QY, stC, QZ, Q2, Q3, Q4, Q5, Q6, Q7, Q8, Q9, Xc, lf, lfs, Xd, Xe, Xg, Xh, Xj, Xk, asP, pOk, Xp, Xt, Nat.reduceBEq, cv, cvL, wrL, Xw, Xy, XA, XB, keep, kp, cand, cor, List.map, List.append, Option.bind, ↓reduceIte, Nat.reduceEqDiff, Nat.reduceAdd, Nat.reduceMul, Nat.reduceLT, Nat.reduceLeDiff, reduceCtorEq, Int.reduceLT, Int.reduceLE, Int.reduceBEq, Int.reduceBNe, Int.reduceAdd, Int.reduceSub, Int.reduceToNat, dq, tya, inqD, isqD]; exact rfl); (repeat (with_reducible first | apply qa | apply qb | apply qc | apply qd | apply qe)))
    refine DV.loop (fun j : Nat => ⟨[(2, .v true (.box 2 0)), (3, .v true (.box 3 0)), (5, .v true (.c (.int .i64 j)))], [(2, some ⟨0, 0, [[.sl (encL inC g.p), .sl (encL inC g.b), .sl (encL ndC g.n), .sl (encL egC g.e)]]⟩), (3, some ⟨0, 0, [[.sl (encL inC g.p), .sl (encL inC g.b), .sl (encL ndC g.n), .sl (encL egC g.e)]]⟩)], []⟩) (fun j => j ≤ g.n.length) (fun j => g.n.length - j) 0 (Nat.zero_le _) (by (refine wk_of [] ?_ ?_ ?_ ?_ ?_ <;> (simp only [false_and, and_false, and_self, XC, XD, XE, XF, XG, XH, XI, convK, XJ, XK, XL, XM, XN, look, XO, XP, XR, XS, XT, XU, XV, encL_nil, encL_app, encL_cons, List.length_append, gdS, put1, sv, gs, gb, QK, setAt, bad, dem, QP, QR, QS, QT, QU, QV, QW, QY, Q2, Q3, lf, lfs, pOk, Nat.reduceBEq, XA, XB, keep, kp, cand, cor, List.map, List.append, Option.bind, ↓reduceIte, Nat.reduceEqDiff, Nat.reduceAdd, Nat.reduceMul, Nat.reduceLT, Nat.reduceLeDiff, reduceCtorEq, Int.reduceLT, Int.reduceLE, Int.reduceBEq, Int.reduceBNe, Int.reduceAdd, Int.reduceSub, Int.reduceToNat, dq, n0]; try trivial))) (fun j hj => ?_)
    (repeat (with_reducible first | apply qa | apply qb | apply qc | apply qd | apply qe))
    by_cases hlt : j < g.n.length
    · obtain ⟨x, hx⟩ : ∃ x, g.n[j]? = some x := ⟨_, List.getElem?_eq_getElem hlt⟩
      have d1 : decide ((j : Int) < (g.n.length : Int)) = true := decide_eq_true (by omega)
      have c1 : (0 : Int) ≤ j := by omega
      have c2 : (j : Int) < (g.n.length : Int) := by omega
      have c3 := encL_get (C := ndC) hx
      have ew := wr1 j (by omega)
      have hpx : x.pr.length ≤ 1073741823 := Nat.le_trans (hpr x (List.mem_of_getElem? hx)) (by decide)
      have y1 : (x.k != x.k) = false := by simp
      have y2 : (x.s != x.s) = false := by simp
      have y3 : (x.a != x.a) = false := by simp
      (apply DV.seqreg; kernel_rfl; (simp only [wpS, wpT, go1, evS, ev, Qc, Qd, Qe, Qg, Qh, Qk, Qo, Qs, Qt, Qu, Qv, QB, QE, QF, nilB, gdS, put1, sv, gs, gb, opd, cst, XW, QK, okS, QL, setAt, bad, dem, QP, QR, QS, QT, QU, QV, QW, QY, stC, QZ, Q2, Q3, Q4, Q5, Q6, Q7, Q8, Q9, Xc, lf, lfs, Xd, Xe, Xg, Xh, Xj, Xk, asP, pOk, Xp, Xt, Nat.reduceBEq, cv, cvL, wrL, Xw, Xy, XA, XB, keep, kp, cand, cor, List.map, List.append, Option.bind, ↓reduceIte, Nat.reduceEqDiff, Nat.reduceAdd, Nat.reduceMul, Nat.reduceLT, Nat.reduceLeDiff, reduceCtorEq, Int.reduceLT, Int.reduceLE, Int.reduceBEq, Int.reduceBNe, Int.reduceAdd, Int.reduceSub, Int.reduceToNat, dq, tya, inqD, isqD, encL_len, d1]; exact rfl); (repeat (with_reducible first | apply qa | apply qb | apply qc | apply qd | apply qe)))
      (refine DV.condT rfl (fun _ => rfl) ?_; (repeat (with_reducible first | apply qa | apply qb | apply qc | apply qd | apply qe)))
      (refine DV.skip ?_; (repeat (with_reducible refine blockD_norm' ?_)); (with_reducible refine thenD_norm' ?_); (repeat (with_reducible first | apply qa | apply qb | apply qc | apply qd | apply qe)))
      (apply DV.seqdrw; kernel_rfl; kernel_rfl; (simp only [wpS, wpT, go1, evS, ev, Qc, Qd, Qe, Qg, Qh, Qk, Qo, Qs, Qt, Qu, Qv, QB, QE, QF, nilB, gdS, put1, sv, gs, gb, opd, cst, XW, QK, okS, QL, setAt, bad, dem, QP, QR, QS, QT, QU, QV, QW, QY, stC, QZ, Q2, Q3, Q4, Q5, Q6, Q7, Q8, Q9, Xc, lf, lfs, Xd, Xe, Xg, Xh, Xj, Xk, asP, pOk, Xp, Xt, Nat.reduceBEq, cv, cvL, wrL, Xw, Xy, XA, XB, keep, kp, cand, cor, List.map, List.append, Option.bind, ↓reduceIte, Nat.reduceEqDiff, Nat.reduceAdd, Nat.reduceMul, Nat.reduceLT, Nat.reduceLeDiff, reduceCtorEq, Int.reduceLT, Int.reduceLE, Int.reduceBEq, Int.reduceBNe, Int.reduceAdd, Int.reduceSub, Int.reduceToNat, dq, tya, inqD, isqD, i2n, encL_len, c1, c2, c3, ndE]; exact ⟨rfl, rfl⟩); kernel_rfl; (repeat (with_reducible first | apply qa | apply qb | apply qc | apply qd | apply qe)))
      (apply DV.seqreg; kernel_rfl; (simp only [wpS, wpT, go1, evS, ev, Qc, Qd, Qe, Qg, Qh, Qk, Qo, Qs, Qt, Qu, Qv, QB, QE, QF, nilB, gdS, put1, sv, gs, gb, opd, cst, XW, QK, okS, QL, setAt, bad, dem, QP, QR, QS, QT, QU, QV, QW, QY, stC, QZ, Q2, Q3, Q4, Q5, Q6, Q7, Q8, Q9, Xc, lf, lfs, Xd, Xe, Xg, Xh, Xj, Xk, asP, pOk, Xp, Xt, Nat.reduceBEq, cv, cvL, wrL, Xw, Xy, XA, XB, keep, kp, cand, cor, List.map, List.append, Option.bind, ↓reduceIte, Nat.reduceEqDiff, Nat.reduceAdd, Nat.reduceMul, Nat.reduceLT, Nat.reduceLeDiff, reduceCtorEq, Int.reduceLT, Int.reduceLE, Int.reduceBEq, Int.reduceBNe, Int.reduceAdd, Int.reduceSub, Int.reduceToNat, dq, tya, inqD, isqD, ndE, y1, y2, y3, decL_encL, isL_enc, hpx]; exact rfl); (repeat (with_reducible first | apply qa | apply qb | apply qc | apply qd | apply qe)))
      (refine DV.condF rfl (fun _ => rfl) ?_; (repeat (with_reducible first | apply qa | apply qb | apply qc | apply qd | apply qe)))
      (refine DV.skip ?_; (repeat (with_reducible refine blockD_norm' ?_)); (with_reducible refine thenD_norm' ?_); (repeat (with_reducible first | apply qa | apply qb | apply qc | apply qd | apply qe)))
      (apply DV.reg; kernel_rfl; (simp only [wpS, wpT, go1, evS, ev, Qc, Qd, Qe, Qg, Qh, Qk, Qo, Qs, Qt, Qu, Qv, QB, QE, QF, nilB, gdS, put1, sv, gs, gb, opd, cst, XW, QK, okS, QL, setAt, bad, dem, QP, QR, QS, QT, QU, QV, QW, QY, stC, QZ, Q2, Q3, Q4, Q5, Q6, Q7, Q8, Q9, Xc, lf, lfs, Xd, Xe, Xg, Xh, Xj, Xk, asP, pOk, Xp, Xt, Nat.reduceBEq, cv, cvL, wrL, Xw, Xy, XA, XB, keep, kp, cand, cor, List.map, List.append, Option.bind, ↓reduceIte, Nat.reduceEqDiff, Nat.reduceAdd, Nat.reduceMul, Nat.reduceLT, Nat.reduceLeDiff, reduceCtorEq, Int.reduceLT, Int.reduceLE, Int.reduceBEq, Int.reduceBNe, Int.reduceAdd, Int.reduceSub, Int.reduceToNat, dq, tya, inqD, isqD, ew]; exact rfl); (repeat (with_reducible refine blockD_norm' ?_)); (try with_reducible refine thenD_norm' ?_); (repeat (with_reducible first | apply qa | apply qb | apply qc | apply qd | apply qe)))
      exact ⟨j + 1, ⟨hlt, by omega⟩, by (refine wk_of [] ?_ ?_ ?_ ?_ ?_ <;> (simp only [false_and, and_false, and_self, XC, XD, XE, XF, XG, XH, XI, convK, XJ, XK, XL, XM, XN, look, XO, XP, XR, XS, XT, XU, XV, encL_nil, encL_app, encL_cons, List.length_append, gdS, put1, sv, gs, gb, QK, setAt, bad, dem, QP, QR, QS, QT, QU, QV, QW, QY, Q2, Q3, lf, lfs, pOk, Nat.reduceBEq, XA, XB, keep, kp, cand, cor, List.map, List.append, Option.bind, ↓reduceIte, Nat.reduceEqDiff, Nat.reduceAdd, Nat.reduceMul, Nat.reduceLT, Nat.reduceLeDiff, reduceCtorEq, Int.reduceLT, Int.reduceLE, Int.reduceBEq, Int.reduceBNe, Int.reduceAdd, Int.reduceSub, Int.reduceToNat, dq]; try trivial))⟩
    obtain rfl : j = g.n.length := by omega
    have d1 : decide ((g.n.length : Int) < (g.n.length : Int)) = false := decide_eq_false (by omega)
    (apply DV.seqreg; kernel_rfl; (simp only [wpS, wpT, go1, evS, ev, Qc, Qd, Qe, Qg, Qh, Qk, Qo, Qs, Qt, Qu, Qv, QB, QE, QF, nilB, gdS, put1, sv, gs, gb, opd, cst, XW, QK, okS, QL, setAt, bad, dem, QP, QR, QS, QT, QU, QV, QW, QY, stC, QZ, Q2, Q3, Q4, Q5, Q6, Q7, Q8, Q9, Xc, lf, lfs, Xd, Xe, Xg, Xh, Xj, Xk, asP, pOk, Xp, Xt, Nat.reduceBEq, cv, cvL, wrL, Xw, Xy, XA, XB, keep, kp, cand, cor, List.map, List.append, Option.bind, ↓reduceIte, Nat.reduceEqDiff, Nat.reduceAdd, Nat.reduceMul, Nat.reduceLT, Nat.reduceLeDiff, reduceCtorEq, Int.reduceLT, Int.reduceLE, Int.reduceBEq, Int.reduceBNe, Int.reduceAdd, Int.reduceSub, Int.reduceToNat, dq, tya, inqD, isqD, encL_len, d1]; exact rfl); (repeat (with_reducible first | apply qa | apply qb | apply qc | apply qd | apply qe)))
    (refine DV.condF rfl (fun _ => rfl) ?_; (repeat (with_reducible first | apply qa | apply qb | apply qc | apply qd | apply qe)))
    (refine DV.exit ?_; (repeat (first | (with_reducible refine thenD_exit' ?_) | (with_reducible refine blockD_other (by decide) ?_))); (with_reducible refine blockD_same ?_); (repeat (with_reducible refine blockD_norm' ?_)); (with_reducible refine thenD_norm' ?_); (repeat (with_reducible first | apply qa | apply qb | apply qc | apply qd | apply qe)))
    (apply DV.seqreg; kernel_rfl; (simp only [wpS, wpT, go1, evS, ev, Qc, Qd, Qe, Qg, Qh, Qk, Qo, Qs, Qt, Qu, Qv, QB, QE, QF, nilB, gdS, put1, sv, gs, gb, opd, cst, XW, QK, okS, QL, setAt, bad, dem, QP, QR, QS, QT, QU, QV, QW, QY, stC, QZ, Q2, Q3, Q4, Q5, Q6, Q7, Q8, Q9, Xc, lf, lfs, Xd, Xe, Xg, Xh, Xj, Xk, asP, pOk, Xp, Xt, Nat.reduceBEq, cv, cvL, wrL, Xw, Xy, XA, XB, keep, kp, cand, cor, List.map, List.append, Option.bind, ↓reduceIte, Nat.reduceEqDiff, Nat.reduceAdd, Nat.reduceMul, Nat.reduceLT, Nat.reduceLeDiff, reduceCtorEq, Int.reduceLT, Int.reduceLE, Int.reduceBEq, Int.reduceBNe, Int.reduceAdd, Int.reduceSub, Int.reduceToNat, dq, tya, inqD, isqD]; exact rfl); (repeat (with_reducible first | apply qa | apply qb | apply qc | apply qd | apply qe)))
    refine DV.loop (fun j : Nat => ⟨[(2, .v true (.box 2 0)), (3, .v true (.box 3 0)), (8, .v true (.c (.int .i64 j)))], [(2, some ⟨0, 0, [[.sl (encL inC g.p), .sl (encL inC g.b), .sl (encL ndC g.n), .sl (encL egC g.e)]]⟩), (3, some ⟨0, 0, [[.sl (encL inC g.p), .sl (encL inC g.b), .sl (encL ndC g.n), .sl (encL egC g.e)]]⟩)], []⟩) (fun j => j ≤ g.e.length) (fun j => g.e.length - j) 0 (Nat.zero_le _) (by (refine wk_of [] ?_ ?_ ?_ ?_ ?_ <;> (simp only [false_and, and_false, and_self, XC, XD, XE, XF, XG, XH, XI, convK, XJ, XK, XL, XM, XN, look, XO, XP, XR, XS, XT, XU, XV, encL_nil, encL_app, encL_cons, List.length_append, gdS, put1, sv, gs, gb, QK, setAt, bad, dem, QP, QR, QS, QT, QU, QV, QW, QY, Q2, Q3, lf, lfs, pOk, Nat.reduceBEq, XA, XB, keep, kp, cand, cor, List.map, List.append, Option.bind, ↓reduceIte, Nat.reduceEqDiff, Nat.reduceAdd, Nat.reduceMul, Nat.reduceLT, Nat.reduceLeDiff, reduceCtorEq, Int.reduceLT, Int.reduceLE, Int.reduceBEq, Int.reduceBNe, Int.reduceAdd, Int.reduceSub, Int.reduceToNat, dq, n0]; try trivial))) (fun j hj => ?_)
    (repeat (with_reducible first | apply qa | apply qb | apply qc | apply qd | apply qe))
    by_cases hlt : j < g.e.length
    · obtain ⟨x, hx⟩ : ∃ x, g.e[j]? = some x := ⟨_, List.getElem?_eq_getElem hlt⟩
      have d1 : decide ((j : Int) < (g.e.length : Int)) = true := decide_eq_true (by omega)
      have c1 : (0 : Int) ≤ j := by omega
      have c2 : (j : Int) < (g.e.length : Int) := by omega
      have c3 := encL_get (C := egC) hx
      have ew := wr1 j (by omega)
      have hq : EqOk Try.prog 78 [D.int .i64 x.f, D.int .i64 x.t, D.int .i64 x.p, D.bool x.x] [D.int .i64 x.f, D.int .i64 x.t, D.int .i64 x.p, D.bool x.x] := eqok78 x.f x.t x.p x.x x.f x.t x.p x.x
      have hqq : (!eqF [D.int .i64 x.f, D.int .i64 x.t, D.int .i64 x.p, D.bool x.x] [D.int .i64 x.f, D.int .i64 x.t, D.int .i64 x.p, D.bool x.x]) = false := by simp [eqF]
      (apply DV.seqreg; kernel_rfl; (simp only [wpS, wpT, go1, evS, ev, Qc, Qd, Qe, Qg, Qh, Qk, Qo, Qs, Qt, Qu, Qv, QB, QE, QF, nilB, gdS, put1, sv, gs, gb, opd, cst, XW, QK, okS, QL, setAt, bad, dem, QP, QR, QS, QT, QU, QV, QW, QY, stC, QZ, Q2, Q3, Q4, Q5, Q6, Q7, Q8, Q9, Xc, lf, lfs, Xd, Xe, Xg, Xh, Xj, Xk, asP, pOk, Xp, Xt, Nat.reduceBEq, cv, cvL, wrL, Xw, Xy, XA, XB, keep, kp, cand, cor, List.map, List.append, Option.bind, ↓reduceIte, Nat.reduceEqDiff, Nat.reduceAdd, Nat.reduceMul, Nat.reduceLT, Nat.reduceLeDiff, reduceCtorEq, Int.reduceLT, Int.reduceLE, Int.reduceBEq, Int.reduceBNe, Int.reduceAdd, Int.reduceSub, Int.reduceToNat, dq, tya, inqD, isqD, encL_len, d1]; exact rfl); (repeat (with_reducible first | apply qa | apply qb | apply qc | apply qd | apply qe)))
      (refine DV.condT rfl (fun _ => rfl) ?_; (repeat (with_reducible first | apply qa | apply qb | apply qc | apply qd | apply qe)))
      (refine DV.skip ?_; (repeat (with_reducible refine blockD_norm' ?_)); (with_reducible refine thenD_norm' ?_); (repeat (with_reducible first | apply qa | apply qb | apply qc | apply qd | apply qe)))
      (apply DV.seqdrw; kernel_rfl; kernel_rfl; (simp only [wpS, wpT, go1, evS, ev, Qc, Qd, Qe, Qg, Qh, Qk, Qo, Qs, Qt, Qu, Qv, QB, QE, QF, nilB, gdS, put1, sv, gs, gb, opd, cst, XW, QK, okS, QL, setAt, bad, dem, QP, QR, QS, QT, QU, QV, QW, QY, stC, QZ, Q2, Q3, Q4, Q5, Q6, Q7, Q8, Q9, Xc, lf, lfs, Xd, Xe, Xg, Xh, Xj, Xk, asP, pOk, Xp, Xt, Nat.reduceBEq, cv, cvL, wrL, Xw, Xy, XA, XB, keep, kp, cand, cor, List.map, List.append, Option.bind, ↓reduceIte, Nat.reduceEqDiff, Nat.reduceAdd, Nat.reduceMul, Nat.reduceLT, Nat.reduceLeDiff, reduceCtorEq, Int.reduceLT, Int.reduceLE, Int.reduceBEq, Int.reduceBNe, Int.reduceAdd, Int.reduceSub, Int.reduceToNat, dq, tya, inqD, isqD, i2n, encL_len, c1, c2, c3, egE, hq, hqq]; exact ⟨rfl, rfl⟩); kernel_rfl; (repeat (with_reducible first | apply qa | apply qb | apply qc | apply qd | apply qe)))
      (refine DV.condF rfl (fun _ => rfl) ?_; (repeat (with_reducible first | apply qa | apply qb | apply qc | apply qd | apply qe)))
      (refine DV.skip ?_; (repeat (with_reducible refine blockD_norm' ?_)); (with_reducible refine thenD_norm' ?_); (repeat (with_reducible first | apply qa | apply qb | apply qc | apply qd | apply qe)))
      (apply DV.reg; kernel_rfl; (simp only [wpS, wpT, go1, evS, ev, Qc, Qd, Qe, Qg, Qh, Qk, Qo, Qs, Qt, Qu, Qv, QB, QE, QF, nilB, gdS, put1, sv, gs, gb, opd, cst, XW, QK, okS, QL, setAt, bad, dem, QP, QR, QS, QT, QU, QV, QW, QY, stC, QZ, Q2, Q3, Q4, Q5, Q6, Q7, Q8, Q9, Xc, lf, lfs, Xd, Xe, Xg, Xh, Xj, Xk, asP, pOk, Xp, Xt, Nat.reduceBEq, cv, cvL, wrL, Xw, Xy, XA, XB, keep, kp, cand, cor, List.map, List.append, Option.bind, ↓reduceIte, Nat.reduceEqDiff, Nat.reduceAdd, Nat.reduceMul, Nat.reduceLT, Nat.reduceLeDiff, reduceCtorEq, Int.reduceLT, Int.reduceLE, Int.reduceBEq, Int.reduceBNe, Int.reduceAdd, Int.reduceSub, Int.reduceToNat, dq, tya, inqD, isqD, ew]; exact rfl); (repeat (with_reducible refine blockD_norm' ?_)); (try with_reducible refine thenD_norm' ?_); (repeat (with_reducible first | apply qa | apply qb | apply qc | apply qd | apply qe)))
      exact ⟨j + 1, ⟨hlt, by omega⟩, by (refine wk_of [] ?_ ?_ ?_ ?_ ?_ <;> (simp only [false_and, and_false, and_self, XC, XD, XE, XF, XG, XH, XI, convK, XJ, XK, XL, XM, XN, look, XO, XP, XR, XS, XT, XU, XV, encL_nil, encL_app, encL_cons, List.length_append, gdS, put1, sv, gs, gb, QK, setAt, bad, dem, QP, QR, QS, QT, QU, QV, QW, QY, Q2, Q3, lf, lfs, pOk, Nat.reduceBEq, XA, XB, keep, kp, cand, cor, List.map, List.append, Option.bind, ↓reduceIte, Nat.reduceEqDiff, Nat.reduceAdd, Nat.reduceMul, Nat.reduceLT, Nat.reduceLeDiff, reduceCtorEq, Int.reduceLT, Int.reduceLE, Int.reduceBEq, Int.reduceBNe, Int.reduceAdd, Int.reduceSub, Int.reduceToNat, dq]; try trivial))⟩
    obtain rfl : j = g.e.length := by omega
    have d1 : decide ((g.e.length : Int) < (g.e.length : Int)) = false := decide_eq_false (by omega)
    (apply DV.seqreg; kernel_rfl; (simp only [wpS, wpT, go1, evS, ev, Qc, Qd, Qe, Qg, Qh, Qk, Qo, Qs, Qt, Qu, Qv, QB, QE, QF, nilB, gdS, put1, sv, gs, gb, opd, cst, XW, QK, okS, QL, setAt, bad, dem, QP, QR, QS, QT, QU, QV, QW, QY, stC, QZ, Q2, Q3, Q4, Q5, Q6, Q7, Q8, Q9, Xc, lf, lfs, Xd, Xe, Xg, Xh, Xj, Xk, asP, pOk, Xp, Xt, Nat.reduceBEq, cv, cvL, wrL, Xw, Xy, XA, XB, keep, kp, cand, cor, List.map, List.append, Option.bind, ↓reduceIte, Nat.reduceEqDiff, Nat.reduceAdd, Nat.reduceMul, Nat.reduceLT, Nat.reduceLeDiff, reduceCtorEq, Int.reduceLT, Int.reduceLE, Int.reduceBEq, Int.reduceBNe, Int.reduceAdd, Int.reduceSub, Int.reduceToNat, dq, tya, inqD, isqD, encL_len, d1]; exact rfl); (repeat (with_reducible first | apply qa | apply qb | apply qc | apply qd | apply qe)))
    (refine DV.condF rfl (fun _ => rfl) ?_; (repeat (with_reducible first | apply qa | apply qb | apply qc | apply qd | apply qe)))
    (refine DV.exit ?_; (repeat (first | (with_reducible refine thenD_exit' ?_) | (with_reducible refine blockD_other (by decide) ?_))); (with_reducible refine blockD_same ?_); (repeat (with_reducible refine blockD_norm' ?_)); (with_reducible refine thenD_norm' ?_); (repeat (with_reducible first | apply qa | apply qb | apply qc | apply qd | apply qe)))
    (apply DV.seqreg; kernel_rfl; (simp only [wpS, wpT, go1, evS, ev, Qc, Qd, Qe, Qg, Qh, Qk, Qo, Qs, Qt, Qu, Qv, QB, QE, QF, nilB, gdS, put1, sv, gs, gb, opd, cst, XW, QK, okS, QL, setAt, bad, dem, QP, QR, QS, QT, QU, QV, QW, QY, stC, QZ, Q2, Q3, Q4, Q5, Q6, Q7, Q8, Q9, Xc, lf, lfs, Xd, Xe, Xg, Xh, Xj, Xk, asP, pOk, Xp, Xt, Nat.reduceBEq, cv, cvL, wrL, Xw, Xy, XA, XB, keep, kp, cand, cor, List.map, List.append, Option.bind, ↓reduceIte, Nat.reduceEqDiff, Nat.reduceAdd, Nat.reduceMul, Nat.reduceLT, Nat.reduceLeDiff, reduceCtorEq, Int.reduceLT, Int.reduceLE, Int.reduceBEq, Int.reduceBNe, Int.reduceAdd, Int.reduceSub, Int.reduceToNat, dq, tya, inqD, isqD]; exact rfl); (repeat (with_reducible first | apply qa | apply qb | apply qc | apply qd | apply qe)))
    (refine DV.ret ?_; (repeat (first | (with_reducible refine thenD_ret' ?_) | (with_reducible refine blockD_ret' ?_))); (with_reducible refine retD_ret' ?_); (try simp only [resOk, resL, rvS, toR, noMu, wpS, wpT, go1, evS, ev, Qc, Qd, Qe, Qg, Qh, Qk, Qo, Qs, Qt, Qu, Qv, QB, QE, QF, nilB, gdS, put1, sv, gs, gb, opd, cst, XW, QK, okS, QL, setAt, bad, dem, QP, QR, QS, QT, QU, QV, QW, QY, stC, QZ, Q2, Q3, Q4, Q5, Q6, Q7, Q8, Q9, Xc, lf, lfs, Xd, Xe, Xg, Xh, Xj, Xk, asP, pOk, Xp, Xt, Nat.reduceBEq, cv, cvL, wrL, Xw, Xy, XA, XB, keep, kp, cand, cor, List.map, List.append, Option.bind, ↓reduceIte, Nat.reduceEqDiff, Nat.reduceAdd, Nat.reduceMul, Nat.reduceLT, Nat.reduceLeDiff, reduceCtorEq, Int.reduceLT, Int.reduceLE, Int.reduceBEq, Int.reduceBNe, Int.reduceAdd, Int.reduceSub, Int.reduceToNat, dq, tya, inqD, isqD]))
  · exact h.elim
set_option maxHeartbeats 16000000 in
theorem bc_walk (l : List Sp) (k : Int) : Cal Try.prog 6 [.c (.sl (encL spC l)), .c (.int .i64 k)] (.one (.c (.bool true))) := by
  refine DV.of (Γ := ⟨[(21, awk30D), (22, shoD), (23, graD), (25, pilD), (26, sagD)], [], []⟩) (rs := [ResultVar.tmp 4]) [0, 1, 4, 5, 6, 8, 9, 10, 11, 14, 27, 35, 46, 53] ⟨by intro p hp; simp only [List.mem_cons, List.not_mem_nil, or_false] at hp; rcases hp with rfl | rfl | rfl | rfl | rfl; exact awk30_cal; exact sho_cal; exact gra_cal; exact pil_cal; exact sag_cal, nofun⟩ (by kernel_rfl) Try.func6 rfl rfl (by kernel_rfl) rfl ?_; (repeat (with_reducible first | apply qa | apply qb | apply qc | apply qd | apply qe))
  obtain ⟨b0, hb0⟩ : ∃ b, shoS l = b := ⟨_, rfl⟩
  obtain ⟨b1, hb1⟩ : ∃ b, decide (k < 0) = b := ⟨_, rfl⟩
  obtain ⟨b2, hb2⟩ : ∃ b, decide ((l.length : Int) < k) = b := ⟨_, rfl⟩
  obtain ⟨bq, hbq⟩ : ∃ b, ((!b0 || b1) || b2) = b := ⟨_, rfl⟩
  (apply DV.seqreg; kernel_rfl; (simp only [wpS, wpT, go1, evS, ev, Qc, Qd, Qe, Qg, Qh, Qr, Qs, Qt, Qv, Qw, Qy, Qz, QB, QD, QE, QF, nilB, gdS, put1, sv, gs, gb, opd, cst, XW, QK, okS, QL, setAt, QM, QN, QO, bnd, bad, dem, QP, QR, QS, QT, QU, QV, QW, QY, stC, QZ, Q2, Q3, Q4, Q5, Q6, Q7, Q8, Q9, Xc, lf, lfs, Xd, Xe, Xg, Xh, Xj, Xk, Xm, Xo, asP, pOk, Xp, Xt, Xv, Nat.reduceBEq, cv, cvL, wrL, Xw, Xy, Xz, XA, XB, keep, kp, cand, cor, List.map, List.append, Option.bind, ↓reduceIte, Nat.reduceEqDiff, Nat.reduceAdd, Nat.reduceMul, Nat.reduceLT, Nat.reduceLeDiff, reduceCtorEq, Int.reduceLT, Int.reduceLE, Int.reduceBEq, Int.reduceBNe, Int.reduceAdd, Int.reduceSub, Int.reduceToNat, dq, tya, awk30D, shoD, graD, pilD, sagD]; exact rfl); (repeat (with_reducible first | apply qa | apply qb | apply qc | apply qd | apply qe)))
  (apply DV.seqreg; kernel_rfl; (simp only [wpS, wpT, go1, evS, ev, Qc, Qd, Qe, Qg, Qh, Qr, Qs, Qt, Qv, Qw, Qy, Qz, QB, QD, QE, QF, nilB, gdS, put1, sv, gs, gb, opd, cst, XW, QK, okS, QL, setAt, QM, QN, QO, bnd, bad, dem, QP, QR, QS, QT, QU, QV, QW, QY, stC, QZ, Q2, Q3, Q4, Q5, Q6, Q7, Q8, Q9, Xc, lf, lfs, Xd, Xe, Xg, Xh, Xj, Xk, Xm, Xo, asP, pOk, Xp, Xt, Xv, Nat.reduceBEq, cv, cvL, wrL, Xw, Xy, Xz, XA, XB, keep, kp, cand, cor, List.map, List.append, Option.bind, ↓reduceIte, Nat.reduceEqDiff, Nat.reduceAdd, Nat.reduceMul, Nat.reduceLT, Nat.reduceLeDiff, reduceCtorEq, Int.reduceLT, Int.reduceLE, Int.reduceBEq, Int.reduceBNe, Int.reduceAdd, Int.reduceSub, Int.reduceToNat, dq, tya, awk30D, shoD, graD, pilD, sagD]; exact rfl); (repeat (with_reducible first | apply qa | apply qb | apply qc | apply qd | apply qe)))
  (refine DV.condF rfl (fun _ => rfl) ?_; (repeat (with_reducible first | apply qa | apply qb | apply qc | apply qd | apply qe)))
  (refine DV.skip ?_; (repeat (with_reducible refine blockD_norm' ?_)); (with_reducible refine thenD_norm' ?_); (repeat (with_reducible first | apply qa | apply qb | apply qc | apply qd | apply qe)))
  (apply DV.seqreg; kernel_rfl; (simp only [wpS, wpT, go1, evS, ev, Qc, Qd, Qe, Qg, Qh, Qr, Qs, Qt, Qv, Qw, Qy, Qz, QB, QD, QE, QF, nilB, gdS, put1, sv, gs, gb, opd, cst, XW, QK, okS, QL, setAt, QM, QN, QO, bnd, bad, dem, QP, QR, QS, QT, QU, QV, QW, QY, stC, QZ, Q2, Q3, Q4, Q5, Q6, Q7, Q8, Q9, Xc, lf, lfs, Xd, Xe, Xg, Xh, Xj, Xk, Xm, Xo, asP, pOk, Xp, Xt, Xv, Nat.reduceBEq, cv, cvL, wrL, Xw, Xy, Xz, XA, XB, keep, kp, cand, cor, List.map, List.append, Option.bind, ↓reduceIte, Nat.reduceEqDiff, Nat.reduceAdd, Nat.reduceMul, Nat.reduceLT, Nat.reduceLeDiff, reduceCtorEq, Int.reduceLT, Int.reduceLE, Int.reduceBEq, Int.reduceBNe, Int.reduceAdd, Int.reduceSub, Int.reduceToNat, dq, tya, awk30D, shoD, graD, pilD, sagD, decL_encL, isL_enc, encL_len, hb0, hb1, hb2, hbq]; exact rfl); (repeat (with_reducible first | apply qa | apply qb | apply qc | apply qd | apply qe)))
  cases bq
  rotate_left 1
  · (refine DV.condT rfl (fun _ => rfl) ?_; (repeat (with_reducible first | apply qa | apply qb | apply qc | apply qd | apply qe)))
    (apply DV.seqreg; kernel_rfl; (simp only [wpS, wpT, go1, evS, ev, Qc, Qd, Qe, Qg, Qh, Qr, Qs, Qt, Qv, Qw, Qy, Qz, QB, QD, QE, QF, nilB, gdS, put1, sv, gs, gb, opd, cst, XW, QK, okS, QL, setAt, QM, QN, QO, bnd, bad, dem, QP, QR, QS, QT, QU, QV, QW, QY, stC, QZ, Q2, Q3, Q4, Q5, Q6, Q7, Q8, Q9, Xc, lf, lfs, Xd, Xe, Xg, Xh, Xj, Xk, Xm, Xo, asP, pOk, Xp, Xt, Xv, Nat.reduceBEq, cv, cvL, wrL, Xw, Xy, Xz, XA, XB, keep, kp, cand, cor, List.map, List.append, Option.bind, ↓reduceIte, Nat.reduceEqDiff, Nat.reduceAdd, Nat.reduceMul, Nat.reduceLT, Nat.reduceLeDiff, reduceCtorEq, Int.reduceLT, Int.reduceLE, Int.reduceBEq, Int.reduceBNe, Int.reduceAdd, Int.reduceSub, Int.reduceToNat, dq, tya, awk30D, shoD, graD, pilD, sagD]; exact rfl); (repeat (with_reducible first | apply qa | apply qb | apply qc | apply qd | apply qe)))
    (refine DV.ret ?_; (repeat (first | (with_reducible refine thenD_ret' ?_) | (with_reducible refine blockD_ret' ?_))); (with_reducible refine retD_ret' ?_); (try simp only [resOk, resL, rvS, toR, noMu, wpS, wpT, go1, evS, ev, Qc, Qd, Qe, Qg, Qh, Qr, Qs, Qt, Qv, Qw, Qy, Qz, QB, QD, QE, QF, nilB, gdS, put1, sv, gs, gb, opd, cst, XW, QK, okS, QL, setAt, QM, QN, QO, bnd, bad, dem, QP, QR, QS, QT, QU, QV, QW, QY, stC, QZ, Q2, Q3, Q4, Q5, Q6, Q7, Q8, Q9, Xc, lf, lfs, Xd, Xe, Xg, Xh, Xj, Xk, Xm, Xo, asP, pOk, Xp, Xt, Xv, Nat.reduceBEq, cv, cvL, wrL, Xw, Xy, Xz, XA, XB, keep, kp, cand, cor, List.map, List.append, Option.bind, ↓reduceIte, Nat.reduceEqDiff, Nat.reduceAdd, Nat.reduceMul, Nat.reduceLT, Nat.reduceLeDiff, reduceCtorEq, Int.reduceLT, Int.reduceLE, Int.reduceBEq, Int.reduceBNe, Int.reduceAdd, Int.reduceSub, Int.reduceToNat, dq, tya, awk30D, shoD, graD, pilD, sagD]))
  (refine DV.condF rfl (fun _ => rfl) ?_; (repeat (with_reducible first | apply qa | apply qb | apply qc | apply qd | apply qe)))
  (refine DV.skip ?_; (repeat (with_reducible refine blockD_norm' ?_)); (with_reducible refine thenD_norm' ?_); (repeat (with_reducible first | apply qa | apply qb | apply qc | apply qd | apply qe)))
  simp only [Bool.or_eq_false_iff, Bool.not_eq_false'] at hbq
  obtain ⟨⟨rfl, rfl⟩, rfl⟩ := hbq
  have k0 : 0 ≤ k := by have := of_decide_eq_false hb1; omega
  have k1 : k ≤ (l.length : Int) := by have := of_decide_eq_false hb2; omega
  obtain ⟨hl1, hso⟩ := sho_ok hb0
  have hcl := copies_law l k.toNat
  have hsh := gra_sh hso
  obtain ⟨R, hR⟩ : ∃ R, graS l = R := ⟨_, rfl⟩
  rw [hR] at hcl hsh
  obtain ⟨g, er, at_⟩ := R
  dsimp only at hcl hsh
  have hR1 : (graS l).1 = g := by rw [hR]
  have hR2 : (graS l).2.1 = er := by rw [hR]
  have hR3 : (graS l).2.2 = at_ := by rw [hR]
  (apply DV.seqreg; kernel_rfl; (simp only [wpS, wpT, go1, evS, ev, Qc, Qd, Qe, Qg, Qh, Qr, Qs, Qt, Qv, Qw, Qy, Qz, QB, QD, QE, QF, nilB, gdS, put1, sv, gs, gb, opd, cst, XW, QK, okS, QL, setAt, QM, QN, QO, bnd, bad, dem, QP, QR, QS, QT, QU, QV, QW, QY, stC, QZ, Q2, Q3, Q4, Q5, Q6, Q7, Q8, Q9, Xc, lf, lfs, Xd, Xe, Xg, Xh, Xj, Xk, Xm, Xo, asP, pOk, Xp, Xt, Xv, Nat.reduceBEq, cv, cvL, wrL, Xw, Xy, Xz, XA, XB, keep, kp, cand, cor, List.map, List.append, Option.bind, ↓reduceIte, Nat.reduceEqDiff, Nat.reduceAdd, Nat.reduceMul, Nat.reduceLT, Nat.reduceLeDiff, reduceCtorEq, Int.reduceLT, Int.reduceLE, Int.reduceBEq, Int.reduceBNe, Int.reduceAdd, Int.reduceSub, Int.reduceToNat, dq, tya, awk30D, shoD, graD, pilD, sagD, decL_encL, isL_enc, hso, hR1, hR2, hR3, grE]; exact rfl); (repeat (with_reducible first | apply qa | apply qb | apply qc | apply qd | apply qe)))
  obtain ⟨be, hbe⟩ : ∃ b, (er != 0) = b := ⟨_, rfl⟩
  (apply DV.seqreg; kernel_rfl; (simp only [wpS, wpT, go1, evS, ev, Qc, Qd, Qe, Qg, Qh, Qr, Qs, Qt, Qv, Qw, Qy, Qz, QB, QD, QE, QF, nilB, gdS, put1, sv, gs, gb, opd, cst, XW, QK, okS, QL, setAt, QM, QN, QO, bnd, bad, dem, QP, QR, QS, QT, QU, QV, QW, QY, stC, QZ, Q2, Q3, Q4, Q5, Q6, Q7, Q8, Q9, Xc, lf, lfs, Xd, Xe, Xg, Xh, Xj, Xk, Xm, Xo, asP, pOk, Xp, Xt, Xv, Nat.reduceBEq, cv, cvL, wrL, Xw, Xy, Xz, XA, XB, keep, kp, cand, cor, List.map, List.append, Option.bind, ↓reduceIte, Nat.reduceEqDiff, Nat.reduceAdd, Nat.reduceMul, Nat.reduceLT, Nat.reduceLeDiff, reduceCtorEq, Int.reduceLT, Int.reduceLE, Int.reduceBEq, Int.reduceBNe, Int.reduceAdd, Int.reduceSub, Int.reduceToNat, dq, tya, awk30D, shoD, graD, pilD, sagD, hbe]; exact rfl); (repeat (with_reducible first | apply qa | apply qb | apply qc | apply qd | apply qe)))
  cases be
  rotate_left 1
  · (refine DV.condT rfl (fun _ => rfl) ?_; (repeat (with_reducible first | apply qa | apply qb | apply qc | apply qd | apply qe)))
    (apply DV.seqreg; kernel_rfl; (simp only [wpS, wpT, go1, evS, ev, Qc, Qd, Qe, Qg, Qh, Qr, Qs, Qt, Qv, Qw, Qy, Qz, QB, QD, QE, QF, nilB, gdS, put1, sv, gs, gb, opd, cst, XW, QK, okS, QL, setAt, QM, QN, QO, bnd, bad, dem, QP, QR, QS, QT, QU, QV, QW, QY, stC, QZ, Q2, Q3, Q4, Q5, Q6, Q7, Q8, Q9, Xc, lf, lfs, Xd, Xe, Xg, Xh, Xj, Xk, Xm, Xo, asP, pOk, Xp, Xt, Xv, Nat.reduceBEq, cv, cvL, wrL, Xw, Xy, Xz, XA, XB, keep, kp, cand, cor, List.map, List.append, Option.bind, ↓reduceIte, Nat.reduceEqDiff, Nat.reduceAdd, Nat.reduceMul, Nat.reduceLT, Nat.reduceLeDiff, reduceCtorEq, Int.reduceLT, Int.reduceLE, Int.reduceBEq, Int.reduceBNe, Int.reduceAdd, Int.reduceSub, Int.reduceToNat, dq, tya, awk30D, shoD, graD, pilD, sagD]; exact rfl); (repeat (with_reducible first | apply qa | apply qb | apply qc | apply qd | apply qe)))
    (refine DV.ret ?_; (repeat (first | (with_reducible refine thenD_ret' ?_) | (with_reducible refine blockD_ret' ?_))); (with_reducible refine retD_ret' ?_); (try simp only [resOk, resL, rvS, toR, noMu, wpS, wpT, go1, evS, ev, Qc, Qd, Qe, Qg, Qh, Qr, Qs, Qt, Qv, Qw, Qy, Qz, QB, QD, QE, QF, nilB, gdS, put1, sv, gs, gb, opd, cst, XW, QK, okS, QL, setAt, QM, QN, QO, bnd, bad, dem, QP, QR, QS, QT, QU, QV, QW, QY, stC, QZ, Q2, Q3, Q4, Q5, Q6, Q7, Q8, Q9, Xc, lf, lfs, Xd, Xe, Xg, Xh, Xj, Xk, Xm, Xo, asP, pOk, Xp, Xt, Xv, Nat.reduceBEq, cv, cvL, wrL, Xw, Xy, Xz, XA, XB, keep, kp, cand, cor, List.map, List.append, Option.bind, ↓reduceIte, Nat.reduceEqDiff, Nat.reduceAdd, Nat.reduceMul, Nat.reduceLT, Nat.reduceLeDiff, reduceCtorEq, Int.reduceLT, Int.reduceLE, Int.reduceBEq, Int.reduceBNe, Int.reduceAdd, Int.reduceSub, Int.reduceToNat, dq, tya, awk30D, shoD, graD, pilD, sagD]))
  have her : er = 0 := by simpa using hbe
  obtain ⟨l1, l2⟩ := hcl her
  have hgd : grC.dec [D.sl (encL inC g.p), D.sl (encL inC g.b), D.sl (encL ndC g.n), D.sl (encL egC g.e)] = g := grC.de g
  obtain ⟨A, hA⟩ : ∃ A, l.take k.toNat = A := ⟨_, rfl⟩
  obtain ⟨B, hB⟩ : ∃ B, l.drop k.toNat = B := ⟨_, rfl⟩
  rw [hA, hB] at l1 l2
  have hAl : A.length ≤ 100 := by rw [← hA, List.length_take]; omega
  have hBl : B.length ≤ 100 := by rw [← hB, List.length_drop]; omega
  have hmA : ∀ s ∈ A, s.pr.length ≤ 1000000 := fun s hs => hso.pr s (List.mem_of_mem_take (by rw [hA]; exact hs))
  have hmB : ∀ s ∈ B, s.pr.length ≤ 1000000 := fun s hs => hso.pr s (List.mem_of_mem_drop (by rw [hB]; exact hs))
  have hoA : SpOk A := ⟨by omega, hmA⟩
  obtain ⟨hi, hhi⟩ : ∃ h, pilS A = h := ⟨_, rfl⟩
  rw [hhi] at l1 l2
  have hc2 : cpy.length = 2 := rfl
  have hs2 : swp2.length = 2 := rfl
  have hmem : ∀ s ∈ A ++ mid hi ++ B, s.pr.length ≤ 1000000 := fun s hs => by
    rcases List.mem_append.1 hs with hs | hs
    · rcases List.mem_append.1 hs with hs | hs
      · exact hmA s hs
      · unfold mid at hs
        have hz : s.pr = [] := by
          rcases List.mem_append.1 hs with hs | hs
          · split at hs
            · rcases List.mem_cons.1 hs with rfl | hs
              · rfl
              · obtain rfl := List.mem_singleton.1 hs
                rfl
            · cases hs
          · split at hs
            · rcases List.mem_cons.1 hs with rfl | hs
              · rfl
              · obtain rfl := List.mem_singleton.1 hs
                rfl
            · cases hs
        rw [hz]
        exact Nat.zero_le _
    · exact hmB s hs
  have z0 : ((0 : Int) == 0) = true := rfl
  have al := sp_all l
  have htl : (encL spC l).take l.length = encL spC l := by rw [encL_take, List.take_length]
  have aA := sp_all A
  have aB := sp_all B
  have q1 := Lib.hid (capOk_of (n := A.length) (by omega))
  have q2 := Lib.hid (capB (n := A.length) (k := 48) (by omega) (by decide))
  (refine DV.condF rfl (fun _ => rfl) ?_; (repeat (with_reducible first | apply qa | apply qb | apply qc | apply qd | apply qe)))
  (refine DV.skip ?_; (repeat (with_reducible refine blockD_norm' ?_)); (with_reducible refine thenD_norm' ?_); (repeat (with_reducible first | apply qa | apply qb | apply qc | apply qd | apply qe)))
  (apply DV.seqreg; kernel_rfl; (simp only [wpS, wpT, go1, evS, ev, Qc, Qd, Qe, Qg, Qh, Qr, Qs, Qt, Qv, Qw, Qy, Qz, QB, QD, QE, QF, nilB, gdS, put1, sv, gs, gb, opd, cst, XW, QK, okS, QL, setAt, QM, QN, QO, bnd, bad, dem, QP, QR, QS, QT, QU, QV, QW, QY, stC, QZ, Q2, Q3, Q4, Q5, Q6, Q7, Q8, Q9, Xc, lf, lfs, Xd, Xe, Xg, Xh, Xj, Xk, Xm, Xo, asP, pOk, Xp, Xt, Xv, Nat.reduceBEq, cv, cvL, wrL, Xw, Xy, Xz, XA, XB, keep, kp, cand, cor, List.map, List.append, Option.bind, ↓reduceIte, Nat.reduceEqDiff, Nat.reduceAdd, Nat.reduceMul, Nat.reduceLT, Nat.reduceLeDiff, reduceCtorEq, Int.reduceLT, Int.reduceLE, Int.reduceBEq, Int.reduceBNe, Int.reduceAdd, Int.reduceSub, Int.reduceToNat, dq, tya, awk30D, shoD, graD, pilD, sagD, i2n, encL_len, encL_take, k0, k1, hA, al, decL_encL, isL_enc, hoA, hhi]; exact rfl); (repeat (with_reducible first | apply qa | apply qb | apply qc | apply qd | apply qe)))
  (apply DV.seqreg; kernel_rfl; (simp only [wpS, wpT, go1, evS, ev, Qc, Qd, Qe, Qg, Qh, Qr, Qs, Qt, Qv, Qw, Qy, Qz, QB, QD, QE, QF, nilB, gdS, put1, sv, gs, gb, opd, cst, XW, QK, okS, QL, setAt, QM, QN, QO, bnd, bad, dem, QP, QR, QS, QT, QU, QV, QW, QY, stC, QZ, Q2, Q3, Q4, Q5, Q6, Q7, Q8, Q9, Xc, lf, lfs, Xd, Xe, Xg, Xh, Xj, Xk, Xm, Xo, asP, pOk, Xp, Xt, Xv, Nat.reduceBEq, cv, cvL, wrL, Xw, Xy, Xz, XA, XB, keep, kp, cand, cor, List.map, List.append, Option.bind, ↓reduceIte, Nat.reduceEqDiff, Nat.reduceAdd, Nat.reduceMul, Nat.reduceLT, Nat.reduceLeDiff, reduceCtorEq, Int.reduceLT, Int.reduceLE, Int.reduceBEq, Int.reduceBNe, Int.reduceAdd, Int.reduceSub, Int.reduceToNat, dq, tya, awk30D, shoD, graD, pilD, sagD, i2n, encL_len, encL_take, k0, k1, hA, al, aA, q1.out, q2.out, range0, range1]; exact rfl); (repeat (with_reducible first | apply qa | apply qb | apply qc | apply qd | apply qe)))
  obtain ⟨c1, hc1⟩ : ∃ b, decide (1 ≤ hi) = b := ⟨_, rfl⟩
  obtain ⟨c2, hc2'⟩ : ∃ b, decide (2 ≤ hi) = b := ⟨_, rfl⟩
  (apply DV.seqreg; kernel_rfl; (simp only [wpS, wpT, go1, evS, ev, Qc, Qd, Qe, Qg, Qh, Qr, Qs, Qt, Qv, Qw, Qy, Qz, QB, QD, QE, QF, nilB, gdS, put1, sv, gs, gb, opd, cst, XW, QK, okS, QL, setAt, QM, QN, QO, bnd, bad, dem, QP, QR, QS, QT, QU, QV, QW, QY, stC, QZ, Q2, Q3, Q4, Q5, Q6, Q7, Q8, Q9, Xc, lf, lfs, Xd, Xe, Xg, Xh, Xj, Xk, Xm, Xo, asP, pOk, Xp, Xt, Xv, Nat.reduceBEq, cv, cvL, wrL, Xw, Xy, Xz, XA, XB, keep, kp, cand, cor, List.map, List.append, Option.bind, ↓reduceIte, Nat.reduceEqDiff, Nat.reduceAdd, Nat.reduceMul, Nat.reduceLT, Nat.reduceLeDiff, reduceCtorEq, Int.reduceLT, Int.reduceLE, Int.reduceBEq, Int.reduceBNe, Int.reduceAdd, Int.reduceSub, Int.reduceToNat, dq, tya, awk30D, shoD, graD, pilD, sagD, hc1]; exact rfl); (repeat (with_reducible first | apply qa | apply qb | apply qc | apply qd | apply qe)))
  cases c1
  · have hn : ¬ 1 ≤ hi := of_decide_eq_false hc1
    have hX : A ++ mid hi = A := by unfold mid; rw [if_neg hn, if_neg (by omega), List.append_nil, List.append_nil]
    have hc2'' : decide (2 ≤ hi) = false := decide_eq_false (by omega)
    (refine DV.condF rfl (fun _ => rfl) ?_; (repeat (with_reducible first | apply qa | apply qb | apply qc | apply qd | apply qe)))
    (refine DV.skip ?_; (repeat (with_reducible refine blockD_norm' ?_)); (with_reducible refine thenD_norm' ?_); (repeat (with_reducible first | apply qa | apply qb | apply qc | apply qd | apply qe)))
    (apply DV.seqreg; kernel_rfl; (simp only [wpS, wpT, go1, evS, ev, Qc, Qd, Qe, Qg, Qh, Qr, Qs, Qt, Qv, Qw, Qy, Qz, QB, QD, QE, QF, nilB, gdS, put1, sv, gs, gb, opd, cst, XW, QK, okS, QL, setAt, QM, QN, QO, bnd, bad, dem, QP, QR, QS, QT, QU, QV, QW, QY, stC, QZ, Q2, Q3, Q4, Q5, Q6, Q7, Q8, Q9, Xc, lf, lfs, Xd, Xe, Xg, Xh, Xj, Xk, Xm, Xo, asP, pOk, Xp, Xt, Xv, Nat.reduceBEq, cv, cvL, wrL, Xw, Xy, Xz, XA, XB, keep, kp, cand, cor, List.map, List.append, Option.bind, ↓reduceIte, Nat.reduceEqDiff, Nat.reduceAdd, Nat.reduceMul, Nat.reduceLT, Nat.reduceLeDiff, reduceCtorEq, Int.reduceLT, Int.reduceLE, Int.reduceBEq, Int.reduceBNe, Int.reduceAdd, Int.reduceSub, Int.reduceToNat, dq, tya, awk30D, shoD, graD, pilD, sagD, hc2'']; exact rfl); (repeat (with_reducible first | apply qa | apply qb | apply qc | apply qd | apply qe)))
    (refine DV.condF rfl (fun _ => rfl) ?_; (repeat (with_reducible first | apply qa | apply qb | apply qc | apply qd | apply qe)))
    (refine DV.skip ?_; (repeat (with_reducible refine blockD_norm' ?_)); (with_reducible refine thenD_norm' ?_); (repeat (with_reducible first | apply qa | apply qb | apply qc | apply qd | apply qe)))
    rw [hX] at l1 l2 hmem
    obtain ⟨M, hM⟩ : ∃ M, A ++ B = M := ⟨_, rfl⟩
    rw [hM] at l1 l2 hmem
    have hMl : M.length = A.length + B.length := by rw [← hM, List.length_append]
    have hrow : encL spC A ++ encL spC B = encL spC M := by rw [← hM, encL_app]
    have hms : SpOk M := ⟨by omega, hmem⟩
    obtain ⟨a2, ha2⟩ : ∃ a, (graS M).2.2 = a := ⟨_, rfl⟩
    have q5 := Lib.hid (capOk_of (n := A.length + B.length) (by omega))
    have q6 := Lib.hid (capB (n := A.length + B.length) (k := 48) (by omega) (by decide))
    (apply DV.seqreg; kernel_rfl; (simp only [wpS, wpT, go1, evS, ev, Qc, Qd, Qe, Qg, Qh, Qr, Qs, Qt, Qv, Qw, Qy, Qz, QB, QD, QE, QF, nilB, gdS, put1, sv, gs, gb, opd, cst, XW, QK, okS, QL, setAt, QM, QN, QO, bnd, bad, dem, QP, QR, QS, QT, QU, QV, QW, QY, stC, QZ, Q2, Q3, Q4, Q5, Q6, Q7, Q8, Q9, Xc, lf, lfs, Xd, Xe, Xg, Xh, Xj, Xk, Xm, Xo, asP, pOk, Xp, Xt, Xv, Nat.reduceBEq, cv, cvL, wrL, Xw, Xy, Xz, XA, XB, keep, kp, cand, cor, List.map, List.append, Option.bind, ↓reduceIte, Nat.reduceEqDiff, Nat.reduceAdd, Nat.reduceMul, Nat.reduceLT, Nat.reduceLeDiff, reduceCtorEq, Int.reduceLT, Int.reduceLE, Int.reduceBEq, Int.reduceBNe, Int.reduceAdd, Int.reduceSub, Int.reduceToNat, dq, tya, awk30D, shoD, graD, pilD, sagD, i2n, encL_len, htl, Int.le_refl, encL_drop, k0, k1, hB, al, hrow, aA, aB, q5.out, q6.out, range1]; exact rfl); (repeat (with_reducible first | apply qa | apply qb | apply qc | apply qd | apply qe)))
    (apply DV.seqreg; kernel_rfl; (simp only [wpS, wpT, go1, evS, ev, Qc, Qd, Qe, Qg, Qh, Qr, Qs, Qt, Qv, Qw, Qy, Qz, QB, QD, QE, QF, nilB, gdS, put1, sv, gs, gb, opd, cst, XW, QK, okS, QL, setAt, QM, QN, QO, bnd, bad, dem, QP, QR, QS, QT, QU, QV, QW, QY, stC, QZ, Q2, Q3, Q4, Q5, Q6, Q7, Q8, Q9, Xc, lf, lfs, Xd, Xe, Xg, Xh, Xj, Xk, Xm, Xo, asP, pOk, Xp, Xt, Xv, Nat.reduceBEq, cv, cvL, wrL, Xw, Xy, Xz, XA, XB, keep, kp, cand, cor, List.map, List.append, Option.bind, ↓reduceIte, Nat.reduceEqDiff, Nat.reduceAdd, Nat.reduceMul, Nat.reduceLT, Nat.reduceLeDiff, reduceCtorEq, Int.reduceLT, Int.reduceLE, Int.reduceBEq, Int.reduceBNe, Int.reduceAdd, Int.reduceSub, Int.reduceToNat, dq, tya, awk30D, shoD, graD, pilD, sagD, decL_encL, isL_enc, hms, l1, l2, ha2, grE]; exact rfl); (repeat (with_reducible first | apply qa | apply qb | apply qc | apply qd | apply qe)))
    (apply DV.seqreg; kernel_rfl; (simp only [wpS, wpT, go1, evS, ev, Qc, Qd, Qe, Qg, Qh, Qr, Qs, Qt, Qv, Qw, Qy, Qz, QB, QD, QE, QF, nilB, gdS, put1, sv, gs, gb, opd, cst, XW, QK, okS, QL, setAt, QM, QN, QO, bnd, bad, dem, QP, QR, QS, QT, QU, QV, QW, QY, stC, QZ, Q2, Q3, Q4, Q5, Q6, Q7, Q8, Q9, Xc, lf, lfs, Xd, Xe, Xg, Xh, Xj, Xk, Xm, Xo, asP, pOk, Xp, Xt, Xv, Nat.reduceBEq, cv, cvL, wrL, Xw, Xy, Xz, XA, XB, keep, kp, cand, cor, List.map, List.append, Option.bind, ↓reduceIte, Nat.reduceEqDiff, Nat.reduceAdd, Nat.reduceMul, Nat.reduceLT, Nat.reduceLeDiff, reduceCtorEq, Int.reduceLT, Int.reduceLE, Int.reduceBEq, Int.reduceBNe, Int.reduceAdd, Int.reduceSub, Int.reduceToNat, dq, tya, awk30D, shoD, graD, pilD, sagD, grE, hgd, hsh, z0]; exact rfl); (repeat (with_reducible first | apply qa | apply qb | apply qc | apply qd | apply qe)))
    (refine DV.ret ?_; (repeat (first | (with_reducible refine thenD_ret' ?_) | (with_reducible refine blockD_ret' ?_))); (with_reducible refine retD_ret' ?_); (try simp only [resOk, resL, rvS, toR, noMu, wpS, wpT, go1, evS, ev, Qc, Qd, Qe, Qg, Qh, Qr, Qs, Qt, Qv, Qw, Qy, Qz, QB, QD, QE, QF, nilB, gdS, put1, sv, gs, gb, opd, cst, XW, QK, okS, QL, setAt, QM, QN, QO, bnd, bad, dem, QP, QR, QS, QT, QU, QV, QW, QY, stC, QZ, Q2, Q3, Q4, Q5, Q6, Q7, Q8, Q9, Xc, lf, lfs, Xd, Xe, Xg, Xh, Xj, Xk, Xm, Xo, asP, pOk, Xp, Xt, Xv, Nat.reduceBEq, cv, cvL, wrL, Xw, Xy, Xz, XA, XB, keep, kp, cand, cor, List.map, List.append, Option.bind, ↓reduceIte, Nat.reduceEqDiff, Nat.reduceAdd, Nat.reduceMul, Nat.reduceLT, Nat.reduceLeDiff, reduceCtorEq, Int.reduceLT, Int.reduceLE, Int.reduceBEq, Int.reduceBNe, Int.reduceAdd, Int.reduceSub, Int.reduceToNat, dq, tya, awk30D, shoD, graD, pilD, sagD]))
  have hy : 1 ≤ hi := of_decide_eq_true hc1
  obtain ⟨X1, hX1⟩ : ∃ X, A ++ cpy = X := ⟨_, rfl⟩
  have hX1l : X1.length = A.length + 2 := by rw [← hX1, List.length_append]; rfl
  have hr1 : encL spC A ++ [[D.int .i64 4, D.int .i64 0, D.int .i64 0, D.sl []], [D.int .i64 8, D.int .i64 0, D.int .i64 0, D.sl []]] = encL spC X1 := by rw [← hX1, encL_app]; rfl
  have n1 : A.length + 2 = X1.length := hX1l.symm
  have q3 := Lib.hid (capOk_of (n := A.length + 2) (by omega))
  have q4 := Lib.hid (capB (n := A.length + 2) (k := 48) (by omega) (by decide))
  have aX1 := sp_all X1
  (refine DV.condT rfl (fun _ => rfl) ?_; (repeat (with_reducible first | apply qa | apply qb | apply qc | apply qd | apply qe)))
  (apply DV.reg; kernel_rfl; (simp only [wpS, wpT, go1, evS, ev, Qc, Qd, Qe, Qg, Qh, Qr, Qs, Qt, Qv, Qw, Qy, Qz, QB, QD, QE, QF, nilB, gdS, put1, sv, gs, gb, opd, cst, XW, QK, okS, QL, setAt, QM, QN, QO, bnd, bad, dem, QP, QR, QS, QT, QU, QV, QW, QY, stC, QZ, Q2, Q3, Q4, Q5, Q6, Q7, Q8, Q9, Xc, lf, lfs, Xd, Xe, Xg, Xh, Xj, Xk, Xm, Xo, asP, pOk, Xp, Xt, Xv, Nat.reduceBEq, cv, cvL, wrL, Xw, Xy, Xz, XA, XB, keep, kp, cand, cor, List.map, List.append, Option.bind, ↓reduceIte, Nat.reduceEqDiff, Nat.reduceAdd, Nat.reduceMul, Nat.reduceLT, Nat.reduceLeDiff, reduceCtorEq, Int.reduceLT, Int.reduceLE, Int.reduceBEq, Int.reduceBNe, Int.reduceAdd, Int.reduceSub, Int.reduceToNat, dq, tya, awk30D, shoD, graD, pilD, sagD, encL_len, aA, q3.out, q4.out, range1, range0, hr1]; exact rfl); (repeat (with_reducible refine blockD_norm' ?_)); (try with_reducible refine thenD_norm' ?_); (repeat (with_reducible first | apply qa | apply qb | apply qc | apply qd | apply qe)))
  trace_state
  (apply DV.seqreg; kernel_rfl; (simp only [wpS, wpT, go1, evS, ev, Qc, Qd, Qe, Qg, Qh, Qr, Qs, Qt, Qv, Qw, Qy, Qz, QB, QD, QE, QF, nilB, gdS, put1, sv, gs, gb, opd, cst, XW, QK, okS, QL, setAt, QM, QN, QO, bnd, bad, dem, QP, QR, QS, QT, QU, QV, QW, QY, stC, QZ, Q2, Q3, Q4, Q5, Q6, Q7, Q8, Q9, Xc, lf, lfs, Xd, Xe, Xg, Xh, Xj, Xk, Xm, Xo, asP, pOk, Xp, Xt, Xv, Nat.reduceBEq, cv, cvL, wrL, Xw, Xy, Xz, XA, XB, keep, kp, cand, cor, List.map, List.append, Option.bind, ↓reduceIte, Nat.reduceEqDiff, Nat.reduceAdd, Nat.reduceMul, Nat.reduceLT, Nat.reduceLeDiff, reduceCtorEq, Int.reduceLT, Int.reduceLE, Int.reduceBEq, Int.reduceBNe, Int.reduceAdd, Int.reduceSub, Int.reduceToNat, dq, tya, awk30D, shoD, graD, pilD, sagD, hc2']; exact rfl); (repeat (with_reducible first | apply qa | apply qb | apply qc | apply qd | apply qe)))
  cases c2
  · have hn : ¬ 2 ≤ hi := of_decide_eq_false hc2'
    have hX : A ++ mid hi = X1 := by unfold mid; rw [if_pos hy, if_neg hn, List.append_nil]; exact hX1
    (refine DV.condF rfl (fun _ => rfl) ?_; (repeat (with_reducible first | apply qa | apply qb | apply qc | apply qd | apply qe)))
    (refine DV.skip ?_; (repeat (with_reducible refine blockD_norm' ?_)); (with_reducible refine thenD_norm' ?_); (repeat (with_reducible first | apply qa | apply qb | apply qc | apply qd | apply qe)))
    rw [hX] at l1 l2 hmem
    obtain ⟨M, hM⟩ : ∃ M, X1 ++ B = M := ⟨_, rfl⟩
    rw [hM] at l1 l2 hmem
    have hMl : M.length = X1.length + B.length := by rw [← hM, List.length_append]
    have hrow : encL spC X1 ++ encL spC B = encL spC M := by rw [← hM, encL_app]
    have hms : SpOk M := ⟨by omega, hmem⟩
    obtain ⟨a2, ha2⟩ : ∃ a, (graS M).2.2 = a := ⟨_, rfl⟩
    have q5 := Lib.hid (capOk_of (n := X1.length + B.length) (by omega))
    have q6 := Lib.hid (capB (n := X1.length + B.length) (k := 48) (by omega) (by decide))
    (apply DV.seqreg; kernel_rfl; (simp only [wpS, wpT, go1, evS, ev, Qc, Qd, Qe, Qg, Qh, Qr, Qs, Qt, Qv, Qw, Qy, Qz, QB, QD, QE, QF, nilB, gdS, put1, sv, gs, gb, opd, cst, XW, QK, okS, QL, setAt, QM, QN, QO, bnd, bad, dem, QP, QR, QS, QT, QU, QV, QW, QY, stC, QZ, Q2, Q3, Q4, Q5, Q6, Q7, Q8, Q9, Xc, lf, lfs, Xd, Xe, Xg, Xh, Xj, Xk, Xm, Xo, asP, pOk, Xp, Xt, Xv, Nat.reduceBEq, cv, cvL, wrL, Xw, Xy, Xz, XA, XB, keep, kp, cand, cor, List.map, List.append, Option.bind, ↓reduceIte, Nat.reduceEqDiff, Nat.reduceAdd, Nat.reduceMul, Nat.reduceLT, Nat.reduceLeDiff, reduceCtorEq, Int.reduceLT, Int.reduceLE, Int.reduceBEq, Int.reduceBNe, Int.reduceAdd, Int.reduceSub, Int.reduceToNat, dq, tya, awk30D, shoD, graD, pilD, sagD, i2n, encL_len, htl, Int.le_refl, encL_drop, k0, k1, hB, al, hrow, aX1, aB, q5.out, q6.out, range1, n1]; exact rfl); (repeat (with_reducible first | apply qa | apply qb | apply qc | apply qd | apply qe)))
    (apply DV.seqreg; kernel_rfl; (simp only [wpS, wpT, go1, evS, ev, Qc, Qd, Qe, Qg, Qh, Qr, Qs, Qt, Qv, Qw, Qy, Qz, QB, QD, QE, QF, nilB, gdS, put1, sv, gs, gb, opd, cst, XW, QK, okS, QL, setAt, QM, QN, QO, bnd, bad, dem, QP, QR, QS, QT, QU, QV, QW, QY, stC, QZ, Q2, Q3, Q4, Q5, Q6, Q7, Q8, Q9, Xc, lf, lfs, Xd, Xe, Xg, Xh, Xj, Xk, Xm, Xo, asP, pOk, Xp, Xt, Xv, Nat.reduceBEq, cv, cvL, wrL, Xw, Xy, Xz, XA, XB, keep, kp, cand, cor, List.map, List.append, Option.bind, ↓reduceIte, Nat.reduceEqDiff, Nat.reduceAdd, Nat.reduceMul, Nat.reduceLT, Nat.reduceLeDiff, reduceCtorEq, Int.reduceLT, Int.reduceLE, Int.reduceBEq, Int.reduceBNe, Int.reduceAdd, Int.reduceSub, Int.reduceToNat, dq, tya, awk30D, shoD, graD, pilD, sagD, decL_encL, isL_enc, hms, l1, l2, ha2, grE]; exact rfl); (repeat (with_reducible first | apply qa | apply qb | apply qc | apply qd | apply qe)))
    (apply DV.seqreg; kernel_rfl; (simp only [wpS, wpT, go1, evS, ev, Qc, Qd, Qe, Qg, Qh, Qr, Qs, Qt, Qv, Qw, Qy, Qz, QB, QD, QE, QF, nilB, gdS, put1, sv, gs, gb, opd, cst, XW, QK, okS, QL, setAt, QM, QN, QO, bnd, bad, dem, QP, QR, QS, QT, QU, QV, QW, QY, stC, QZ, Q2, Q3, Q4, Q5, Q6, Q7, Q8, Q9, Xc, lf, lfs, Xd, Xe, Xg, Xh, Xj, Xk, Xm, Xo, asP, pOk, Xp, Xt, Xv, Nat.reduceBEq, cv, cvL, wrL, Xw, Xy, Xz, XA, XB, keep, kp, cand, cor, List.map, List.append, Option.bind, ↓reduceIte, Nat.reduceEqDiff, Nat.reduceAdd, Nat.reduceMul, Nat.reduceLT, Nat.reduceLeDiff, reduceCtorEq, Int.reduceLT, Int.reduceLE, Int.reduceBEq, Int.reduceBNe, Int.reduceAdd, Int.reduceSub, Int.reduceToNat, dq, tya, awk30D, shoD, graD, pilD, sagD, grE, hgd, hsh, z0]; exact rfl); (repeat (with_reducible first | apply qa | apply qb | apply qc | apply qd | apply qe)))
    (refine DV.ret ?_; (repeat (first | (with_reducible refine thenD_ret' ?_) | (with_reducible refine blockD_ret' ?_))); (with_reducible refine retD_ret' ?_); (try simp only [resOk, resL, rvS, toR, noMu, wpS, wpT, go1, evS, ev, Qc, Qd, Qe, Qg, Qh, Qr, Qs, Qt, Qv, Qw, Qy, Qz, QB, QD, QE, QF, nilB, gdS, put1, sv, gs, gb, opd, cst, XW, QK, okS, QL, setAt, QM, QN, QO, bnd, bad, dem, QP, QR, QS, QT, QU, QV, QW, QY, stC, QZ, Q2, Q3, Q4, Q5, Q6, Q7, Q8, Q9, Xc, lf, lfs, Xd, Xe, Xg, Xh, Xj, Xk, Xm, Xo, asP, pOk, Xp, Xt, Xv, Nat.reduceBEq, cv, cvL, wrL, Xw, Xy, Xz, XA, XB, keep, kp, cand, cor, List.map, List.append, Option.bind, ↓reduceIte, Nat.reduceEqDiff, Nat.reduceAdd, Nat.reduceMul, Nat.reduceLT, Nat.reduceLeDiff, reduceCtorEq, Int.reduceLT, Int.reduceLE, Int.reduceBEq, Int.reduceBNe, Int.reduceAdd, Int.reduceSub, Int.reduceToNat, dq, tya, awk30D, shoD, graD, pilD, sagD]))
  have hy2 : 2 ≤ hi := of_decide_eq_true hc2'
  obtain ⟨X2, hX2⟩ : ∃ X, X1 ++ swp2 = X := ⟨_, rfl⟩
  have hX2l : X2.length = X1.length + 2 := by rw [← hX2, List.length_append]; rfl
  have hr2 : encL spC X1 ++ [[D.int .i64 5, D.int .i64 0, D.int .i64 0, D.sl []], [D.int .i64 5, D.int .i64 0, D.int .i64 0, D.sl []]] = encL spC X2 := by rw [← hX2, encL_app]; rfl
  have n2 : X1.length + 2 = X2.length := hX2l.symm
  have q7 := Lib.hid (capOk_of (n := X1.length + 2) (by omega))
  have q8 := Lib.hid (capB (n := X1.length + 2) (k := 48) (by omega) (by decide))
  have aX2 := sp_all X2
  have hX : A ++ mid hi = X2 := by unfold mid; rw [if_pos hy, if_pos hy2, ← hX2, ← hX1, List.append_assoc]
  (refine DV.condT rfl (fun _ => rfl) ?_; (repeat (with_reducible first | apply qa | apply qb | apply qc | apply qd | apply qe)))
  (apply DV.reg; kernel_rfl; (simp only [wpS, wpT, go1, evS, ev, Qc, Qd, Qe, Qg, Qh, Qr, Qs, Qt, Qv, Qw, Qy, Qz, QB, QD, QE, QF, nilB, gdS, put1, sv, gs, gb, opd, cst, XW, QK, okS, QL, setAt, QM, QN, QO, bnd, bad, dem, QP, QR, QS, QT, QU, QV, QW, QY, stC, QZ, Q2, Q3, Q4, Q5, Q6, Q7, Q8, Q9, Xc, lf, lfs, Xd, Xe, Xg, Xh, Xj, Xk, Xm, Xo, asP, pOk, Xp, Xt, Xv, Nat.reduceBEq, cv, cvL, wrL, Xw, Xy, Xz, XA, XB, keep, kp, cand, cor, List.map, List.append, Option.bind, ↓reduceIte, Nat.reduceEqDiff, Nat.reduceAdd, Nat.reduceMul, Nat.reduceLT, Nat.reduceLeDiff, reduceCtorEq, Int.reduceLT, Int.reduceLE, Int.reduceBEq, Int.reduceBNe, Int.reduceAdd, Int.reduceSub, Int.reduceToNat, dq, tya, awk30D, shoD, graD, pilD, sagD, encL_len, aX1, q7.out, q8.out, range1, range0, hr2, n1]; exact rfl); (repeat (with_reducible refine blockD_norm' ?_)); (try with_reducible refine thenD_norm' ?_); (repeat (with_reducible first | apply qa | apply qb | apply qc | apply qd | apply qe)))
  rw [hX] at l1 l2 hmem
  obtain ⟨M, hM⟩ : ∃ M, X2 ++ B = M := ⟨_, rfl⟩
  rw [hM] at l1 l2 hmem
  have hMl : M.length = X2.length + B.length := by rw [← hM, List.length_append]
  have hrow : encL spC X2 ++ encL spC B = encL spC M := by rw [← hM, encL_app]
  have hms : SpOk M := ⟨by omega, hmem⟩
  obtain ⟨a2, ha2⟩ : ∃ a, (graS M).2.2 = a := ⟨_, rfl⟩
  have q5 := Lib.hid (capOk_of (n := X2.length + B.length) (by omega))
  have q6 := Lib.hid (capB (n := X2.length + B.length) (k := 48) (by omega) (by decide))
  (apply DV.seqreg; kernel_rfl; (simp only [wpS, wpT, go1, evS, ev, Qc, Qd, Qe, Qg, Qh, Qr, Qs, Qt, Qv, Qw, Qy, Qz, QB, QD, QE, QF, nilB, gdS, put1, sv, gs, gb, opd, cst, XW, QK, okS, QL, setAt, QM, QN, QO, bnd, bad, dem, QP, QR, QS, QT, QU, QV, QW, QY, stC, QZ, Q2, Q3, Q4, Q5, Q6, Q7, Q8, Q9, Xc, lf, lfs, Xd, Xe, Xg, Xh, Xj, Xk, Xm, Xo, asP, pOk, Xp, Xt, Xv, Nat.reduceBEq, cv, cvL, wrL, Xw, Xy, Xz, XA, XB, keep, kp, cand, cor, List.map, List.append, Option.bind, ↓reduceIte, Nat.reduceEqDiff, Nat.reduceAdd, Nat.reduceMul, Nat.reduceLT, Nat.reduceLeDiff, reduceCtorEq, Int.reduceLT, Int.reduceLE, Int.reduceBEq, Int.reduceBNe, Int.reduceAdd, Int.reduceSub, Int.reduceToNat, dq, tya, awk30D, shoD, graD, pilD, sagD, i2n, encL_len, htl, Int.le_refl, encL_drop, k0, k1, hB, al, hrow, aX2, aB, q5.out, q6.out, range1, n1, n2]; exact rfl); (repeat (with_reducible first | apply qa | apply qb | apply qc | apply qd | apply qe)))
  (apply DV.seqreg; kernel_rfl; (simp only [wpS, wpT, go1, evS, ev, Qc, Qd, Qe, Qg, Qh, Qr, Qs, Qt, Qv, Qw, Qy, Qz, QB, QD, QE, QF, nilB, gdS, put1, sv, gs, gb, opd, cst, XW, QK, okS, QL, setAt, QM, QN, QO, bnd, bad, dem, QP, QR, QS, QT, QU, QV, QW, QY, stC, QZ, Q2, Q3, Q4, Q5, Q6, Q7, Q8, Q9, Xc, lf, lfs, Xd, Xe, Xg, Xh, Xj, Xk, Xm, Xo, asP, pOk, Xp, Xt, Xv, Nat.reduceBEq, cv, cvL, wrL, Xw, Xy, Xz, XA, XB, keep, kp, cand, cor, List.map, List.append, Option.bind, ↓reduceIte, Nat.reduceEqDiff, Nat.reduceAdd, Nat.reduceMul, Nat.reduceLT, Nat.reduceLeDiff, reduceCtorEq, Int.reduceLT, Int.reduceLE, Int.reduceBEq, Int.reduceBNe, Int.reduceAdd, Int.reduceSub, Int.reduceToNat, dq, tya, awk30D, shoD, graD, pilD, sagD, decL_encL, isL_enc, hms, l1, l2, ha2, grE]; exact rfl); (repeat (with_reducible first | apply qa | apply qb | apply qc | apply qd | apply qe)))
  (apply DV.seqreg; kernel_rfl; (simp only [wpS, wpT, go1, evS, ev, Qc, Qd, Qe, Qg, Qh, Qr, Qs, Qt, Qv, Qw, Qy, Qz, QB, QD, QE, QF, nilB, gdS, put1, sv, gs, gb, opd, cst, XW, QK, okS, QL, setAt, QM, QN, QO, bnd, bad, dem, QP, QR, QS, QT, QU, QV, QW, QY, stC, QZ, Q2, Q3, Q4, Q5, Q6, Q7, Q8, Q9, Xc, lf, lfs, Xd, Xe, Xg, Xh, Xj, Xk, Xm, Xo, asP, pOk, Xp, Xt, Xv, Nat.reduceBEq, cv, cvL, wrL, Xw, Xy, Xz, XA, XB, keep, kp, cand, cor, List.map, List.append, Option.bind, ↓reduceIte, Nat.reduceEqDiff, Nat.reduceAdd, Nat.reduceMul, Nat.reduceLT, Nat.reduceLeDiff, reduceCtorEq, Int.reduceLT, Int.reduceLE, Int.reduceBEq, Int.reduceBNe, Int.reduceAdd, Int.reduceSub, Int.reduceToNat, dq, tya, awk30D, shoD, graD, pilD, sagD, grE, hgd, hsh, z0]; exact rfl); (repeat (with_reducible first | apply qa | apply qb | apply qc | apply qd | apply qe)))
  (refine DV.ret ?_; (repeat (first | (with_reducible refine thenD_ret' ?_) | (with_reducible refine blockD_ret' ?_))); (with_reducible refine retD_ret' ?_); (try simp only [resOk, resL, rvS, toR, noMu, wpS, wpT, go1, evS, ev, Qc, Qd, Qe, Qg, Qh, Qr, Qs, Qt, Qv, Qw, Qy, Qz, QB, QD, QE, QF, nilB, gdS, put1, sv, gs, gb, opd, cst, XW, QK, okS, QL, setAt, QM, QN, QO, bnd, bad, dem, QP, QR, QS, QT, QU, QV, QW, QY, stC, QZ, Q2, Q3, Q4, Q5, Q6, Q7, Q8, Q9, Xc, lf, lfs, Xd, Xe, Xg, Xh, Xj, Xk, Xm, Xo, asP, pOk, Xp, Xt, Xv, Nat.reduceBEq, cv, cvL, wrL, Xw, Xy, Xz, XA, XB, keep, kp, cand, cor, List.map, List.append, Option.bind, ↓reduceIte, Nat.reduceEqDiff, Nat.reduceAdd, Nat.reduceMul, Nat.reduceLT, Nat.reduceLeDiff, reduceCtorEq, Int.reduceLT, Int.reduceLE, Int.reduceBEq, Int.reduceBNe, Int.reduceAdd, Int.reduceSub, Int.reduceToNat, dq, tya, awk30D, shoD, graD, pilD, sagD]))
theorem walk_BuildCopies (l : List Sp) {p : Sp → Prop} (_ : ∀ x ∈ l, p x) (_ : l.length ≤ maxLen) (k : Int) (_ : (-9223372036854775808 : Int) ≤ k ∧ k ≤ 9223372036854775807) : Cal Try.prog 6 [.c (.sl (encL spC l)), .c (.int .i64 k)] (.one (.c (.bool true))) := bc_walk l k
end Go.Proofs.Ytkmgdejpdhlleaa.Dq
