/- Graphs put together step by step, by deep values: all steps, Graph, Pile. -/
import Derived.Test.YtkmgdejpdhlleaaBu4
import Derived.Test.YtkmgdejpdhlleaaBuQ
import Derived.Test.YtkmgdejpdhlleaaVa3
namespace Go.Proofs.Ytkmgdejpdhlleaa.Dq
set_option linter.unusedSimpArgs false
set_option linter.unusedVariables false
set_option maxRecDepth 100000
open Go.RowKit
open Va

structure AlOk (v : Bs) (l : List Sp) : Prop where
  ok : Ok v
  f : Fit v 10
  len : l.length ≤ 1000
  pr : ∀ s ∈ l, s.pr.length ≤ 1000000
theorem do_ok {v : Bs} {s : Sp} (h : Ok v) (hf : Fit v 70000) (hp : s.pr.length ≤ 1000000) (hm : mayI v s = 0) : DoOk v s := by
  obtain ⟨h0, h23, h7, h1f, ht⟩ := may_0 hm
  obtain ⟨t1, t5, t0⟩ := tks_of (s := s)
  have hfl := h.flo.1
  have hh : higI v = (v.q : Int) - floI v := rfl
  refine ⟨hf, hp, fun e => ?_, fun e => ?_, fun e => ?_, fun e => ?_⟩
  · have := t1 e
    have := (portsI_bd s.nd).1
    omega
  · rcases e with e | e | e | e | e
    · have := t0 (.inl e); omega
    · have := t0 (.inr (.inl e)); omega
    · have := t5 e; omega
    · have := t0 (.inr (.inr (.inl e))); omega
    · have := t0 (.inr (.inr (.inr (.inr e)))); omega
  · have := t5 e; omega
  · have := t0 (.inr (.inr (.inr (.inl e))))
    have r0 := h7 e
    have hl := lp_last h.r r0
    obtain ⟨⟨b0, b1⟩, f0, f1⟩ := h.at_ _ _ (by omega) hl
    have hfe : floI v = (lpAt v).f := by unfold floI; rw [if_pos r0]
    exact ⟨by omega, r0, hf.le (by decide), b0, b1, f0, by omega⟩
def allL : List S1 → Bt → (V1 × Bt) × Prop
  | [.box 4000 0, .c (.sl l)], bs => ((.tup [.c (.int .i64 (allS (decL spC l) 0 (deB bs)).2.1), .c (.int .i64 (allS (decL spC l) 0 (deB bs)).2.2)], enB ((allS (decL spC l) 0 (deB bs)).1)), bs = enB (deB bs) ∧ isL spC l ∧ AlOk (deB bs) (decL spC l))
  | _, _ => ((.one (.c (.bool false)), []), False)
set_option maxHeartbeats 16000000 in
theorem all_g (xs : List S1) (bs : Bt) (h : (allL xs bs).2) : CalG Try.prog 72 xs bs (allL xs bs).1.1 (allL xs bs).1.2 := by
  unfold allL at h ⊢
  split at h
  · rename_i l0
    obtain ⟨hb, ho⟩ := h
    obtain ⟨v, hv⟩ : ∃ v, deB bs = v := ⟨_, rfl⟩
    rw [hv] at hb ho ⊢
    subst hb
    clear hv
    obtain ⟨hl, hok, hf, hlen, hpr⟩ := ho
    obtain ⟨l, rfl⟩ : ∃ z, l0 = encL spC z := ⟨_, hl.symm⟩
    rw [decL_encL] at hlen hpr ⊢
    clear hl
    obtain ⟨R, hR⟩ : ∃ y, allS l 0 v = y := ⟨_, rfl⟩
    rw [hR]
    obtain ⟨v1, e, at_⟩ := R
    dsimp only
    unfold enB
    refine DV.ofG (Γ := ⟨[(118, bmaD)], [(119, locP [4000, 5000, 5001, 5002, 5003, 5004, 5005] dooL)], []⟩) (rs := [ResultVar.tmp 4, ResultVar.tmp 5]) [0, 1, 4, 5, 6, 7, 8, 9, 10, 11, 12, 20] ⟨by intro p hp; simp only [List.mem_singleton] at hp; subst hp; exact bma_cal, by intro p hp args bx d h; simp only [List.mem_singleton] at hp; subst hp; exact calM_pr doo_g h⟩ (by kernel_rfl) Try.func72 rfl rfl (by kernel_rfl) rfl ?_; (repeat (with_reducible first | apply qa | apply qb | apply qc | apply qd | apply qe))
    (apply DV.seqreg; kernel_rfl; (simp only [wpS, wpT, go1, evS, ev, Qc, Qd, Qg, Qo, Qs, Qt, Qv, QB, QE, QF, nilB, gdS, put1, sv, gs, gb, opd, cst, XW, QK, okS, QL, setAt, bad, dem, QP, QR, QS, QT, QU, QV, QW, QY, stC, QZ, Q2, Q3, Q4, Q5, Q6, Q7, Q8, Q9, Xc, lf, lfs, Xd, Xe, Xg, Xh, Xj, Xk, asP, pOk, Xp, Xt, Nat.reduceBEq, cv, cvL, wrL, Xw, Xy, XA, XB, keep, kp, cand, cor, List.map, List.append, Option.bind, ↓reduceIte, Nat.reduceEqDiff, Nat.reduceAdd, Nat.reduceMul, Nat.reduceLT, Nat.reduceLeDiff, reduceCtorEq, Int.reduceLT, Int.reduceLE, Int.reduceBEq, Int.reduceBNe, Int.reduceAdd, Int.reduceSub, Int.reduceToNat, dq, tya, bmaD, dooL]; exact rfl); (repeat (with_reducible first | apply qa | apply qb | apply qc | apply qd | apply qe)))
    (apply DV.seqreg; kernel_rfl; (simp only [wpS, wpT, go1, evS, ev, Qc, Qd, Qg, Qo, Qs, Qt, Qv, QB, QE, QF, nilB, gdS, put1, sv, gs, gb, opd, cst, XW, QK, okS, QL, setAt, bad, dem, QP, QR, QS, QT, QU, QV, QW, QY, stC, QZ, Q2, Q3, Q4, Q5, Q6, Q7, Q8, Q9, Xc, lf, lfs, Xd, Xe, Xg, Xh, Xj, Xk, asP, pOk, Xp, Xt, Nat.reduceBEq, cv, cvL, wrL, Xw, Xy, XA, XB, keep, kp, cand, cor, List.map, List.append, Option.bind, ↓reduceIte, Nat.reduceEqDiff, Nat.reduceAdd, Nat.reduceMul, Nat.reduceLT, Nat.reduceLeDiff, reduceCtorEq, Int.reduceLT, Int.reduceLE, Int.reduceBEq, Int.reduceBNe, Int.reduceAdd, Int.reduceSub, Int.reduceToNat, dq, tya, bmaD, dooL, encL_len]; exact rfl); (repeat (with_reducible first | apply qa | apply qb | apply qc | apply qd | apply qe)))
    refine DV.loop (fun p : Nat × Bs => ⟨[(0, .v true (.box 4000 0)), (9, .v true (.c (.sl (encL spC l)))), (10, .v true (.c (.int .i64 l.length))), (11, .v true (.c (.int .i64 p.1)))], [(4000, some ⟨0, 0, [[.lk 5000 p.2.p.length, .lk 5001 p.2.b.length, .lk 5002 p.2.n.length, .lk 5003 p.2.e.length, .lk 5004 p.2.q, .lk 5005 p.2.r]]⟩), (5000, some ⟨3, 1, encL inC p.2.p⟩), (5001, some ⟨3, 1, encL inC p.2.b⟩), (5002, some ⟨60, 4, encL ndC p.2.n⟩), (5003, some ⟨78, 4, encL egC p.2.e⟩), (5004, some ⟨3, 1, encL inC p.2.P⟩), (5005, some ⟨181, 3, encL lpC p.2.L⟩)], []⟩) (fun p => p.1 ≤ l.length ∧ allS (l.drop p.1) p.1 p.2 = (v1, e, at_) ∧ Ok p.2 ∧ Fit p.2 (10 + 10 * p.1)) (fun p => l.length - p.1) (0, v) ⟨Nat.zero_le _, hR, hok, hf⟩ (by (refine wk_of [] ?_ ?_ ?_ ?_ ?_ <;> (simp only [false_and, and_false, and_self, XC, XD, XE, XF, XG, XH, XI, convK, XJ, XK, XL, XM, XN, look, XO, XP, XR, XS, XT, XU, XV, encL_nil, encL_app, encL_cons, List.length_append, gdS, put1, sv, gs, gb, QK, setAt, bad, dem, QP, QR, QS, QT, QU, QV, QW, QY, Q2, Q3, lf, lfs, pOk, Nat.reduceBEq, XA, XB, keep, kp, cand, cor, List.map, List.append, Option.bind, ↓reduceIte, Nat.reduceEqDiff, Nat.reduceAdd, Nat.reduceMul, Nat.reduceLT, Nat.reduceLeDiff, reduceCtorEq, Int.reduceLT, Int.reduceLE, Int.reduceBEq, Int.reduceBNe, Int.reduceAdd, Int.reduceSub, Int.reduceToNat, dq, n0]; try trivial))) (fun p hp => ?_)
    obtain ⟨j, u⟩ := p
    dsimp only at hp ⊢
    obtain ⟨hj, hR, hok, hf⟩ := hp
    (repeat (with_reducible first | apply qa | apply qb | apply qc | apply qd | apply qe))
    by_cases hlt : j < l.length
    · obtain ⟨s, hs⟩ : ∃ s, l[j]? = some s := ⟨_, List.getElem?_eq_getElem hlt⟩
      have d1 : decide ((j : Int) < (l.length : Int)) = true := decide_eq_true (by omega)
      have c1 : (0 : Int) ≤ j := by omega
      have c2 : (j : Int) < (l.length : Int) := by omega
      have c3 := encL_get (C := spC) hs
      have ew := wr1 j (by omega)
      have hsd : spC.dec [D.int .i64 s.k, D.int .i64 s.nd, D.int .i64 s.a, D.sl (encL isC s.pr)] = s := spC.de s
      have hps := hpr s (List.mem_of_getElem? hs)
      have hpq : (u.P.take u.q).length = u.q := by rw [List.length_take]; have := hf.q; omega
      have hur := hf.r
      have huq := hf.q
      have k5 : (u.L.take u.r).length ≤ 1000000 := by rw [List.length_take]; have := hf.n.L; omega
      have k6 : u.q ≤ 1000000 := by have := hf.n.q; omega
      obtain ⟨er, her⟩ : ∃ x, mayI u s = x := ⟨_, rfl⟩
      have hvm : mayI (vw u.q (u.L.take u.r)) s = er := by rw [vw_may hf.r]; exact her
      have hfe : floI (vw u.q (u.L.take u.r)) = floI u := by
        have := vw_hig (v := u) hf.r
        have h1 : (u.q : Int) - floI (vw u.q (u.L.take u.r)) = (u.q : Int) - floI u := this
        omega
      have g0 : 0 ≤ floI u := hok.flo.1.1
      have g1 : floI u ≤ 1000000 := by have := hok.flo.1.2; omega
      rw [all_at hs, her] at hR
      (apply DV.seqreg; kernel_rfl; (simp only [wpS, wpT, go1, evS, ev, Qc, Qd, Qg, Qo, Qs, Qt, Qv, QB, QE, QF, nilB, gdS, put1, sv, gs, gb, opd, cst, XW, QK, okS, QL, setAt, bad, dem, QP, QR, QS, QT, QU, QV, QW, QY, stC, QZ, Q2, Q3, Q4, Q5, Q6, Q7, Q8, Q9, Xc, lf, lfs, Xd, Xe, Xg, Xh, Xj, Xk, asP, pOk, Xp, Xt, Nat.reduceBEq, cv, cvL, wrL, Xw, Xy, XA, XB, keep, kp, cand, cor, List.map, List.append, Option.bind, ↓reduceIte, Nat.reduceEqDiff, Nat.reduceAdd, Nat.reduceMul, Nat.reduceLT, Nat.reduceLeDiff, reduceCtorEq, Int.reduceLT, Int.reduceLE, Int.reduceBEq, Int.reduceBNe, Int.reduceAdd, Int.reduceSub, Int.reduceToNat, dq, tya, bmaD, dooL, d1]; exact rfl); (repeat (with_reducible first | apply qa | apply qb | apply qc | apply qd | apply qe)))
      (refine DV.condT rfl (fun _ => rfl) ?_; (repeat (with_reducible first | apply qa | apply qb | apply qc | apply qd | apply qe)))
      (refine DV.skip ?_; (repeat (with_reducible refine blockD_norm' ?_)); (with_reducible refine thenD_norm' ?_); (repeat (with_reducible first | apply qa | apply qb | apply qc | apply qd | apply qe)))
      (apply DV.seqreg; kernel_rfl; (simp only [wpS, wpT, go1, evS, ev, Qc, Qd, Qg, Qo, Qs, Qt, Qv, QB, QE, QF, nilB, gdS, put1, sv, gs, gb, opd, cst, XW, QK, okS, QL, setAt, bad, dem, QP, QR, QS, QT, QU, QV, QW, QY, stC, QZ, Q2, Q3, Q4, Q5, Q6, Q7, Q8, Q9, Xc, lf, lfs, Xd, Xe, Xg, Xh, Xj, Xk, asP, pOk, Xp, Xt, Nat.reduceBEq, cv, cvL, wrL, Xw, Xy, XA, XB, keep, kp, cand, cor, List.map, List.append, Option.bind, ↓reduceIte, Nat.reduceEqDiff, Nat.reduceAdd, Nat.reduceMul, Nat.reduceLT, Nat.reduceLeDiff, reduceCtorEq, Int.reduceLT, Int.reduceLE, Int.reduceBEq, Int.reduceBNe, Int.reduceAdd, Int.reduceSub, Int.reduceToNat, dq, tya, bmaD, dooL, i2n, encL_len, c1, c2, c3, spE]; exact rfl); (repeat (with_reducible first | apply qa | apply qb | apply qc | apply qd | apply qe)))
      (apply DV.seqreg; kernel_rfl; (simp only [wpS, wpT, go1, evS, ev, Qc, Qd, Qg, Qo, Qs, Qt, Qv, QB, QE, QF, nilB, gdS, put1, sv, gs, gb, opd, cst, XW, QK, okS, QL, setAt, bad, dem, QP, QR, QS, QT, QU, QV, QW, QY, stC, QZ, Q2, Q3, Q4, Q5, Q6, Q7, Q8, Q9, Xc, lf, lfs, Xd, Xe, Xg, Xh, Xj, Xk, asP, pOk, Xp, Xt, Nat.reduceBEq, cv, cvL, wrL, Xw, Xy, XA, XB, keep, kp, cand, cor, List.map, List.append, Option.bind, ↓reduceIte, Nat.reduceEqDiff, Nat.reduceAdd, Nat.reduceMul, Nat.reduceLT, Nat.reduceLeDiff, reduceCtorEq, Int.reduceLT, Int.reduceLE, Int.reduceBEq, Int.reduceBNe, Int.reduceAdd, Int.reduceSub, Int.reduceToNat, dq, tya, bmaD, dooL, spE, hsd, encL_take, encL_len, decL_encL, isL_enc, hpq, k5, k6, hvm, hfe, g0, g1, hur, huq, Nat.le_refl]; exact rfl); (repeat (with_reducible first | apply qa | apply qb | apply qc | apply qd | apply qe)))
      obtain ⟨b, hb⟩ : ∃ b, (er != 0) = b := ⟨_, rfl⟩
      rw [hb] at hR
      (apply DV.seqreg; kernel_rfl; (simp only [wpS, wpT, go1, evS, ev, Qc, Qd, Qg, Qo, Qs, Qt, Qv, QB, QE, QF, nilB, gdS, put1, sv, gs, gb, opd, cst, XW, QK, okS, QL, setAt, bad, dem, QP, QR, QS, QT, QU, QV, QW, QY, stC, QZ, Q2, Q3, Q4, Q5, Q6, Q7, Q8, Q9, Xc, lf, lfs, Xd, Xe, Xg, Xh, Xj, Xk, asP, pOk, Xp, Xt, Nat.reduceBEq, cv, cvL, wrL, Xw, Xy, XA, XB, keep, kp, cand, cor, List.map, List.append, Option.bind, ↓reduceIte, Nat.reduceEqDiff, Nat.reduceAdd, Nat.reduceMul, Nat.reduceLT, Nat.reduceLeDiff, reduceCtorEq, Int.reduceLT, Int.reduceLE, Int.reduceBEq, Int.reduceBNe, Int.reduceAdd, Int.reduceSub, Int.reduceToNat, dq, tya, bmaD, dooL, hb]; exact rfl); (repeat (with_reducible first | apply qa | apply qb | apply qc | apply qd | apply qe)))
      cases b
      · rw [if_neg (by decide)] at hR
        have her0 : er = 0 := by simpa using hb
        rw [her0] at her
        have hdo := do_ok hok (hf.le (by omega)) hps her
        have hok2 := hok.doe her
        have hf2 := hf.doe hok her
        obtain ⟨u1, hu1⟩ : ∃ y, doS u s = y := ⟨_, rfl⟩
        rw [hu1] at hR hok2 hf2
        (refine DV.condF rfl (fun _ => rfl) ?_; (repeat (with_reducible first | apply qa | apply qb | apply qc | apply qd | apply qe)))
        (refine DV.skip ?_; (repeat (with_reducible refine blockD_norm' ?_)); (with_reducible refine thenD_norm' ?_); (repeat (with_reducible first | apply qa | apply qb | apply qc | apply qd | apply qe)))
        (apply DV.reg; kernel_rfl; (simp only [wpS, wpT, go1, evS, ev, Qc, Qd, Qg, Qo, Qs, Qt, Qv, QB, QE, QF, nilB, gdS, put1, sv, gs, gb, opd, cst, XW, QK, okS, QL, setAt, bad, dem, QP, QR, QS, QT, QU, QV, QW, QY, stC, QZ, Q2, Q3, Q4, Q5, Q6, Q7, Q8, Q9, Xc, lf, lfs, Xd, Xe, Xg, Xh, Xj, Xk, asP, pOk, Xp, Xt, Nat.reduceBEq, cv, cvL, wrL, Xw, Xy, XA, XB, keep, kp, cand, cor, List.map, List.append, Option.bind, ↓reduceIte, Nat.reduceEqDiff, Nat.reduceAdd, Nat.reduceMul, Nat.reduceLT, Nat.reduceLeDiff, reduceCtorEq, Int.reduceLT, Int.reduceLE, Int.reduceBEq, Int.reduceBNe, Int.reduceAdd, Int.reduceSub, Int.reduceToNat, dq, tya, bmaD, dooL, false_and, and_false, and_self, locF, locP, locW, locN, refA, refO, backOk, renV, renSs, renS, renDs, renD, renK, rkK, renCs, renC, renL_nil, renL_cons, renL_app, renL_encL, renL_set, renDs_enc, rkV, rkSs, rkS, rkDs, rkD, rkCs, rkC, rkL_nil, rkL_cons, rkL_app, rkL_encL, rkL_set, rkDs_enc, refTs, refT, refPs, locs, swp, bsOf, insOk, bijOk, outsOf, freshOk, wbOut, rkB, deadB, deB, enB, decL_encL, isL_enc, encL_len, spE, hsd, dooL, hdo, hu1]; exact rfl); (repeat (with_reducible refine blockD_norm' ?_)); (try with_reducible refine thenD_norm' ?_); (repeat (with_reducible first | apply qa | apply qb | apply qc | apply qd | apply qe)))
        (apply DV.reg; kernel_rfl; (simp only [wpS, wpT, go1, evS, ev, Qc, Qd, Qg, Qo, Qs, Qt, Qv, QB, QE, QF, nilB, gdS, put1, sv, gs, gb, opd, cst, XW, QK, okS, QL, setAt, bad, dem, QP, QR, QS, QT, QU, QV, QW, QY, stC, QZ, Q2, Q3, Q4, Q5, Q6, Q7, Q8, Q9, Xc, lf, lfs, Xd, Xe, Xg, Xh, Xj, Xk, asP, pOk, Xp, Xt, Nat.reduceBEq, cv, cvL, wrL, Xw, Xy, XA, XB, keep, kp, cand, cor, List.map, List.append, Option.bind, ↓reduceIte, Nat.reduceEqDiff, Nat.reduceAdd, Nat.reduceMul, Nat.reduceLT, Nat.reduceLeDiff, reduceCtorEq, Int.reduceLT, Int.reduceLE, Int.reduceBEq, Int.reduceBNe, Int.reduceAdd, Int.reduceSub, Int.reduceToNat, dq, tya, bmaD, dooL, ew]; exact rfl); (repeat (with_reducible refine blockD_norm' ?_)); (try with_reducible refine thenD_norm' ?_); (repeat (with_reducible first | apply qa | apply qb | apply qc | apply qd | apply qe)))
        exact ⟨(j + 1, u1), ⟨⟨hlt, hR, hok2, hf2.le (by omega)⟩, by dsimp only; omega⟩, by (refine wk_of [(5000, some 100026), (5001, some 200026), (5002, some 300026), (5003, some 400026), (5004, some 500026), (5005, some 600026)] ?_ ?_ ?_ ?_ ?_ <;> (simp only [false_and, and_false, and_self, XC, XD, XE, XF, XG, XH, XI, convK, XJ, XK, XL, XM, XN, look, XO, XP, XR, XS, XT, XU, XV, encL_nil, encL_app, encL_cons, List.length_append, gdS, put1, sv, gs, gb, QK, setAt, bad, dem, QP, QR, QS, QT, QU, QV, QW, QY, Q2, Q3, lf, lfs, pOk, Nat.reduceBEq, XA, XB, keep, kp, cand, cor, List.map, List.append, Option.bind, ↓reduceIte, Nat.reduceEqDiff, Nat.reduceAdd, Nat.reduceMul, Nat.reduceLT, Nat.reduceLeDiff, reduceCtorEq, Int.reduceLT, Int.reduceLE, Int.reduceBEq, Int.reduceBNe, Int.reduceAdd, Int.reduceSub, Int.reduceToNat, dq]; try trivial))⟩
      · rw [if_pos rfl] at hR
        obtain ⟨rfl, hR2⟩ := Prod.mk.inj hR
        obtain ⟨rfl, rfl⟩ := Prod.mk.inj hR2
        (refine DV.condT rfl (fun _ => rfl) ?_; (repeat (with_reducible first | apply qa | apply qb | apply qc | apply qd | apply qe)))
        (apply DV.seqreg; kernel_rfl; (simp only [wpS, wpT, go1, evS, ev, Qc, Qd, Qg, Qo, Qs, Qt, Qv, QB, QE, QF, nilB, gdS, put1, sv, gs, gb, opd, cst, XW, QK, okS, QL, setAt, bad, dem, QP, QR, QS, QT, QU, QV, QW, QY, stC, QZ, Q2, Q3, Q4, Q5, Q6, Q7, Q8, Q9, Xc, lf, lfs, Xd, Xe, Xg, Xh, Xj, Xk, asP, pOk, Xp, Xt, Nat.reduceBEq, cv, cvL, wrL, Xw, Xy, XA, XB, keep, kp, cand, cor, List.map, List.append, Option.bind, ↓reduceIte, Nat.reduceEqDiff, Nat.reduceAdd, Nat.reduceMul, Nat.reduceLT, Nat.reduceLeDiff, reduceCtorEq, Int.reduceLT, Int.reduceLE, Int.reduceBEq, Int.reduceBNe, Int.reduceAdd, Int.reduceSub, Int.reduceToNat, dq, tya, bmaD, dooL, ew]; exact rfl); (repeat (with_reducible first | apply qa | apply qb | apply qc | apply qd | apply qe)))
        (refine DV.ret ?_; (repeat (first | (with_reducible refine thenD_ret' ?_) | (with_reducible refine blockD_ret' ?_))); (with_reducible refine retG_ret ?_); (try simp only [v1Ok, resX, vL, rvS, unO, objX, wpS, wpT, go1, evS, ev, Qc, Qd, Qg, Qo, Qs, Qt, Qv, QB, QE, QF, nilB, gdS, put1, sv, gs, gb, opd, cst, XW, QK, okS, QL, setAt, bad, dem, QP, QR, QS, QT, QU, QV, QW, QY, stC, QZ, Q2, Q3, Q4, Q5, Q6, Q7, Q8, Q9, Xc, lf, lfs, Xd, Xe, Xg, Xh, Xj, Xk, asP, pOk, Xp, Xt, Nat.reduceBEq, cv, cvL, wrL, Xw, Xy, XA, XB, keep, kp, cand, cor, List.map, List.append, Option.bind, ↓reduceIte, Nat.reduceEqDiff, Nat.reduceAdd, Nat.reduceMul, Nat.reduceLT, Nat.reduceLeDiff, reduceCtorEq, Int.reduceLT, Int.reduceLE, Int.reduceBEq, Int.reduceBNe, Int.reduceAdd, Int.reduceSub, Int.reduceToNat, dq, tya, bmaD, dooL, n0]))
        exact ⟨by decide, by omega⟩
    obtain rfl : j = l.length := by omega
    have d1 : decide ((l.length : Int) < (l.length : Int)) = false := decide_eq_false (by omega)
    rw [List.drop_length] at hR
    obtain ⟨rfl, hR2⟩ := Prod.mk.inj hR
    obtain ⟨rfl, rfl⟩ := Prod.mk.inj hR2
    (apply DV.seqreg; kernel_rfl; (simp only [wpS, wpT, go1, evS, ev, Qc, Qd, Qg, Qo, Qs, Qt, Qv, QB, QE, QF, nilB, gdS, put1, sv, gs, gb, opd, cst, XW, QK, okS, QL, setAt, bad, dem, QP, QR, QS, QT, QU, QV, QW, QY, stC, QZ, Q2, Q3, Q4, Q5, Q6, Q7, Q8, Q9, Xc, lf, lfs, Xd, Xe, Xg, Xh, Xj, Xk, asP, pOk, Xp, Xt, Nat.reduceBEq, cv, cvL, wrL, Xw, Xy, XA, XB, keep, kp, cand, cor, List.map, List.append, Option.bind, ↓reduceIte, Nat.reduceEqDiff, Nat.reduceAdd, Nat.reduceMul, Nat.reduceLT, Nat.reduceLeDiff, reduceCtorEq, Int.reduceLT, Int.reduceLE, Int.reduceBEq, Int.reduceBNe, Int.reduceAdd, Int.reduceSub, Int.reduceToNat, dq, tya, bmaD, dooL, d1]; exact rfl); (repeat (with_reducible first | apply qa | apply qb | apply qc | apply qd | apply qe)))
    (refine DV.condF rfl (fun _ => rfl) ?_; (repeat (with_reducible first | apply qa | apply qb | apply qc | apply qd | apply qe)))
    (refine DV.exit ?_; (repeat (first | (with_reducible refine thenD_exit' ?_) | (with_reducible refine blockD_other (by decide) ?_))); (with_reducible refine blockD_same ?_); (repeat (with_reducible refine blockD_norm' ?_)); (with_reducible refine thenD_norm' ?_); (repeat (with_reducible first | apply qa | apply qb | apply qc | apply qd | apply qe)))
    (apply DV.seqreg; kernel_rfl; (simp only [wpS, wpT, go1, evS, ev, Qc, Qd, Qg, Qo, Qs, Qt, Qv, QB, QE, QF, nilB, gdS, put1, sv, gs, gb, opd, cst, XW, QK, okS, QL, setAt, bad, dem, QP, QR, QS, QT, QU, QV, QW, QY, stC, QZ, Q2, Q3, Q4, Q5, Q6, Q7, Q8, Q9, Xc, lf, lfs, Xd, Xe, Xg, Xh, Xj, Xk, asP, pOk, Xp, Xt, Nat.reduceBEq, cv, cvL, wrL, Xw, Xy, XA, XB, keep, kp, cand, cor, List.map, List.append, Option.bind, ↓reduceIte, Nat.reduceEqDiff, Nat.reduceAdd, Nat.reduceMul, Nat.reduceLT, Nat.reduceLeDiff, reduceCtorEq, Int.reduceLT, Int.reduceLE, Int.reduceBEq, Int.reduceBNe, Int.reduceAdd, Int.reduceSub, Int.reduceToNat, dq, tya, bmaD, dooL]; exact rfl); (repeat (with_reducible first | apply qa | apply qb | apply qc | apply qd | apply qe)))
    (refine DV.ret ?_; (repeat (first | (with_reducible refine thenD_ret' ?_) | (with_reducible refine blockD_ret' ?_))); (with_reducible refine retG_ret ?_); (try simp only [v1Ok, resX, vL, rvS, unO, objX, wpS, wpT, go1, evS, ev, Qc, Qd, Qg, Qo, Qs, Qt, Qv, QB, QE, QF, nilB, gdS, put1, sv, gs, gb, opd, cst, XW, QK, okS, QL, setAt, bad, dem, QP, QR, QS, QT, QU, QV, QW, QY, stC, QZ, Q2, Q3, Q4, Q5, Q6, Q7, Q8, Q9, Xc, lf, lfs, Xd, Xe, Xg, Xh, Xj, Xk, asP, pOk, Xp, Xt, Nat.reduceBEq, cv, cvL, wrL, Xw, Xy, XA, XB, keep, kp, cand, cor, List.map, List.append, Option.bind, ↓reduceIte, Nat.reduceEqDiff, Nat.reduceAdd, Nat.reduceMul, Nat.reduceLT, Nat.reduceLeDiff, reduceCtorEq, Int.reduceLT, Int.reduceLE, Int.reduceBEq, Int.reduceBNe, Int.reduceAdd, Int.reduceSub, Int.reduceToNat, dq, tya, bmaD, dooL]))
    try decide
  · exact h.elim
def fre0B : Bt := [(6000, some ⟨0, 0, [[.lk 5000 1, .lk 5001 1, .lk 5002 0, .lk 5003 0, .lk 5004 0, .lk 5005 0]]⟩), (5000, some ⟨3, 1, encL inC [-1]⟩), (5001, some ⟨3, 1, encL inC [0]⟩), (5002, some ⟨60, 4, encL ndC []⟩), (5003, some ⟨78, 4, encL egC []⟩), (5004, some ⟨3, 1, encL inC []⟩), (5005, some ⟨181, 3, encL lpC []⟩)]
def freL : List S1 → Bt → (V1 × Bt) × Prop
  | [], [] => ((.one (.box 6000 0), fre0B), True)
  | _, _ => ((.one (.c (.bool false)), []), False)
set_option maxHeartbeats 8000000 in
theorem fre_g (xs : List S1) (bs : Bt) (h : (freL xs bs).2) : CalG Try.prog 71 xs bs (freL xs bs).1.1 (freL xs bs).1.2 := by
  unfold freL at h ⊢
  split at h
  · refine DV.ofG (Γ := ⟨[], [], [1, 2]⟩) (rs := [ResultVar.tmp 0]) [0] ⟨nofun, nofun⟩ (by kernel_rfl) Try.func71 rfl rfl (by kernel_rfl) rfl ?_; (repeat (with_reducible first | apply qa | apply qb | apply qc | apply qd | apply qe))
    unfold fre0B
    (apply DV.seqreg; kernel_rfl; (simp only [wpS, wpT, go1, evS, ev, Qd, Qu, Qw, Qy, nilB, gdS, put1, sv, gs, gb, opd, cst, XW, QK, okS, QL, setAt, QM, QN, QO, bad, dem, QP, QR, QS, QT, QU, QV, QW, QY, QZ, Q2, Q3, Q4, Q5, Q6, lf, lfs, asP, pOk, Xp, Xv, Nat.reduceBEq, XA, XB, keep, kp, cand, cor, List.map, List.append, Option.bind, ↓reduceIte, Nat.reduceEqDiff, Nat.reduceAdd, Nat.reduceMul, Nat.reduceLT, Nat.reduceLeDiff, reduceCtorEq, Int.reduceLT, Int.reduceLE, Int.reduceBEq, Int.reduceBNe, Int.reduceAdd, Int.reduceSub, Int.reduceToNat, dq, tya]; exact rfl); (repeat (with_reducible first | apply qa | apply qb | apply qc | apply qd | apply qe)))
    (apply DV.seqreg; kernel_rfl; (simp only [wpS, wpT, go1, evS, ev, Qd, Qu, Qw, Qy, nilB, gdS, put1, sv, gs, gb, opd, cst, XW, QK, okS, QL, setAt, QM, QN, QO, bad, dem, QP, QR, QS, QT, QU, QV, QW, QY, QZ, Q2, Q3, Q4, Q5, Q6, lf, lfs, asP, pOk, Xp, Xv, Nat.reduceBEq, XA, XB, keep, kp, cand, cor, List.map, List.append, Option.bind, ↓reduceIte, Nat.reduceEqDiff, Nat.reduceAdd, Nat.reduceMul, Nat.reduceLT, Nat.reduceLeDiff, reduceCtorEq, Int.reduceLT, Int.reduceLE, Int.reduceBEq, Int.reduceBNe, Int.reduceAdd, Int.reduceSub, Int.reduceToNat, dq, tya, range1, range0]; exact rfl); (repeat (with_reducible first | apply qa | apply qb | apply qc | apply qd | apply qe)))
    refine DV.weak (σ' := ⟨[(0, .v true (.box 6000 0))], [(6000, some ⟨0, 0, [[.lk 5000 1, .lk 5001 1, .lk 5002 0, .lk 5003 0, .lk 5004 0, .lk 5005 0]]⟩), (5000, some ⟨3, 1, encL inC [-1]⟩), (5001, some ⟨3, 1, encL inC [0]⟩), (5002, some ⟨60, 4, encL ndC []⟩), (5003, some ⟨78, 4, encL egC []⟩), (5004, some ⟨3, 1, encL inC []⟩), (5005, some ⟨181, 3, encL lpC []⟩)], []⟩) (by (refine wk_of [(6000, some 5), (5000, some 1), (5001, some 2), (5002, none), (5003, none), (5004, none), (5005, none)] ?_ ?_ ?_ ?_ ?_ <;> (simp only [false_and, and_false, and_self, XC, XD, XE, XF, XG, XH, XI, convK, XJ, XK, XL, XM, XN, look, XO, XP, XR, XS, XT, XU, XV, encL_nil, encL_app, encL_cons, List.length_append, gdS, put1, sv, gs, gb, QK, setAt, bad, dem, QP, QR, QS, QT, QU, QV, QW, QY, Q2, Q3, lf, lfs, pOk, Nat.reduceBEq, XA, XB, keep, kp, cand, cor, List.map, List.append, Option.bind, ↓reduceIte, Nat.reduceEqDiff, Nat.reduceAdd, Nat.reduceMul, Nat.reduceLT, Nat.reduceLeDiff, reduceCtorEq, Int.reduceLT, Int.reduceLE, Int.reduceBEq, Int.reduceBNe, Int.reduceAdd, Int.reduceSub, Int.reduceToNat, dq, inE]; try trivial)); ((repeat' apply And.intro) <;> first | trivial | exact .inr (by (simp only [XI, convK, QP, XO, look, lfL_encL, encL_take, encL_len, List.take_length, Nat.le_refl, gdS, put1, sv, gs, gb, QK, setAt, bad, dem, QP, QR, QS, QT, QU, QV, QW, QY, Q2, Q3, lf, lfs, pOk, Nat.reduceBEq, XA, XB, keep, kp, cand, cor, List.map, List.append, Option.bind, ↓reduceIte, Nat.reduceEqDiff, Nat.reduceAdd, Nat.reduceMul, Nat.reduceLT, Nat.reduceLeDiff, reduceCtorEq, Int.reduceLT, Int.reduceLE, Int.reduceBEq, Int.reduceBNe, Int.reduceAdd, Int.reduceSub, Int.reduceToNat, dq, convR, XJ, and_self]; try trivial)))) ?_
    (refine DV.ret ?_; (repeat (first | (with_reducible refine thenD_ret' ?_) | (with_reducible refine blockD_ret' ?_))); (with_reducible refine retG_ret ?_); (try simp only [v1Ok, resX, vL, rvS, unO, objX, wpS, wpT, go1, evS, ev, Qd, Qu, Qw, Qy, nilB, gdS, put1, sv, gs, gb, opd, cst, XW, QK, okS, QL, setAt, QM, QN, QO, bad, dem, QP, QR, QS, QT, QU, QV, QW, QY, QZ, Q2, Q3, Q4, Q5, Q6, lf, lfs, asP, pOk, Xp, Xv, Nat.reduceBEq, XA, XB, keep, kp, cand, cor, List.map, List.append, Option.bind, ↓reduceIte, Nat.reduceEqDiff, Nat.reduceAdd, Nat.reduceMul, Nat.reduceLT, Nat.reduceLeDiff, reduceCtorEq, Int.reduceLT, Int.reduceLE, Int.reduceBEq, Int.reduceBNe, Int.reduceAdd, Int.reduceSub, Int.reduceToNat, dq, tya]))
    try decide
  · exact h.elim
end Go.Proofs.Ytkmgdejpdhlleaa.Dq
