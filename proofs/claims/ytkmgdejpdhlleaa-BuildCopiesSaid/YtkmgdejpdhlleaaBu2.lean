/- Graphs put together step by step, by deep values: the builder and its first methods. -/
import Derived.Test.YtkmgdejpdhlleaaBu1
namespace Go.Proofs.Ytkmgdejpdhlleaa.Dq
set_option linter.unusedSimpArgs false
set_option linter.unusedVariables false
set_option maxRecDepth 100000
open Go.RowKit
open Va

/-- A builder as it lies: its box under 4000, its rows under 5000 .. -/
def enB (v : Bs) : Bt := [(4000, some ⟨0, 0, [[.lk 5000 v.p.length, .lk 5001 v.b.length, .lk 5002 v.n.length, .lk 5003 v.e.length, .lk 5004 v.q, .lk 5005 v.r]]⟩), (5000, some ⟨3, 1, encL inC v.p⟩), (5001, some ⟨3, 1, encL inC v.b⟩), (5002, some ⟨60, 4, encL ndC v.n⟩), (5003, some ⟨78, 4, encL egC v.e⟩), (5004, some ⟨3, 1, encL inC v.P⟩), (5005, some ⟨181, 3, encL lpC v.L⟩)]
def deB : Bt → Bs
  | [(4000, some ⟨_, _, [[_, _, _, _, .lk _ q, .lk _ r]]⟩), (5000, some o1), (5001, some o2), (5002, some o3), (5003, some o4), (5004, some o5), (5005, some o6)] => ⟨decL inC o1.l, decL inC o2.l, decL ndC o3.l, decL egC o4.l, decL inC o5.l, q, decL lpC o6.l, r⟩
  | _ => fre0
theorem DV.relaxG {P : Program} {Γ : Cx} {N : Nat} {lv : List Nat} {c : Code} {rs : List ResultVar} {x : V1} {bs : Bt} {σ : St} (h : DV P Γ N lv c (fun e σ => ∃ σ', Wk σ σ' ∧ retG P rs x bs e σ') σ) : DV P Γ N lv c (retG P rs x bs) σ := fun h1 h2 M A0 w0 df G a W hR => by
  refine wp_mono (h h1 h2 M A0 w0 df G a W hR) (fun e a W ⟨σ', G', ⟨σ'', hw, k1⟩, k2⟩ => ?_)
  obtain ⟨G'', k3⟩ := hw _ _ _ _ _ _ _ _ k2
  exact ⟨σ'', G'', k1, k3⟩
def popL : List S1 → Bt → (V1 × Bt) × Prop
  | [.box 4000 0], bs => ((.one (.c (.int .i64 (popI (deB bs)))), enB (popS (deB bs))), bs = enB (deB bs) ∧ 0 < (deB bs).q ∧ Fit (deB bs) 90000)
  | _, _ => ((.one (.c (.bool false)), []), False)
set_option maxHeartbeats 4000000 in
theorem pop_g (xs : List S1) (bs : Bt) (h : (popL xs bs).2) : CalG Try.prog 163 xs bs (popL xs bs).1.1 (popL xs bs).1.2 := by
  unfold popL at h ⊢
  split at h
  · skip
    obtain ⟨hb, ho⟩ := h
    obtain ⟨v, hv⟩ : ∃ v, deB bs = v := ⟨_, rfl⟩
    rw [hv] at hb ho ⊢
    subst hb
    clear hv
    obtain ⟨q0, hf⟩ := ho
    have q1 := hf.q
    have q2 := hf.n.q
    have ew : IntKind.wrap .i64 ((v.q : Int) - 1) = ((v.q - 1 : Nat) : Int) := by rw [IntKind.wrap_i64]; omega
    obtain ⟨x, hx⟩ : ∃ x, v.P[v.q - 1]? = some x := ⟨_, List.getElem?_eq_getElem (by omega)⟩
    have c1 : (0 : Int) ≤ ((v.q - 1 : Nat) : Int) := by omega
    have c2 : ((v.q - 1 : Nat) : Int) < (v.q : Int) := by omega
    have c3 := encL_get (C := inC) hx
    have c4 : ((v.q - 1 : Nat) : Int) ≤ (v.q : Int) := by omega
    have c5 : v.q - 1 < v.P.length := by omega
    have a1 := in_all v.P
    obtain ⟨v1, hv1⟩ : ∃ x, popS v = x := ⟨_, rfl⟩
    have e1 : v1.p = v.p := by rw [← hv1]; rfl
    have e2 : v1.b = v.b := by rw [← hv1]; rfl
    have e3 : v1.n = v.n := by rw [← hv1]; rfl
    have e4 : v1.e = v.e := by rw [← hv1]; rfl
    have e5 : v1.P = v.P := by rw [← hv1]; rfl
    have e6 : v1.q = v.q - 1 := by rw [← hv1]; rfl
    have e7 : v1.L = v.L := by rw [← hv1]; rfl
    have e8 : v1.r = v.r := by rw [← hv1]; rfl
    rw [hv1]
    unfold enB
    refine DV.ofG (Γ := ⟨[], [], []⟩) (rs := [ResultVar.tmp 2]) [0, 2, 3, 4] ⟨nofun, nofun⟩ (by kernel_rfl) Try.func163 rfl rfl (by kernel_rfl) rfl ?_; (repeat (with_reducible first | apply qa | apply qb | apply qc | apply qd | apply qe))
    (apply DV.seqreg; kernel_rfl; (simp only [wpS, wpT, go1, evS, ev, Qc, Qd, Qg, Qk, Qo, Qs, Qv, Qz, QB, QJ, nilB, gdS, put1, sv, gs, gb, opd, cst, XW, QK, okS, QL, setAt, bnd, bad, dem, QP, QR, QS, QT, QU, QV, QW, QY, stC, QZ, Q2, Q3, Q4, Q5, Q6, lf, lfs, asP, pOk, Xp, Xr, Nat.reduceBEq, XA, XB, keep, kp, cand, cor, List.map, List.append, Option.bind, ↓reduceIte, Nat.reduceEqDiff, Nat.reduceAdd, Nat.reduceMul, Nat.reduceLT, Nat.reduceLeDiff, reduceCtorEq, Int.reduceLT, Int.reduceLE, Int.reduceBEq, Int.reduceBNe, Int.reduceAdd, Int.reduceSub, Int.reduceToNat, dq, tya]; exact rfl); (repeat (with_reducible first | apply qa | apply qb | apply qc | apply qd | apply qe)))
    (apply DV.seqreg; kernel_rfl; (simp only [wpS, wpT, go1, evS, ev, Qc, Qd, Qg, Qk, Qo, Qs, Qv, Qz, QB, QJ, nilB, gdS, put1, sv, gs, gb, opd, cst, XW, QK, okS, QL, setAt, bnd, bad, dem, QP, QR, QS, QT, QU, QV, QW, QY, stC, QZ, Q2, Q3, Q4, Q5, Q6, lf, lfs, asP, pOk, Xp, Xr, Nat.reduceBEq, XA, XB, keep, kp, cand, cor, List.map, List.append, Option.bind, ↓reduceIte, Nat.reduceEqDiff, Nat.reduceAdd, Nat.reduceMul, Nat.reduceLT, Nat.reduceLeDiff, reduceCtorEq, Int.reduceLT, Int.reduceLE, Int.reduceBEq, Int.reduceBNe, Int.reduceAdd, Int.reduceSub, Int.reduceToNat, dq, tya, ew]; exact rfl); (repeat (with_reducible first | apply qa | apply qb | apply qc | apply qd | apply qe)))
    (apply DV.seqreg; kernel_rfl; (simp only [wpS, wpT, go1, evS, ev, Qc, Qd, Qg, Qk, Qo, Qs, Qv, Qz, QB, QJ, nilB, gdS, put1, sv, gs, gb, opd, cst, XW, QK, okS, QL, setAt, bnd, bad, dem, QP, QR, QS, QT, QU, QV, QW, QY, stC, QZ, Q2, Q3, Q4, Q5, Q6, lf, lfs, asP, pOk, Xp, Xr, Nat.reduceBEq, XA, XB, keep, kp, cand, cor, List.map, List.append, Option.bind, ↓reduceIte, Nat.reduceEqDiff, Nat.reduceAdd, Nat.reduceMul, Nat.reduceLT, Nat.reduceLeDiff, reduceCtorEq, Int.reduceLT, Int.reduceLE, Int.reduceBEq, Int.reduceBNe, Int.reduceAdd, Int.reduceSub, Int.reduceToNat, dq, tya, i2n, encL_len, c1, c2, c3, c5, inE]; exact rfl); (repeat (with_reducible first | apply qa | apply qb | apply qc | apply qd | apply qe)))
    (apply DV.seqreg; kernel_rfl; (simp only [wpS, wpT, go1, evS, ev, Qc, Qd, Qg, Qk, Qo, Qs, Qv, Qz, QB, QJ, nilB, gdS, put1, sv, gs, gb, opd, cst, XW, QK, okS, QL, setAt, bnd, bad, dem, QP, QR, QS, QT, QU, QV, QW, QY, stC, QZ, Q2, Q3, Q4, Q5, Q6, lf, lfs, asP, pOk, Xp, Xr, Nat.reduceBEq, XA, XB, keep, kp, cand, cor, List.map, List.append, Option.bind, ↓reduceIte, Nat.reduceEqDiff, Nat.reduceAdd, Nat.reduceMul, Nat.reduceLT, Nat.reduceLeDiff, reduceCtorEq, Int.reduceLT, Int.reduceLE, Int.reduceBEq, Int.reduceBNe, Int.reduceAdd, Int.reduceSub, Int.reduceToNat, dq, tya, i2n, encL_len, c1, c2, c4, c5, a1]; exact rfl); (repeat (with_reducible first | apply qa | apply qb | apply qc | apply qd | apply qe)))
    (apply DV.seqreg; kernel_rfl; (simp only [wpS, wpT, go1, evS, ev, Qc, Qd, Qg, Qk, Qo, Qs, Qv, Qz, QB, QJ, nilB, gdS, put1, sv, gs, gb, opd, cst, XW, QK, okS, QL, setAt, bnd, bad, dem, QP, QR, QS, QT, QU, QV, QW, QY, stC, QZ, Q2, Q3, Q4, Q5, Q6, lf, lfs, asP, pOk, Xp, Xr, Nat.reduceBEq, XA, XB, keep, kp, cand, cor, List.map, List.append, Option.bind, ↓reduceIte, Nat.reduceEqDiff, Nat.reduceAdd, Nat.reduceMul, Nat.reduceLT, Nat.reduceLeDiff, reduceCtorEq, Int.reduceLT, Int.reduceLE, Int.reduceBEq, Int.reduceBNe, Int.reduceAdd, Int.reduceSub, Int.reduceToNat, dq, tya]; exact rfl); (repeat (with_reducible first | apply qa | apply qb | apply qc | apply qd | apply qe)))
    (refine DV.ret ?_; (repeat (first | (with_reducible refine thenD_ret' ?_) | (with_reducible refine blockD_ret' ?_))); (with_reducible refine retG_ret ?_); (try simp only [v1Ok, resX, vL, rvS, unO, objX, wpS, wpT, go1, evS, ev, Qc, Qd, Qg, Qk, Qo, Qs, Qv, Qz, QB, QJ, nilB, gdS, put1, sv, gs, gb, opd, cst, XW, QK, okS, QL, setAt, bnd, bad, dem, QP, QR, QS, QT, QU, QV, QW, QY, stC, QZ, Q2, Q3, Q4, Q5, Q6, lf, lfs, asP, pOk, Xp, Xr, Nat.reduceBEq, XA, XB, keep, kp, cand, cor, List.map, List.append, Option.bind, ↓reduceIte, Nat.reduceEqDiff, Nat.reduceAdd, Nat.reduceMul, Nat.reduceLT, Nat.reduceLeDiff, reduceCtorEq, Int.reduceLT, Int.reduceLE, Int.reduceBEq, Int.reduceBNe, Int.reduceAdd, Int.reduceSub, Int.reduceToNat, dq, tya, popI, hx, Option.getD_some, e1, e2, e3, e4, e5, e6, e7, e8]))
    try decide
  · exact h.elim
def pshL : List S1 → Bt → (V1 × Bt) × Prop
  | [.box 4000 0, .c (.sl l)], bs => ((.tup [], enB (pushS (deB bs) (decL inC l))), bs = enB (deB bs) ∧ isL inC l ∧ Fit (deB bs) 90000 ∧ (decL inC l).length ≤ 1000)
  | _, _ => ((.one (.c (.bool false)), []), False)
set_option maxHeartbeats 4000000 in
theorem psh_g (xs : List S1) (bs : Bt) (h : (pshL xs bs).2) : CalG Try.prog 161 xs bs (pshL xs bs).1.1 (pshL xs bs).1.2 := by
  unfold pshL at h ⊢
  split at h
  · rename_i l0
    obtain ⟨hb, ho⟩ := h
    obtain ⟨v, hv⟩ : ∃ v, deB bs = v := ⟨_, rfl⟩
    rw [hv] at hb ho ⊢
    subst hb
    clear hv
    obtain ⟨hl, hf, k3⟩ := ho
    have q1 := hf.q
    have k2 := hf.n.q
    obtain ⟨l, rfl⟩ : ∃ z, l0 = encL inC z := ⟨_, hl.symm⟩
    clear hl
    rw [decL_encL] at k3 ⊢
    have q2 := Lib.hid (capOk_of (n := v.q + l.length) (by omega))
    have q3 := Lib.hid (capB (n := v.q + l.length) (k := 8) (by omega) (by decide))
    have a1 := in_all v.P
    have a2 := in_all l
    obtain ⟨v1, hv1⟩ : ∃ x, pushS v l = x := ⟨_, rfl⟩
    have e1 : v1.p = v.p := by rw [← hv1]; rfl
    have e2 : v1.b = v.b := by rw [← hv1]; rfl
    have e3 : v1.n = v.n := by rw [← hv1]; rfl
    have e4 : v1.e = v.e := by rw [← hv1]; rfl
    have e5 : v1.P = v.P.take v.q ++ l := by rw [← hv1]; rfl
    have e6 : v1.q = v.q + l.length := by rw [← hv1]; rfl
    have e7 : v1.L = v.L := by rw [← hv1]; rfl
    have e8 : v1.r = v.r := by rw [← hv1]; rfl
    rw [hv1]
    unfold enB
    refine DV.ofG (Γ := ⟨[], [], [10]⟩) (rs := []) [0, 1] ⟨nofun, nofun⟩ (by kernel_rfl) Try.func161 rfl rfl (by kernel_rfl) rfl ?_; (repeat (with_reducible first | apply qa | apply qb | apply qc | apply qd | apply qe))
    refine DV.relaxG ?_
    (apply DV.reg; kernel_rfl; (simp only [wpS, wpT, go1, evS, ev, Qc, Qd, Qk, Qs, Qv, QB, QD, QJ, nilB, gdS, put1, sv, gs, gb, opd, cst, XW, QK, okS, QL, setAt, bad, dem, QP, QR, QS, QT, QU, QV, QW, QY, stC, QZ, Q2, Q3, Q4, Q5, Q6, lf, lfs, Xm, Xo, asP, pOk, Xp, Xr, Nat.reduceBEq, Xz, XA, XB, keep, kp, cand, cor, List.map, List.append, Option.bind, ↓reduceIte, Nat.reduceEqDiff, Nat.reduceAdd, Nat.reduceMul, Nat.reduceLT, Nat.reduceLeDiff, reduceCtorEq, Int.reduceLT, Int.reduceLE, Int.reduceBEq, Int.reduceBNe, Int.reduceAdd, Int.reduceSub, Int.reduceToNat, dq, tya, i2n, encL_len, encL_take, q1, q2.out, q3.out, a1, a2, range1]; exact rfl); (repeat (with_reducible refine blockD_norm' ?_)); (try with_reducible refine thenD_norm' ?_); (repeat (with_reducible first | apply qa | apply qb | apply qc | apply qd | apply qe)))
    refine ⟨⟨[], [(4000, some ⟨0, 0, [[.lk 5000 v1.p.length, .lk 5001 v1.b.length, .lk 5002 v1.n.length, .lk 5003 v1.e.length, .lk 5004 v1.q, .lk 5005 v1.r]]⟩), (5000, some ⟨3, 1, encL inC v1.p⟩), (5001, some ⟨3, 1, encL inC v1.b⟩), (5002, some ⟨60, 4, encL ndC v1.n⟩), (5003, some ⟨78, 4, encL egC v1.e⟩), (5004, some ⟨3, 1, encL inC v1.P⟩), (5005, some ⟨181, 3, encL lpC v1.L⟩)], []⟩, (by (refine wk_of [(5004, some 10)] ?_ ?_ ?_ ?_ ?_ <;> (simp only [false_and, and_false, and_self, XC, XD, XE, XF, XG, XH, XI, convK, XJ, XK, XL, XM, XN, look, XO, XP, XR, XS, XT, XU, XV, encL_nil, encL_app, encL_cons, List.length_append, gdS, put1, sv, gs, gb, QK, setAt, bad, dem, QP, QR, QS, QT, QU, QV, QW, QY, Q2, Q3, lf, lfs, pOk, Nat.reduceBEq, XA, XB, keep, kp, cand, cor, List.map, List.append, Option.bind, ↓reduceIte, Nat.reduceEqDiff, Nat.reduceAdd, Nat.reduceMul, Nat.reduceLT, Nat.reduceLeDiff, reduceCtorEq, Int.reduceLT, Int.reduceLE, Int.reduceBEq, Int.reduceBNe, Int.reduceAdd, Int.reduceSub, Int.reduceToNat, dq, e1, e2, e3, e4, e5, e6, e7, e8]; try trivial))), ?_⟩
    ((repeat (with_reducible refine blockD_norm' ?_)); (with_reducible refine retG_norm ?_); (try simp only [v1Ok, resX, vL, rvS, unO, objX, wpS, wpT, go1, evS, ev, Qc, Qd, Qk, Qs, Qv, QB, QD, QJ, nilB, gdS, put1, sv, gs, gb, opd, cst, XW, QK, okS, QL, setAt, bad, dem, QP, QR, QS, QT, QU, QV, QW, QY, stC, QZ, Q2, Q3, Q4, Q5, Q6, lf, lfs, Xm, Xo, asP, pOk, Xp, Xr, Nat.reduceBEq, Xz, XA, XB, keep, kp, cand, cor, List.map, List.append, Option.bind, ↓reduceIte, Nat.reduceEqDiff, Nat.reduceAdd, Nat.reduceMul, Nat.reduceLT, Nat.reduceLeDiff, reduceCtorEq, Int.reduceLT, Int.reduceLE, Int.reduceBEq, Int.reduceBNe, Int.reduceAdd, Int.reduceSub, Int.reduceToNat, dq, tya, e1, e2, e3, e4, e5, e6, e7, e8]))
    try decide
  · exact h.elim
def edgL : List S1 → Bt → (V1 × Bt) × Prop
  | [.box 4000 0, .c (.int .i64 f), .c (.int .i64 t), .c (.int .i64 k)], bs => ((.tup [], enB (edgS (deB bs) f t k)), bs = enB (deB bs) ∧ (0 ≤ t ∧ t < ((deB bs).n.length : Int)) ∧ (deB bs).e.length ≤ 1000000)
  | _, _ => ((.one (.c (.bool false)), []), False)
set_option maxHeartbeats 4000000 in
theorem edg_g (xs : List S1) (bs : Bt) (h : (edgL xs bs).2) : CalG Try.prog 189 xs bs (edgL xs bs).1.1 (edgL xs bs).1.2 := by
  unfold edgL at h ⊢
  split at h
  · rename_i f t k
    obtain ⟨hb, ho⟩ := h
    obtain ⟨v, hv⟩ : ∃ v, deB bs = v := ⟨_, rfl⟩
    rw [hv] at hb ho ⊢
    subst hb
    clear hv
    obtain ⟨⟨t0, t1⟩, k3⟩ := ho
    obtain ⟨x, hx⟩ : ∃ x, v.n[t.toNat]? = some x := ⟨_, List.getElem?_eq_getElem (by omega)⟩
    have c3 := encL_get (C := ndC) hx
    have c5 : t.toNat < v.n.length := by omega
    have hk : keyB (ndK v t) = keyB x.k := by unfold ndK; rw [hx]; rfl
    have q2 := Lib.hid (capOk_of (n := v.e.length + 1) (by omega))
    have q3 := Lib.hid (capB (n := v.e.length + 1) (k := 32) (by omega) (by decide))
    have a1 := eg_all v.e
    have hta : (encL egC v.e).take v.e.length = encL egC v.e := by rw [encL_take, List.take_length]
    obtain ⟨v1, hv1⟩ : ∃ x, edgS v f t k = x := ⟨_, rfl⟩
    have e1 : v1.p = v.p := by rw [← hv1]; rfl
    have e2 : v1.b = v.b := by rw [← hv1]; rfl
    have e3 : v1.n = v.n := by rw [← hv1]; rfl
    have e4 : v1.e = v.e ++ [⟨f, t, k, keyB x.k⟩] := by rw [← hv1, ← hk]; rfl
    have e5 : v1.P = v.P := by rw [← hv1]; rfl
    have e6 : v1.q = v.q := by rw [← hv1]; rfl
    have e7 : v1.L = v.L := by rw [← hv1]; rfl
    have e8 : v1.r = v.r := by rw [← hv1]; rfl
    rw [hv1]
    unfold enB
    have hrow : encL egC v.e ++ [[D.int .i64 f, D.int .i64 t, D.int .i64 k, D.bool (keyB x.k)]] = encL egC v1.e := by rw [e4, encL_app]; rfl
    have hel : v1.e.length = v.e.length + 1 := by rw [e4, List.length_append]; rfl
    refine DV.ofG (Γ := ⟨[(195, bkyD)], [], [29]⟩) (rs := []) [0, 1, 2, 3] ⟨by intro p hp; simp only [List.mem_singleton] at hp; subst hp; exact bky_cal, nofun⟩ (by kernel_rfl) Try.func189 rfl rfl (by kernel_rfl) rfl ?_; (repeat (with_reducible first | apply qa | apply qb | apply qc | apply qd | apply qe))
    refine DV.relaxG ?_
    (apply DV.drw; kernel_rfl; kernel_rfl; (simp only [wpS, wpT, go1, evS, ev, Qc, Qd, Qk, Qo, Qs, Qv, Qw, Qy, QB, QD, QE, QF, QJ, nilB, gdS, put1, sv, gs, gb, opd, cst, XW, QK, okS, QL, setAt, QM, QN, QO, bad, dem, QP, QR, QS, QT, QU, QV, QW, QY, stC, QZ, Q2, Q3, Q4, Q5, Q6, Q7, Q8, Q9, Xc, lf, lfs, Xd, Xe, Xg, Xh, Xj, Xk, Xm, Xo, asP, pOk, Xp, Xr, Xt, Xv, Nat.reduceBEq, cv, cvL, wrL, Xw, Xy, Xz, XA, XB, keep, kp, cand, cor, List.map, List.append, Option.bind, ↓reduceIte, Nat.reduceEqDiff, Nat.reduceAdd, Nat.reduceMul, Nat.reduceLT, Nat.reduceLeDiff, reduceCtorEq, Int.reduceLT, Int.reduceLE, Int.reduceBEq, Int.reduceBNe, Int.reduceAdd, Int.reduceSub, Int.reduceToNat, dq, tya, bkyD, i2n, encL_len, t0, t1, c3, c5, ndE, q2.out, q3.out, a1, range1, Nat.le_refl, hta, hrow]; exact ⟨rfl, rfl⟩); kernel_rfl; (repeat (with_reducible refine blockD_norm' ?_)); (try with_reducible refine thenD_norm' ?_); (repeat (with_reducible first | apply qa | apply qb | apply qc | apply qd | apply qe)))
    refine ⟨⟨[], [(4000, some ⟨0, 0, [[.lk 5000 v1.p.length, .lk 5001 v1.b.length, .lk 5002 v1.n.length, .lk 5003 v1.e.length, .lk 5004 v1.q, .lk 5005 v1.r]]⟩), (5000, some ⟨3, 1, encL inC v1.p⟩), (5001, some ⟨3, 1, encL inC v1.b⟩), (5002, some ⟨60, 4, encL ndC v1.n⟩), (5003, some ⟨78, 4, encL egC v1.e⟩), (5004, some ⟨3, 1, encL inC v1.P⟩), (5005, some ⟨181, 3, encL lpC v1.L⟩)], []⟩, (by (refine wk_of [(5003, some 29)] ?_ ?_ ?_ ?_ ?_ <;> (simp only [false_and, and_false, and_self, XC, XD, XE, XF, XG, XH, XI, convK, XJ, XK, XL, XM, XN, look, XO, XP, XR, XS, XT, XU, XV, encL_nil, encL_app, encL_cons, List.length_append, gdS, put1, sv, gs, gb, QK, setAt, bad, dem, QP, QR, QS, QT, QU, QV, QW, QY, Q2, Q3, lf, lfs, pOk, Nat.reduceBEq, XA, XB, keep, kp, cand, cor, List.map, List.append, Option.bind, ↓reduceIte, Nat.reduceEqDiff, Nat.reduceAdd, Nat.reduceMul, Nat.reduceLT, Nat.reduceLeDiff, reduceCtorEq, Int.reduceLT, Int.reduceLE, Int.reduceBEq, Int.reduceBNe, Int.reduceAdd, Int.reduceSub, Int.reduceToNat, dq, e1, e2, e3, e5, e6, e7, e8, hel]; try trivial))), ?_⟩
    ((repeat (with_reducible refine blockD_norm' ?_)); (with_reducible refine retG_norm ?_); (try simp only [v1Ok, resX, vL, rvS, unO, objX, wpS, wpT, go1, evS, ev, Qc, Qd, Qk, Qo, Qs, Qv, Qw, Qy, QB, QD, QE, QF, QJ, nilB, gdS, put1, sv, gs, gb, opd, cst, XW, QK, okS, QL, setAt, QM, QN, QO, bad, dem, QP, QR, QS, QT, QU, QV, QW, QY, stC, QZ, Q2, Q3, Q4, Q5, Q6, Q7, Q8, Q9, Xc, lf, lfs, Xd, Xe, Xg, Xh, Xj, Xk, Xm, Xo, asP, pOk, Xp, Xr, Xt, Xv, Nat.reduceBEq, cv, cvL, wrL, Xw, Xy, Xz, XA, XB, keep, kp, cand, cor, List.map, List.append, Option.bind, ↓reduceIte, Nat.reduceEqDiff, Nat.reduceAdd, Nat.reduceMul, Nat.reduceLT, Nat.reduceLeDiff, reduceCtorEq, Int.reduceLT, Int.reduceLE, Int.reduceBEq, Int.reduceBNe, Int.reduceAdd, Int.reduceSub, Int.reduceToNat, dq, tya, bkyD, e1, e2, e3, e5, e6, e7, e8, hel]))
    try decide
  · exact h.elim
theorem eds_at {t : Int} {l : List Int} {j : Nat} {f k : Int} {w : Bs} (h : l[j]? = some f) : edsS t (l.drop j) k w = edsS t (l.drop (j + 1)) (k + 1) (edgS w f t k) := by
  obtain ⟨h1, h2⟩ := List.getElem?_eq_some_iff.1 h
  rw [List.drop_eq_getElem_cons h1, h2, edsS]
def nodL : List S1 → Bt → (V1 × Bt) × Prop
  | [.box 4000 0, .agg x, .c (.sl l)], bs => ((.one (.c (.int .i64 (deB bs).n.length)), enB (nodS (deB bs) (ndC.dec x) (decL inC l))), bs = enB (deB bs) ∧ ndC.enc (ndC.dec x) = x ∧ isL inC l ∧ Fit (deB bs) 90000 ∧ (decL inC l).length ≤ 1000 ∧ (ndC.dec x).pr.length ≤ 1000000)
  | _, _ => ((.one (.c (.bool false)), []), False)
set_option maxHeartbeats 16000000 in
theorem nod_g (xs : List S1) (bs : Bt) (h : (nodL xs bs).2) : CalG Try.prog 162 xs bs (nodL xs bs).1.1 (nodL xs bs).1.2 := by
  unfold nodL at h ⊢
  split at h
  · rename_i x0 l0
    obtain ⟨hb, ho⟩ := h
    obtain ⟨v, hv⟩ : ∃ v, deB bs = v := ⟨_, rfl⟩
    rw [hv] at hb ho ⊢
    subst hb
    clear hv
    obtain ⟨hx, hl, hf, k3, k4⟩ := ho
    have hqp := hf.q
    have hlr := hf.r
    have k1 := hf.n.L
    have k2 := hf.n.n
    have k6 := hf.n.e
    obtain ⟨l, rfl⟩ : ∃ z, l0 = encL inC z := ⟨_, hl.symm⟩
    obtain ⟨x, rfl⟩ : ∃ z, x0 = ndC.enc z := ⟨_, hx.symm⟩
    clear hl hx
    rw [decL_encL] at k3 ⊢
    rw [ndC.de] at k4 ⊢
    have hsc : ∀ Q, scoI (vw Q (v.L.take v.r)) = scoI v := fun Q => vw_sco hlr
    have k5 : (v.L.take v.r).length ≤ 1000000 := by rw [List.length_take]; omega
    have cl1 : allK 2 (encL isC x.pr) := encL_all (C := isC) x.pr
    have cl2 : (encL isC x.pr).length ≤ 1073741823 := by rw [encL_len]; omega
    have cl3 : x.pr.length ≤ 1073741823 := by omega
    have q2 := Lib.hid (capOk_of (n := v.n.length + 1) (by omega))
    have q3 := Lib.hid (capB (n := v.n.length + 1) (k := 48) (by omega) (by decide))
    have a1 := nd_all v.n
    have ale := hlr
    have hta : (encL ndC v.n).take v.n.length = encL ndC v.n := by rw [encL_take, List.take_length]
    obtain ⟨v1, hv1⟩ : ∃ y, nodS v x l = y := ⟨_, rfl⟩
    rw [hv1]
    unfold nodS at hv1
    obtain ⟨v0, hv0⟩ : ∃ y, addN v x = y := ⟨_, rfl⟩
    rw [hv0] at hv1
    have f1 : v0.p = v.p := by rw [← hv0]; rfl
    have f2 : v0.b = v.b := by rw [← hv0]; rfl
    have f3 : v0.e = v.e := by rw [← hv0]; rfl
    have f4 : v0.P = v.P := by rw [← hv0]; rfl
    have f5 : v0.q = v.q := by rw [← hv0]; rfl
    have f6 : v0.L = v.L := by rw [← hv0]; rfl
    have f7 : v0.r = v.r := by rw [← hv0]; rfl
    have f8 : v0.n = v.n ++ [{ x with s := scoI v }] := by rw [← hv0]; rfl
    have hnl : v0.n.length = v.n.length + 1 := by rw [f8, List.length_append]; rfl
    have hrow : encL ndC v.n ++ [[D.int .i64 x.k, D.int .i64 (scoI v), D.int .i64 x.a, D.sl (encL isC x.pr)]] = encL ndC v0.n := by rw [f8, encL_app]; rfl
    unfold enB
    refine DV.ofG (Γ := ⟨[(187, bscD), (188, bclD)], [(189, locP [4000, 5000, 5001, 5002, 5003, 5004, 5005] edgL)], [31]⟩) (rs := [ResultVar.tmp 6]) [0, 1, 2, 4, 6, 7, 8, 9, 35, 36, 37, 38] ⟨by intro p hp; simp only [List.mem_cons, List.not_mem_nil, or_false] at hp; rcases hp with rfl | rfl; exact bsc_cal; exact bcl_cal, by intro p hp args bx d h; simp only [List.mem_singleton] at hp; subst hp; exact calM_pr edg_g h⟩ (by kernel_rfl) Try.func162 rfl rfl (by kernel_rfl) rfl ?_; (repeat (with_reducible first | apply qa | apply qb | apply qc | apply qd | apply qe))
    (apply DV.seqreg; kernel_rfl; (simp only [wpS, wpT, go1, evS, ev, Qc, Qd, Qg, Qk, Qo, Qs, Qu, Qv, Qy, QB, QD, QE, QF, QJ, nilB, gdS, put1, sv, gs, gb, opd, cst, XW, QK, okS, QL, setAt, QM, QN, bad, dem, QP, QR, QS, QT, QU, QV, QW, QY, stC, QZ, Q2, Q3, Q4, Q5, Q6, Q7, Q8, Q9, Xc, lf, lfs, Xd, Xe, Xg, Xh, Xj, Xk, Xm, Xo, asP, pOk, Xp, Xr, Xt, Xv, Nat.reduceBEq, cv, cvL, wrL, Xw, Xy, Xz, XA, XB, keep, kp, cand, cor, List.map, List.append, Option.bind, ↓reduceIte, Nat.reduceEqDiff, Nat.reduceAdd, Nat.reduceMul, Nat.reduceLT, Nat.reduceLeDiff, reduceCtorEq, Int.reduceLT, Int.reduceLE, Int.reduceBEq, Int.reduceBNe, Int.reduceAdd, Int.reduceSub, Int.reduceToNat, dq, tya, bscD, bclD, edgL, ndE]; exact rfl); (repeat (with_reducible first | apply qa | apply qb | apply qc | apply qd | apply qe)))
    (apply DV.seqreg; kernel_rfl; (simp only [wpS, wpT, go1, evS, ev, Qc, Qd, Qg, Qk, Qo, Qs, Qu, Qv, Qy, QB, QD, QE, QF, QJ, nilB, gdS, put1, sv, gs, gb, opd, cst, XW, QK, okS, QL, setAt, QM, QN, bad, dem, QP, QR, QS, QT, QU, QV, QW, QY, stC, QZ, Q2, Q3, Q4, Q5, Q6, Q7, Q8, Q9, Xc, lf, lfs, Xd, Xe, Xg, Xh, Xj, Xk, Xm, Xo, asP, pOk, Xp, Xr, Xt, Xv, Nat.reduceBEq, cv, cvL, wrL, Xw, Xy, Xz, XA, XB, keep, kp, cand, cor, List.map, List.append, Option.bind, ↓reduceIte, Nat.reduceEqDiff, Nat.reduceAdd, Nat.reduceMul, Nat.reduceLT, Nat.reduceLeDiff, reduceCtorEq, Int.reduceLT, Int.reduceLE, Int.reduceBEq, Int.reduceBNe, Int.reduceAdd, Int.reduceSub, Int.reduceToNat, dq, tya, bscD, bclD, edgL, encL_len]; exact rfl); (repeat (with_reducible first | apply qa | apply qb | apply qc | apply qd | apply qe)))
    (apply DV.seqreg; kernel_rfl; (simp only [wpS, wpT, go1, evS, ev, Qc, Qd, Qg, Qk, Qo, Qs, Qu, Qv, Qy, QB, QD, QE, QF, QJ, nilB, gdS, put1, sv, gs, gb, opd, cst, XW, QK, okS, QL, setAt, QM, QN, bad, dem, QP, QR, QS, QT, QU, QV, QW, QY, stC, QZ, Q2, Q3, Q4, Q5, Q6, Q7, Q8, Q9, Xc, lf, lfs, Xd, Xe, Xg, Xh, Xj, Xk, Xm, Xo, asP, pOk, Xp, Xr, Xt, Xv, Nat.reduceBEq, cv, cvL, wrL, Xw, Xy, Xz, XA, XB, keep, kp, cand, cor, List.map, List.append, Option.bind, ↓reduceIte, Nat.reduceEqDiff, Nat.reduceAdd, Nat.reduceMul, Nat.reduceLT, Nat.reduceLeDiff, reduceCtorEq, Int.reduceLT, Int.reduceLE, Int.reduceBEq, Int.reduceBNe, Int.reduceAdd, Int.reduceSub, Int.reduceToNat, dq, tya, bscD, bclD, edgL, ndE, encL_len, encL_take, decL_encL, isL_enc, k5, hlr, hsc, hqp, Nat.le_refl]; exact rfl); (repeat (with_reducible first | apply qa | apply qb | apply qc | apply qd | apply qe)))
    (apply DV.seqreg; kernel_rfl; (simp only [wpS, wpT, go1, evS, ev, Qc, Qd, Qg, Qk, Qo, Qs, Qu, Qv, Qy, QB, QD, QE, QF, QJ, nilB, gdS, put1, sv, gs, gb, opd, cst, XW, QK, okS, QL, setAt, QM, QN, bad, dem, QP, QR, QS, QT, QU, QV, QW, QY, stC, QZ, Q2, Q3, Q4, Q5, Q6, Q7, Q8, Q9, Xc, lf, lfs, Xd, Xe, Xg, Xh, Xj, Xk, Xm, Xo, asP, pOk, Xp, Xr, Xt, Xv, Nat.reduceBEq, cv, cvL, wrL, Xw, Xy, Xz, XA, XB, keep, kp, cand, cor, List.map, List.append, Option.bind, ↓reduceIte, Nat.reduceEqDiff, Nat.reduceAdd, Nat.reduceMul, Nat.reduceLT, Nat.reduceLeDiff, reduceCtorEq, Int.reduceLT, Int.reduceLE, Int.reduceBEq, Int.reduceBNe, Int.reduceAdd, Int.reduceSub, Int.reduceToNat, dq, tya, bscD, bclD, edgL, ndE, cl1, cl2, cl3, lfL_encL]; exact rfl); (repeat (with_reducible first | apply qa | apply qb | apply qc | apply qd | apply qe)))
    (apply DV.seqdrw; kernel_rfl; kernel_rfl; (simp only [wpS, wpT, go1, evS, ev, Qc, Qd, Qg, Qk, Qo, Qs, Qu, Qv, Qy, QB, QD, QE, QF, QJ, nilB, gdS, put1, sv, gs, gb, opd, cst, XW, QK, okS, QL, setAt, QM, QN, bad, dem, QP, QR, QS, QT, QU, QV, QW, QY, stC, QZ, Q2, Q3, Q4, Q5, Q6, Q7, Q8, Q9, Xc, lf, lfs, Xd, Xe, Xg, Xh, Xj, Xk, Xm, Xo, asP, pOk, Xp, Xr, Xt, Xv, Nat.reduceBEq, cv, cvL, wrL, Xw, Xy, Xz, XA, XB, keep, kp, cand, cor, List.map, List.append, Option.bind, ↓reduceIte, Nat.reduceEqDiff, Nat.reduceAdd, Nat.reduceMul, Nat.reduceLT, Nat.reduceLeDiff, reduceCtorEq, Int.reduceLT, Int.reduceLE, Int.reduceBEq, Int.reduceBNe, Int.reduceAdd, Int.reduceSub, Int.reduceToNat, dq, tya, bscD, bclD, edgL, encL_len, ndE, q2.out, q3.out, a1, range1, Nat.le_refl, hta, hrow]; exact ⟨rfl, rfl⟩); kernel_rfl; (repeat (with_reducible first | apply qa | apply qb | apply qc | apply qd | apply qe)))
    (apply DV.seqreg; kernel_rfl; (simp only [wpS, wpT, go1, evS, ev, Qc, Qd, Qg, Qk, Qo, Qs, Qu, Qv, Qy, QB, QD, QE, QF, QJ, nilB, gdS, put1, sv, gs, gb, opd, cst, XW, QK, okS, QL, setAt, QM, QN, bad, dem, QP, QR, QS, QT, QU, QV, QW, QY, stC, QZ, Q2, Q3, Q4, Q5, Q6, Q7, Q8, Q9, Xc, lf, lfs, Xd, Xe, Xg, Xh, Xj, Xk, Xm, Xo, asP, pOk, Xp, Xr, Xt, Xv, Nat.reduceBEq, cv, cvL, wrL, Xw, Xy, Xz, XA, XB, keep, kp, cand, cor, List.map, List.append, Option.bind, ↓reduceIte, Nat.reduceEqDiff, Nat.reduceAdd, Nat.reduceMul, Nat.reduceLT, Nat.reduceLeDiff, reduceCtorEq, Int.reduceLT, Int.reduceLE, Int.reduceBEq, Int.reduceBNe, Int.reduceAdd, Int.reduceSub, Int.reduceToNat, dq, tya, bscD, bclD, edgL, encL_len]; exact rfl); (repeat (with_reducible first | apply qa | apply qb | apply qc | apply qd | apply qe)))
    refine DV.loop (fun p : Nat × Bs => ⟨[(0, .v true (.box 4000 0)), (6, .v true (.c (.int .i64 0))), (7, .v true (.c (.int .i64 v.n.length))), (35, .v true (.c (.sl (encL inC l)))), (36, .v true (.c (.int .i64 l.length))), (37, .v true (.c (.int .i64 p.1)))], [(4000, some ⟨0, 0, [[.lk 5000 p.2.p.length, .lk 5001 p.2.b.length, .lk 5002 p.2.n.length, .lk 5003 p.2.e.length, .lk 5004 p.2.q, .lk 5005 p.2.r]]⟩), (5000, some ⟨3, 1, encL inC p.2.p⟩), (5001, some ⟨3, 1, encL inC p.2.b⟩), (5002, some ⟨60, 4, encL ndC p.2.n⟩), (5003, some ⟨78, 4, encL egC p.2.e⟩), (5004, some ⟨3, 1, encL inC p.2.P⟩), (5005, some ⟨181, 3, encL lpC p.2.L⟩)], []⟩) (fun p => p.1 ≤ l.length ∧ edsS v.n.length (l.drop p.1) p.1 p.2 = v1 ∧ p.2.n.length = v.n.length + 1 ∧ p.2.e.length + l.length ≤ v.e.length + l.length + p.1) (fun p => l.length - p.1) (0, v0) ⟨Nat.zero_le _, hv1, hnl, by dsimp only; rw [f3]; omega⟩ (by (refine wk_of [(5002, some 31)] ?_ ?_ ?_ ?_ ?_ <;> (simp only [false_and, and_false, and_self, XC, XD, XE, XF, XG, XH, XI, convK, XJ, XK, XL, XM, XN, look, XO, XP, XR, XS, XT, XU, XV, encL_nil, encL_app, encL_cons, List.length_append, gdS, put1, sv, gs, gb, QK, setAt, bad, dem, QP, QR, QS, QT, QU, QV, QW, QY, Q2, Q3, lf, lfs, pOk, Nat.reduceBEq, XA, XB, keep, kp, cand, cor, List.map, List.append, Option.bind, ↓reduceIte, Nat.reduceEqDiff, Nat.reduceAdd, Nat.reduceMul, Nat.reduceLT, Nat.reduceLeDiff, reduceCtorEq, Int.reduceLT, Int.reduceLE, Int.reduceBEq, Int.reduceBNe, Int.reduceAdd, Int.reduceSub, Int.reduceToNat, dq, n0, f1, f2, f3, f4, f5, f6, f7, hnl]; try trivial))) (fun p hp => ?_)
    obtain ⟨j, u⟩ := p
    dsimp only at hp ⊢
    obtain ⟨hj, hR, hun, hue⟩ := hp
    (repeat (with_reducible first | apply qa | apply qb | apply qc | apply qd | apply qe))
    by_cases hlt : j < l.length
    · obtain ⟨f, hf⟩ : ∃ f, l[j]? = some f := ⟨_, List.getElem?_eq_getElem hlt⟩
      have d1 : decide ((j : Int) < (l.length : Int)) = true := decide_eq_true (by omega)
      have c1 : (0 : Int) ≤ j := by omega
      have c2 : (j : Int) < (l.length : Int) := by omega
      have c3 := encL_get (C := inC) hf
      have ew := wr1 j (by omega)
      have t0 : (0 : Int) ≤ (v.n.length : Int) := by omega
      have t1 : (v.n.length : Int) < (u.n.length : Int) := by omega
      have t2 : u.e.length ≤ 1000000 := by omega
      rw [eds_at hf] at hR
      obtain ⟨u1, hu1⟩ : ∃ x, edgS u f v.n.length j = x := ⟨_, rfl⟩
      rw [hu1] at hR
      have g1 : u1.n.length = v.n.length + 1 := by rw [← hu1]; exact hun
      have g2 : u1.e.length = u.e.length + 1 := by rw [← hu1]; show (u.e ++ [_]).length = _; rw [List.length_append]; rfl
      (apply DV.seqreg; kernel_rfl; (simp only [wpS, wpT, go1, evS, ev, Qc, Qd, Qg, Qk, Qo, Qs, Qu, Qv, Qy, QB, QD, QE, QF, QJ, nilB, gdS, put1, sv, gs, gb, opd, cst, XW, QK, okS, QL, setAt, QM, QN, bad, dem, QP, QR, QS, QT, QU, QV, QW, QY, stC, QZ, Q2, Q3, Q4, Q5, Q6, Q7, Q8, Q9, Xc, lf, lfs, Xd, Xe, Xg, Xh, Xj, Xk, Xm, Xo, asP, pOk, Xp, Xr, Xt, Xv, Nat.reduceBEq, cv, cvL, wrL, Xw, Xy, Xz, XA, XB, keep, kp, cand, cor, List.map, List.append, Option.bind, ↓reduceIte, Nat.reduceEqDiff, Nat.reduceAdd, Nat.reduceMul, Nat.reduceLT, Nat.reduceLeDiff, reduceCtorEq, Int.reduceLT, Int.reduceLE, Int.reduceBEq, Int.reduceBNe, Int.reduceAdd, Int.reduceSub, Int.reduceToNat, dq, tya, bscD, bclD, edgL, d1]; exact rfl); (repeat (with_reducible first | apply qa | apply qb | apply qc | apply qd | apply qe)))
      (refine DV.condT rfl (fun _ => rfl) ?_; (repeat (with_reducible first | apply qa | apply qb | apply qc | apply qd | apply qe)))
      (refine DV.skip ?_; (repeat (with_reducible refine blockD_norm' ?_)); (with_reducible refine thenD_norm' ?_); (repeat (with_reducible first | apply qa | apply qb | apply qc | apply qd | apply qe)))
      (apply DV.seqreg; kernel_rfl; (simp only [wpS, wpT, go1, evS, ev, Qc, Qd, Qg, Qk, Qo, Qs, Qu, Qv, Qy, QB, QD, QE, QF, QJ, nilB, gdS, put1, sv, gs, gb, opd, cst, XW, QK, okS, QL, setAt, QM, QN, bad, dem, QP, QR, QS, QT, QU, QV, QW, QY, stC, QZ, Q2, Q3, Q4, Q5, Q6, Q7, Q8, Q9, Xc, lf, lfs, Xd, Xe, Xg, Xh, Xj, Xk, Xm, Xo, asP, pOk, Xp, Xr, Xt, Xv, Nat.reduceBEq, cv, cvL, wrL, Xw, Xy, Xz, XA, XB, keep, kp, cand, cor, List.map, List.append, Option.bind, ↓reduceIte, Nat.reduceEqDiff, Nat.reduceAdd, Nat.reduceMul, Nat.reduceLT, Nat.reduceLeDiff, reduceCtorEq, Int.reduceLT, Int.reduceLE, Int.reduceBEq, Int.reduceBNe, Int.reduceAdd, Int.reduceSub, Int.reduceToNat, dq, tya, bscD, bclD, edgL, i2n, encL_len, c1, c2, c3, inE]; exact rfl); (repeat (with_reducible first | apply qa | apply qb | apply qc | apply qd | apply qe)))
      (apply DV.reg; kernel_rfl; (simp only [wpS, wpT, go1, evS, ev, Qc, Qd, Qg, Qk, Qo, Qs, Qu, Qv, Qy, QB, QD, QE, QF, QJ, nilB, gdS, put1, sv, gs, gb, opd, cst, XW, QK, okS, QL, setAt, QM, QN, bad, dem, QP, QR, QS, QT, QU, QV, QW, QY, stC, QZ, Q2, Q3, Q4, Q5, Q6, Q7, Q8, Q9, Xc, lf, lfs, Xd, Xe, Xg, Xh, Xj, Xk, Xm, Xo, asP, pOk, Xp, Xr, Xt, Xv, Nat.reduceBEq, cv, cvL, wrL, Xw, Xy, Xz, XA, XB, keep, kp, cand, cor, List.map, List.append, Option.bind, ↓reduceIte, Nat.reduceEqDiff, Nat.reduceAdd, Nat.reduceMul, Nat.reduceLT, Nat.reduceLeDiff, reduceCtorEq, Int.reduceLT, Int.reduceLE, Int.reduceBEq, Int.reduceBNe, Int.reduceAdd, Int.reduceSub, Int.reduceToNat, dq, tya, bscD, bclD, edgL, false_and, and_false, and_self, locF, locP, locW, locN, refA, refO, backOk, renV, renSs, renS, renDs, renD, renK, rkK, renCs, renC, renL_nil, renL_cons, renL_app, renL_encL, renL_set, renDs_enc, rkV, rkSs, rkS, rkDs, rkD, rkCs, rkC, rkL_nil, rkL_cons, rkL_app, rkL_encL, rkL_set, rkDs_enc, refTs, refT, refPs, locs, swp, bsOf, insOk, bijOk, outsOf, freshOk, wbOut, rkB, deadB, deB, enB, decL_encL, isL_enc, encL_len, edgL, hu1, t0, t1, t2]; exact rfl); (repeat (with_reducible refine blockD_norm' ?_)); (try with_reducible refine thenD_norm' ?_); (repeat (with_reducible first | apply qa | apply qb | apply qc | apply qd | apply qe)))
      (apply DV.reg; kernel_rfl; (simp only [wpS, wpT, go1, evS, ev, Qc, Qd, Qg, Qk, Qo, Qs, Qu, Qv, Qy, QB, QD, QE, QF, QJ, nilB, gdS, put1, sv, gs, gb, opd, cst, XW, QK, okS, QL, setAt, QM, QN, bad, dem, QP, QR, QS, QT, QU, QV, QW, QY, stC, QZ, Q2, Q3, Q4, Q5, Q6, Q7, Q8, Q9, Xc, lf, lfs, Xd, Xe, Xg, Xh, Xj, Xk, Xm, Xo, asP, pOk, Xp, Xr, Xt, Xv, Nat.reduceBEq, cv, cvL, wrL, Xw, Xy, Xz, XA, XB, keep, kp, cand, cor, List.map, List.append, Option.bind, ↓reduceIte, Nat.reduceEqDiff, Nat.reduceAdd, Nat.reduceMul, Nat.reduceLT, Nat.reduceLeDiff, reduceCtorEq, Int.reduceLT, Int.reduceLE, Int.reduceBEq, Int.reduceBNe, Int.reduceAdd, Int.reduceSub, Int.reduceToNat, dq, tya, bscD, bclD, edgL, ew]; exact rfl); (repeat (with_reducible refine blockD_norm' ?_)); (try with_reducible refine thenD_norm' ?_); (repeat (with_reducible first | apply qa | apply qb | apply qc | apply qd | apply qe)))
      exact ⟨(j + 1, u1), ⟨⟨hlt, hR, g1, by dsimp only; omega⟩, by dsimp only; omega⟩, by (refine wk_of [(5000, some 100046), (5001, some 200046), (5002, some 300046), (5003, some 400046), (5004, some 500046), (5005, some 600046)] ?_ ?_ ?_ ?_ ?_ <;> (simp only [false_and, and_false, and_self, XC, XD, XE, XF, XG, XH, XI, convK, XJ, XK, XL, XM, XN, look, XO, XP, XR, XS, XT, XU, XV, encL_nil, encL_app, encL_cons, List.length_append, gdS, put1, sv, gs, gb, QK, setAt, bad, dem, QP, QR, QS, QT, QU, QV, QW, QY, Q2, Q3, lf, lfs, pOk, Nat.reduceBEq, XA, XB, keep, kp, cand, cor, List.map, List.append, Option.bind, ↓reduceIte, Nat.reduceEqDiff, Nat.reduceAdd, Nat.reduceMul, Nat.reduceLT, Nat.reduceLeDiff, reduceCtorEq, Int.reduceLT, Int.reduceLE, Int.reduceBEq, Int.reduceBNe, Int.reduceAdd, Int.reduceSub, Int.reduceToNat, dq]; try trivial))⟩
    obtain rfl : j = l.length := by omega
    have d1 : decide ((l.length : Int) < (l.length : Int)) = false := decide_eq_false (by omega)
    rw [List.drop_length] at hR
    obtain rfl : u = v1 := hR
    (apply DV.seqreg; kernel_rfl; (simp only [wpS, wpT, go1, evS, ev, Qc, Qd, Qg, Qk, Qo, Qs, Qu, Qv, Qy, QB, QD, QE, QF, QJ, nilB, gdS, put1, sv, gs, gb, opd, cst, XW, QK, okS, QL, setAt, QM, QN, bad, dem, QP, QR, QS, QT, QU, QV, QW, QY, stC, QZ, Q2, Q3, Q4, Q5, Q6, Q7, Q8, Q9, Xc, lf, lfs, Xd, Xe, Xg, Xh, Xj, Xk, Xm, Xo, asP, pOk, Xp, Xr, Xt, Xv, Nat.reduceBEq, cv, cvL, wrL, Xw, Xy, Xz, XA, XB, keep, kp, cand, cor, List.map, List.append, Option.bind, ↓reduceIte, Nat.reduceEqDiff, Nat.reduceAdd, Nat.reduceMul, Nat.reduceLT, Nat.reduceLeDiff, reduceCtorEq, Int.reduceLT, Int.reduceLE, Int.reduceBEq, Int.reduceBNe, Int.reduceAdd, Int.reduceSub, Int.reduceToNat, dq, tya, bscD, bclD, edgL, d1]; exact rfl); (repeat (with_reducible first | apply qa | apply qb | apply qc | apply qd | apply qe)))
    (refine DV.condF rfl (fun _ => rfl) ?_; (repeat (with_reducible first | apply qa | apply qb | apply qc | apply qd | apply qe)))
    (refine DV.exit ?_; (repeat (first | (with_reducible refine thenD_exit' ?_) | (with_reducible refine blockD_other (by decide) ?_))); (with_reducible refine blockD_same ?_); (repeat (with_reducible refine blockD_norm' ?_)); (with_reducible refine thenD_norm' ?_); (repeat (with_reducible first | apply qa | apply qb | apply qc | apply qd | apply qe)))
    (apply DV.seqreg; kernel_rfl; (simp only [wpS, wpT, go1, evS, ev, Qc, Qd, Qg, Qk, Qo, Qs, Qu, Qv, Qy, QB, QD, QE, QF, QJ, nilB, gdS, put1, sv, gs, gb, opd, cst, XW, QK, okS, QL, setAt, QM, QN, bad, dem, QP, QR, QS, QT, QU, QV, QW, QY, stC, QZ, Q2, Q3, Q4, Q5, Q6, Q7, Q8, Q9, Xc, lf, lfs, Xd, Xe, Xg, Xh, Xj, Xk, Xm, Xo, asP, pOk, Xp, Xr, Xt, Xv, Nat.reduceBEq, cv, cvL, wrL, Xw, Xy, Xz, XA, XB, keep, kp, cand, cor, List.map, List.append, Option.bind, ↓reduceIte, Nat.reduceEqDiff, Nat.reduceAdd, Nat.reduceMul, Nat.reduceLT, Nat.reduceLeDiff, reduceCtorEq, Int.reduceLT, Int.reduceLE, Int.reduceBEq, Int.reduceBNe, Int.reduceAdd, Int.reduceSub, Int.reduceToNat, dq, tya, bscD, bclD, edgL]; exact rfl); (repeat (with_reducible first | apply qa | apply qb | apply qc | apply qd | apply qe)))
    (refine DV.ret ?_; (repeat (first | (with_reducible refine thenD_ret' ?_) | (with_reducible refine blockD_ret' ?_))); (with_reducible refine retG_ret ?_); (try simp only [v1Ok, resX, vL, rvS, unO, objX, wpS, wpT, go1, evS, ev, Qc, Qd, Qg, Qk, Qo, Qs, Qu, Qv, Qy, QB, QD, QE, QF, QJ, nilB, gdS, put1, sv, gs, gb, opd, cst, XW, QK, okS, QL, setAt, QM, QN, bad, dem, QP, QR, QS, QT, QU, QV, QW, QY, stC, QZ, Q2, Q3, Q4, Q5, Q6, Q7, Q8, Q9, Xc, lf, lfs, Xd, Xe, Xg, Xh, Xj, Xk, Xm, Xo, asP, pOk, Xp, Xr, Xt, Xv, Nat.reduceBEq, cv, cvL, wrL, Xw, Xy, Xz, XA, XB, keep, kp, cand, cor, List.map, List.append, Option.bind, ↓reduceIte, Nat.reduceEqDiff, Nat.reduceAdd, Nat.reduceMul, Nat.reduceLT, Nat.reduceLeDiff, reduceCtorEq, Int.reduceLT, Int.reduceLE, Int.reduceBEq, Int.reduceBNe, Int.reduceAdd, Int.reduceSub, Int.reduceToNat, dq, tya, bscD, bclD, edgL]))
    try decide
  · exact h.elim
end Go.Proofs.Ytkmgdejpdhlleaa.Dq
