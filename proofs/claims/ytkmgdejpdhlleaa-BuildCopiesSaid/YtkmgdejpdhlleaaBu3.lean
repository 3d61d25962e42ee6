/- Graphs put together step by step, by deep values: begin and end of loops. -/
import Derived.Test.YtkmgdejpdhlleaaBu2
namespace Go.Proofs.Ytkmgdejpdhlleaa.Dq
set_option linter.unusedSimpArgs false
set_option linter.unusedVariables false
set_option maxRecDepth 100000
open Go.RowKit
open Va

/-- Nil as an empty list, in arguments. -/
def nz : S1 → S1
  | .agg l => .agg (QY l)
  | .nil => .c (.sl [])
  | x => x
theorem nz_ok {G : Gh} {W : World} {x : S1} {v : Value} (h : D1 G W x v) : D1 G W (nz x) v := by
  cases x with
  | agg l => obtain ⟨us, h1, h2⟩ := h; exact ⟨us, h1, deNls_ok h2⟩
  | nil => obtain rfl := h; exact Den.nil _ _
  | _ => exact h
theorem calG_nz {P : Program} {f : FuncId} {xs : List S1} {bs : Bt} {x : V1} {bs' : Bt} (h : CalG P f (xs.map nz) bs x bs') : CalG P f xs bs x bs' := fun M A0 G W vs hG hd => h M A0 G W vs hG ⟨by rw [List.length_map]; exact hd.1, fun j y u h1 h2 => by
  rw [List.getElem?_map] at h1
  cases hx : xs[j]? with
  | none => rw [hx] at h1; cases h1
  | some z =>
    rw [hx] at h1
    obtain rfl := Option.some.inj h1
    exact nz_ok (hd.2 j z u hx h2)⟩
def nodZL (xs : List S1) (bs : Bt) : (V1 × Bt) × Prop := nodL (xs.map nz) bs
theorem nodZ_g (xs : List S1) (bs : Bt) (h : (nodZL xs bs).2) : CalG Try.prog 162 xs bs (nodZL xs bs).1.1 (nodZL xs bs).1.2 := calG_nz (nod_g _ _ h)
def begL : List S1 → Bt → (V1 × Bt) × Prop
  | [.box 4000 0, .c (.int .i64 bd)], bs => ((.tup [], enB (begS (deB bs) bd)), bs = enB (deB bs) ∧ 0 < (deB bs).q ∧ Fit (deB bs) 80000)
  | _, _ => ((.one (.c (.bool false)), []), False)
set_option maxHeartbeats 16000000 in
theorem beg_g (xs : List S1) (bs : Bt) (h : (begL xs bs).2) : CalG Try.prog 164 xs bs (begL xs bs).1.1 (begL xs bs).1.2 := by
  unfold begL at h ⊢
  split at h
  · rename_i bd
    obtain ⟨hb, ho⟩ := h
    obtain ⟨v, hv⟩ : ∃ v, deB bs = v := ⟨_, rfl⟩
    rw [hv] at hb ho ⊢
    subst hb
    clear hv
    obtain ⟨q0, hf⟩ := ho
    have hf9 : Fit v 90000 := hf.le (by decide)
    obtain ⟨x, hx⟩ : ∃ zz, popI v = zz := ⟨_, rfl⟩
    obtain ⟨u1, hu1⟩ : ∃ zz, popS v = zz := ⟨_, rfl⟩
    obtain ⟨u2, hu2⟩ : ∃ zz, scpS u1 bd = zz := ⟨_, rfl⟩
    obtain ⟨u3, hu3⟩ : ∃ zz, opnS u2 ⟨u1.p.length, 0, u1.q⟩ = zz := ⟨_, rfl⟩
    obtain ⟨u4, hu4⟩ : ∃ zz, nodS u3 ⟨10, 0, 0, []⟩ [x] = zz := ⟨_, rfl⟩
    obtain ⟨u5, hu5⟩ : ∃ zz, nodS u4 ⟨5, 0, 0, []⟩ [(u3.n.length : Int)] = zz := ⟨_, rfl⟩
    obtain ⟨u6, hu6⟩ : ∃ zz, setS u5 ⟨u1.p.length, u4.n.length, u1.q⟩ = zz := ⟨_, rfl⟩
    obtain ⟨v1, hv1⟩ : ∃ zz, pushS u6 [(u4.n.length : Int)] = zz := ⟨_, rfl⟩
    have hall : begS v bd = v1 := by rw [← hv1, ← hu6, ← hu5, ← hu4, ← hu3, ← hu2, ← hu1, ← hx]; rfl
    rw [hall]
    have f1 : Fit u1 80000 := by rw [← hu1]; exact hf.pop
    have f2 : Fit u2 80001 := by rw [← hu2]; exact f1.scp
    have f3' : Fit u3 80002 := by rw [← hu3]; exact f2.opn
    have f3 : Fit u3 90000 := f3'.le (by decide)
    have f4' : Fit u4 80004 := by rw [← hu4]; exact f3'.nod
    have f4 : Fit u4 90000 := f4'.le (by decide)
    have f5 : Fit u5 80006 := by rw [← hu5]; exact f4'.nod
    have f6 : Fit u6 90000 := by rw [← hu6]; exact (f5.set).le (by decide)
    have u2_p : u2.p = u1.p ++ [scoI u1] := by rw [← hu2] <;> rfl
    have u2_b : u2.b = u1.b ++ [bd] := by rw [← hu2] <;> rfl
    have u2_n : u2.n = u1.n := by rw [← hu2] <;> rfl
    have u2_e : u2.e = u1.e := by rw [← hu2] <;> rfl
    have u2_P : u2.P = u1.P := by rw [← hu2] <;> rfl
    have u2_q : u2.q = u1.q := by rw [← hu2] <;> rfl
    have u2_L : u2.L = u1.L := by rw [← hu2] <;> rfl
    have u2_r : u2.r = u1.r := by rw [← hu2] <;> rfl
    have u3_p : u3.p = u2.p := by rw [← hu3] <;> rfl
    have u3_b : u3.b = u2.b := by rw [← hu3] <;> rfl
    have u3_n : u3.n = u2.n := by rw [← hu3] <;> rfl
    have u3_e : u3.e = u2.e := by rw [← hu3] <;> rfl
    have u3_P : u3.P = u2.P := by rw [← hu3] <;> rfl
    have u3_q : u3.q = u2.q := by rw [← hu3] <;> rfl
    have u3_L : u3.L = u2.L.take u2.r ++ [⟨u1.p.length, 0, u1.q⟩] := by rw [← hu3] <;> rfl
    have u3_r : u3.r = u2.r + 1 := by rw [← hu3] <;> rfl
    have u6_p : u6.p = u5.p := by rw [← hu6] <;> rfl
    have u6_b : u6.b = u5.b := by rw [← hu6] <;> rfl
    have u6_n : u6.n = u5.n := by rw [← hu6] <;> rfl
    have u6_e : u6.e = u5.e := by rw [← hu6] <;> rfl
    have u6_P : u6.P = u5.P := by rw [← hu6] <;> rfl
    have u6_q : u6.q = u5.q := by rw [← hu6] <;> rfl
    have u6_L : u6.L = u5.L.set (u5.r - 1) ⟨u1.p.length, u4.n.length, u1.q⟩ := by rw [← hu6] <;> rfl
    have u6_r : u6.r = u5.r := by rw [← hu6] <;> rfl
    have hsc1 : ∀ Q, scoI (vw Q (u1.L.take u1.r)) = scoI u1 := fun Q => vw_sco f1.r
    have hlr1 := f1.r
    have hqp1 := f1.q
    have hlr2 := f2.r
    have k5 : (u1.L.take u1.r).length ≤ 1000000 := by rw [List.length_take]; have := f1.n.L; omega
    have hta1 : (encL inC u1.p).take u1.p.length = encL inC u1.p := by rw [encL_take, List.take_length]
    have hta2 : (encL inC u1.b).take u1.b.length = encL inC u1.b := by rw [encL_take, List.take_length]
    have hrow1 : encL inC u1.p ++ [[D.int .i64 (scoI u1)]] = encL inC u2.p := by rw [u2_p, encL_app]; rfl
    have hrow2 : encL inC u1.b ++ [[D.int .i64 bd]] = encL inC u2.b := by rw [u2_b, encL_app]; rfl
    have l2p : u2.p.length = u1.p.length + 1 := by rw [u2_p, List.length_append]; rfl
    have l2b : u2.b.length = u1.b.length + 1 := by rw [u2_b, List.length_append]; rfl
    have m1 := f1.n.p
    have m2 := f1.n.b
    have m3 := f2.n.L
    have a1 := Lib.hid (capOk_of (n := u1.p.length + 1) (by omega))
    have a2 := Lib.hid (capB (n := u1.p.length + 1) (k := 8) (by omega) (by decide))
    have a3 := Lib.hid (capOk_of (n := u1.b.length + 1) (by omega))
    have a4 := Lib.hid (capB (n := u1.b.length + 1) (k := 8) (by omega) (by decide))
    have a5 := Lib.hid (capOk_of (n := u2.r + 1) (by omega))
    have a6 := Lib.hid (capB (n := u2.r + 1) (k := 24) (by omega) (by decide))
    have b1 := in_all u1.p
    have b2 := in_all u1.b
    have b3 := lp_all u2.L
    have hrow3 : (encL lpC u2.L).take u2.r ++ [[D.int .i64 u1.p.length, D.int .i64 0, D.int .i64 u1.q]] = encL lpC u3.L := by rw [u3_L, encL_app, encL_take]; rfl
    have hx1 : decL inC [[D.int .i64 x]] = [x] := rfl
    have hi1 : isL inC [[D.int .i64 x]] = True := eq_true rfl
    have hx2 : decL inC [[D.int .i64 u3.n.length]] = [(u3.n.length : Int)] := rfl
    have hi2 : isL inC [[D.int .i64 u3.n.length]] = True := eq_true rfl
    have hx3 : decL inC [[D.int .i64 u4.n.length]] = [(u4.n.length : Int)] := rfl
    have hi3 : isL inC [[D.int .i64 u4.n.length]] = True := eq_true rfl
    have hr5 : u5.r = u2.r + 1 := by rw [← hu5, (nod_sme _ _ _).r]; show u4.r = _; rw [← hu4, (nod_sme _ _ _).r]; exact u3_r
    have ew5 : IntKind.wrap .i64 ((u5.r : Int) - 1) = ((u5.r - 1 : Nat) : Int) := by rw [IntKind.wrap_i64]; have := f5.r; have := f5.n.L; omega
    have c51 : (0 : Int) ≤ ((u5.r - 1 : Nat) : Int) := by omega
    have c52 : ((u5.r - 1 : Nat) : Int) < (u5.r : Int) := by omega
    have c53 : u5.r - 1 < u5.L.length := by have := f5.r; omega
    obtain ⟨y5, c55⟩ : ∃ y, u5.L[u5.r - 1]? = some y := ⟨_, List.getElem?_eq_getElem c53⟩
    have c54 := encL_get (C := lpC) c55
    have hset : (encL lpC u5.L).set (u5.r - 1) [D.int .i64 u1.p.length, D.int .i64 u4.n.length, D.int .i64 u1.q] = encL lpC u6.L := by rw [u6_L, show [D.int .i64 u1.p.length, D.int .i64 u4.n.length, D.int .i64 u1.q] = lpC.enc ⟨u1.p.length, u4.n.length, u1.q⟩ from rfl, encL_set]
    have nd5 : ndC.dec [D.int .i64 5, D.int .i64 0, D.int .i64 0, D.sl []] = ⟨5, 0, 0, []⟩ := rfl
    have ne5 : ndC.enc ⟨5, 0, 0, []⟩ = [D.int .i64 5, D.int .i64 0, D.int .i64 0, D.sl []] := rfl
    have nd10 : ndC.dec [D.int .i64 10, D.int .i64 0, D.int .i64 0, D.sl []] = ⟨10, 0, 0, []⟩ := rfl
    have ne10 : ndC.enc ⟨10, 0, 0, []⟩ = [D.int .i64 10, D.int .i64 0, D.int .i64 0, D.sl []] := rfl
    have nd11 : ndC.dec [D.int .i64 11, D.int .i64 0, D.int .i64 0, D.sl []] = ⟨11, 0, 0, []⟩ := rfl
    have ne11 : ndC.enc ⟨11, 0, 0, []⟩ = [D.int .i64 11, D.int .i64 0, D.int .i64 0, D.sl []] := rfl
    have nd12 : ndC.dec [D.int .i64 12, D.int .i64 0, D.int .i64 0, D.sl []] = ⟨12, 0, 0, []⟩ := rfl
    have ne12 : ndC.enc ⟨12, 0, 0, []⟩ = [D.int .i64 12, D.int .i64 0, D.int .i64 0, D.sl []] := rfl
    unfold enB
    refine DV.ofG (Γ := ⟨[(187, bscD)], [(163, locP [4000, 5000, 5001, 5002, 5003, 5004, 5005] popL), (162, locP [4000, 5000, 5001, 5002, 5003, 5004, 5005] nodZL), (161, locP [4000, 5000, 5001, 5002, 5003, 5004, 5005] pshL)], [30, 38, 52]⟩) (rs := []) [0, 1, 4, 5] ⟨by intro p hp; simp only [List.mem_singleton] at hp; subst hp; exact bsc_cal, by intro p hp args bx d h; simp only [List.mem_cons, List.not_mem_nil, or_false] at hp; rcases hp with rfl | rfl | rfl; exact calM_pr pop_g h; exact calM_pr nodZ_g h; exact calM_pr psh_g h⟩ (by kernel_rfl) Try.func164 rfl rfl (by kernel_rfl) rfl ?_; (repeat (with_reducible first | apply qa | apply qb | apply qc | apply qd | apply qe))
    refine DV.relaxG ?_
    (apply DV.seqreg; kernel_rfl; (simp only [wpS, wpT, go1, evS, ev, Qc, Qd, Qg, Qk, Qo, Qs, Qt, Qv, Qw, Qy, QB, QD, QE, QF, QJ, nilB, gdS, put1, sv, gs, gb, opd, cst, XW, QK, okS, QL, setAt, QM, QN, QO, bad, dem, QP, QR, QS, QT, QU, QV, QW, QY, stC, QZ, Q2, Q3, Q4, Q5, Q6, Q7, Q8, Q9, Xc, lf, lfs, Xd, Xe, Xg, Xh, Xj, Xk, Xm, Xo, asP, pOk, Xp, Xr, Xt, Xv, Nat.reduceBEq, cv, cvL, wrL, Xw, Xy, Xz, XA, XB, keep, kp, cand, cor, List.map, List.append, Option.bind, ↓reduceIte, Nat.reduceEqDiff, Nat.reduceAdd, Nat.reduceMul, Nat.reduceLT, Nat.reduceLeDiff, reduceCtorEq, Int.reduceLT, Int.reduceLE, Int.reduceBEq, Int.reduceBNe, Int.reduceAdd, Int.reduceSub, Int.reduceToNat, dq, tya, bscD, popL, nodZL, pshL, false_and, and_false, and_self, locF, locP, locW, locN, refA, refO, backOk, renV, renSs, renS, renDs, renD, renK, rkK, renCs, renC, renL_nil, renL_cons, renL_app, renL_encL, renL_set, renDs_enc, rkV, rkSs, rkS, rkDs, rkD, rkCs, rkC, rkL_nil, rkL_cons, rkL_app, rkL_encL, rkL_set, rkDs_enc, refTs, refT, refPs, locs, swp, bsOf, insOk, bijOk, outsOf, freshOk, wbOut, rkB, deadB, deB, enB, decL_encL, isL_enc, encL_len, popL, hu1, hx, q0, hf9]; exact rfl); (repeat (with_reducible first | apply qa | apply qb | apply qc | apply qd | apply qe)))
    refine DV.weak (σ' := ⟨[(0, .v true (.box 4000 0)), (1, .v true (.c (.int .i64 bd))), (4, .v true (.c (.int .i64 x)))], [(4000, some ⟨0, 0, [[.lk 5000 u1.p.length, .lk 5001 u1.b.length, .lk 5002 u1.n.length, .lk 5003 u1.e.length, .lk 5004 u1.q, .lk 5005 u1.r]]⟩), (5000, some ⟨3, 1, encL inC u1.p⟩), (5001, some ⟨3, 1, encL inC u1.b⟩), (5002, some ⟨60, 4, encL ndC u1.n⟩), (5003, some ⟨78, 4, encL egC u1.e⟩), (5004, some ⟨3, 1, encL inC u1.P⟩), (5005, some ⟨181, 3, encL lpC u1.L⟩)], []⟩) (by (refine wk_of [(5000, some 100007), (5001, some 200007), (5002, some 300007), (5003, some 400007), (5004, some 500007), (5005, some 600007)] ?_ ?_ ?_ ?_ ?_ <;> (simp only [false_and, and_false, and_self, XC, XD, XE, XF, XG, XH, XI, convK, XJ, XK, XL, XM, XN, look, XO, XP, XR, XS, XT, XU, XV, encL_nil, encL_app, encL_cons, List.length_append, gdS, put1, sv, gs, gb, QK, setAt, bad, dem, QP, QR, QS, QT, QU, QV, QW, QY, Q2, Q3, lf, lfs, pOk, Nat.reduceBEq, XA, XB, keep, kp, cand, cor, List.map, List.append, Option.bind, ↓reduceIte, Nat.reduceEqDiff, Nat.reduceAdd, Nat.reduceMul, Nat.reduceLT, Nat.reduceLeDiff, reduceCtorEq, Int.reduceLT, Int.reduceLE, Int.reduceBEq, Int.reduceBNe, Int.reduceAdd, Int.reduceSub, Int.reduceToNat, dq]; try trivial))) ?_
    (apply DV.seqdrw; kernel_rfl; kernel_rfl; (simp only [wpS, wpT, go1, evS, ev, Qc, Qd, Qg, Qk, Qo, Qs, Qt, Qv, Qw, Qy, QB, QD, QE, QF, QJ, nilB, gdS, put1, sv, gs, gb, opd, cst, XW, QK, okS, QL, setAt, QM, QN, QO, bad, dem, QP, QR, QS, QT, QU, QV, QW, QY, stC, QZ, Q2, Q3, Q4, Q5, Q6, Q7, Q8, Q9, Xc, lf, lfs, Xd, Xe, Xg, Xh, Xj, Xk, Xm, Xo, asP, pOk, Xp, Xr, Xt, Xv, Nat.reduceBEq, cv, cvL, wrL, Xw, Xy, Xz, XA, XB, keep, kp, cand, cor, List.map, List.append, Option.bind, ↓reduceIte, Nat.reduceEqDiff, Nat.reduceAdd, Nat.reduceMul, Nat.reduceLT, Nat.reduceLeDiff, reduceCtorEq, Int.reduceLT, Int.reduceLE, Int.reduceBEq, Int.reduceBNe, Int.reduceAdd, Int.reduceSub, Int.reduceToNat, dq, tya, bscD, popL, nodZL, pshL, encL_len]; exact ⟨rfl, rfl⟩); kernel_rfl; (repeat (with_reducible first | apply qa | apply qb | apply qc | apply qd | apply qe)))
    (apply DV.seqdrw; kernel_rfl; kernel_rfl; (simp only [wpS, wpT, go1, evS, ev, Qc, Qd, Qg, Qk, Qo, Qs, Qt, Qv, Qw, Qy, QB, QD, QE, QF, QJ, nilB, gdS, put1, sv, gs, gb, opd, cst, XW, QK, okS, QL, setAt, QM, QN, QO, bad, dem, QP, QR, QS, QT, QU, QV, QW, QY, stC, QZ, Q2, Q3, Q4, Q5, Q6, Q7, Q8, Q9, Xc, lf, lfs, Xd, Xe, Xg, Xh, Xj, Xk, Xm, Xo, asP, pOk, Xp, Xr, Xt, Xv, Nat.reduceBEq, cv, cvL, wrL, Xw, Xy, Xz, XA, XB, keep, kp, cand, cor, List.map, List.append, Option.bind, ↓reduceIte, Nat.reduceEqDiff, Nat.reduceAdd, Nat.reduceMul, Nat.reduceLT, Nat.reduceLeDiff, reduceCtorEq, Int.reduceLT, Int.reduceLE, Int.reduceBEq, Int.reduceBNe, Int.reduceAdd, Int.reduceSub, Int.reduceToNat, dq, tya, bscD, popL, nodZL, pshL, encL_len, encL_take, decL_encL, isL_enc, k5, hlr1, hsc1, hqp1, Nat.le_refl, a1.out, a2.out, a3.out, a4.out, b1, b2, hta1, hta2, hrow1, hrow2, range1]; exact ⟨rfl, rfl⟩); kernel_rfl; (repeat (with_reducible first | apply qa | apply qb | apply qc | apply qd | apply qe)))
    refine DV.weak (σ' := ⟨[(0, .v true (.box 4000 0)), (4, .v true (.c (.int .i64 x))), (5, .v true (.box 5 0))], [(4000, some ⟨0, 0, [[.lk 5000 u2.p.length, .lk 5001 u2.b.length, .lk 5002 u2.n.length, .lk 5003 u2.e.length, .lk 5004 u2.q, .lk 5005 u2.r]]⟩), (5000, some ⟨3, 1, encL inC u2.p⟩), (5001, some ⟨3, 1, encL inC u2.b⟩), (5002, some ⟨60, 4, encL ndC u2.n⟩), (5003, some ⟨78, 4, encL egC u2.e⟩), (5004, some ⟨3, 1, encL inC u2.P⟩), (5005, some ⟨181, 3, encL lpC u2.L⟩), (5, some ⟨0, 0, [[.int .i64 u1.p.length, .int .i64 0, .int .i64 u1.q]]⟩)], []⟩) (by (refine wk_of [(5000, some 30), (5001, some 38)] ?_ ?_ ?_ ?_ ?_ <;> (simp only [false_and, and_false, and_self, XC, XD, XE, XF, XG, XH, XI, convK, XJ, XK, XL, XM, XN, look, XO, XP, XR, XS, XT, XU, XV, encL_nil, encL_app, encL_cons, List.length_append, gdS, put1, sv, gs, gb, QK, setAt, bad, dem, QP, QR, QS, QT, QU, QV, QW, QY, Q2, Q3, lf, lfs, pOk, Nat.reduceBEq, XA, XB, keep, kp, cand, cor, List.map, List.append, Option.bind, ↓reduceIte, Nat.reduceEqDiff, Nat.reduceAdd, Nat.reduceMul, Nat.reduceLT, Nat.reduceLeDiff, reduceCtorEq, Int.reduceLT, Int.reduceLE, Int.reduceBEq, Int.reduceBNe, Int.reduceAdd, Int.reduceSub, Int.reduceToNat, dq, u2_n, u2_e, u2_P, u2_q, u2_L, u2_r, l2p, l2b]; try trivial))) ?_
    (apply DV.seqdrw; kernel_rfl; kernel_rfl; (simp only [wpS, wpT, go1, evS, ev, Qc, Qd, Qg, Qk, Qo, Qs, Qt, Qv, Qw, Qy, QB, QD, QE, QF, QJ, nilB, gdS, put1, sv, gs, gb, opd, cst, XW, QK, okS, QL, setAt, QM, QN, QO, bad, dem, QP, QR, QS, QT, QU, QV, QW, QY, stC, QZ, Q2, Q3, Q4, Q5, Q6, Q7, Q8, Q9, Xc, lf, lfs, Xd, Xe, Xg, Xh, Xj, Xk, Xm, Xo, asP, pOk, Xp, Xr, Xt, Xv, Nat.reduceBEq, cv, cvL, wrL, Xw, Xy, Xz, XA, XB, keep, kp, cand, cor, List.map, List.append, Option.bind, ↓reduceIte, Nat.reduceEqDiff, Nat.reduceAdd, Nat.reduceMul, Nat.reduceLT, Nat.reduceLeDiff, reduceCtorEq, Int.reduceLT, Int.reduceLE, Int.reduceBEq, Int.reduceBNe, Int.reduceAdd, Int.reduceSub, Int.reduceToNat, dq, tya, bscD, popL, nodZL, pshL, encL_len, hlr2, a5.out, a6.out, b3, hrow3, range1, lpE]; exact ⟨rfl, rfl⟩); kernel_rfl; (repeat (with_reducible first | apply qa | apply qb | apply qc | apply qd | apply qe)))
    refine DV.weak (σ' := ⟨[(0, .v true (.box 4000 0)), (4, .v true (.c (.int .i64 x))), (5, .v true (.box 5 0))], [(4000, some ⟨0, 0, [[.lk 5000 u3.p.length, .lk 5001 u3.b.length, .lk 5002 u3.n.length, .lk 5003 u3.e.length, .lk 5004 u3.q, .lk 5005 u3.r]]⟩), (5000, some ⟨3, 1, encL inC u3.p⟩), (5001, some ⟨3, 1, encL inC u3.b⟩), (5002, some ⟨60, 4, encL ndC u3.n⟩), (5003, some ⟨78, 4, encL egC u3.e⟩), (5004, some ⟨3, 1, encL inC u3.P⟩), (5005, some ⟨181, 3, encL lpC u3.L⟩), (5, some ⟨0, 0, [[.int .i64 u1.p.length, .int .i64 0, .int .i64 u1.q]]⟩)], []⟩) (by (refine wk_of [(5005, some 52)] ?_ ?_ ?_ ?_ ?_ <;> (simp only [false_and, and_false, and_self, XC, XD, XE, XF, XG, XH, XI, convK, XJ, XK, XL, XM, XN, look, XO, XP, XR, XS, XT, XU, XV, encL_nil, encL_app, encL_cons, List.length_append, gdS, put1, sv, gs, gb, QK, setAt, bad, dem, QP, QR, QS, QT, QU, QV, QW, QY, Q2, Q3, lf, lfs, pOk, Nat.reduceBEq, XA, XB, keep, kp, cand, cor, List.map, List.append, Option.bind, ↓reduceIte, Nat.reduceEqDiff, Nat.reduceAdd, Nat.reduceMul, Nat.reduceLT, Nat.reduceLeDiff, reduceCtorEq, Int.reduceLT, Int.reduceLE, Int.reduceBEq, Int.reduceBNe, Int.reduceAdd, Int.reduceSub, Int.reduceToNat, dq, u3_p, u3_b, u3_n, u3_e, u3_P, u3_q, u3_r]; try trivial))) ?_
    (apply DV.seqreg; kernel_rfl; (simp only [wpS, wpT, go1, evS, ev, Qc, Qd, Qg, Qk, Qo, Qs, Qt, Qv, Qw, Qy, QB, QD, QE, QF, QJ, nilB, gdS, put1, sv, gs, gb, opd, cst, XW, QK, okS, QL, setAt, QM, QN, QO, bad, dem, QP, QR, QS, QT, QU, QV, QW, QY, stC, QZ, Q2, Q3, Q4, Q5, Q6, Q7, Q8, Q9, Xc, lf, lfs, Xd, Xe, Xg, Xh, Xj, Xk, Xm, Xo, asP, pOk, Xp, Xr, Xt, Xv, Nat.reduceBEq, cv, cvL, wrL, Xw, Xy, Xz, XA, XB, keep, kp, cand, cor, List.map, List.append, Option.bind, ↓reduceIte, Nat.reduceEqDiff, Nat.reduceAdd, Nat.reduceMul, Nat.reduceLT, Nat.reduceLeDiff, reduceCtorEq, Int.reduceLT, Int.reduceLE, Int.reduceBEq, Int.reduceBNe, Int.reduceAdd, Int.reduceSub, Int.reduceToNat, dq, tya, bscD, popL, nodZL, pshL, false_and, and_false, and_self, locF, locP, locW, locN, refA, refO, backOk, renV, renSs, renS, renDs, renD, renK, rkK, renCs, renC, renL_nil, renL_cons, renL_app, renL_encL, renL_set, renDs_enc, rkV, rkSs, rkS, rkDs, rkD, rkCs, rkC, rkL_nil, rkL_cons, rkL_app, rkL_encL, rkL_set, rkDs_enc, refTs, refT, refPs, locs, swp, bsOf, insOk, bijOk, outsOf, freshOk, wbOut, rkB, deadB, deB, enB, decL_encL, isL_enc, encL_len, nodZL, nodL, nz, QY, QW, Nat.reduceLeDiff, nd10, ne10, nd5, ne5, Nat.zero_le, f3, f4, hx1, hx2, hi1, hi2, hu4, hu5]; exact rfl); (repeat (with_reducible first | apply qa | apply qb | apply qc | apply qd | apply qe)))
    trace_state
    refine DV.weak (σ' := ⟨[(0, .v true (.box 4000 0)), (5, .v true (.box 5 0))], [(4000, some ⟨0, 0, [[.lk 5000 u5.p.length, .lk 5001 u5.b.length, .lk 5002 u5.n.length, .lk 5003 u5.e.length, .lk 5004 u5.q, .lk 5005 u5.r]]⟩), (5000, some ⟨3, 1, encL inC u5.p⟩), (5001, some ⟨3, 1, encL inC u5.b⟩), (5002, some ⟨60, 4, encL ndC u5.n⟩), (5003, some ⟨78, 4, encL egC u5.e⟩), (5004, some ⟨3, 1, encL inC u5.P⟩), (5005, some ⟨181, 3, encL lpC u5.L⟩), (5, some ⟨0, 0, [[.int .i64 u1.p.length, .int .i64 u4.n.length, .int .i64 u1.q]]⟩)], []⟩) (by (refine wk_of [(5000, some 100063), (5001, some 200063), (5002, some 300063), (5003, some 400063), (5004, some 500063), (5005, some 600063)] ?_ ?_ ?_ ?_ ?_ <;> (simp only [false_and, and_false, and_self, XC, XD, XE, XF, XG, XH, XI, convK, XJ, XK, XL, XM, XN, look, XO, XP, XR, XS, XT, XU, XV, encL_nil, encL_app, encL_cons, List.length_append, gdS, put1, sv, gs, gb, QK, setAt, bad, dem, QP, QR, QS, QT, QU, QV, QW, QY, Q2, Q3, lf, lfs, pOk, Nat.reduceBEq, XA, XB, keep, kp, cand, cor, List.map, List.append, Option.bind, ↓reduceIte, Nat.reduceEqDiff, Nat.reduceAdd, Nat.reduceMul, Nat.reduceLT, Nat.reduceLeDiff, reduceCtorEq, Int.reduceLT, Int.reduceLE, Int.reduceBEq, Int.reduceBNe, Int.reduceAdd, Int.reduceSub, Int.reduceToNat, dq]; try trivial))) ?_
    (apply DV.seqdrw; kernel_rfl; kernel_rfl; (simp only [wpS, wpT, go1, evS, ev, Qc, Qd, Qg, Qk, Qo, Qs, Qt, Qv, Qw, Qy, QB, QD, QE, QF, QJ, nilB, gdS, put1, sv, gs, gb, opd, cst, XW, QK, okS, QL, setAt, QM, QN, QO, bad, dem, QP, QR, QS, QT, QU, QV, QW, QY, stC, QZ, Q2, Q3, Q4, Q5, Q6, Q7, Q8, Q9, Xc, lf, lfs, Xd, Xe, Xg, Xh, Xj, Xk, Xm, Xo, asP, pOk, Xp, Xr, Xt, Xv, Nat.reduceBEq, cv, cvL, wrL, Xw, Xy, Xz, XA, XB, keep, kp, cand, cor, List.map, List.append, Option.bind, ↓reduceIte, Nat.reduceEqDiff, Nat.reduceAdd, Nat.reduceMul, Nat.reduceLT, Nat.reduceLeDiff, reduceCtorEq, Int.reduceLT, Int.reduceLE, Int.reduceBEq, Int.reduceBNe, Int.reduceAdd, Int.reduceSub, Int.reduceToNat, dq, tya, bscD, popL, nodZL, pshL, i2n, encL_len, ew5, c51, c52, c53, c54, hset, lpE]; exact ⟨rfl, rfl⟩); kernel_rfl; (repeat (with_reducible first | apply qa | apply qb | apply qc | apply qd | apply qe)))
    refine DV.weak (σ' := ⟨[(0, .v true (.box 4000 0)), (5, .v true (.box 5 0))], [(4000, some ⟨0, 0, [[.lk 5000 u6.p.length, .lk 5001 u6.b.length, .lk 5002 u6.n.length, .lk 5003 u6.e.length, .lk 5004 u6.q, .lk 5005 u6.r]]⟩), (5000, some ⟨3, 1, encL inC u6.p⟩), (5001, some ⟨3, 1, encL inC u6.b⟩), (5002, some ⟨60, 4, encL ndC u6.n⟩), (5003, some ⟨78, 4, encL egC u6.e⟩), (5004, some ⟨3, 1, encL inC u6.P⟩), (5005, some ⟨181, 3, encL lpC u6.L⟩), (5, some ⟨0, 0, [[.int .i64 u1.p.length, .int .i64 u4.n.length, .int .i64 u1.q]]⟩)], []⟩) (by (refine wk_of [] ?_ ?_ ?_ ?_ ?_ <;> (simp only [false_and, and_false, and_self, XC, XD, XE, XF, XG, XH, XI, convK, XJ, XK, XL, XM, XN, look, XO, XP, XR, XS, XT, XU, XV, encL_nil, encL_app, encL_cons, List.length_append, gdS, put1, sv, gs, gb, QK, setAt, bad, dem, QP, QR, QS, QT, QU, QV, QW, QY, Q2, Q3, lf, lfs, pOk, Nat.reduceBEq, XA, XB, keep, kp, cand, cor, List.map, List.append, Option.bind, ↓reduceIte, Nat.reduceEqDiff, Nat.reduceAdd, Nat.reduceMul, Nat.reduceLT, Nat.reduceLeDiff, reduceCtorEq, Int.reduceLT, Int.reduceLE, Int.reduceBEq, Int.reduceBNe, Int.reduceAdd, Int.reduceSub, Int.reduceToNat, dq, u6_p, u6_b, u6_n, u6_e, u6_P, u6_q, u6_r]; try trivial))) ?_
    (apply DV.reg; kernel_rfl; (simp only [wpS, wpT, go1, evS, ev, Qc, Qd, Qg, Qk, Qo, Qs, Qt, Qv, Qw, Qy, QB, QD, QE, QF, QJ, nilB, gdS, put1, sv, gs, gb, opd, cst, XW, QK, okS, QL, setAt, QM, QN, QO, bad, dem, QP, QR, QS, QT, QU, QV, QW, QY, stC, QZ, Q2, Q3, Q4, Q5, Q6, Q7, Q8, Q9, Xc, lf, lfs, Xd, Xe, Xg, Xh, Xj, Xk, Xm, Xo, asP, pOk, Xp, Xr, Xt, Xv, Nat.reduceBEq, cv, cvL, wrL, Xw, Xy, Xz, XA, XB, keep, kp, cand, cor, List.map, List.append, Option.bind, ↓reduceIte, Nat.reduceEqDiff, Nat.reduceAdd, Nat.reduceMul, Nat.reduceLT, Nat.reduceLeDiff, reduceCtorEq, Int.reduceLT, Int.reduceLE, Int.reduceBEq, Int.reduceBNe, Int.reduceAdd, Int.reduceSub, Int.reduceToNat, dq, tya, bscD, popL, nodZL, pshL, false_and, and_false, and_self, locF, locP, locW, locN, refA, refO, backOk, renV, renSs, renS, renDs, renD, renK, rkK, renCs, renC, renL_nil, renL_cons, renL_app, renL_encL, renL_set, renDs_enc, rkV, rkSs, rkS, rkDs, rkD, rkCs, rkC, rkL_nil, rkL_cons, rkL_app, rkL_encL, rkL_set, rkDs_enc, refTs, refT, refPs, locs, swp, bsOf, insOk, bijOk, outsOf, freshOk, wbOut, rkB, deadB, deB, enB, decL_encL, isL_enc, encL_len, pshL, f6, hx3, hi3, hv1, Nat.reduceLeDiff]; exact rfl); (repeat (with_reducible refine blockD_norm' ?_)); (try with_reducible refine thenD_norm' ?_); (repeat (with_reducible first | apply qa | apply qb | apply qc | apply qd | apply qe)))
    refine ⟨⟨[], [(4000, some ⟨0, 0, [[.lk 5000 v1.p.length, .lk 5001 v1.b.length, .lk 5002 v1.n.length, .lk 5003 v1.e.length, .lk 5004 v1.q, .lk 5005 v1.r]]⟩), (5000, some ⟨3, 1, encL inC v1.p⟩), (5001, some ⟨3, 1, encL inC v1.b⟩), (5002, some ⟨60, 4, encL ndC v1.n⟩), (5003, some ⟨78, 4, encL egC v1.e⟩), (5004, some ⟨3, 1, encL inC v1.P⟩), (5005, some ⟨181, 3, encL lpC v1.L⟩)], []⟩, (by (refine wk_of [(5000, some 100081), (5001, some 200081), (5002, some 300081), (5003, some 400081), (5004, some 500081), (5005, some 600081)] ?_ ?_ ?_ ?_ ?_ <;> (simp only [false_and, and_false, and_self, XC, XD, XE, XF, XG, XH, XI, convK, XJ, XK, XL, XM, XN, look, XO, XP, XR, XS, XT, XU, XV, encL_nil, encL_app, encL_cons, List.length_append, gdS, put1, sv, gs, gb, QK, setAt, bad, dem, QP, QR, QS, QT, QU, QV, QW, QY, Q2, Q3, lf, lfs, pOk, Nat.reduceBEq, XA, XB, keep, kp, cand, cor, List.map, List.append, Option.bind, ↓reduceIte, Nat.reduceEqDiff, Nat.reduceAdd, Nat.reduceMul, Nat.reduceLT, Nat.reduceLeDiff, reduceCtorEq, Int.reduceLT, Int.reduceLE, Int.reduceBEq, Int.reduceBNe, Int.reduceAdd, Int.reduceSub, Int.reduceToNat, dq]; try trivial))), ?_⟩
    ((repeat (with_reducible refine blockD_norm' ?_)); (with_reducible refine retG_norm ?_); (try simp only [v1Ok, resX, vL, rvS, unO, objX, wpS, wpT, go1, evS, ev, Qc, Qd, Qg, Qk, Qo, Qs, Qt, Qv, Qw, Qy, QB, QD, QE, QF, QJ, nilB, gdS, put1, sv, gs, gb, opd, cst, XW, QK, okS, QL, setAt, QM, QN, QO, bad, dem, QP, QR, QS, QT, QU, QV, QW, QY, stC, QZ, Q2, Q3, Q4, Q5, Q6, Q7, Q8, Q9, Xc, lf, lfs, Xd, Xe, Xg, Xh, Xj, Xk, Xm, Xo, asP, pOk, Xp, Xr, Xt, Xv, Nat.reduceBEq, cv, cvL, wrL, Xw, Xy, Xz, XA, XB, keep, kp, cand, cor, List.map, List.append, Option.bind, ↓reduceIte, Nat.reduceEqDiff, Nat.reduceAdd, Nat.reduceMul, Nat.reduceLT, Nat.reduceLeDiff, reduceCtorEq, Int.reduceLT, Int.reduceLE, Int.reduceBEq, Int.reduceBNe, Int.reduceAdd, Int.reduceSub, Int.reduceToNat, dq, tya, bscD, popL, nodZL, pshL]))
    try decide
  · exact h.elim
/-- A loop may be ended. -/
structure EnOk (v : Bs) : Prop where
  q : 0 < v.q
  r : 0 < v.r
  f : Fit v 80000
  b0 : 0 ≤ (lpAt v).b
  b1 : (lpAt v).b < v.n.length
  f0 : 0 ≤ (lpAt v).f
  f1 : (lpAt v).f ≤ ((v.q - 1 : Nat) : Int)
def enlL : List S1 → Bt → (V1 × Bt) × Prop
  | [.box 4000 0], bs => ((.tup [], enB (endS (deB bs))), bs = enB (deB bs) ∧ EnOk (deB bs))
  | _, _ => ((.one (.c (.bool false)), []), False)
set_option maxHeartbeats 16000000 in
theorem enl_g (xs : List S1) (bs : Bt) (h : (enlL xs bs).2) : CalG Try.prog 165 xs bs (enlL xs bs).1.1 (enlL xs bs).1.2 := by
  unfold enlL at h ⊢
  split at h
  · skip
    obtain ⟨hb, ho⟩ := h
    obtain ⟨v, hv⟩ : ∃ v, deB bs = v := ⟨_, rfl⟩
    rw [hv] at hb ho ⊢
    subst hb
    clear hv
    obtain ⟨q0, r0, hf, y0, y1, y2, y3⟩ := ho
    have hf9 : Fit v 90000 := hf.le (by decide)
    obtain ⟨x, hx⟩ : ∃ zz, popI v = zz := ⟨_, rfl⟩
    obtain ⟨u1, hu1⟩ : ∃ zz, popS v = zz := ⟨_, rfl⟩
    obtain ⟨y, hy⟩ : ∃ zz, lpAt v = zz := ⟨_, rfl⟩
    rw [hy] at y0 y1 y2 y3
    obtain ⟨u2, hu2⟩ : ∃ zz, nodS u1 ⟨12, 0, 0, []⟩ [x] = zz := ⟨_, rfl⟩
    obtain ⟨u3, hu3⟩ : ∃ zz, edgS u2 u1.n.length y.b 1 = zz := ⟨_, rfl⟩
    obtain ⟨u4, hu4⟩ : ∃ zz, nodS u3 ⟨11, 0, 0, []⟩ [x] = zz := ⟨_, rfl⟩
    obtain ⟨u5, hu5⟩ : ∃ zz, ({ u4 with r := u4.r - 1 } : Bs) = zz := ⟨_, rfl⟩
    obtain ⟨v1, hv1⟩ : ∃ zz, ({ u5 with P := u5.P.take y.f.toNat ++ [(u3.n.length : Int)], q := y.f.toNat + 1 } : Bs) = zz := ⟨_, rfl⟩
    have hall : endS v = v1 := by rw [← hv1, ← hu5, ← hu4, ← hu3, ← hu2, ← hu1, ← hx, ← hy]; rfl
    rw [hall]
    have f1' : Fit u1 80000 := by rw [← hu1]; exact hf.pop
    have f1 : Fit u1 90000 := f1'.le (by decide)
    have f2 : Fit u2 80002 := by rw [← hu2]; exact f1'.nod
    have f3' : Fit u3 80003 := by rw [← hu3]; exact f2.edg
    have f3 : Fit u3 90000 := f3'.le (by decide)
    have f4 : Fit u4 80005 := by rw [← hu4]; exact f3'.nod
    have u3_p : u3.p = u2.p := by rw [← hu3] <;> rfl
    have u3_b : u3.b = u2.b := by rw [← hu3] <;> rfl
    have u3_n : u3.n = u2.n := by rw [← hu3] <;> rfl
    have u3_e : u3.e = u2.e ++ [⟨u1.n.length, y.b, 1, keyB (ndK u2 y.b)⟩] := by rw [← hu3] <;> rfl
    have u3_P : u3.P = u2.P := by rw [← hu3] <;> rfl
    have u3_q : u3.q = u2.q := by rw [← hu3] <;> rfl
    have u3_L : u3.L = u2.L := by rw [← hu3] <;> rfl
    have u3_r : u3.r = u2.r := by rw [← hu3] <;> rfl
    have u5_p : u5.p = u4.p := by rw [← hu5] <;> rfl
    have u5_b : u5.b = u4.b := by rw [← hu5] <;> rfl
    have u5_n : u5.n = u4.n := by rw [← hu5] <;> rfl
    have u5_e : u5.e = u4.e := by rw [← hu5] <;> rfl
    have u5_P : u5.P = u4.P := by rw [← hu5] <;> rfl
    have u5_q : u5.q = u4.q := by rw [← hu5] <;> rfl
    have u5_L : u5.L = u4.L := by rw [← hu5] <;> rfl
    have u5_r : u5.r = u4.r - 1 := by rw [← hu5] <;> rfl
    have v1_p : v1.p = u5.p := by rw [← hv1] <;> rfl
    have v1_b : v1.b = u5.b := by rw [← hv1] <;> rfl
    have v1_n : v1.n = u5.n := by rw [← hv1] <;> rfl
    have v1_e : v1.e = u5.e := by rw [← hv1] <;> rfl
    have v1_P : v1.P = u5.P.take y.f.toNat ++ [(u3.n.length : Int)] := by rw [← hv1] <;> rfl
    have v1_q : v1.q = y.f.toNat + 1 := by rw [← hv1] <;> rfl
    have v1_L : v1.L = u5.L := by rw [← hv1] <;> rfl
    have v1_r : v1.r = u5.r := by rw [← hv1] <;> rfl
    have hx1 : decL inC [[D.int .i64 x]] = [x] := rfl
    have hi1 : isL inC [[D.int .i64 x]] = True := eq_true rfl
    have n1 : u1.n.length = v.n.length := by rw [← hu1]; rfl
    have n2 : u2.n.length = u1.n.length + 1 := by rw [← hu2]; exact nod_len _ _ _
    have b0 : 0 ≤ y.b := y0
    have b1 : y.b < (u2.n.length : Int) := by omega
    have k2 : u2.e.length ≤ 1000000 := by have := f2.n.e; omega
    have r1 : u1.r = v.r := by rw [← hu1]; rfl
    have L1 : u1.L = v.L := by rw [← hu1]; rfl
    have ew1 : IntKind.wrap .i64 ((u1.r : Int) - 1) = ((u1.r - 1 : Nat) : Int) := by rw [IntKind.wrap_i64]; have := f1'.r; have := f1'.n.L; omega
    have c11 : (0 : Int) ≤ ((u1.r - 1 : Nat) : Int) := by omega
    have c12 : ((u1.r - 1 : Nat) : Int) < (u1.r : Int) := by omega
    have c13 : u1.r - 1 < u1.L.length := by have := f1'.r; omega
    have c15 : u1.L[u1.r - 1]? = some y := by
      rw [L1, r1, ← hy]
      unfold lpAt
      rw [List.getElem?_eq_getElem (by rw [L1, r1] at c13; exact c13)]
      rfl
    have c14 := encL_get (C := lpC) c15
    have r4 : u4.r = v.r := by rw [← hu4, (nod_sme _ _ _).r]; show u3.r = _; rw [u3_r, ← hu2, (nod_sme _ _ _).r]; exact r1
    have q4 : u4.q = v.q - 1 := by rw [← hu4, (nod_sme _ _ _).q]; show u3.q = _; rw [u3_q, ← hu2, (nod_sme _ _ _).q, ← hu1]; rfl
    have ew4 : IntKind.wrap .i64 ((u4.r : Int) - 1) = ((u4.r - 1 : Nat) : Int) := by rw [IntKind.wrap_i64]; have := f4.r; have := f4.n.L; omega
    have c41 : (0 : Int) ≤ ((u4.r - 1 : Nat) : Int) := by omega
    have c42 : ((u4.r - 1 : Nat) : Int) ≤ (u4.r : Int) := by omega
    have c43 : u4.r - 1 ≤ u4.L.length := by have := f4.r; omega
    have d3 := lp_all u4.L
    have c51 : 0 ≤ y.f := y2
    have c52 : y.f ≤ (u5.q : Int) := by rw [u5_q, q4]; exact y3
    have c53 : y.f.toNat ≤ u5.P.length := by have := f4.q; rw [u5_P]; rw [u5_q] at c52; omega
    have m5 : u5.P.length ≤ 100000 := by have := f4.n.P; rw [u5_P]; omega
    have a1 := Lib.hid (capOk_of (n := y.f.toNat + 1) (by omega))
    have a2 := Lib.hid (capB (n := y.f.toNat + 1) (k := 8) (by omega) (by decide))
    have d4 := in_all u5.P
    have hrow : (encL inC u5.P).take y.f.toNat ++ [[D.int .i64 u3.n.length]] = encL inC v1.P := by rw [v1_P, encL_app, encL_take]; rfl
    have nd5 : ndC.dec [D.int .i64 5, D.int .i64 0, D.int .i64 0, D.sl []] = ⟨5, 0, 0, []⟩ := rfl
    have ne5 : ndC.enc ⟨5, 0, 0, []⟩ = [D.int .i64 5, D.int .i64 0, D.int .i64 0, D.sl []] := rfl
    have nd10 : ndC.dec [D.int .i64 10, D.int .i64 0, D.int .i64 0, D.sl []] = ⟨10, 0, 0, []⟩ := rfl
    have ne10 : ndC.enc ⟨10, 0, 0, []⟩ = [D.int .i64 10, D.int .i64 0, D.int .i64 0, D.sl []] := rfl
    have nd11 : ndC.dec [D.int .i64 11, D.int .i64 0, D.int .i64 0, D.sl []] = ⟨11, 0, 0, []⟩ := rfl
    have ne11 : ndC.enc ⟨11, 0, 0, []⟩ = [D.int .i64 11, D.int .i64 0, D.int .i64 0, D.sl []] := rfl
    have nd12 : ndC.dec [D.int .i64 12, D.int .i64 0, D.int .i64 0, D.sl []] = ⟨12, 0, 0, []⟩ := rfl
    have ne12 : ndC.enc ⟨12, 0, 0, []⟩ = [D.int .i64 12, D.int .i64 0, D.int .i64 0, D.sl []] := rfl
    unfold enB
    refine DV.ofG (Γ := ⟨[], [(163, locP [4000, 5000, 5001, 5002, 5003, 5004, 5005] popL), (162, locP [4000, 5000, 5001, 5002, 5003, 5004, 5005] nodZL), (189, locP [4000, 5000, 5001, 5002, 5003, 5004, 5005] edgL)], [57]⟩) (rs := []) [0, 2, 3, 4] ⟨nofun, by intro p hp args bx d h; simp only [List.mem_cons, List.not_mem_nil, or_false] at hp; rcases hp with rfl | rfl | rfl; exact calM_pr pop_g h; exact calM_pr nodZ_g h; exact calM_pr edg_g h⟩ (by kernel_rfl) Try.func165 rfl rfl (by kernel_rfl) rfl ?_; (repeat (with_reducible first | apply qa | apply qb | apply qc | apply qd | apply qe))
    refine DV.relaxG ?_
    (apply DV.seqreg; kernel_rfl; (simp only [wpS, wpT, go1, evS, ev, Qc, Qd, Qg, Qk, Qo, Qs, Qt, Qv, Qw, Qy, Qz, QB, QD, QE, QF, QJ, nilB, gdS, put1, sv, gs, gb, opd, cst, XW, QK, okS, QL, setAt, QM, QN, QO, bnd, bad, dem, QP, QR, QS, QT, QU, QV, QW, QY, stC, QZ, Q2, Q3, Q4, Q5, Q6, Q7, Q8, Q9, Xc, lf, lfs, Xd, Xe, Xg, Xh, Xj, Xk, Xm, Xo, asP, pOk, Xp, Xr, Xt, Xv, Nat.reduceBEq, cv, cvL, wrL, Xw, Xy, Xz, XA, XB, keep, kp, cand, cor, List.map, List.append, Option.bind, ↓reduceIte, Nat.reduceEqDiff, Nat.reduceAdd, Nat.reduceMul, Nat.reduceLT, Nat.reduceLeDiff, reduceCtorEq, Int.reduceLT, Int.reduceLE, Int.reduceBEq, Int.reduceBNe, Int.reduceAdd, Int.reduceSub, Int.reduceToNat, dq, tya, popL, nodZL, edgL, false_and, and_false, and_self, locF, locP, locW, locN, refA, refO, backOk, renV, renSs, renS, renDs, renD, renK, rkK, renCs, renC, renL_nil, renL_cons, renL_app, renL_encL, renL_set, renDs_enc, rkV, rkSs, rkS, rkDs, rkD, rkCs, rkC, rkL_nil, rkL_cons, rkL_app, rkL_encL, rkL_set, rkDs_enc, refTs, refT, refPs, locs, swp, bsOf, insOk, bijOk, outsOf, freshOk, wbOut, rkB, deadB, deB, enB, decL_encL, isL_enc, encL_len, popL, hu1, hx, q0, hf9]; exact rfl); (repeat (with_reducible first | apply qa | apply qb | apply qc | apply qd | apply qe)))
    refine DV.weak (σ' := ⟨[(0, .v true (.box 4000 0)), (2, .v true (.c (.int .i64 x)))], [(4000, some ⟨0, 0, [[.lk 5000 u1.p.length, .lk 5001 u1.b.length, .lk 5002 u1.n.length, .lk 5003 u1.e.length, .lk 5004 u1.q, .lk 5005 u1.r]]⟩), (5000, some ⟨3, 1, encL inC u1.p⟩), (5001, some ⟨3, 1, encL inC u1.b⟩), (5002, some ⟨60, 4, encL ndC u1.n⟩), (5003, some ⟨78, 4, encL egC u1.e⟩), (5004, some ⟨3, 1, encL inC u1.P⟩), (5005, some ⟨181, 3, encL lpC u1.L⟩)], []⟩) (by (refine wk_of [(5000, some 100006), (5001, some 200006), (5002, some 300006), (5003, some 400006), (5004, some 500006), (5005, some 600006)] ?_ ?_ ?_ ?_ ?_ <;> (simp only [false_and, and_false, and_self, XC, XD, XE, XF, XG, XH, XI, convK, XJ, XK, XL, XM, XN, look, XO, XP, XR, XS, XT, XU, XV, encL_nil, encL_app, encL_cons, List.length_append, gdS, put1, sv, gs, gb, QK, setAt, bad, dem, QP, QR, QS, QT, QU, QV, QW, QY, Q2, Q3, lf, lfs, pOk, Nat.reduceBEq, XA, XB, keep, kp, cand, cor, List.map, List.append, Option.bind, ↓reduceIte, Nat.reduceEqDiff, Nat.reduceAdd, Nat.reduceMul, Nat.reduceLT, Nat.reduceLeDiff, reduceCtorEq, Int.reduceLT, Int.reduceLE, Int.reduceBEq, Int.reduceBNe, Int.reduceAdd, Int.reduceSub, Int.reduceToNat, dq]; try trivial))) ?_
    (apply DV.seqdrw; kernel_rfl; kernel_rfl; (simp only [wpS, wpT, go1, evS, ev, Qc, Qd, Qg, Qk, Qo, Qs, Qt, Qv, Qw, Qy, Qz, QB, QD, QE, QF, QJ, nilB, gdS, put1, sv, gs, gb, opd, cst, XW, QK, okS, QL, setAt, QM, QN, QO, bnd, bad, dem, QP, QR, QS, QT, QU, QV, QW, QY, stC, QZ, Q2, Q3, Q4, Q5, Q6, Q7, Q8, Q9, Xc, lf, lfs, Xd, Xe, Xg, Xh, Xj, Xk, Xm, Xo, asP, pOk, Xp, Xr, Xt, Xv, Nat.reduceBEq, cv, cvL, wrL, Xw, Xy, Xz, XA, XB, keep, kp, cand, cor, List.map, List.append, Option.bind, ↓reduceIte, Nat.reduceEqDiff, Nat.reduceAdd, Nat.reduceMul, Nat.reduceLT, Nat.reduceLeDiff, reduceCtorEq, Int.reduceLT, Int.reduceLE, Int.reduceBEq, Int.reduceBNe, Int.reduceAdd, Int.reduceSub, Int.reduceToNat, dq, tya, popL, nodZL, edgL, i2n, encL_len, ew1, c11, c12, c13, c14, lpE]; exact ⟨rfl, rfl⟩); kernel_rfl; (repeat (with_reducible first | apply qa | apply qb | apply qc | apply qd | apply qe)))
    refine DV.weak (σ' := ⟨[(0, .v true (.box 4000 0)), (2, .v true (.c (.int .i64 x))), (3, .v true (.box 3 0))], [(4000, some ⟨0, 0, [[.lk 5000 u1.p.length, .lk 5001 u1.b.length, .lk 5002 u1.n.length, .lk 5003 u1.e.length, .lk 5004 u1.q, .lk 5005 u1.r]]⟩), (5000, some ⟨3, 1, encL inC u1.p⟩), (5001, some ⟨3, 1, encL inC u1.b⟩), (5002, some ⟨60, 4, encL ndC u1.n⟩), (5003, some ⟨78, 4, encL egC u1.e⟩), (5004, some ⟨3, 1, encL inC u1.P⟩), (5005, some ⟨181, 3, encL lpC u1.L⟩), (3, some ⟨0, 0, [[.int .i64 y.s, .int .i64 y.b, .int .i64 y.f]]⟩)], []⟩) (by (refine wk_of [] ?_ ?_ ?_ ?_ ?_ <;> (simp only [false_and, and_false, and_self, XC, XD, XE, XF, XG, XH, XI, convK, XJ, XK, XL, XM, XN, look, XO, XP, XR, XS, XT, XU, XV, encL_nil, encL_app, encL_cons, List.length_append, gdS, put1, sv, gs, gb, QK, setAt, bad, dem, QP, QR, QS, QT, QU, QV, QW, QY, Q2, Q3, lf, lfs, pOk, Nat.reduceBEq, XA, XB, keep, kp, cand, cor, List.map, List.append, Option.bind, ↓reduceIte, Nat.reduceEqDiff, Nat.reduceAdd, Nat.reduceMul, Nat.reduceLT, Nat.reduceLeDiff, reduceCtorEq, Int.reduceLT, Int.reduceLE, Int.reduceBEq, Int.reduceBNe, Int.reduceAdd, Int.reduceSub, Int.reduceToNat, dq]; try trivial))) ?_
    (apply DV.seqdrw; kernel_rfl; kernel_rfl; (simp only [wpS, wpT, go1, evS, ev, Qc, Qd, Qg, Qk, Qo, Qs, Qt, Qv, Qw, Qy, Qz, QB, QD, QE, QF, QJ, nilB, gdS, put1, sv, gs, gb, opd, cst, XW, QK, okS, QL, setAt, QM, QN, QO, bnd, bad, dem, QP, QR, QS, QT, QU, QV, QW, QY, stC, QZ, Q2, Q3, Q4, Q5, Q6, Q7, Q8, Q9, Xc, lf, lfs, Xd, Xe, Xg, Xh, Xj, Xk, Xm, Xo, asP, pOk, Xp, Xr, Xt, Xv, Nat.reduceBEq, cv, cvL, wrL, Xw, Xy, Xz, XA, XB, keep, kp, cand, cor, List.map, List.append, Option.bind, ↓reduceIte, Nat.reduceEqDiff, Nat.reduceAdd, Nat.reduceMul, Nat.reduceLT, Nat.reduceLeDiff, reduceCtorEq, Int.reduceLT, Int.reduceLE, Int.reduceBEq, Int.reduceBNe, Int.reduceAdd, Int.reduceSub, Int.reduceToNat, dq, tya, popL, nodZL, edgL, false_and, and_false, and_self, locF, locP, locW, locN, refA, refO, backOk, renV, renSs, renS, renDs, renD, renK, rkK, renCs, renC, renL_nil, renL_cons, renL_app, renL_encL, renL_set, renDs_enc, rkV, rkSs, rkS, rkDs, rkD, rkCs, rkC, rkL_nil, rkL_cons, rkL_app, rkL_encL, rkL_set, rkDs_enc, refTs, refT, refPs, locs, swp, bsOf, insOk, bijOk, outsOf, freshOk, wbOut, rkB, deadB, deB, enB, decL_encL, isL_enc, encL_len, nodZL, nodL, nz, QY, QW, Nat.reduceLeDiff, nd12, ne12, Nat.zero_le, f1, hx1, hi1, hu2, hu3, edgL, b0, b1, k2]; exact ⟨rfl, rfl⟩); kernel_rfl; (repeat (with_reducible first | apply qa | apply qb | apply qc | apply qd | apply qe)))
    refine DV.weak (σ' := ⟨[(0, .v true (.box 4000 0)), (2, .v true (.c (.int .i64 x))), (3, .v true (.box 3 0))], [(4000, some ⟨0, 0, [[.lk 5000 u3.p.length, .lk 5001 u3.b.length, .lk 5002 u3.n.length, .lk 5003 u3.e.length, .lk 5004 u3.q, .lk 5005 u3.r]]⟩), (5000, some ⟨3, 1, encL inC u3.p⟩), (5001, some ⟨3, 1, encL inC u3.b⟩), (5002, some ⟨60, 4, encL ndC u3.n⟩), (5003, some ⟨78, 4, encL egC u3.e⟩), (5004, some ⟨3, 1, encL inC u3.P⟩), (5005, some ⟨181, 3, encL lpC u3.L⟩), (3, some ⟨0, 0, [[.int .i64 y.s, .int .i64 y.b, .int .i64 y.f]]⟩)], []⟩) (by (refine wk_of [(5000, some 100027), (5001, some 200027), (5002, some 300027), (5003, some 400027), (5004, some 500027), (5005, some 600027)] ?_ ?_ ?_ ?_ ?_ <;> (simp only [false_and, and_false, and_self, XC, XD, XE, XF, XG, XH, XI, convK, XJ, XK, XL, XM, XN, look, XO, XP, XR, XS, XT, XU, XV, encL_nil, encL_app, encL_cons, List.length_append, gdS, put1, sv, gs, gb, QK, setAt, bad, dem, QP, QR, QS, QT, QU, QV, QW, QY, Q2, Q3, lf, lfs, pOk, Nat.reduceBEq, XA, XB, keep, kp, cand, cor, List.map, List.append, Option.bind, ↓reduceIte, Nat.reduceEqDiff, Nat.reduceAdd, Nat.reduceMul, Nat.reduceLT, Nat.reduceLeDiff, reduceCtorEq, Int.reduceLT, Int.reduceLE, Int.reduceBEq, Int.reduceBNe, Int.reduceAdd, Int.reduceSub, Int.reduceToNat, dq]; try trivial))) ?_
    (apply DV.seqreg; kernel_rfl; (simp only [wpS, wpT, go1, evS, ev, Qc, Qd, Qg, Qk, Qo, Qs, Qt, Qv, Qw, Qy, Qz, QB, QD, QE, QF, QJ, nilB, gdS, put1, sv, gs, gb, opd, cst, XW, QK, okS, QL, setAt, QM, QN, QO, bnd, bad, dem, QP, QR, QS, QT, QU, QV, QW, QY, stC, QZ, Q2, Q3, Q4, Q5, Q6, Q7, Q8, Q9, Xc, lf, lfs, Xd, Xe, Xg, Xh, Xj, Xk, Xm, Xo, asP, pOk, Xp, Xr, Xt, Xv, Nat.reduceBEq, cv, cvL, wrL, Xw, Xy, Xz, XA, XB, keep, kp, cand, cor, List.map, List.append, Option.bind, ↓reduceIte, Nat.reduceEqDiff, Nat.reduceAdd, Nat.reduceMul, Nat.reduceLT, Nat.reduceLeDiff, reduceCtorEq, Int.reduceLT, Int.reduceLE, Int.reduceBEq, Int.reduceBNe, Int.reduceAdd, Int.reduceSub, Int.reduceToNat, dq, tya, popL, nodZL, edgL, false_and, and_false, and_self, locF, locP, locW, locN, refA, refO, backOk, renV, renSs, renS, renDs, renD, renK, rkK, renCs, renC, renL_nil, renL_cons, renL_app, renL_encL, renL_set, renDs_enc, rkV, rkSs, rkS, rkDs, rkD, rkCs, rkC, rkL_nil, rkL_cons, rkL_app, rkL_encL, rkL_set, rkDs_enc, refTs, refT, refPs, locs, swp, bsOf, insOk, bijOk, outsOf, freshOk, wbOut, rkB, deadB, deB, enB, decL_encL, isL_enc, encL_len, nodZL, nodL, nz, QY, QW, Nat.reduceLeDiff, nd11, ne11, Nat.zero_le, f3, hx1, hi1, hu4]; exact rfl); (repeat (with_reducible first | apply qa | apply qb | apply qc | apply qd | apply qe)))
    refine DV.weak (σ' := ⟨[(0, .v true (.box 4000 0)), (3, .v true (.box 3 0)), (4, .v true (.c (.int .i64 u3.n.length)))], [(4000, some ⟨0, 0, [[.lk 5000 u4.p.length, .lk 5001 u4.b.length, .lk 5002 u4.n.length, .lk 5003 u4.e.length, .lk 5004 u4.q, .lk 5005 u4.r]]⟩), (5000, some ⟨3, 1, encL inC u4.p⟩), (5001, some ⟨3, 1, encL inC u4.b⟩), (5002, some ⟨60, 4, encL ndC u4.n⟩), (5003, some ⟨78, 4, encL egC u4.e⟩), (5004, some ⟨3, 1, encL inC u4.P⟩), (5005, some ⟨181, 3, encL lpC u4.L⟩), (3, some ⟨0, 0, [[.int .i64 y.s, .int .i64 y.b, .int .i64 y.f]]⟩)], []⟩) (by (refine wk_of [(5000, some 100032), (5001, some 200032), (5002, some 300032), (5003, some 400032), (5004, some 500032), (5005, some 600032)] ?_ ?_ ?_ ?_ ?_ <;> (simp only [false_and, and_false, and_self, XC, XD, XE, XF, XG, XH, XI, convK, XJ, XK, XL, XM, XN, look, XO, XP, XR, XS, XT, XU, XV, encL_nil, encL_app, encL_cons, List.length_append, gdS, put1, sv, gs, gb, QK, setAt, bad, dem, QP, QR, QS, QT, QU, QV, QW, QY, Q2, Q3, lf, lfs, pOk, Nat.reduceBEq, XA, XB, keep, kp, cand, cor, List.map, List.append, Option.bind, ↓reduceIte, Nat.reduceEqDiff, Nat.reduceAdd, Nat.reduceMul, Nat.reduceLT, Nat.reduceLeDiff, reduceCtorEq, Int.reduceLT, Int.reduceLE, Int.reduceBEq, Int.reduceBNe, Int.reduceAdd, Int.reduceSub, Int.reduceToNat, dq]; try trivial))) ?_
    (apply DV.seqdrw; kernel_rfl; kernel_rfl; (simp only [wpS, wpT, go1, evS, ev, Qc, Qd, Qg, Qk, Qo, Qs, Qt, Qv, Qw, Qy, Qz, QB, QD, QE, QF, QJ, nilB, gdS, put1, sv, gs, gb, opd, cst, XW, QK, okS, QL, setAt, QM, QN, QO, bnd, bad, dem, QP, QR, QS, QT, QU, QV, QW, QY, stC, QZ, Q2, Q3, Q4, Q5, Q6, Q7, Q8, Q9, Xc, lf, lfs, Xd, Xe, Xg, Xh, Xj, Xk, Xm, Xo, asP, pOk, Xp, Xr, Xt, Xv, Nat.reduceBEq, cv, cvL, wrL, Xw, Xy, Xz, XA, XB, keep, kp, cand, cor, List.map, List.append, Option.bind, ↓reduceIte, Nat.reduceEqDiff, Nat.reduceAdd, Nat.reduceMul, Nat.reduceLT, Nat.reduceLeDiff, reduceCtorEq, Int.reduceLT, Int.reduceLE, Int.reduceBEq, Int.reduceBNe, Int.reduceAdd, Int.reduceSub, Int.reduceToNat, dq, tya, popL, nodZL, edgL, i2n, encL_len, ew4, c41, c42, c43, d3]; exact ⟨rfl, rfl⟩); kernel_rfl; (repeat (with_reducible first | apply qa | apply qb | apply qc | apply qd | apply qe)))
    refine DV.weak (σ' := ⟨[(0, .v true (.box 4000 0)), (3, .v true (.box 3 0)), (4, .v true (.c (.int .i64 u3.n.length)))], [(4000, some ⟨0, 0, [[.lk 5000 u5.p.length, .lk 5001 u5.b.length, .lk 5002 u5.n.length, .lk 5003 u5.e.length, .lk 5004 u5.q, .lk 5005 u5.r]]⟩), (5000, some ⟨3, 1, encL inC u5.p⟩), (5001, some ⟨3, 1, encL inC u5.b⟩), (5002, some ⟨60, 4, encL ndC u5.n⟩), (5003, some ⟨78, 4, encL egC u5.e⟩), (5004, some ⟨3, 1, encL inC u5.P⟩), (5005, some ⟨181, 3, encL lpC u5.L⟩), (3, some ⟨0, 0, [[.int .i64 y.s, .int .i64 y.b, .int .i64 y.f]]⟩)], []⟩) (by (refine wk_of [] ?_ ?_ ?_ ?_ ?_ <;> (simp only [false_and, and_false, and_self, XC, XD, XE, XF, XG, XH, XI, convK, XJ, XK, XL, XM, XN, look, XO, XP, XR, XS, XT, XU, XV, encL_nil, encL_app, encL_cons, List.length_append, gdS, put1, sv, gs, gb, QK, setAt, bad, dem, QP, QR, QS, QT, QU, QV, QW, QY, Q2, Q3, lf, lfs, pOk, Nat.reduceBEq, XA, XB, keep, kp, cand, cor, List.map, List.append, Option.bind, ↓reduceIte, Nat.reduceEqDiff, Nat.reduceAdd, Nat.reduceMul, Nat.reduceLT, Nat.reduceLeDiff, reduceCtorEq, Int.reduceLT, Int.reduceLE, Int.reduceBEq, Int.reduceBNe, Int.reduceAdd, Int.reduceSub, Int.reduceToNat, dq, u5_p, u5_b, u5_n, u5_e, u5_P, u5_q, u5_L, u5_r]; try trivial))) ?_
    (apply DV.drw; kernel_rfl; kernel_rfl; (simp only [wpS, wpT, go1, evS, ev, Qc, Qd, Qg, Qk, Qo, Qs, Qt, Qv, Qw, Qy, Qz, QB, QD, QE, QF, QJ, nilB, gdS, put1, sv, gs, gb, opd, cst, XW, QK, okS, QL, setAt, QM, QN, QO, bnd, bad, dem, QP, QR, QS, QT, QU, QV, QW, QY, stC, QZ, Q2, Q3, Q4, Q5, Q6, Q7, Q8, Q9, Xc, lf, lfs, Xd, Xe, Xg, Xh, Xj, Xk, Xm, Xo, asP, pOk, Xp, Xr, Xt, Xv, Nat.reduceBEq, cv, cvL, wrL, Xw, Xy, Xz, XA, XB, keep, kp, cand, cor, List.map, List.append, Option.bind, ↓reduceIte, Nat.reduceEqDiff, Nat.reduceAdd, Nat.reduceMul, Nat.reduceLT, Nat.reduceLeDiff, reduceCtorEq, Int.reduceLT, Int.reduceLE, Int.reduceBEq, Int.reduceBNe, Int.reduceAdd, Int.reduceSub, Int.reduceToNat, dq, tya, popL, nodZL, edgL, i2n, encL_len, c51, c52, c53, a1.out, a2.out, d4, hrow, range1]; exact ⟨rfl, rfl⟩); kernel_rfl; (repeat (with_reducible refine blockD_norm' ?_)); (try with_reducible refine thenD_norm' ?_); (repeat (with_reducible first | apply qa | apply qb | apply qc | apply qd | apply qe)))
    refine ⟨⟨[], [(4000, some ⟨0, 0, [[.lk 5000 v1.p.length, .lk 5001 v1.b.length, .lk 5002 v1.n.length, .lk 5003 v1.e.length, .lk 5004 v1.q, .lk 5005 v1.r]]⟩), (5000, some ⟨3, 1, encL inC v1.p⟩), (5001, some ⟨3, 1, encL inC v1.b⟩), (5002, some ⟨60, 4, encL ndC v1.n⟩), (5003, some ⟨78, 4, encL egC v1.e⟩), (5004, some ⟨3, 1, encL inC v1.P⟩), (5005, some ⟨181, 3, encL lpC v1.L⟩)], []⟩, (by (refine wk_of [(5004, some 57)] ?_ ?_ ?_ ?_ ?_ <;> (simp only [false_and, and_false, and_self, XC, XD, XE, XF, XG, XH, XI, convK, XJ, XK, XL, XM, XN, look, XO, XP, XR, XS, XT, XU, XV, encL_nil, encL_app, encL_cons, List.length_append, gdS, put1, sv, gs, gb, QK, setAt, bad, dem, QP, QR, QS, QT, QU, QV, QW, QY, Q2, Q3, lf, lfs, pOk, Nat.reduceBEq, XA, XB, keep, kp, cand, cor, List.map, List.append, Option.bind, ↓reduceIte, Nat.reduceEqDiff, Nat.reduceAdd, Nat.reduceMul, Nat.reduceLT, Nat.reduceLeDiff, reduceCtorEq, Int.reduceLT, Int.reduceLE, Int.reduceBEq, Int.reduceBNe, Int.reduceAdd, Int.reduceSub, Int.reduceToNat, dq, v1_p, v1_b, v1_n, v1_e, v1_q, v1_L, v1_r]; try trivial))), ?_⟩
    ((repeat (with_reducible refine blockD_norm' ?_)); (with_reducible refine retG_norm ?_); (try simp only [v1Ok, resX, vL, rvS, unO, objX, wpS, wpT, go1, evS, ev, Qc, Qd, Qg, Qk, Qo, Qs, Qt, Qv, Qw, Qy, Qz, QB, QD, QE, QF, QJ, nilB, gdS, put1, sv, gs, gb, opd, cst, XW, QK, okS, QL, setAt, QM, QN, QO, bnd, bad, dem, QP, QR, QS, QT, QU, QV, QW, QY, stC, QZ, Q2, Q3, Q4, Q5, Q6, Q7, Q8, Q9, Xc, lf, lfs, Xd, Xe, Xg, Xh, Xj, Xk, Xm, Xo, asP, pOk, Xp, Xr, Xt, Xv, Nat.reduceBEq, cv, cvL, wrL, Xw, Xy, Xz, XA, XB, keep, kp, cand, cor, List.map, List.append, Option.bind, ↓reduceIte, Nat.reduceEqDiff, Nat.reduceAdd, Nat.reduceMul, Nat.reduceLT, Nat.reduceLeDiff, reduceCtorEq, Int.reduceLT, Int.reduceLE, Int.reduceBEq, Int.reduceBNe, Int.reduceAdd, Int.reduceSub, Int.reduceToNat, dq, tya, popL, nodZL, edgL, v1_p, v1_b, v1_n, v1_e, v1_q, v1_L, v1_r]))
    try decide
  · exact h.elim
end Go.Proofs.Ytkmgdejpdhlleaa.Dq
