/- What a record hangs on, by deep values: do edges lead there: the reference's search. -/
import Derived.Test.YtkmgdejpdhlleaaLn1
import Derived.Test.YtkmgdejpdhlleaaR9d
namespace Go.Proofs.Ytkmgdejpdhlleaa.Dq
set_option linter.unusedSimpArgs false
set_option linter.unusedVariables false
set_option maxRecDepth 100000
open Go.RowKit
open Pa Va

structure LdOk (g : Gr) : Prop where
  sm : Sm g
  ed : ∀ e ∈ g.e, (0 ≤ e.f ∧ e.f < (g.n.length : Int)) ∧ (0 ≤ e.t ∧ e.t < (g.n.length : Int))
def ldL (n : Nat) : List S1 → Bt → (V1 × Bt) × Prop
  | [.agg g, .c (.int .i64 frm), .c (.int .i64 to), .c (.lk 4000 m)], [(4000, some o)] => ((.one (.c (.bool (ldF (grC.dec g) to n frm (decL boC o.l)).1)), [(4000, some ⟨4, 1, encL boC (ldF (grC.dec g) to n frm (decL boC o.l)).2⟩)]),
    grC.enc (grC.dec g) = g ∧ o = ⟨4, 1, encL boC (decL boC o.l)⟩ ∧ m = o.l.length ∧ o.l.length = (grC.dec g).n.length ∧ LdOk (grC.dec g) ∧ 0 ≤ frm ∧ frm < ((grC.dec g).n.length : Int) ∧ atB (decL boC o.l) frm.toNat = false ∧ uns (decL boC o.l) ≤ n)
  | _, _ => ((.one (.c (.bool false)), []), False)
def ldLn (n : Nat) (xs : List S1) (bs : Bt) : (V1 × Bt) × Prop := ((ldL (n - 1) xs bs).1, 0 < n ∧ (ldL (n - 1) xs bs).2)
set_option maxHeartbeats 16000000 in
theorem ld_g (n : Nat) (xs : List S1) (bs : Bt) (h : (ldL n xs bs).2) : CalG Try.prog 108 xs bs (ldL n xs bs).1.1 (ldL n xs bs).1.2 := by
  induction n using Nat.strongRecOn generalizing xs bs with
  | _ n ih =>
  unfold ldL at h ⊢
  split at h
  · rename_i g0 frm to m o
    obtain ⟨hg, h1, h2, hl, hok, f0, f1, hat, hu⟩ := h
    obtain ⟨g, rfl⟩ : ∃ v, g0 = grC.enc v := ⟨_, hg.symm⟩
    rw [grC.de] at hl hok f1 ⊢
    clear hg
    have hgd : grC.dec [D.sl (encL inC g.p), D.sl (encL inC g.b), D.sl (encL ndC g.n), D.sl (encL egC g.e)] = g := grC.de g
    obtain ⟨sn, hsn⟩ : ∃ l, decL boC o.l = l := ⟨_, rfl⟩
    have hlen : sn.length = o.l.length := by rw [← hsn]; simp [decL]
    rw [hl] at h2 hlen
    rw [hsn] at h1 hat hu ⊢
    subst h1 h2
    clear hsn hl
    obtain ⟨hsm, hed⟩ := hok
    have hus := uns_set (at_false (by omega) hat)
    obtain ⟨n', rfl⟩ : ∃ k, n = k + 1 := ⟨n - 1, by omega⟩
    obtain ⟨F, hF⟩ : ∃ F, ldF g to (n' + 1) frm sn = F := ⟨_, rfl⟩
    rw [hF]
    unfold ldF at hF
    have f2 : frm.toNat < sn.length := by omega
    have f2' : frm.toNat < g.n.length := by omega
    have c0 := encL_get (C := boC) (at_false f2 hat)
    obtain ⟨b0, hb0⟩ : ∃ b, (frm == to) = b := ⟨_, rfl⟩
    rw [hb0] at hF
    have hset : (encL boC sn).set frm.toNat [.bool true] = encL boC (sn.set frm.toNat true) := by rw [show [D.bool true] = boC.enc true from rfl, encL_set]
    have hsl : (sn.set frm.toNat true).length = g.n.length := by rw [List.length_set]; exact hlen
    have CT := @ldLn.eq_1; refine DV.ofG (Γ := ⟨[], [(108, locP [4000] (ldLn (n' + 1)))], []⟩) (rs := [ResultVar.tmp 8]) [0, 1, 2, 3, 4, 8, 9, 10, 13, 21, 48] ⟨nofun, by intro p hp args bx d h; simp only [List.mem_singleton] at hp; subst hp; exact calM_pr (fun xs bs h => ih n' (by omega) xs bs h.2) h⟩ (by kernel_rfl) Try.func108 rfl rfl (by kernel_rfl) rfl ?_; (repeat (with_reducible first | apply qa | apply qb | apply qc | apply qd | apply qe))
    (have F := @grE; refine Rg3 ?_; clear F; (repeat (with_reducible first | apply qa | apply qb | apply qc | apply qd | apply qe)))
    (have F := @hb0; refine Rg3 ?_; clear F; (repeat (with_reducible first | apply qa | apply qb | apply qc | apply qd | apply qe)))
    cases b0
    rotate_left 1
    · rw [if_pos rfl] at hF
      subst hF
      (refine DV.condT rfl (fun _ => rfl) ?_; (repeat (with_reducible first | apply qa | apply qb | apply qc | apply qd | apply qe)))
      (refine Rg2 ?_; (repeat (with_reducible first | apply qa | apply qb | apply qc | apply qd | apply qe)))
      (refine DV.ret ?_; (repeat (first | (with_reducible refine thenD_ret' ?_) | (with_reducible refine blockD_ret' ?_))); (with_reducible refine retG_ret ?_); (try simp only [v1Ok, resX, vL, rvS, unO, objX, wpS, wpT, go1, evS, cutE_t, cutE_f, cutE_0, ev, Qc, Qd, Qe, Qg, Qh, Qk, Qo, Qs, Qt, Qu, Qv, QB, QE, QF, nilB, gdS, put1, sv, gs, gb, opd, cst, XW, QK, okS, QL, setAt, bad, dem, QP, QR, QS, QT, QU, QV, QW, QY, stC, QZ, Q2, Q3, Q4, Q5, Q6, Q7, Q8, Q9, Xc, lf, lfs, Xd, Xe, Xg, Xh, Xj, Xk, asP, pOk, Xp, Xt, Nat.reduceBEq, cv, cvL, wrL, Xw, Xy, XA, XB, keep, kp, cand, cor, List.map, List.append, Option.bind, ↓reduceIte, Nat.reduceEqDiff, Nat.reduceAdd, Nat.reduceMul, Nat.reduceLT, Nat.reduceLeDiff, reduceCtorEq, Int.reduceLT, Int.reduceLE, Int.reduceBEq, Int.reduceBNe, Int.reduceAdd, Int.reduceSub, Int.reduceToNat, dq, tya, ldLn]))
    rw [if_neg (by decide)] at hF
    (refine DV.condF rfl (fun _ => rfl) ?_; (repeat (with_reducible first | apply qa | apply qb | apply qc | apply qd | apply qe)))
    (refine DV.skip ?_; (repeat with_reducible refine qn ?_); (with_reducible refine qm ?_); (repeat (with_reducible first | apply qa | apply qb | apply qc | apply qd | apply qe)))
    (have F := An9 @encL_len @f0 @f1 @f2 @f2' @hlen @c0 @boE @hset; refine Rg3 ?_; clear F; (repeat (with_reducible first | apply qa | apply qb | apply qc | apply qd | apply qe)))
    obtain ⟨S0, hS0⟩ : ∃ z, sn.set frm.toNat true = z := ⟨_, rfl⟩
    rw [hS0] at hus hF hsl
    rw [hS0]
    have hu0 : uns S0 ≤ n' := by omega
    clear hset hS0 c0 hat hu hus f2 hlen
    (refine Rg2 ?_; (repeat (with_reducible first | apply qa | apply qb | apply qc | apply qd | apply qe)))
    refine DV.loop (fun p : Nat × List Bool => ⟨[(1, .v true (.c (.int .i64 frm))), (2, .v true (.c (.int .i64 to))), (3, .v true (.c (.lk 4000 g.n.length))), (4, .v true (.box 4 0)), (9, .v true (.c (.int .i64 p.1)))], [(4000, some ⟨4, 1, encL boC p.2⟩), (4, some ⟨0, 0, [[.sl (encL inC g.p), .sl (encL inC g.b), .sl (encL ndC g.n), .sl (encL egC g.e)]]⟩)], []⟩) (fun p => p.1 ≤ g.e.length ∧ ldE (ldF g to n') frm (g.e.drop p.1) p.2 = F ∧ p.2.length = g.n.length ∧ uns p.2 ≤ n') (fun p => g.e.length - p.1) (0, S0) ⟨Nat.zero_le _, hF, hsl, hu0⟩ (by (have F := An2 @n0 @grE; exact Wk1)) (fun p hp => ?_)
    clear hF hsl hu0
    obtain ⟨j, R⟩ := p
    dsimp only at hp ⊢
    obtain ⟨hj, hR, hRl, hRu⟩ := hp
    (repeat (with_reducible first | apply qa | apply qb | apply qc | apply qd | apply qe))
    by_cases hlt : j < g.e.length
    rotate_left 1
    · obtain rfl : j = g.e.length := by omega
      have d1 : decide ((g.e.length : Int) < (g.e.length : Int)) = false := decide_eq_false (by omega)
      rw [List.drop_length] at hR
      have hR : (false, R) = F := hR
      subst hR
      (have F := An2 @encL_len @d1; refine Rg3 ?_; clear F; (repeat (with_reducible first | apply qa | apply qb | apply qc | apply qd | apply qe)))
      (refine DV.condF rfl (fun _ => rfl) ?_; (repeat (with_reducible first | apply qa | apply qb | apply qc | apply qd | apply qe)))
      (refine DV.exit ?_; (repeat (first | (with_reducible refine thenD_exit' ?_) | (with_reducible refine blockD_other (by decide) ?_))); (with_reducible refine blockD_same ?_); (repeat with_reducible refine qn ?_); (with_reducible refine qm ?_); (repeat (with_reducible first | apply qa | apply qb | apply qc | apply qd | apply qe)))
      (refine Rg2 ?_; (repeat (with_reducible first | apply qa | apply qb | apply qc | apply qd | apply qe)))
      (refine DV.ret ?_; (repeat (first | (with_reducible refine thenD_ret' ?_) | (with_reducible refine blockD_ret' ?_))); (with_reducible refine retG_ret ?_); (try simp only [v1Ok, resX, vL, rvS, unO, objX, wpS, wpT, go1, evS, cutE_t, cutE_f, cutE_0, ev, Qc, Qd, Qe, Qg, Qh, Qk, Qo, Qs, Qt, Qu, Qv, QB, QE, QF, nilB, gdS, put1, sv, gs, gb, opd, cst, XW, QK, okS, QL, setAt, bad, dem, QP, QR, QS, QT, QU, QV, QW, QY, stC, QZ, Q2, Q3, Q4, Q5, Q6, Q7, Q8, Q9, Xc, lf, lfs, Xd, Xe, Xg, Xh, Xj, Xk, asP, pOk, Xp, Xt, Nat.reduceBEq, cv, cvL, wrL, Xw, Xy, XA, XB, keep, kp, cand, cor, List.map, List.append, Option.bind, ↓reduceIte, Nat.reduceEqDiff, Nat.reduceAdd, Nat.reduceMul, Nat.reduceLT, Nat.reduceLeDiff, reduceCtorEq, Int.reduceLT, Int.reduceLE, Int.reduceBEq, Int.reduceBNe, Int.reduceAdd, Int.reduceSub, Int.reduceToNat, dq, tya, ldLn]))
    obtain ⟨e, he⟩ : ∃ x, g.e[j]? = some x := ⟨g.e[j], List.getElem?_eq_getElem _⟩
    have d1 : decide ((j : Int) < (g.e.length : Int)) = true := decide_eq_true (by omega)
    have c1 : (0 : Int) ≤ j := by omega
    have c2 : (j : Int) < (g.e.length : Int) := by omega
    have c3 := encL_get (C := egC) he
    have ew := wr1 j (by have := hsm.e; omega)
    obtain ⟨-, t0, t1⟩ := hed e (List.mem_of_getElem? he)
    have t3 : e.t.toNat < g.n.length := by omega
    obtain ⟨q, hq⟩ : ∃ q, R[e.t.toNat]? = some q := ⟨_, List.getElem?_eq_getElem (by omega)⟩
    have c4 := encL_get (C := boC) hq
    have hatq : atB R e.t.toNat = q := by unfold atB; rw [hq]; rfl
    rw [ldE_at he, hatq] at hR
    obtain ⟨b, hb⟩ : ∃ b, (e.f == frm) = b := ⟨_, rfl⟩
    obtain ⟨bq, hbq⟩ : ∃ b', (b && !q) = b' := ⟨_, rfl⟩
    rw [hb, hbq] at hR
    (have F := An2 @encL_len @d1; refine Rg3 ?_; clear F; (repeat (with_reducible first | apply qa | apply qb | apply qc | apply qd | apply qe)))
    (refine DV.condT rfl (fun _ => rfl) ?_; (repeat (with_reducible first | apply qa | apply qb | apply qc | apply qd | apply qe)))
    (refine DV.skip ?_; (repeat with_reducible refine qn ?_); (with_reducible refine qm ?_); (repeat (with_reducible first | apply qa | apply qb | apply qc | apply qd | apply qe)))
    (have F := An7 @i2n @encL_len @c1 @c2 @hlt @c3 @egE; refine Rg3 ?_; clear F; (repeat (with_reducible first | apply qa | apply qb | apply qc | apply qd | apply qe)))
    have hll := ld_len (g := g) (to := to) n' e.t R
    obtain ⟨fb, hfb⟩ : ∃ z, (ldF g to n' e.t R).1 = z := ⟨_, rfl⟩
    obtain ⟨R2, hR2⟩ : ∃ z, (ldF g to n' e.t R).2 = z := ⟨_, rfl⟩
    rw [hR2] at hll
    rw [hfb, hR2] at hR
    have hlk : LdOk g := ⟨hsm, hed⟩
    have hn0 : 0 < n' + 1 := Nat.succ_pos _
    have hn1 : n' + 1 - 1 = n' := rfl
    cases bq
    · rw [if_neg (by decide)] at hR
      (apply DV.seqreg; kernel_rfl; (simp only [wpS, wpT, go1, evS, cutE_t, cutE_f, cutE_0, ev, Qc, Qd, Qe, Qg, Qh, Qk, Qo, Qs, Qt, Qu, Qv, QB, QE, QF, nilB, gdS, put1, sv, gs, gb, opd, cst, XW, QK, okS, QL, setAt, bad, dem, QP, QR, QS, QT, QU, QV, QW, QY, stC, QZ, Q2, Q3, Q4, Q5, Q6, Q7, Q8, Q9, Xc, lf, lfs, Xd, Xe, Xg, Xh, Xj, Xk, asP, pOk, Xp, Xt, Nat.reduceBEq, cv, cvL, wrL, Xw, Xy, XA, XB, keep, kp, cand, cor, List.map, List.append, Option.bind, ↓reduceIte, Nat.reduceEqDiff, Nat.reduceAdd, Nat.reduceMul, Nat.reduceLT, Nat.reduceLeDiff, reduceCtorEq, Int.reduceLT, Int.reduceLE, Int.reduceBEq, Int.reduceBNe, Int.reduceAdd, Int.reduceSub, Int.reduceToNat, dq, tya, ldLn, egE, encL_len, t0, t1, t3, hRl, c4, boE, hb, hbq, false_and, and_false, and_self, locF, locP, locW, locN, refA, refO, backOk, renV, renSs, renS, renDs, renD, renK, rkK, renCs, renC, renL_nil, renL_cons, renL_app, renL_encL, renL_set, renDs_enc, rkV, rkSs, rkS, rkDs, rkD, rkCs, rkC, rkL_nil, rkL_cons, rkL_app, rkL_encL, rkL_set, rkDs_enc, refTs, refT, refPs, locs, swp, bsOf, insOk, bijOk, outsOf, freshOk, wbOut, rkB, deadB, ldLn, ldL, grE, hgd, decL_encL, hfb, hR2, hRu, hlk, hatq, hn0, hn1]; exact rfl); (repeat (with_reducible first | apply qa | apply qb | apply qc | apply qd | apply qe)))
      (refine DV.condF rfl (fun _ => rfl) ?_; (repeat (with_reducible first | apply qa | apply qb | apply qc | apply qd | apply qe)))
      (refine DV.skip ?_; (repeat with_reducible refine qn ?_); (with_reducible refine qm ?_); (repeat (with_reducible first | apply qa | apply qb | apply qc | apply qd | apply qe)))
      (have F := @ew; refine Re3 ?_; clear F; (repeat with_reducible refine qn ?_); (try with_reducible refine qm ?_); (repeat (with_reducible first | apply qa | apply qb | apply qc | apply qd | apply qe)))
      exact ⟨(j + 1, R), ⟨⟨hlt, hR, hRl, hRu⟩, by dsimp only; omega⟩, by exact Wk0⟩
    rw [if_pos rfl] at hR
    obtain rfl : q = false := by
      cases q
      · rfl
      · cases b <;> cases hbq
    obtain rfl : b = true := by
      cases b
      · cases hbq
      · rfl
    (apply DV.seqreg; kernel_rfl; (simp only [wpS, wpT, go1, evS, cutE_t, cutE_f, cutE_0, ev, Qc, Qd, Qe, Qg, Qh, Qk, Qo, Qs, Qt, Qu, Qv, QB, QE, QF, nilB, gdS, put1, sv, gs, gb, opd, cst, XW, QK, okS, QL, setAt, bad, dem, QP, QR, QS, QT, QU, QV, QW, QY, stC, QZ, Q2, Q3, Q4, Q5, Q6, Q7, Q8, Q9, Xc, lf, lfs, Xd, Xe, Xg, Xh, Xj, Xk, asP, pOk, Xp, Xt, Nat.reduceBEq, cv, cvL, wrL, Xw, Xy, XA, XB, keep, kp, cand, cor, List.map, List.append, Option.bind, ↓reduceIte, Nat.reduceEqDiff, Nat.reduceAdd, Nat.reduceMul, Nat.reduceLT, Nat.reduceLeDiff, reduceCtorEq, Int.reduceLT, Int.reduceLE, Int.reduceBEq, Int.reduceBNe, Int.reduceAdd, Int.reduceSub, Int.reduceToNat, dq, tya, ldLn, egE, encL_len, t0, t1, t3, hRl, c4, boE, hb, hbq, false_and, and_false, and_self, locF, locP, locW, locN, refA, refO, backOk, renV, renSs, renS, renDs, renD, renK, rkK, renCs, renC, renL_nil, renL_cons, renL_app, renL_encL, renL_set, renDs_enc, rkV, rkSs, rkS, rkDs, rkD, rkCs, rkC, rkL_nil, rkL_cons, rkL_app, rkL_encL, rkL_set, rkDs_enc, refTs, refT, refPs, locs, swp, bsOf, insOk, bijOk, outsOf, freshOk, wbOut, rkB, deadB, ldLn, ldL, grE, hgd, decL_encL, hfb, hR2, hRu, hlk, hatq, hn0, hn1]; exact rfl); (repeat (with_reducible first | apply qa | apply qb | apply qc | apply qd | apply qe)))
    cases fb
    · rw [if_neg (by decide)] at hR
      (refine DV.condF rfl (fun _ => rfl) ?_; (repeat (with_reducible first | apply qa | apply qb | apply qc | apply qd | apply qe)))
      (refine DV.skip ?_; (repeat with_reducible refine qn ?_); (with_reducible refine qm ?_); (repeat (with_reducible first | apply qa | apply qb | apply qc | apply qd | apply qe)))
      (have F := @ew; refine Re3 ?_; clear F; (repeat with_reducible refine qn ?_); (try with_reducible refine qm ?_); (repeat (with_reducible first | apply qa | apply qb | apply qc | apply qd | apply qe)))
      exact ⟨(j + 1, R2), ⟨⟨hlt, hR, hll.1.trans hRl, by dsimp only; omega⟩, by dsimp only; omega⟩, by exact Wk0⟩
    · rw [if_pos rfl] at hR
      subst hR
      (refine DV.condT rfl (fun _ => rfl) ?_; (repeat (with_reducible first | apply qa | apply qb | apply qc | apply qd | apply qe)))
      (refine Rg2 ?_; (repeat (with_reducible first | apply qa | apply qb | apply qc | apply qd | apply qe)))
      (refine DV.ret ?_; (repeat (first | (with_reducible refine thenD_ret' ?_) | (with_reducible refine blockD_ret' ?_))); (with_reducible refine retG_ret ?_); (try simp only [v1Ok, resX, vL, rvS, unO, objX, wpS, wpT, go1, evS, cutE_t, cutE_f, cutE_0, ev, Qc, Qd, Qe, Qg, Qh, Qk, Qo, Qs, Qt, Qu, Qv, QB, QE, QF, nilB, gdS, put1, sv, gs, gb, opd, cst, XW, QK, okS, QL, setAt, bad, dem, QP, QR, QS, QT, QU, QV, QW, QY, stC, QZ, Q2, Q3, Q4, Q5, Q6, Q7, Q8, Q9, Xc, lf, lfs, Xd, Xe, Xg, Xh, Xj, Xk, asP, pOk, Xp, Xt, Nat.reduceBEq, cv, cvL, wrL, Xw, Xy, XA, XB, keep, kp, cand, cor, List.map, List.append, Option.bind, ↓reduceIte, Nat.reduceEqDiff, Nat.reduceAdd, Nat.reduceMul, Nat.reduceLT, Nat.reduceLeDiff, reduceCtorEq, Int.reduceLT, Int.reduceLE, Int.reduceBEq, Int.reduceBNe, Int.reduceAdd, Int.reduceSub, Int.reduceToNat, dq, tya, ldLn]))
  · exact h.elim
end Go.Proofs.Ytkmgdejpdhlleaa.Dq
