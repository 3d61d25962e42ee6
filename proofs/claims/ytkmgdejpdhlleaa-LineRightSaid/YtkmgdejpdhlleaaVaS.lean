/- Graphs that may run by deep values: what comes again. -/
import Derived.Test.YtkmgdejpdhlleaaVa2
namespace Go.Proofs.Ytkmgdejpdhlleaa.Dq
set_option linter.unusedSimpArgs false
set_option linter.unusedVariables false
set_option maxRecDepth 100000
open Go.RowKit

open Va

def boC : Cod Bool where
  K := 1
  enc := fun b => [.bool b]
  dec := fun l => match l with
    | [.bool b] => b
    | _ => false
  de := fun _ => rfl
  len := fun _ => rfl
  lf := fun _ => rfl
theorem boE (b : Bool) : boC.enc b = [.bool b] := rfl
structure RcOk (g : Gr) (s : Int) : Prop where
  sm : Sm g
  par : Par g.p
  s0 : 0 ≤ s
  s1 : s < (g.p.length : Int)
  et : ∀ e ∈ g.e, 0 ≤ e.t ∧ e.t < (g.n.length : Int)
def rcL (n : Nat) : List S1 → Bt → (V1 × Bt) × Prop
  | [.c (.int .i64 frm), .box 4000 0, .box 4001 0, .box 4003 0, .box 4004 0], [(4000, some o0), (4001, some o1), (4002, some o2), (4003, some o3), (4004, some o4)] => ((.tup [], [(4000, some o0), (4001, some o1), (4002, some ⟨4, 1, encL boC (rch (grC.dec ((o0.l[0]?).getD [])) (inC.dec ((o3.l[0]?).getD [])) (n + 1) frm (decL boC o2.l))⟩), (4003, some o3), (4004, some o4)]),
    o0 = ⟨0, 0, [grC.enc (grC.dec ((o0.l[0]?).getD []))]⟩ ∧ o1 = ⟨0, 0, [[.lk 4002 o2.l.length]]⟩ ∧ o2 = ⟨4, 1, encL boC (decL boC o2.l)⟩ ∧ o3 = ⟨0, 0, [inC.enc (inC.dec ((o3.l[0]?).getD []))]⟩ ∧ o4 = ⟨0, 0, [[.fb 130 [4000, 4001, 4003, 4004]]]⟩ ∧
    RcOk (grC.dec ((o0.l[0]?).getD [])) (inC.dec ((o3.l[0]?).getD [])) ∧ o2.l.length = (grC.dec ((o0.l[0]?).getD [])).n.length ∧ uns (decL boC o2.l) ≤ n)
  | _, _ => ((.one (.c (.bool false)), []), False)
def rcLn (n : Nat) (xs : List S1) (bs : Bt) : (V1 × Bt) × Prop := ((rcL (n - 1) xs bs).1, 0 < n ∧ (rcL (n - 1) xs bs).2)
set_option maxHeartbeats 16000000 in
theorem rc_g (n : Nat) (xs : List S1) (bs : Bt) (h : (rcL n xs bs).2) : CalG Try.prog 130 xs bs (rcL n xs bs).1.1 (rcL n xs bs).1.2 := by
  induction n using Nat.strongRecOn generalizing xs bs with
  | _ n ih =>
  unfold rcL at h ⊢
  split at h
  · rename_i frm o0 o1 o2 o3 o4
    obtain ⟨h0, h1, h2, h3, h4, ho, hl, hu⟩ := h
    obtain ⟨g, hg⟩ : ∃ g, grC.dec ((o0.l[0]?).getD []) = g := ⟨_, rfl⟩
    obtain ⟨s, hs⟩ : ∃ s, inC.dec ((o3.l[0]?).getD []) = s := ⟨_, rfl⟩
    obtain ⟨sn, hsn⟩ : ∃ l, decL boC o2.l = l := ⟨_, rfl⟩
    have hlen : sn.length = o2.l.length := by rw [← hsn]; simp [decL]
    rw [hg] at h0 ho hl ⊢
    rw [hl] at h1 hlen
    rw [hs] at h3 ho ⊢
    rw [hsn] at h2 hu ⊢
    subst h0 h1 h2 h3 h4
    clear hg hs hsn hl
    have hgd : grC.dec [D.sl (encL inC g.p), D.sl (encL inC g.b), D.sl (encL ndC g.n), D.sl (encL egC g.e)] = g := grC.de g
    obtain ⟨hsm, hpar, s0, s1, het⟩ := ho
    obtain ⟨F, hF⟩ : ∃ F, rch g s (n + 1) frm sn = F := ⟨_, rfl⟩
    rw [hF]
    unfold rch at hF
    have CT := An2 @undD.eq_1 @rcLn.eq_1; refine DV.ofG (Γ := ⟨[(131, undD)], [(130, locP [4000, 4001, 4002, 4003, 4004] (rcLn n))], []⟩) (rs := []) [0, 1, 2, 3, 4, 7, 8, 10, 11, 12, 13, 26, 47] ⟨by intro p hp; simp only [List.mem_singleton] at hp; subst hp; exact und_cal, by intro p hp args bx d h; simp only [List.mem_singleton] at hp; subst hp; exact calM_pr (fun xs bs h => ih (n - 1) (by have := h.1; omega) xs bs h.2) h⟩ (by kernel_rfl) Try.func130 rfl rfl (by kernel_rfl) rfl ?_; (repeat (with_reducible first | apply qa | apply qb | apply qc | apply qd | apply qe))
    (have F := An2 @grE @encL_len; refine Rg3 ?_; clear F; (repeat (with_reducible first | apply qa | apply qb | apply qc | apply qd | apply qe)))
    refine DV.loop (fun p : Nat × List Bool => ⟨[(0, .v true (.c (.int .i64 frm))), (1, .v true (.box 4000 0)), (2, .v true (.box 4001 0)), (3, .v true (.box 4003 0)), (4, .v true (.box 4004 0)), (10, .v true (.c (.sl (encL egC g.e)))), (11, .v true (.c (.int .i64 g.e.length))), (12, .v true (.c (.int .i64 p.1)))], [(4000, some ⟨0, 0, [[.sl (encL inC g.p), .sl (encL inC g.b), .sl (encL ndC g.n), .sl (encL egC g.e)]]⟩), (4001, some ⟨0, 0, [[.lk 4002 g.n.length]]⟩), (4002, some ⟨4, 1, encL boC p.2⟩), (4003, some ⟨0, 0, [[.int .i64 s]]⟩), (4004, some ⟨0, 0, [[.fb 130 [4000, 4001, 4003, 4004]]]⟩)], []⟩) (fun p => p.1 ≤ g.e.length ∧ goE (rch g s n) g s frm (g.e.drop p.1) p.2 = F ∧ p.2.length = g.n.length ∧ uns p.2 ≤ n) (fun p => g.e.length - p.1) (0, sn) ⟨Nat.zero_le _, hF, hlen, hu⟩ (by (have F := An2 @n0 @grE; exact Wk1)) (fun p hp => ?_)
    obtain ⟨j, R⟩ := p
    dsimp only at hp ⊢
    obtain ⟨hj, hR, hRl, hRu⟩ := hp
    (repeat (with_reducible first | apply qa | apply qb | apply qc | apply qd | apply qe))
    by_cases hlt : j < g.e.length
    · obtain ⟨e, he⟩ : ∃ x, g.e[j]? = some x := ⟨g.e[j], List.getElem?_eq_getElem _⟩
      have d1 : decide ((j : Int) < (g.e.length : Int)) = true := decide_eq_true (by omega)
      have c1 : (0 : Int) ≤ j := by omega
      have c2 : (j : Int) < (g.e.length : Int) := by omega
      have c3 := encL_get (C := egC) he
      have ew := wr1 j (by have := hsm.e; omega)
      obtain ⟨t0, t1⟩ := het e (List.mem_of_getElem? he)
      obtain ⟨q, hq⟩ : ∃ q, R[e.t.toNat]? = some q := ⟨_, List.getElem?_eq_getElem (by omega)⟩
      have c4 := encL_get (C := boC) hq
      have t2 : e.t < (g.n.length : Int) := by omega
      have t3 : e.t.toNat < g.n.length := by omega
      rw [goE_at he, hq, Option.getD_some] at hR
      (have F := @d1; refine Rg3 ?_; clear F; (repeat (with_reducible first | apply qa | apply qb | apply qc | apply qd | apply qe)))
      (refine DV.condT rfl (fun _ => rfl) ?_; (repeat (with_reducible first | apply qa | apply qb | apply qc | apply qd | apply qe)))
      (refine DV.skip ?_; (repeat with_reducible refine qn ?_); (with_reducible refine qm ?_); (repeat (with_reducible first | apply qa | apply qb | apply qc | apply qd | apply qe)))
      (have F := An6 @i2n @encL_len @c1 @c2 @c3 @egE; refine Rg3 ?_; clear F; (repeat (with_reducible first | apply qa | apply qb | apply qc | apply qd | apply qe)))
      obtain ⟨b, hb⟩ : ∃ b, (e.f != frm) = b := ⟨_, rfl⟩
      obtain ⟨bq, hbq⟩ : ∃ b', (b || q) = b' := ⟨_, rfl⟩
      rw [hb, hbq] at hR
      (have F := An11 @egE @hb @encL_len @t0 @t1 @t2 @t3 @hRl @c4 @boE @hbq; refine Rg3 ?_; clear F; (repeat (with_reducible first | apply qa | apply qb | apply qc | apply qd | apply qe)))
      cases bq
      rotate_left 1
      · rw [if_pos rfl] at hR
        (refine DV.condT rfl (fun _ => rfl) ?_; (repeat (with_reducible first | apply qa | apply qb | apply qc | apply qd | apply qe)))
        (refine DV.exit ?_; (repeat (first | (with_reducible refine thenD_exit' ?_) | (with_reducible refine blockD_other (by decide) ?_))); (with_reducible refine blockD_same ?_); (repeat with_reducible refine qn ?_); (with_reducible refine qm ?_); (repeat (with_reducible first | apply qa | apply qb | apply qc | apply qd | apply qe)))
        (have F := @ew; refine Re3 ?_; clear F; (repeat with_reducible refine qn ?_); (try with_reducible refine qm ?_); (repeat (with_reducible first | apply qa | apply qb | apply qc | apply qd | apply qe)))
        exact ⟨(j + 1, R), ⟨⟨hlt, hR, hRl, hRu⟩, by dsimp only; omega⟩, by exact Wk0⟩
      rw [if_neg (by decide)] at hR
      rw [Bool.or_eq_false_iff] at hbq
      obtain ⟨rfl, rfl⟩ := hbq
      have hu1 := uns_set hq
      obtain ⟨R1, hR1⟩ : ∃ l, R.set e.t.toNat true = l := ⟨_, rfl⟩
      rw [hR1] at hu1 hR
      have hset : (encL boC R).set e.t.toNat [.bool true] = encL boC R1 := by rw [show [D.bool true] = boC.enc true from rfl, encL_set, hR1]
      have hR1l : R1.length = g.n.length := by rw [← hR1, List.length_set, hRl]
      have c5 := encL_get (C := ndC) (ndAt_of t0 t1)
      obtain ⟨x, hx⟩ : ∃ x, ndAt g e.t = x := ⟨_, rfl⟩
      rw [hx] at c5 hR
      (refine DV.condF rfl (fun _ => rfl) ?_; (repeat (with_reducible first | apply qa | apply qb | apply qc | apply qd | apply qe)))
      (refine DV.skip ?_; (repeat with_reducible refine qn ?_); (with_reducible refine qm ?_); (repeat (with_reducible first | apply qa | apply qb | apply qc | apply qd | apply qe)))
      (have F := An10 @egE @encL_len @t0 @t1 @t2 @t3 @hRl @c4 @boE @hset; refine Rg3 ?_; clear F; (repeat (with_reducible first | apply qa | apply qb | apply qc | apply qd | apply qe)))
      (have F := An6 @egE @encL_len @t0 @t1 @c5 @ndE; refine Rg3 ?_; clear F; (repeat (with_reducible first | apply qa | apply qb | apply qc | apply qd | apply qe)))
      obtain ⟨b1, hb1⟩ : ∃ b, (x.k != 12) = b := ⟨_, rfl⟩
      obtain ⟨b2, hb2⟩ : ∃ b, undB g.p x.s s = b := ⟨_, rfl⟩
      obtain ⟨b3, hb3⟩ : ∃ b, (b1 || !b2) = b := ⟨_, rfl⟩
      rw [hb1, hb2, hb3] at hR
      (have F := An10 @ndE @grE @hgd @hb1 @hb2 @hb3 @hsm @hpar @s0 @s1; refine Rg3 ?_; clear F; (repeat (with_reducible first | apply qa | apply qb | apply qc | apply qd | apply qe)))
      cases b3
      · rw [if_neg (by decide)] at hR
        (refine DV.condF rfl (fun _ => rfl) ?_; (repeat (with_reducible first | apply qa | apply qb | apply qc | apply qd | apply qe)))
        (refine DV.skip ?_; (repeat with_reducible refine qn ?_); (with_reducible refine qm ?_); (repeat (with_reducible first | apply qa | apply qb | apply qc | apply qd | apply qe)))
        (have F := @ew; refine Re3 ?_; clear F; (repeat with_reducible refine qn ?_); (try with_reducible refine qm ?_); (repeat (with_reducible first | apply qa | apply qb | apply qc | apply qd | apply qe)))
        exact ⟨(j + 1, R1), ⟨⟨hlt, hR, hR1l, by dsimp only; omega⟩, by dsimp only; omega⟩, by exact Wk0⟩
      · rw [if_pos rfl] at hR
        have hrl := rch_ok (g := g) (s := s) n e.t R1
        obtain ⟨n', rfl⟩ : ∃ m, n = m + 1 := ⟨n - 1, by omega⟩
        obtain ⟨R2, hR2⟩ : ∃ l, rch g s (n' + 1) e.t R1 = l := ⟨_, rfl⟩
        rw [hR2] at hR hrl
        have hu' : uns R1 ≤ n' := by omega
        have hrc : RcOk g s := ⟨hsm, hpar, s0, s1, het⟩
        have hn0 : 0 < n' + 1 := Nat.succ_pos _
        have hn1 : n' + 1 - 1 = n' := rfl
        have hid : inC.dec [D.int .i64 s] = s := rfl
        (refine DV.condT rfl (fun _ => rfl) ?_; (repeat (with_reducible first | apply qa | apply qb | apply qc | apply qd | apply qe)))
        (apply DV.reg; kernel_rfl; (simp only [wpS, wpT, go1, evS, cutE_t, cutE_f, cutE_0, ev, Qc, Qd, Qe, Qg, Qh, Qk, Qo, Qs, Qt, Qv, QB, QE, QF, nilB, gdS, put1, sv, gs, gb, opd, cst, XW, QK, okS, QL, setAt, bad, dem, QP, QR, QS, QT, QU, QV, QW, QY, stC, QZ, Q2, Q3, Q4, Q5, Q6, Q7, Q8, Q9, Xc, lf, lfs, Xd, Xe, Xg, Xh, Xj, Xk, asP, pOk, Xp, Xt, Nat.reduceBEq, cv, cvL, wrL, Xw, Xy, XA, XB, keep, kp, cand, cor, List.map, List.append, Option.bind, ↓reduceIte, Nat.reduceEqDiff, Nat.reduceAdd, Nat.reduceMul, Nat.reduceLT, Nat.reduceLeDiff, reduceCtorEq, Int.reduceLT, Int.reduceLE, Int.reduceBEq, Int.reduceBNe, Int.reduceAdd, Int.reduceSub, Int.reduceToNat, dq, tya, undD, rcLn, egE, false_and, and_false, and_self, locF, locP, locW, locN, refA, refO, backOk, renV, renSs, renS, renDs, renD, renK, rkK, renCs, renC, renL_nil, renL_cons, renL_app, renL_encL, renL_set, renDs_enc, rkV, rkSs, rkS, rkDs, rkD, rkCs, rkC, rkL_nil, rkL_cons, rkL_app, rkL_encL, rkL_set, rkDs_enc, refTs, refT, refPs, locs, swp, bsOf, insOk, bijOk, outsOf, freshOk, wbOut, rkB, deadB, rcLn, rcL, grE, hgd, inE, hid, encL_len, decL_encL, hR1l, hR2, hu', hrc, hn0, hn1]; exact rfl); (repeat (with_reducible refine blockD_norm' ?_)); (try with_reducible refine thenD_norm' ?_); (repeat (with_reducible first | apply qa | apply qb | apply qc | apply qd | apply qe)))
        (have F := @ew; refine Re3 ?_; clear F; (repeat with_reducible refine qn ?_); (try with_reducible refine qm ?_); (repeat (with_reducible first | apply qa | apply qb | apply qc | apply qd | apply qe)))
        exact ⟨(j + 1, R2), ⟨⟨hlt, hR, hrl.1.trans hR1l, by dsimp only; omega⟩, by dsimp only; omega⟩, by exact Wk0⟩
    · obtain rfl : j = g.e.length := by omega
      have d1 : decide ((g.e.length : Int) < (g.e.length : Int)) = false := decide_eq_false (by omega)
      rw [List.drop_length] at hR
      obtain rfl : R = F := hR
      (have F := @d1; refine Rg3 ?_; clear F; (repeat (with_reducible first | apply qa | apply qb | apply qc | apply qd | apply qe)))
      (refine DV.condF rfl (fun _ => rfl) ?_; (repeat (with_reducible first | apply qa | apply qb | apply qc | apply qd | apply qe)))
      (refine DV.exit ?_; (repeat (first | (with_reducible refine thenD_exit' ?_) | (with_reducible refine blockD_other (by decide) ?_))); (with_reducible refine blockD_same ?_); (repeat (with_reducible refine blockD_norm' ?_)); (with_reducible refine retG_norm ?_); (try simp only [v1Ok, resX, vL, rvS, unO, objX, wpS, wpT, go1, evS, cutE_t, cutE_f, cutE_0, ev, Qc, Qd, Qe, Qg, Qh, Qk, Qo, Qs, Qt, Qv, QB, QE, QF, nilB, gdS, put1, sv, gs, gb, opd, cst, XW, QK, okS, QL, setAt, bad, dem, QP, QR, QS, QT, QU, QV, QW, QY, stC, QZ, Q2, Q3, Q4, Q5, Q6, Q7, Q8, Q9, Xc, lf, lfs, Xd, Xe, Xg, Xh, Xj, Xk, asP, pOk, Xp, Xt, Nat.reduceBEq, cv, cvL, wrL, Xw, Xy, XA, XB, keep, kp, cand, cor, List.map, List.append, Option.bind, ↓reduceIte, Nat.reduceEqDiff, Nat.reduceAdd, Nat.reduceMul, Nat.reduceLT, Nat.reduceLeDiff, reduceCtorEq, Int.reduceLT, Int.reduceLE, Int.reduceBEq, Int.reduceBNe, Int.reduceAdd, Int.reduceSub, Int.reduceToNat, dq, tya, undD, rcLn, grE, inE]))
      decide
  · exact h.elim
open Va

structure AgOk (g : Gr) (n : Int) : Prop where
  sm : Sm g
  n0 : 0 ≤ n
  n1 : n < g.n.length
  par : Par g.p
  nd : ∀ i : Int, 0 ≤ i → i < g.n.length → 0 ≤ (ndAt g i).s ∧ (ndAt g i).s < g.p.length
  ed : ∀ i : Int, 0 ≤ i → i < g.e.length → (0 ≤ (egAt g i).f ∧ (egAt g i).f < g.n.length) ∧ (0 ≤ (egAt g i).t ∧ (egAt g i).t < g.n.length)
def agnD : List S1 → CR × Prop
  | [.agg g, .c (.int .i64 n)] => (.one (.c (.bool (agS (grC.dec g) n))), grC.enc (grC.dec g) = g ∧ AgOk (grC.dec g) n ∧ (grC.dec g).n.length ≤ 1000)
  | _ => (.one (.c (.bool false)), False)
set_option maxHeartbeats 16000000 in
theorem agn_cal (args : List S1) (h : (agnD args).2) : Cal Try.prog 77 args (agnD args).1 := by
  unfold agnD at h ⊢
  split at h
  · next g0 n =>
    obtain ⟨hg, ho, hn32⟩ := h
    obtain ⟨g, rfl⟩ : ∃ v, g0 = grC.enc v := ⟨_, hg.symm⟩
    rw [grC.de] at ho hn32 ⊢
    clear hg
    have CT := @rcL.eq_1; refine DV.of (Γ := ⟨[], [(130, locP [4000, 4001, 4002, 4003, 4004] (rcL g.n.length))], []⟩) (rs := [ResultVar.tmp 4]) [0, 1, 2, 4, 5, 6, 7, 8, 9, 22, 29, 30, 31, 32, 44] ⟨nofun, by intro p hp args bx d h; simp only [List.mem_singleton] at hp; subst hp; exact calM_pr (rc_g g.n.length) h⟩ (by kernel_rfl) Try.func77 rfl rfl (by kernel_rfl) rfl ?_; (repeat (with_reducible first | apply qa | apply qb | apply qc | apply qd | apply qe))
    have hgd : grC.dec [D.sl (encL inC g.p), D.sl (encL inC g.b), D.sl (encL ndC g.n), D.sl (encL egC g.e)] = g := grC.de g
    obtain ⟨hs, n0, n1, hpar, hnd, hed⟩ := ho
    have c3 := encL_get (C := ndC) (ndAt_of n0 n1)
    obtain ⟨R, hR⟩ : ∃ R, agS g n = R := ⟨_, rfl⟩
    rw [hR]
    unfold agS at hR
    obtain ⟨s0, s1⟩ := hnd n n0 n1
    obtain ⟨x, hx⟩ : ∃ x, ndAt g n = x := ⟨_, rfl⟩
    rw [hx] at c3 hR s0 s1
    obtain ⟨s, hxs⟩ : ∃ s, x.s = s := ⟨_, rfl⟩
    obtain ⟨b, hb⟩ : ∃ b, (x.k != 10) = b := ⟨_, rfl⟩
    rw [hxs] at s0 s1 hR
    rw [hb] at hR
    (have F := @grE; refine Rg3 ?_; clear F; (repeat (with_reducible first | apply qa | apply qb | apply qc | apply qd | apply qe)))
    (have F := An6 @encL_len @n0 @n1 @c3 @ndE @hxs; refine Rg3 ?_; clear F; (repeat (with_reducible first | apply qa | apply qb | apply qc | apply qd | apply qe)))
    (have F := An6 @encL_len @n0 @n1 @c3 @ndE @hb; refine Rg3 ?_; clear F; (repeat (with_reducible first | apply qa | apply qb | apply qc | apply qd | apply qe)))
    cases b
    rotate_left 1
    · rw [if_pos rfl] at hR
      (refine DV.condT rfl (fun _ => rfl) ?_; (repeat (with_reducible first | apply qa | apply qb | apply qc | apply qd | apply qe)))
      (refine Rg2 ?_; (repeat (with_reducible first | apply qa | apply qb | apply qc | apply qd | apply qe)))
      (refine DV.ret ?_; (repeat (first | (with_reducible refine thenD_ret' ?_) | (with_reducible refine blockD_ret' ?_))); (with_reducible refine retD_ret' ?_); try (refine Rt0 ?_; try with_reducible exact True.intro))
      exact hR
    rw [if_neg (by decide)] at hR
    have het : ∀ e ∈ g.e, 0 ≤ e.t ∧ e.t < (g.n.length : Int) := fun e he => by
      obtain ⟨i, hi⟩ := List.getElem?_of_mem he
      obtain ⟨h1, h2⟩ := List.getElem?_eq_some_iff.1 hi
      have := (hed i (by omega) (by omega)).2
      unfold egAt at this
      rw [show ((i : Int)).toNat = i by omega, hi] at this
      exact this
    have hrc : RcOk g s := ⟨hs, hpar, s0, s1, het⟩
    have hrp : List.replicate g.n.length [D.bool false] = encL boC (List.replicate g.n.length false) := by unfold encL; rw [List.map_replicate]; rfl
    have m0 : (0 : Int) ≤ (g.n.length : Int) := by omega
    have m1 : (g.n.length : Int) ≤ 1000000 := by omega
    have m2 : (g.n.length : Int).toNat = g.n.length := by omega
    have hid : inC.dec [D.int .i64 s] = s := rfl
    (refine DV.condF rfl (fun _ => rfl) ?_; (repeat (with_reducible first | apply qa | apply qb | apply qc | apply qd | apply qe)))
    (refine DV.skip ?_; (repeat with_reducible refine qn ?_); (with_reducible refine qm ?_); (repeat (with_reducible first | apply qa | apply qb | apply qc | apply qd | apply qe)))
    (have F := An5 @encL_len @m0 @m1 @m2 @hrp; refine Rg3 ?_; clear F; (repeat (with_reducible first | apply qa | apply qb | apply qc | apply qd | apply qe)))
    (refine Rg2 ?_; (repeat (with_reducible first | apply qa | apply qb | apply qc | apply qd | apply qe)))
    (refine Rg2 ?_; (repeat (with_reducible first | apply qa | apply qb | apply qc | apply qd | apply qe)))
    (have F := @encL_len; refine Rg3 ?_; clear F; (repeat (with_reducible first | apply qa | apply qb | apply qc | apply qd | apply qe)))
    refine DV.loop (fun p : Nat × List Bool => ⟨[(1, .v true (.c (.int .i64 n))), (2, .v true (.box 2 0)), (5, .v true (.box 5 0)), (6, .v true (.box 6 0)), (7, .v true (.box 7 0)), (29, .v true (.c (.sl (encL ndC g.n)))), (30, .v true (.c (.int .i64 g.n.length))), (31, .v true (.c (.int .i64 p.1)))], [(2, some ⟨0, 0, [[.sl (encL inC g.p), .sl (encL inC g.b), .sl (encL ndC g.n), .sl (encL egC g.e)]]⟩), (5, some ⟨0, 0, [[.int .i64 s]]⟩), (6, some ⟨0, 0, [[.lk 26 g.n.length]]⟩), (7, some ⟨0, 0, [[.fb 130 [2, 6, 5, 7]]]⟩), (26, some ⟨4, 1, encL boC p.2⟩)], []⟩) (fun p => p.1 ≤ g.n.length ∧ p.2.length = g.n.length ∧ ((goN g s (g.n.drop p.1) p.1 p.2)[n.toNat]?).getD false = R) (fun p => g.n.length - p.1) (0, List.replicate g.n.length false) ⟨Nat.zero_le _, List.length_replicate, hR⟩ (by (have F := @n0; exact Wk1)) (fun p hp => ?_)
    obtain ⟨j, B⟩ := p
    dsimp only at hp ⊢
    obtain ⟨hj, hBl, hR⟩ := hp
    (repeat (with_reducible first | apply qa | apply qb | apply qc | apply qd | apply qe))
    by_cases hlt : j < g.n.length
    · obtain ⟨y, hy⟩ : ∃ x, g.n[j]? = some x := ⟨g.n[j], List.getElem?_eq_getElem _⟩
      have d1 : decide ((j : Int) < (g.n.length : Int)) = true := decide_eq_true (by omega)
      have k1 : (0 : Int) ≤ j := by omega
      have k2 : (j : Int) < (g.n.length : Int) := by omega
      have k3 := encL_get (C := ndC) hy
      have ew := wr1 j (by omega)
      rw [goN_at hy] at hR
      obtain ⟨b1, hb1⟩ : ∃ b, (y.k == 11) = b := ⟨_, rfl⟩
      obtain ⟨b2, hb2⟩ : ∃ b, (y.s == s) = b := ⟨_, rfl⟩
      obtain ⟨b3, hb3⟩ : ∃ b, (b1 && b2) = b := ⟨_, rfl⟩
      rw [hb1, hb2, hb3] at hR
      (have F := @d1; refine Rg3 ?_; clear F; (repeat (with_reducible first | apply qa | apply qb | apply qc | apply qd | apply qe)))
      (refine DV.condT rfl (fun _ => rfl) ?_; (repeat (with_reducible first | apply qa | apply qb | apply qc | apply qd | apply qe)))
      (refine DV.skip ?_; (repeat with_reducible refine qn ?_); (with_reducible refine qm ?_); (repeat (with_reducible first | apply qa | apply qb | apply qc | apply qd | apply qe)))
      (have F := An6 @i2n @encL_len @k1 @k2 @k3 @ndE; refine Rg3 ?_; clear F; (repeat (with_reducible first | apply qa | apply qb | apply qc | apply qd | apply qe)))
      (have F := An4 @ndE @hb1 @hb2 @hb3; refine Rg3 ?_; clear F; (repeat (with_reducible first | apply qa | apply qb | apply qc | apply qd | apply qe)))
      cases b3
      · rw [if_neg (by decide)] at hR
        (refine DV.condF rfl (fun _ => rfl) ?_; (repeat (with_reducible first | apply qa | apply qb | apply qc | apply qd | apply qe)))
        (refine DV.skip ?_; (repeat with_reducible refine qn ?_); (with_reducible refine qm ?_); (repeat (with_reducible first | apply qa | apply qb | apply qc | apply qd | apply qe)))
        (have F := @ew; refine Re3 ?_; clear F; (repeat with_reducible refine qn ?_); (try with_reducible refine qm ?_); (repeat (with_reducible first | apply qa | apply qb | apply qc | apply qd | apply qe)))
        exact ⟨(j + 1, B), ⟨⟨hlt, hBl, hR⟩, by dsimp only; omega⟩, by exact Wk0⟩
      · rw [if_pos rfl] at hR
        have hrl := rch_ok (g := g) (s := s) (g.n.length + 1) j B
        obtain ⟨B2, hB2⟩ : ∃ l, rch g s (g.n.length + 1) j B = l := ⟨_, rfl⟩
        rw [hB2] at hR hrl
        have hu' : uns B ≤ g.n.length := by have := uns_len B; omega
        (refine DV.condT rfl (fun _ => rfl) ?_; (repeat (with_reducible first | apply qa | apply qb | apply qc | apply qd | apply qe)))
        (apply DV.reg; kernel_rfl; (simp only [wpS, wpT, go1, evS, cutE_t, cutE_f, cutE_0, ev, Qc, Qd, Qe, Qg, Qk, Qo, Qs, Qt, Qu, Qv, QB, QE, QF, QG, QH, QI, nilB, gdS, put1, sv, gs, gb, opd, cst, XW, QK, okS, QL, setAt, bad, dem, QP, QR, QS, QT, QU, QV, QW, QY, stC, QZ, Q2, Q3, Q4, Q5, Q6, Q7, Q8, Q9, Xc, lf, lfs, Xd, Xe, Xg, Xh, Xj, Xk, asP, pOk, Xp, Xs, Xt, Xu, bxs, Nat.reduceBEq, cv, cvL, wrL, Xw, Xy, XA, XB, keep, kp, cand, cor, List.map, List.append, Option.bind, ↓reduceIte, Nat.reduceEqDiff, Nat.reduceAdd, Nat.reduceMul, Nat.reduceLT, Nat.reduceLeDiff, reduceCtorEq, Int.reduceLT, Int.reduceLE, Int.reduceBEq, Int.reduceBNe, Int.reduceAdd, Int.reduceSub, Int.reduceToNat, dq, tya, rcL, false_and, and_false, and_self, locF, locP, locW, locN, refA, refO, backOk, renV, renSs, renS, renDs, renD, renK, rkK, renCs, renC, renL_nil, renL_cons, renL_app, renL_encL, renL_set, renDs_enc, rkV, rkSs, rkS, rkDs, rkD, rkCs, rkC, rkL_nil, rkL_cons, rkL_app, rkL_encL, rkL_set, rkDs_enc, refTs, refT, refPs, locs, swp, bsOf, insOk, bijOk, outsOf, freshOk, wbOut, rkB, deadB, rcL, grE, hgd, inE, hid, encL_len, decL_encL, hBl, hB2, hu', hrc]; exact rfl); (repeat (with_reducible refine blockD_norm' ?_)); (try with_reducible refine thenD_norm' ?_); (repeat (with_reducible first | apply qa | apply qb | apply qc | apply qd | apply qe)))
        (have F := @ew; refine Re3 ?_; clear F; (repeat with_reducible refine qn ?_); (try with_reducible refine qm ?_); (repeat (with_reducible first | apply qa | apply qb | apply qc | apply qd | apply qe)))
        exact ⟨(j + 1, B2), ⟨⟨hlt, hrl.1.trans hBl, hR⟩, by dsimp only; omega⟩, by exact Wk0⟩
    · obtain rfl : j = g.n.length := by omega
      have d1 : decide ((g.n.length : Int) < (g.n.length : Int)) = false := decide_eq_false (by omega)
      rw [List.drop_length] at hR
      have hR : (B[n.toNat]?).getD false = R := hR
      obtain ⟨q, hq⟩ : ∃ q, B[n.toNat]? = some q := ⟨_, List.getElem?_eq_getElem (by omega)⟩
      rw [hq, Option.getD_some] at hR
      subst hR
      have k3 := encL_get (C := boC) hq
      have k4 : n.toNat < g.n.length := by omega
      (have F := @d1; refine Rg3 ?_; clear F; (repeat (with_reducible first | apply qa | apply qb | apply qc | apply qd | apply qe)))
      (refine DV.condF rfl (fun _ => rfl) ?_; (repeat (with_reducible first | apply qa | apply qb | apply qc | apply qd | apply qe)))
      (refine DV.exit ?_; (repeat (first | (with_reducible refine thenD_exit' ?_) | (with_reducible refine blockD_other (by decide) ?_))); (with_reducible refine blockD_same ?_); (repeat with_reducible refine qn ?_); (with_reducible refine qm ?_); (repeat (with_reducible first | apply qa | apply qb | apply qc | apply qd | apply qe)))
      (have F := An7 @encL_len @n0 @n1 @hBl @k3 @k4 @boE; refine Rg3 ?_; clear F; (repeat (with_reducible first | apply qa | apply qb | apply qc | apply qd | apply qe)))
      (refine DV.ret ?_; (repeat (first | (with_reducible refine thenD_ret' ?_) | (with_reducible refine blockD_ret' ?_))); (with_reducible refine retD_ret' ?_); try (refine Rt0 ?_; try with_reducible exact True.intro))
  · exact h.elim
end Go.Proofs.Ytkmgdejpdhlleaa.Dq
