/- Graphs that may run by deep values: the reference's edges, and what comes again. -/
import Derived.Test.YtkmgdejpdhlleaaR9b
import Derived.Test.YtkmgdejpdhlleaaVaS
namespace Go.Proofs.Ytkmgdejpdhlleaa.Dq
set_option linter.unusedSimpArgs false
set_option linter.unusedVariables false
set_option maxRecDepth 100000
open Go.RowKit
open Va

structure EeOk (g : Gr) (n : Int) : Prop where
  sm : Sm g
  n0 : 0 ≤ n
  n1 : n < g.e.length
  all : ∀ i : Int, 0 ≤ i → i < g.n.length → 0 ≤ (ndAt g i).s ∧ (ndAt g i).s < g.p.length
def r9eD : List S1 → CR × Prop
  | [.agg g, .c (.int .i64 n)] => (.one (.c (.int .i64 (ed9 (grC.dec g) n))), grC.enc (grC.dec g) = g ∧ EeOk (grC.dec g) n)
  | _ => (.one (.c (.bool false)), False)
set_option maxHeartbeats 16000000 in
theorem r9e_cal (args : List S1) (h : (r9eD args).2) : Cal Try.prog 137 args (r9eD args).1 := by
  unfold r9eD at h ⊢
  split at h
  · next g0 n =>
    have CT := An2 @r9pD.eq_1 @r9lD.eq_1; refine DV.of (Γ := ⟨[(138, r9pD), (91, r9lD)], [], []⟩) (rs := [ResultVar.tmp 4]) [0, 1, 2, 4, 5, 6, 7, 8, 64, 73, 88, 118, 121, 143] ⟨by intro p hp; simp only [List.mem_cons, List.not_mem_nil, or_false] at hp; rcases hp with rfl | rfl; exact r9p_cal; exact r9l_cal, nofun⟩ (by kernel_rfl) Try.func137 rfl rfl (by kernel_rfl) rfl ?_; (repeat (with_reducible first | apply qa | apply qb | apply qc | apply qd | apply qe))
    obtain ⟨hg, ho⟩ := h
    obtain ⟨g, rfl⟩ : ∃ v, g0 = grC.enc v := ⟨_, hg.symm⟩
    rw [grC.de] at ho ⊢
    clear hg
    have hgd : grC.dec [D.sl (encL inC g.p), D.sl (encL inC g.b), D.sl (encL ndC g.n), D.sl (encL egC g.e)] = g := grC.de g
    obtain ⟨hsm, n0', n1', hall⟩ := ho
    have c3 := encL_get (C := egC) (egAt_of n0' n1')
    obtain ⟨F, hF⟩ : ∃ F, ed9 g n = F := ⟨_, rfl⟩
    rw [hF]
    unfold ed9 eg9 at hF
    obtain ⟨e, he⟩ : ∃ e, egAt g n = e := ⟨_, rfl⟩
    rw [he] at c3 hF
    (have F := @grE; refine Rg3 ?_; clear F; (repeat (with_reducible first | apply qa | apply qb | apply qc | apply qd | apply qe)))
    (have F := An6 @i2n @encL_len @n0' @n1' @c3 @egE; refine Rg3 ?_; clear F; (repeat (with_reducible first | apply qa | apply qb | apply qc | apply qd | apply qe)))
    (have F := @encL_len; refine Rg3 ?_; clear F; (repeat (with_reducible first | apply qa | apply qb | apply qc | apply qd | apply qe)))
    clear c3
    obtain ⟨a, ha⟩ : ∃ a, decide (e.f < 0) = a := ⟨_, rfl⟩
    obtain ⟨b, hb⟩ : ∃ a, decide ((g.n.length : Int) ≤ e.f) = a := ⟨_, rfl⟩
    obtain ⟨c, hc⟩ : ∃ a, decide (e.t < 0) = a := ⟨_, rfl⟩
    obtain ⟨d, hd⟩ : ∃ a, decide ((g.n.length : Int) ≤ e.t) = a := ⟨_, rfl⟩
    rw [ha, hb, hc, hd] at hF
    by_cases hr : (((a || b) || c) || d) = true
    · rw [if_pos hr] at hF
      have h4 : a = true ∨ (a = false ∧ b = true) ∨ (a = false ∧ b = false ∧ c = true) ∨ (a = false ∧ b = false ∧ c = false ∧ d = true) := by revert hr; cases a <;> cases b <;> cases c <;> cases d <;> decide
      obtain ⟨u, hu⟩ : ∃ u, g.n[e.f.toNat]? = u := ⟨_, rfl⟩
      obtain ⟨v, hv⟩ : ∃ u, g.n[e.t.toNat]? = u := ⟨_, rfl⟩
      have cf : (encL ndC g.n)[e.f.toNat]? = u.map ndC.enc := by rw [← hu]; unfold encL; rw [List.getElem?_map]
      have ct : (encL ndC g.n)[e.t.toNat]? = v.map ndC.enc := by rw [← hv]; unfold encL; rw [List.getElem?_map]
      clear hu hv hr
      rcases h4 with rfl | ⟨rfl, rfl⟩ | ⟨rfl, rfl, rfl⟩ | ⟨rfl, rfl, rfl, rfl⟩ <;> cases u <;> cases v
      all_goals
        (apply DV.seqdrw; kernel_rfl; kernel_rfl; (simp only [wpS, wpT, go1, evS, cutE_t, cutE_f, cutE_0, ev, Qc, Qd, Qe, Qg, Qh, Qk, Qo, Qs, Qt, Qu, Qv, QB, QE, QF, nilB, gdS, put1, sv, gs, gb, opd, cst, XW, QK, okS, QL, setAt, bad, dem, QP, QR, QS, QT, QU, QV, QW, QY, stC, QZ, Q2, Q3, Q4, Q5, Q6, Q7, Q8, Q9, Xc, lf, lfs, Xd, Xe, Xg, Xh, Xj, Xk, asP, pOk, Xp, Xt, Nat.reduceBEq, cv, cvL, wrL, Xw, Xy, XA, XB, keep, kp, cand, cor, List.map, List.append, Option.bind, ↓reduceIte, Nat.reduceEqDiff, Nat.reduceAdd, Nat.reduceMul, Nat.reduceLT, Nat.reduceLeDiff, reduceCtorEq, Int.reduceLT, Int.reduceLE, Int.reduceBEq, Int.reduceBNe, Int.reduceAdd, Int.reduceSub, Int.reduceToNat, dq, tya, r9pD, r9lD, egE, encL_len, ha, hb, hc, hd, cf, ct, Option.map_none, Option.map_some, Option.getD_none, Option.getD_some, undef, ndE]; exact ⟨rfl, rfl⟩); kernel_rfl; (repeat (with_reducible first | apply qa | apply qb | apply qc | apply qd | apply qe)))
        (refine DV.condT rfl (fun _ => rfl) ?_; (repeat (with_reducible first | apply qa | apply qb | apply qc | apply qd | apply qe)))
        (refine Rg2 ?_; (repeat (with_reducible first | apply qa | apply qb | apply qc | apply qd | apply qe)))
        (refine DV.ret ?_; (repeat (first | (with_reducible refine thenD_ret' ?_) | (with_reducible refine blockD_ret' ?_))); (with_reducible refine retD_ret' ?_); try (refine Rt0 ?_; try with_reducible exact True.intro))
        try exact hF
    have h4 : a = false ∧ b = false ∧ c = false ∧ d = false := by revert hr; cases a <;> cases b <;> cases c <;> cases d <;> decide
    obtain ⟨rfl, rfl, rfl, rfl⟩ := h4
    rw [if_neg hr] at hF
    have f0 : 0 ≤ e.f := by have := of_decide_eq_false ha; omega
    have f1 : e.f < (g.n.length : Int) := by have := of_decide_eq_false hb; omega
    have t0 : 0 ≤ e.t := by have := of_decide_eq_false hc; omega
    have t1 : e.t < (g.n.length : Int) := by have := of_decide_eq_false hd; omega
    have f2 : e.f.toNat < g.n.length := by omega
    have t2 : e.t.toNat < g.n.length := by omega
    have cf := encL_get (C := ndC) (ndAt_of f0 f1)
    have ct := encL_get (C := ndC) (ndAt_of t0 t1)
    obtain ⟨xs0, xs1⟩ := hall e.f f0 f1
    obtain ⟨ys0, ys1⟩ := hall e.t t0 t1
    obtain ⟨x, hx⟩ : ∃ z, ndAt g e.f = z := ⟨_, rfl⟩
    obtain ⟨y, hy⟩ : ∃ z, ndAt g e.t = z := ⟨_, rfl⟩
    rw [hx] at cf xs0 xs1
    rw [hy] at ct ys0 ys1
    rw [hx, hy] at hF
    obtain ⟨P, hP⟩ : ∃ P, portsI y.k = P := ⟨_, rfl⟩
    obtain ⟨q1, hq1⟩ : ∃ q, ((x.k == 15 || decide (e.p < 0)) || decide (P ≤ e.p)) = q := ⟨_, rfl⟩
    obtain ⟨A, hA⟩ : ∃ A, plI g x true = A := ⟨_, rfl⟩
    obtain ⟨B, hB⟩ : ∃ A, plI g y false = A := ⟨_, rfl⟩
    obtain ⟨q2, hq2⟩ : ∃ q, (A != B) = q := ⟨_, rfl⟩
    obtain ⟨q3, hq3⟩ : ∃ q, (x.k != 12 && decide (e.t ≤ e.f)) = q := ⟨_, rfl⟩
    obtain ⟨q4, hq4⟩ : ∃ q, (!e.x && ((((y.k == 6 || y.k == 7) || y.k == 8) || y.k == 9) || y.k == 14)) = q := ⟨_, rfl⟩
    rw [hP, hq1, hA, hB, hq2, hq3, hq4] at hF
    (have F := An18 @i2n @egE @ndE @encL_len @ha @hb @hc @hd @f0 @f1 @f2 @t0 @t1 @t2 @cf @ct @hP @hq1; refine Rd3 ?_; clear F; (repeat (with_reducible first | apply qa | apply qb | apply qc | apply qd | apply qe)))
    cases q1
    rotate_left 1
    · rw [if_pos rfl] at hF
      (refine DV.condT rfl (fun _ => rfl) ?_; (repeat (with_reducible first | apply qa | apply qb | apply qc | apply qd | apply qe)))
      (refine Rg2 ?_; (repeat (with_reducible first | apply qa | apply qb | apply qc | apply qd | apply qe)))
      (refine DV.ret ?_; (repeat (first | (with_reducible refine thenD_ret' ?_) | (with_reducible refine blockD_ret' ?_))); (with_reducible refine retD_ret' ?_); try (refine Rt0 ?_; try with_reducible exact True.intro))
      exact hF
    rw [if_neg (by decide)] at hF
    (refine DV.condF rfl (fun _ => rfl) ?_; (repeat (with_reducible first | apply qa | apply qb | apply qc | apply qd | apply qe)))
    (refine DV.skip ?_; (repeat with_reducible refine qn ?_); (with_reducible refine qm ?_); (repeat (with_reducible first | apply qa | apply qb | apply qc | apply qd | apply qe)))
    (have F := An17 @egE @grE @hgd @hsm @f0 @f1 @t0 @t1 @hx @hy @xs0 @xs1 @ys0 @ys1 @hA @hB @hq2; refine Rd3 ?_; clear F; (repeat (with_reducible first | apply qa | apply qb | apply qc | apply qd | apply qe)))
    cases q2
    rotate_left 1
    · rw [if_pos rfl] at hF
      (refine DV.condT rfl (fun _ => rfl) ?_; (repeat (with_reducible first | apply qa | apply qb | apply qc | apply qd | apply qe)))
      (refine Rg2 ?_; (repeat (with_reducible first | apply qa | apply qb | apply qc | apply qd | apply qe)))
      (refine DV.ret ?_; (repeat (first | (with_reducible refine thenD_ret' ?_) | (with_reducible refine blockD_ret' ?_))); (with_reducible refine retD_ret' ?_); try (refine Rt0 ?_; try with_reducible exact True.intro))
      exact hF
    rw [if_neg (by decide)] at hF
    (refine DV.condF rfl (fun _ => rfl) ?_; (repeat (with_reducible first | apply qa | apply qb | apply qc | apply qd | apply qe)))
    (refine DV.skip ?_; (repeat with_reducible refine qn ?_); (with_reducible refine qm ?_); (repeat (with_reducible first | apply qa | apply qb | apply qc | apply qd | apply qe)))
    (have F := An9 @i2n @egE @ndE @encL_len @f0 @f1 @f2 @cf @hq3; refine Rg3 ?_; clear F; (repeat (with_reducible first | apply qa | apply qb | apply qc | apply qd | apply qe)))
    cases q3
    rotate_left 1
    · rw [if_pos rfl] at hF
      (refine DV.condT rfl (fun _ => rfl) ?_; (repeat (with_reducible first | apply qa | apply qb | apply qc | apply qd | apply qe)))
      (refine Rg2 ?_; (repeat (with_reducible first | apply qa | apply qb | apply qc | apply qd | apply qe)))
      (refine DV.ret ?_; (repeat (first | (with_reducible refine thenD_ret' ?_) | (with_reducible refine blockD_ret' ?_))); (with_reducible refine retD_ret' ?_); try (refine Rt0 ?_; try with_reducible exact True.intro))
      exact hF
    rw [if_neg (by decide)] at hF
    (refine DV.condF rfl (fun _ => rfl) ?_; (repeat (with_reducible first | apply qa | apply qb | apply qc | apply qd | apply qe)))
    (refine DV.skip ?_; (repeat with_reducible refine qn ?_); (with_reducible refine qm ?_); (repeat (with_reducible first | apply qa | apply qb | apply qc | apply qd | apply qe)))
    (have F := An8 @i2n @egE @ndE @encL_len @t0 @t1 @t2 @ct; refine Rg3 ?_; clear F; (repeat (with_reducible first | apply qa | apply qb | apply qc | apply qd | apply qe)))
    (have F := An2 @egE @hq4; refine Rg3 ?_; clear F; (repeat (with_reducible first | apply qa | apply qb | apply qc | apply qd | apply qe)))
    cases q4
    rotate_left 1
    · rw [if_pos rfl] at hF
      (refine DV.condT rfl (fun _ => rfl) ?_; (repeat (with_reducible first | apply qa | apply qb | apply qc | apply qd | apply qe)))
      (refine Rg2 ?_; (repeat (with_reducible first | apply qa | apply qb | apply qc | apply qd | apply qe)))
      (refine DV.ret ?_; (repeat (first | (with_reducible refine thenD_ret' ?_) | (with_reducible refine blockD_ret' ?_))); (with_reducible refine retD_ret' ?_); try (refine Rt0 ?_; try with_reducible exact True.intro))
      exact hF
    rw [if_neg (by decide)] at hF
    (refine DV.condF rfl (fun _ => rfl) ?_; (repeat (with_reducible first | apply qa | apply qb | apply qc | apply qd | apply qe)))
    (refine DV.skip ?_; (repeat with_reducible refine qn ?_); (with_reducible refine qm ?_); (repeat (with_reducible first | apply qa | apply qb | apply qc | apply qd | apply qe)))
    (refine Rg2 ?_; (repeat (with_reducible first | apply qa | apply qb | apply qc | apply qd | apply qe)))
    clear ct cf
    unfold fedB at hF
    refine DV.loop (fun j : Nat => ⟨[(1, .v true (.c (.int .i64 n))), (2, .v true (.box 2 0)), (5, .v true (.box 5 0)), (8, .v true (.c (.int .i64 j)))], [(2, some ⟨0, 0, [[.sl (encL inC g.p), .sl (encL inC g.b), .sl (encL ndC g.n), .sl (encL egC g.e)]]⟩), (5, some ⟨0, 0, [[.int .i64 e.f, .int .i64 e.t, .int .i64 e.p, .bool e.x]]⟩)], []⟩) (fun j => j ≤ n.toNat ∧ ∀ (k : Nat) y, k < j → g.e[k]? = some y → (y.t == e.t && y.p == e.p) = false) (fun j => n.toNat - j) 0 ⟨Nat.zero_le _, fun k y hk => absurd hk (Nat.not_lt_zero k)⟩ (by (have F := @n0; exact Wk1)) (fun j hj => ?_)
    obtain ⟨hj, hall⟩ := hj
    (repeat (with_reducible first | apply qa | apply qb | apply qc | apply qd | apply qe))
    by_cases hlt : j < n.toNat
    · obtain ⟨z, hz⟩ : ∃ y, g.e[j]? = some y := ⟨_, List.getElem?_eq_getElem (by omega)⟩
      have d1 : decide ((j : Int) < n) = true := decide_eq_true (by omega)
      have c1 : (0 : Int) ≤ j := by omega
      have c2 : (j : Int) < (g.e.length : Int) := by omega
      have c4 : j < g.e.length := by omega
      have c3 := encL_get (C := egC) hz
      have ew := wr1 j (by have := hsm.e; omega)
      obtain ⟨b, hb⟩ : ∃ b, (z.t == e.t && z.p == e.p) = b := ⟨_, rfl⟩
      (have F := @d1; refine Rg3 ?_; clear F; (repeat (with_reducible first | apply qa | apply qb | apply qc | apply qd | apply qe)))
      (refine DV.condT rfl (fun _ => rfl) ?_; (repeat (with_reducible first | apply qa | apply qb | apply qc | apply qd | apply qe)))
      (refine DV.skip ?_; (repeat with_reducible refine qn ?_); (with_reducible refine qm ?_); (repeat (with_reducible first | apply qa | apply qb | apply qc | apply qd | apply qe)))
      (have F := An8 @i2n @encL_len @c1 @c2 @c3 @c4 @egE @hb; refine Rd3 ?_; clear F; (repeat (with_reducible first | apply qa | apply qb | apply qc | apply qd | apply qe)))
      cases b
      · (refine DV.condF rfl (fun _ => rfl) ?_; (repeat (with_reducible first | apply qa | apply qb | apply qc | apply qd | apply qe)))
        (refine DV.skip ?_; (repeat with_reducible refine qn ?_); (with_reducible refine qm ?_); (repeat (with_reducible first | apply qa | apply qb | apply qc | apply qd | apply qe)))
        (have F := @ew; refine Re3 ?_; clear F; (repeat with_reducible refine qn ?_); (try with_reducible refine qm ?_); (repeat (with_reducible first | apply qa | apply qb | apply qc | apply qd | apply qe)))
        refine ⟨j + 1, ⟨⟨hlt, fun k u hk hu => ?_⟩, by omega⟩, by exact Wk0⟩
        rcases Nat.lt_or_ge k j with h | h
        · exact hall k u h hu
        · obtain rfl : k = j := by omega
          rw [hz] at hu
          obtain rfl := Option.some.inj hu
          exact hb
      · have hany : ((g.e.take n.toNat).any fun x => x.t == e.t && x.p == e.p) = true := List.any_eq_true.2 ⟨z, List.mem_of_getElem? (i := j) (by rw [List.getElem?_take, if_pos hlt]; exact hz), hb⟩
        rw [hany, if_pos rfl] at hF
        (refine DV.condT rfl (fun _ => rfl) ?_; (repeat (with_reducible first | apply qa | apply qb | apply qc | apply qd | apply qe)))
        (refine Rg2 ?_; (repeat (with_reducible first | apply qa | apply qb | apply qc | apply qd | apply qe)))
        (refine DV.ret ?_; (repeat (first | (with_reducible refine thenD_ret' ?_) | (with_reducible refine blockD_ret' ?_))); (with_reducible refine retD_ret' ?_); try (refine Rt0 ?_; try with_reducible exact True.intro))
        exact hF
    · have d1 : decide ((j : Int) < n) = false := decide_eq_false (by omega)
      have hno : ((g.e.take n.toNat).any fun x => x.t == e.t && x.p == e.p) = false := List.any_eq_false.2 fun y hy => by
        obtain ⟨k, hk⟩ := List.getElem?_of_mem hy
        rw [List.getElem?_take] at hk
        split at hk
        · rw [hall k y (by omega) hk]
          decide
        · cases hk
      rw [hno, if_neg (by decide)] at hF
      (have F := @d1; refine Rg3 ?_; clear F; (repeat (with_reducible first | apply qa | apply qb | apply qc | apply qd | apply qe)))
      (refine DV.condF rfl (fun _ => rfl) ?_; (repeat (with_reducible first | apply qa | apply qb | apply qc | apply qd | apply qe)))
      (refine DV.exit ?_; (repeat (first | (with_reducible refine thenD_exit' ?_) | (with_reducible refine blockD_other (by decide) ?_))); (with_reducible refine blockD_same ?_); (repeat with_reducible refine qn ?_); (with_reducible refine qm ?_); (repeat (with_reducible first | apply qa | apply qb | apply qc | apply qd | apply qe)))
      (refine Rg2 ?_; (repeat (with_reducible first | apply qa | apply qb | apply qc | apply qd | apply qe)))
      (refine DV.ret ?_; (repeat (first | (with_reducible refine thenD_ret' ?_) | (with_reducible refine blockD_ret' ?_))); (with_reducible refine retD_ret' ?_); try (refine Rt0 ?_; try with_reducible exact True.intro))
      exact hF
  · exact h.elim
structure GaOk (g : Gr) : Prop where
  sm : Sm g
  n1 : g.n.length ≤ 1000
  ed : ∀ e ∈ g.e, (0 ≤ e.f ∧ e.f < g.n.length) ∧ (0 ≤ e.t ∧ e.t < g.n.length)
def r9gD : List S1 → CR × Prop
  | [.agg g, .c (.int .i64 s)] => (.one (.c (.sl (encL boC (ag9 (grC.dec g) s)))), grC.enc (grC.dec g) = g ∧ GaOk (grC.dec g))
  | _ => (.one (.c (.bool false)), False)
set_option maxHeartbeats 16000000 in
theorem r9g_cal (args : List S1) (h : (r9gD args).2) : Cal Try.prog 139 args (r9gD args).1 := by
  unfold r9gD at h ⊢
  split at h
  · next g0 s =>
    have CT := @r9rD.eq_1; refine DV.of (Γ := ⟨[(173, r9rD)], [], []⟩) (rs := [ResultVar.tmp 4]) [0, 1, 2, 4, 5, 6, 7, 8, 9, 18, 25, 67] ⟨by intro p hp; simp only [List.mem_singleton] at hp; subst hp; exact r9r_cal, nofun⟩ (by kernel_rfl) Try.func139 rfl rfl (by kernel_rfl) rfl ?_; (repeat (with_reducible first | apply qa | apply qb | apply qc | apply qd | apply qe))
    obtain ⟨hg, ho⟩ := h
    obtain ⟨g, rfl⟩ : ∃ v, g0 = grC.enc v := ⟨_, hg.symm⟩
    rw [grC.de] at ho ⊢
    clear hg
    have hgd : grC.dec [D.sl (encL inC g.p), D.sl (encL inC g.b), D.sl (encL ndC g.n), D.sl (encL egC g.e)] = g := grC.de g
    obtain ⟨hsm, hnl, hed⟩ := ho
    obtain ⟨F, hF⟩ : ∃ F, ag9 g s = F := ⟨_, rfl⟩
    rw [hF]
    unfold ag9 at hF
    have hrp : List.replicate g.n.length [D.bool false] = encL boC (List.replicate g.n.length false) := by unfold encL; rw [List.map_replicate]; rfl
    have m0 : (0 : Int) ≤ (g.n.length : Int) := by omega
    have m1 : (g.n.length : Int) ≤ 1000000 := by omega
    have m2 : (g.n.length : Int).toNat = g.n.length := by omega
    (have F := @grE; refine Rg3 ?_; clear F; (repeat (with_reducible first | apply qa | apply qb | apply qc | apply qd | apply qe)))
    (have F := An5 @encL_len @m0 @m1 @m2 @hrp; refine Rg3 ?_; clear F; (repeat (with_reducible first | apply qa | apply qb | apply qc | apply qd | apply qe)))
    (refine Rg2 ?_; (repeat (with_reducible first | apply qa | apply qb | apply qc | apply qd | apply qe)))
    refine DV.loop (fun p : Nat × List Bool => ⟨[(1, .v true (.c (.int .i64 s))), (2, .v true (.box 2 0)), (5, .v true (.c (.lk 13 g.n.length))), (6, .v true (.c (.int .i64 p.1)))], [(2, some ⟨0, 0, [[.sl (encL inC g.p), .sl (encL inC g.b), .sl (encL ndC g.n), .sl (encL egC g.e)]]⟩), (13, some ⟨4, 1, encL boC p.2⟩)], []⟩) (fun p => p.1 ≤ g.n.length + 1 ∧ p.2.length = g.n.length ∧ agR g s (g.n.length + 1 - p.1) p.2 = F) (fun p => g.n.length + 1 - p.1) (0, List.replicate g.n.length false) ⟨Nat.zero_le _, List.length_replicate, hF⟩ (by (have F := @n0; exact Wk1)) (fun p hp => ?_)
    clear hF
    obtain ⟨r, B⟩ := p
    dsimp only at hp ⊢
    obtain ⟨hr, hBl, hF⟩ := hp
    (repeat (with_reducible first | apply qa | apply qb | apply qc | apply qd | apply qe))
    by_cases hlt : r < g.n.length + 1
    rotate_left 1
    · obtain rfl : r = g.n.length + 1 := by omega
      have d1 : decide (((g.n.length + 1 : Nat) : Int) ≤ (g.n.length : Int)) = false := decide_eq_false (by omega)
      rw [Nat.sub_self] at hF
      obtain rfl : B = F := hF
      have htk : (encL boC B).take g.n.length = encL boC B := by rw [← hBl, encL_take, List.take_length]
      (have F := An2 @encL_len @d1; refine Rg3 ?_; clear F; (repeat (with_reducible first | apply qa | apply qb | apply qc | apply qd | apply qe)))
      (refine DV.condF rfl (fun _ => rfl) ?_; (repeat (with_reducible first | apply qa | apply qb | apply qc | apply qd | apply qe)))
      (refine DV.exit ?_; (repeat (first | (with_reducible refine thenD_exit' ?_) | (with_reducible refine blockD_other (by decide) ?_))); (with_reducible refine blockD_same ?_); (repeat with_reducible refine qn ?_); (with_reducible refine qm ?_); (repeat (with_reducible first | apply qa | apply qb | apply qc | apply qd | apply qe)))
      (refine Rg2 ?_; (repeat (with_reducible first | apply qa | apply qb | apply qc | apply qd | apply qe)))
      (refine DV.ret ?_; (repeat (first | (with_reducible refine thenD_ret' ?_) | (with_reducible refine blockD_ret' ?_))); (with_reducible refine retD_ret' ?_); try (have F := An5 @encL_len @hBl @htk @lfL_encL @Nat.le_refl; refine Rt1 ?_; clear F; try with_reducible exact True.intro))
    have d1 : decide ((r : Int) ≤ (g.n.length : Int)) = true := decide_eq_true (by omega)
    rw [show g.n.length + 1 - r = (g.n.length + 1 - (r + 1)) + 1 by omega, agR] at hF
    (have F := An2 @encL_len @d1; refine Rg3 ?_; clear F; (repeat (with_reducible first | apply qa | apply qb | apply qc | apply qd | apply qe)))
    (refine DV.condT rfl (fun _ => rfl) ?_; (repeat (with_reducible first | apply qa | apply qb | apply qc | apply qd | apply qe)))
    (refine DV.skip ?_; (repeat with_reducible refine qn ?_); (with_reducible refine qm ?_); (repeat (with_reducible first | apply qa | apply qb | apply qc | apply qd | apply qe)))
    (refine Rg2 ?_; (repeat (with_reducible first | apply qa | apply qb | apply qc | apply qd | apply qe)))
    obtain ⟨C, hC⟩ : ∃ C, agE g s g.e B = C := ⟨_, rfl⟩
    rw [hC] at hF
    refine DV.loop (fun p : Nat × List Bool => ⟨[(1, .v true (.c (.int .i64 s))), (2, .v true (.box 2 0)), (5, .v true (.c (.lk 13 g.n.length))), (6, .v true (.c (.int .i64 r))), (7, .v true (.c (.int .i64 p.1)))], [(2, some ⟨0, 0, [[.sl (encL inC g.p), .sl (encL inC g.b), .sl (encL ndC g.n), .sl (encL egC g.e)]]⟩), (13, some ⟨4, 1, encL boC p.2⟩)], []⟩) (fun p => p.1 ≤ g.e.length ∧ p.2.length = g.n.length ∧ agE g s (g.e.drop p.1) p.2 = C) (fun p => g.e.length - p.1) (0, B) ⟨Nat.zero_le _, hBl, hC⟩ (by (have F := @n0; exact Wk1)) (fun p hp => ?_)
    clear hC hBl
    obtain ⟨j, B⟩ := p
    dsimp only at hp ⊢
    obtain ⟨hj, hBl, hC⟩ := hp
    (repeat (with_reducible first | apply qa | apply qb | apply qc | apply qd | apply qe))
    by_cases hjt : j < g.e.length
    rotate_left 1
    · obtain rfl : j = g.e.length := by omega
      have d2 : decide ((g.e.length : Int) < (g.e.length : Int)) = false := decide_eq_false (by omega)
      rw [List.drop_length] at hC
      obtain rfl : B = C := hC
      have ew := wr1 r (by omega)
      (have F := An2 @encL_len @d2; refine Rg3 ?_; clear F; (repeat (with_reducible first | apply qa | apply qb | apply qc | apply qd | apply qe)))
      (refine DV.condF rfl (fun _ => rfl) ?_; (repeat (with_reducible first | apply qa | apply qb | apply qc | apply qd | apply qe)))
      (refine DV.exit ?_; (repeat (first | (with_reducible refine thenD_exit' ?_) | (with_reducible refine blockD_other (by decide) ?_))); (with_reducible refine blockD_same ?_); (repeat with_reducible refine qn ?_); (with_reducible refine qm ?_); (repeat (with_reducible first | apply qa | apply qb | apply qc | apply qd | apply qe)))
      (have F := @ew; refine Re3 ?_; clear F; (repeat with_reducible refine qn ?_); (try with_reducible refine qm ?_); (repeat (with_reducible first | apply qa | apply qb | apply qc | apply qd | apply qe)))
      exact ⟨(r + 1, B), ⟨⟨hlt, hBl, hF⟩, by dsimp only; omega⟩, by exact Wk0⟩
    obtain ⟨e, he⟩ : ∃ x, g.e[j]? = some x := ⟨g.e[j], List.getElem?_eq_getElem _⟩
    have d2 : decide ((j : Int) < (g.e.length : Int)) = true := decide_eq_true (by omega)
    have k1 : (0 : Int) ≤ j := by omega
    have k2 : (j : Int) < (g.e.length : Int) := by omega
    have k3 := encL_get (C := egC) he
    have ew := wr1 j (by have := hsm.e; omega)
    obtain ⟨⟨f0, f1⟩, t0, t1⟩ := hed e (List.mem_of_getElem? he)
    have f2 : e.f.toNat < g.n.length := by omega
    have t2 : e.t.toNat < g.n.length := by omega
    have cf := encL_get (C := ndC) (ndAt_of f0 f1)
    obtain ⟨q, hq⟩ : ∃ q, B[e.f.toNat]? = some q := ⟨_, List.getElem?_eq_getElem (by omega)⟩
    obtain ⟨q', hq'⟩ : ∃ q, B[e.t.toNat]? = some q := ⟨_, List.getElem?_eq_getElem (by omega)⟩
    have cq := encL_get (C := boC) hq
    have ct := encL_get (C := boC) hq'
    rw [agE_at he] at hC
    obtain ⟨B2, hB2⟩ : ∃ B2, ag1 g s e B = B2 := ⟨_, rfl⟩
    have hB2l : B2.length = g.n.length := by rw [← hB2, ag1_len, hBl]
    rw [hB2] at hC
    unfold ag1 at hB2
    rw [hq, Option.getD_some] at hB2
    obtain ⟨x, hx⟩ : ∃ x, ndAt g e.f = x := ⟨_, rfl⟩
    rw [hx] at cf hB2
    obtain ⟨A, hA⟩ : ∃ A, aruB (chS g.p s) x.s = A := ⟨_, rfl⟩
    obtain ⟨b, hb⟩ : ∃ b, ((x.k == 11 && x.s == s) || (q && (x.k != 12 || !A))) = b := ⟨_, rfl⟩
    rw [hA, hb] at hB2
    (have F := An2 @encL_len @d2; refine Rg3 ?_; clear F; (repeat (with_reducible first | apply qa | apply qb | apply qc | apply qd | apply qe)))
    (refine DV.condT rfl (fun _ => rfl) ?_; (repeat (with_reducible first | apply qa | apply qb | apply qc | apply qd | apply qe)))
    (refine DV.skip ?_; (repeat with_reducible refine qn ?_); (with_reducible refine qm ?_); (repeat (with_reducible first | apply qa | apply qb | apply qc | apply qd | apply qe)))
    (have F := An6 @i2n @encL_len @k1 @k2 @k3 @egE; refine Rg3 ?_; clear F; (repeat (with_reducible first | apply qa | apply qb | apply qc | apply qd | apply qe)))
    (have F := An8 @i2n @egE @encL_len @f0 @f1 @f2 @cf @ndE; refine Rg3 ?_; clear F; (repeat (with_reducible first | apply qa | apply qb | apply qc | apply qd | apply qe)))
    (have F := An15 @i2n @egE @ndE @grE @hgd @hsm @encL_len @f0 @f1 @f2 @hBl @cq @boE @hA @hb; refine Rg3 ?_; clear F; (repeat (with_reducible first | apply qa | apply qb | apply qc | apply qd | apply qe)))
    cases b
    · rw [if_neg (by decide)] at hB2
      subst hB2
      (refine DV.condF rfl (fun _ => rfl) ?_; (repeat (with_reducible first | apply qa | apply qb | apply qc | apply qd | apply qe)))
      (refine DV.skip ?_; (repeat with_reducible refine qn ?_); (with_reducible refine qm ?_); (repeat (with_reducible first | apply qa | apply qb | apply qc | apply qd | apply qe)))
      (have F := @ew; refine Re3 ?_; clear F; (repeat with_reducible refine qn ?_); (try with_reducible refine qm ?_); (repeat (with_reducible first | apply qa | apply qb | apply qc | apply qd | apply qe)))
      exact ⟨(j + 1, B), ⟨⟨hjt, hBl, hC⟩, by dsimp only; omega⟩, by exact Wk0⟩
    · rw [if_pos rfl] at hB2
      have hset : (encL boC B).set e.t.toNat [.bool true] = encL boC B2 := by rw [show [D.bool true] = boC.enc true from rfl, encL_set, hB2]
      (refine DV.condT rfl (fun _ => rfl) ?_; (repeat (with_reducible first | apply qa | apply qb | apply qc | apply qd | apply qe)))
      (have F := An10 @i2n @egE @encL_len @t0 @t1 @t2 @hBl @ct @boE @hset; refine Re3 ?_; clear F; (repeat with_reducible refine qn ?_); (try with_reducible refine qm ?_); (repeat (with_reducible first | apply qa | apply qb | apply qc | apply qd | apply qe)))
      (have F := @ew; refine Re3 ?_; clear F; (repeat with_reducible refine qn ?_); (try with_reducible refine qm ?_); (repeat (with_reducible first | apply qa | apply qb | apply qc | apply qd | apply qe)))
      exact ⟨(j + 1, B2), ⟨⟨hjt, hB2l, hC⟩, by dsimp only; omega⟩, by exact Wk0⟩
  · exact h.elim
end Go.Proofs.Ytkmgdejpdhlleaa.Dq
