/- What a record hangs on, by deep values: the program's Feeds and Sinks; awake; the walk. -/
import Derived.Test.YtkmgdejpdhlleaaLn4
import Derived.Test.YtkmgdejpdhlleaaLnQ
import Derived.Test.YtkmgdejpdhlleaaAwk
namespace Go.Proofs.Ytkmgdejpdhlleaa.Dq
set_option linter.unusedSimpArgs false
set_option linter.unusedVariables false
set_option maxRecDepth 100000
open Go.RowKit

open Pa Va

theorem ask_may (g : Gr) (l : List Fd) : askB g l = mayB g l := by
  unfold askB mayB
  have h1 : (!(l.any fun x => !fdB g x)) = l.all (fdB g) := by
    induction l with
    | nil => rfl
    | cons x l ih => rw [List.any_cons, List.all_cons, Bool.not_or, Bool.not_not, ih]
  rw [h1]
  congr 1
  cases hc : ((chkS g).1 == 0)
  · cases hd : ((ck9 g).1 == 0)
    · rfl
    · rw [beq_iff_eq.2 (ck_chk (beq_iff_eq.1 hd))] at hc
      cases hc
  · rw [beq_iff_eq.2 (chk_ck (beq_iff_eq.1 hc))]
theorem ask_fd {g : Gr} {l : List Fd} (h : askB g l = true) : (chkS g).1 = 0 ∧ ∀ x ∈ l, fdB g x = true := by
  have h2 := h
  rw [ask_may] at h2
  unfold askB at h
  unfold mayB at h2
  rw [Bool.and_eq_true, beq_iff_eq] at h
  rw [Bool.and_eq_true] at h2
  exact ⟨h.1, List.all_eq_true.1 h2.2⟩
theorem kin_rng {g : Gr} {n k : Int} (h : kinB g n k = true) : (0 ≤ n ∧ n < (g.n.length : Int)) ∧ (ndAt g n).k = k := by
  unfold kinB at h
  simp only [Bool.and_eq_true, decide_eq_true_eq, beq_iff_eq] at h
  exact h
theorem epo_rng {e : Int} (h : epoB e = true) : 0 ≤ e ∧ e ≤ 1048576 := by
  unfold epoB at h
  simpa only [Bool.and_eq_true, decide_eq_true_eq] using h
theorem at_enc (e : Int) : tiC.enc (atT e) = [.int .i64 1, .int .i64 e, .int .i64 0, .int .i64 0, .int .i64 0] := rfl
theorem at_dec (e : Int) : tiC.dec [.int .i64 1, .int .i64 e, .int .i64 0, .int .i64 0, .int .i64 0] = atT e := rfl
def lfdD : List S1 → CR × Prop
  | [.agg g, .c (.sl l), .c (.int .i64 s), .c (.int .i64 e)] => (.tup [.c (.sl (encL inC (fesS (grC.dec g) (decL fdC l) s e).1)), .c (.int .i64 (fesS (grC.dec g) (decL fdC l) s e).2)], grC.enc (grC.dec g) = g ∧ isL fdC l ∧ (decL fdC l).length ≤ 40 ∧ MyOk (grC.dec g))
  | _ => (.one (.c (.bool false)), False)
set_option maxHeartbeats 32000000 in
theorem lfd_cal (args : List S1) (h : (lfdD args).2) : Cal Try.prog 47 args (lfdD args).1 := by
  unfold lfdD at h ⊢
  split at h
  · next g0 l0 s e =>
    obtain ⟨hg, hl, hn, hmy⟩ := h
    obtain ⟨g, rfl⟩ : ∃ v, g0 = grC.enc v := ⟨_, hg.symm⟩
    rw [grC.de] at hmy ⊢
    clear hg
    have hgd : grC.dec [D.sl (encL inC g.p), D.sl (encL inC g.b), D.sl (encL ndC g.n), D.sl (encL egC g.e)] = g := grC.de g
    obtain ⟨l, rfl⟩ : ∃ v, l0 = encL fdC v := ⟨_, hl.symm⟩
    rw [decL_encL] at hn ⊢
    clear hl
    obtain ⟨F, hF⟩ : ∃ b, fesS g l s e = b := ⟨_, rfl⟩
    rw [hF]
    unfold fesS at hF
    rw [← ask_may] at hF
    obtain ⟨m, hm⟩ : ∃ b, askB g l = b := ⟨_, rfl⟩
    obtain ⟨k, hk⟩ : ∃ b, kinB g s 15 = b := ⟨_, rfl⟩
    obtain ⟨p, hp⟩ : ∃ b, epoB e = b := ⟨_, rfl⟩
    obtain ⟨q, hq⟩ : ∃ q, ((!m || !k) || !p) = q := ⟨_, rfl⟩
    have hq2 : (m && (k && p)) = !q := by rw [← hq]; cases m <;> cases k <;> cases p <;> rfl
    rw [hm, hk, hp, hq2] at hF
    have hsm := hmy.sm
    have hn2 : l.length ≤ 1073741823 := by omega
    have CT := An6 @lakD.eq_1 @lkdD.eq_1 @lepD.eq_1 @tabD.eq_1 @latD.eq_1 @reaD.eq_1; refine DV.of (Γ := ⟨[(103, lakD), (104, lkdD), (105, lepD), (29, tabD), (106, latD), (35, reaD)], [], []⟩) (rs := [ResultVar.tmp 8, ResultVar.tmp 9]) [0, 1, 2, 3, 4, 8, 9, 10, 11, 12, 13, 28, 31, 32, 33, 34, 47] ⟨by intro p hp; simp only [List.mem_cons, List.not_mem_nil, or_false] at hp; rcases hp with rfl | rfl | rfl | rfl | rfl | rfl; exact lak_cal; exact lkd_cal; exact lep_cal; exact tab_cal; exact lat_cal; exact rea_cal, nofun⟩ (by kernel_rfl) Try.func47 rfl rfl (by kernel_rfl) rfl ?_; (repeat (with_reducible first | apply qa | apply qb | apply qc | apply qd | apply qe))
    (have F := @grE; refine Rg3 ?_; clear F; (repeat (with_reducible first | apply qa | apply qb | apply qc | apply qd | apply qe)))
    (have F := An10 @grE @hgd @decL_encL @isL_enc @hn2 @hsm @hm @hk @hp @hq; refine Rg3 ?_; clear F; (repeat (with_reducible first | apply qa | apply qb | apply qc | apply qd | apply qe)))
    cases q
    rotate_left 1
    · rw [Bool.not_true, if_neg (by decide)] at hF
      subst hF
      (refine DV.condT rfl (fun _ => rfl) ?_; (repeat (with_reducible first | apply qa | apply qb | apply qc | apply qd | apply qe)))
      (refine Rg2 ?_; (repeat (with_reducible first | apply qa | apply qb | apply qc | apply qd | apply qe)))
      (refine DV.ret ?_; (repeat (first | (with_reducible refine thenD_ret' ?_) | (with_reducible refine blockD_ret' ?_))); (with_reducible refine retD_ret' ?_); try (have F := @encL_nil; refine Rt1 ?_; clear F; try with_reducible exact True.intro))
      try decide
    rw [Bool.not_false, if_pos rfl] at hF
    simp only [Bool.not_false, Bool.and_eq_true] at hq2
    obtain ⟨rfl, rfl, rfl⟩ := hq2
    obtain ⟨hc, hfd⟩ := ask_fd hm
    obtain ⟨⟨s0, s1⟩, hk15⟩ := kin_rng hk
    have he := epo_rng hp
    clear hm hk hp hq
    (refine DV.condF rfl (fun _ => rfl) ?_; (repeat (with_reducible first | apply qa | apply qb | apply qc | apply qd | apply qe)))
    (refine DV.skip ?_; (repeat with_reducible refine qn ?_); (with_reducible refine qm ?_); (repeat (with_reducible first | apply qa | apply qb | apply qc | apply qd | apply qe)))
    (have F := An3 @grE @hgd @hsm; refine Rg3 ?_; clear F; (repeat (with_reducible first | apply qa | apply qb | apply qc | apply qd | apply qe)))
    (refine Rg2 ?_; (repeat (with_reducible first | apply qa | apply qb | apply qc | apply qd | apply qe)))
    (have F := @encL_len; refine Rg3 ?_; clear F; (repeat (with_reducible first | apply qa | apply qb | apply qc | apply qd | apply qe)))
    refine DV.loop (fun j : Nat => ⟨[(2, .v true (.c (.int .i64 s))), (3, .v true (.c (.int .i64 e))), (10, .v true (.c (.sl (encL tbC (tbS g))))), (11, .v true (.own 51 1 (encL inC (feL g l s e j)))), (31, .v true (.c (.sl (encL fdC l)))), (32, .v true (.c (.int .i64 l.length))), (33, .v true (.c (.int .i64 j)))], [], [(51, ⟨3, 1, (feL g l s e j).length⟩)]⟩) (fun j => j ≤ l.length) (fun j => l.length - j) 0 (Nat.zero_le _) (by
      have e1 : feL g l s e 0 = [] := rfl
      rw [e1]
      (refine wk_of [] ?_ ?_ ?_ ?_ ?_ <;> (simp only [false_and, and_false, and_self, XC, XD, XE, XF, XG, XH, XI, convK, XJ, XK, XL, XM, XN, look, XO, XP, XR, XS, XT, XU, XV, encL_nil, encL_app, encL_cons, List.length_append, gdS, put1, sv, gs, gb, QK, setAt, bad, dem, QP, QR, QS, QT, QU, QV, QW, QY, Q2, Q3, lf, lfs, pOk, Nat.reduceBEq, XA, XB, keep, kp, cand, cor, List.map, List.append, Option.bind, ↓reduceIte, Nat.reduceEqDiff, Nat.reduceAdd, Nat.reduceMul, Nat.reduceLT, Nat.reduceLeDiff, reduceCtorEq, Int.reduceLT, Int.reduceLE, Int.reduceBEq, Int.reduceBNe, Int.reduceAdd, Int.reduceSub, Int.reduceToNat, dq, n0]; try trivial))) (fun j hj => ?_)
    (repeat (with_reducible first | apply qa | apply qb | apply qc | apply qd | apply qe))
    have ew := wr1 j (by omega)
    by_cases hlt : j < l.length
    rotate_left 1
    · obtain rfl : j = l.length := by omega
      have d1 : decide ((l.length : Int) < (l.length : Int)) = false := decide_eq_false (by omega)
      subst hF
      (have F := An2 @encL_len @d1; refine Rg3 ?_; clear F; (repeat (with_reducible first | apply qa | apply qb | apply qc | apply qd | apply qe)))
      (refine DV.condF rfl (fun _ => rfl) ?_; (repeat (with_reducible first | apply qa | apply qb | apply qc | apply qd | apply qe)))
      (refine DV.exit ?_; (repeat (first | (with_reducible refine thenD_exit' ?_) | (with_reducible refine blockD_other (by decide) ?_))); (with_reducible refine blockD_same ?_); (repeat with_reducible refine qn ?_); (with_reducible refine qm ?_); (repeat (with_reducible first | apply qa | apply qb | apply qc | apply qd | apply qe)))
      (refine Rg2 ?_; (repeat (with_reducible first | apply qa | apply qb | apply qc | apply qd | apply qe)))
      (refine DV.ret ?_; (repeat (first | (with_reducible refine thenD_ret' ?_) | (with_reducible refine blockD_ret' ?_))); (with_reducible refine retD_ret' ?_); try (refine Rt0 ?_; try with_reducible exact True.intro))
      try decide
    obtain ⟨f, hf⟩ : ∃ y, l[j]? = some y := ⟨_, List.getElem?_eq_getElem hlt⟩
    have d1 : decide ((j : Int) < (l.length : Int)) = true := decide_eq_true (by omega)
    have c1 : (0 : Int) ≤ j := by omega
    have c2 : (j : Int) < (l.length : Int) := by omega
    have c3 := encL_get (C := fdC) hf
    have hsu := feL_succ (g := g) (s := s) (e := e) hf
    have hle := feL_len g l s e j
    obtain ⟨O, hO⟩ : ∃ O, feL g l s e j = O := ⟨_, rfl⟩
    rw [hO] at hsu hle
    rw [hO]
    obtain ⟨⟨f0, f1⟩, fk, fe⟩ := fd_rng (hfd f (List.mem_of_getElem? hf))
    have hln := so_len (tb_ok g) f.n s
    have hre := re_line hc f0 f1 s0 s1 fk hk15 fe he
    obtain ⟨b, hb⟩ : ∃ b, (decide (f.e ≤ e) && ldS g f.n s) = b := ⟨_, rfl⟩
    rw [hb] at hre hsu
    (have F := An2 @encL_len @d1; refine Rg3 ?_; clear F; (repeat (with_reducible first | apply qa | apply qb | apply qc | apply qd | apply qe)))
    (refine DV.condT rfl (fun _ => rfl) ?_; (repeat (with_reducible first | apply qa | apply qb | apply qc | apply qd | apply qe)))
    (refine DV.skip ?_; (repeat with_reducible refine qn ?_); (with_reducible refine qm ?_); (repeat (with_reducible first | apply qa | apply qb | apply qc | apply qd | apply qe)))
    (have F := An7 @i2n @encL_len @c1 @c2 @hlt @c3 @fdE; refine Rg3 ?_; clear F; (repeat (with_reducible first | apply qa | apply qb | apply qc | apply qd | apply qe)))
    (have F := An6 @at_enc @at_dec @decL_encL @isL_enc @hln @hre; refine Rd3 ?_; clear F; (repeat (with_reducible first | apply qa | apply qb | apply qc | apply qd | apply qe)))
    cases b
    · rw [if_neg (by decide), List.append_nil] at hsu
      (refine DV.condF rfl (fun _ => rfl) ?_; (repeat (with_reducible first | apply qa | apply qb | apply qc | apply qd | apply qe)))
      (refine DV.skip ?_; (repeat with_reducible refine qn ?_); (with_reducible refine qm ?_); (repeat (with_reducible first | apply qa | apply qb | apply qc | apply qd | apply qe)))
      (have F := @ew; refine Re3 ?_; clear F; (repeat with_reducible refine qn ?_); (try with_reducible refine qm ?_); (repeat (with_reducible first | apply qa | apply qb | apply qc | apply qd | apply qe)))
      refine ⟨j + 1, ⟨hlt, by omega⟩, ?_⟩
      rw [hsu]
      (refine wk_of [] ?_ ?_ ?_ ?_ ?_ <;> (simp only [false_and, and_false, and_self, XC, XD, XE, XF, XG, XH, XI, convK, XJ, XK, XL, XM, XN, look, XO, XP, XR, XS, XT, XU, XV, encL_nil, encL_app, encL_cons, List.length_append, gdS, put1, sv, gs, gb, QK, setAt, bad, dem, QP, QR, QS, QT, QU, QV, QW, QY, Q2, Q3, lf, lfs, pOk, Nat.reduceBEq, XA, XB, keep, kp, cand, cor, List.map, List.append, Option.bind, ↓reduceIte, Nat.reduceEqDiff, Nat.reduceAdd, Nat.reduceMul, Nat.reduceLT, Nat.reduceLeDiff, reduceCtorEq, Int.reduceLT, Int.reduceLE, Int.reduceBEq, Int.reduceBNe, Int.reduceAdd, Int.reduceSub, Int.reduceToNat, dq]; try trivial))
    rw [if_pos rfl] at hsu
    have a1 := in_all O
    have k1 := Lib.hid (capOk_of (n := O.length + 1) (by omega))
    have k2 := Lib.hid (capB (n := O.length + 1) (k := 8) (by omega) (by decide))
    have hrow : encL inC O ++ [[D.int .i64 (j : Int)]] = encL inC (O ++ [(j : Int)]) := by rw [encL_app]; rfl
    have hlen : (O ++ [(j : Int)]).length = O.length + 1 := by rw [List.length_append]; rfl
    (refine DV.condT rfl (fun _ => rfl) ?_; (repeat (with_reducible first | apply qa | apply qb | apply qc | apply qd | apply qe)))
    (have F := An6 @range1 @a1 @encL_len k1.out k2.out @hrow; refine Re3 ?_; clear F; (repeat with_reducible refine qn ?_); (try with_reducible refine qm ?_); (repeat (with_reducible first | apply qa | apply qb | apply qc | apply qd | apply qe)))
    (have F := @ew; refine Re3 ?_; clear F; (repeat with_reducible refine qn ?_); (try with_reducible refine qm ?_); (repeat (with_reducible first | apply qa | apply qb | apply qc | apply qd | apply qe)))
    refine ⟨j + 1, ⟨hlt, by omega⟩, ?_⟩
    rw [hsu, hlen]
    (refine wk_of [] ?_ ?_ ?_ ?_ ?_ <;> (simp only [false_and, and_false, and_self, XC, XD, XE, XF, XG, XH, XI, convK, XJ, XK, XL, XM, XN, look, XO, XP, XR, XS, XT, XU, XV, encL_nil, encL_app, encL_cons, List.length_append, gdS, put1, sv, gs, gb, QK, setAt, bad, dem, QP, QR, QS, QT, QU, QV, QW, QY, Q2, Q3, lf, lfs, pOk, Nat.reduceBEq, XA, XB, keep, kp, cand, cor, List.map, List.append, Option.bind, ↓reduceIte, Nat.reduceEqDiff, Nat.reduceAdd, Nat.reduceMul, Nat.reduceLT, Nat.reduceLeDiff, reduceCtorEq, Int.reduceLT, Int.reduceLE, Int.reduceBEq, Int.reduceBNe, Int.reduceAdd, Int.reduceSub, Int.reduceToNat, dq]; try trivial))
  · exact h.elim
def lsnD : List S1 → CR × Prop
  | [.agg g, .agg f, .c (.int .i64 E)] => (.tup [.c (.sl (encL ouC (snsS (grC.dec g) (fdC.dec f) E).1)), .c (.int .i64 (snsS (grC.dec g) (fdC.dec f) E).2)], grC.enc (grC.dec g) = g ∧ fdC.enc (fdC.dec f) = f ∧ MyOk (grC.dec g))
  | _ => (.one (.c (.bool false)), False)
set_option maxHeartbeats 32000000 in
theorem lsn_cal (args : List S1) (h : (lsnD args).2) : Cal Try.prog 50 args (lsnD args).1 := by
  unfold lsnD at h ⊢
  split at h
  · next g0 f0 E =>
    obtain ⟨hg, hf, hmy⟩ := h
    obtain ⟨g, rfl⟩ : ∃ v, g0 = grC.enc v := ⟨_, hg.symm⟩
    rw [grC.de] at hmy ⊢
    clear hg
    have hgd : grC.dec [D.sl (encL inC g.p), D.sl (encL inC g.b), D.sl (encL ndC g.n), D.sl (encL egC g.e)] = g := grC.de g
    obtain ⟨f, rfl⟩ : ∃ v, f0 = fdC.enc v := ⟨_, hf.symm⟩
    rw [fdC.de]
    clear hf
    have hil : isL fdC [[D.int .i64 f.n, D.int .i64 f.e, D.int .i64 f.k, D.int .i64 f.v]] := of_eq_true (isL_enc (C := fdC) [f])
    have hdl : decL fdC [[D.int .i64 f.n, D.int .i64 f.e, D.int .i64 f.k, D.int .i64 f.v]] = [f] := rfl
    have hol : ([f] : List Fd).length ≤ 1000000 := Nat.le_of_ble_eq_true rfl
    have hol2 : ([f] : List Fd).length ≤ 1073741823 := Nat.le_of_ble_eq_true rfl
    obtain ⟨F, hF⟩ : ∃ b, snsS g f E = b := ⟨_, rfl⟩
    rw [hF]
    unfold snsS at hF
    rw [← ask_may] at hF
    obtain ⟨m, hm⟩ : ∃ b, askB g [f] = b := ⟨_, rfl⟩
    obtain ⟨q, hq⟩ : ∃ q, ((!m || decide (E < 0)) || decide (100 < E)) = q := ⟨_, rfl⟩
    have hq2 : (m && (decide (0 ≤ E) && decide (E ≤ 100))) = !q := by
      rw [← hq, not_lt, not_lt]
      cases m <;> cases decide (0 ≤ E) <;> cases decide (E ≤ 100) <;> rfl
    rw [hm, hq2] at hF
    have hsm := hmy.sm
    have CT := An4 @lakD.eq_1 @tabD.eq_1 @latD.eq_1 @reaD.eq_1; refine DV.of (Γ := ⟨[(103, lakD), (29, tabD), (106, latD), (35, reaD)], [], []⟩) (rs := [ResultVar.tmp 6, ResultVar.tmp 7]) [0, 1, 2, 3, 4, 6, 7, 8, 9, 10, 11, 12, 25, 29, 30, 31, 32, 38, 39, 40, 41, 52] ⟨by intro p hp; simp only [List.mem_cons, List.not_mem_nil, or_false] at hp; rcases hp with rfl | rfl | rfl | rfl; exact lak_cal; exact tab_cal; exact lat_cal; exact rea_cal, nofun⟩ (by kernel_rfl) Try.func50 rfl rfl (by kernel_rfl) rfl ?_; (repeat (with_reducible first | apply qa | apply qb | apply qc | apply qd | apply qe))
    (have F := An2 @grE @fdE; refine Rg3 ?_; clear F; (repeat (with_reducible first | apply qa | apply qb | apply qc | apply qd | apply qe)))
    (have F := An9 @grE @hgd @fdE @hil @hdl @hol2 @hsm @hm @hq; refine Rg3 ?_; clear F; (repeat (with_reducible first | apply qa | apply qb | apply qc | apply qd | apply qe)))
    cases q
    rotate_left 1
    · rw [Bool.not_true, if_neg (by decide)] at hF
      subst hF
      (refine DV.condT rfl (fun _ => rfl) ?_; (repeat (with_reducible first | apply qa | apply qb | apply qc | apply qd | apply qe)))
      (refine Rg2 ?_; (repeat (with_reducible first | apply qa | apply qb | apply qc | apply qd | apply qe)))
      (refine DV.ret ?_; (repeat (first | (with_reducible refine thenD_ret' ?_) | (with_reducible refine blockD_ret' ?_))); (with_reducible refine retD_ret' ?_); try (have F := @encL_nil; refine Rt1 ?_; clear F; try with_reducible exact True.intro))
      try decide
    rw [Bool.not_false, if_pos rfl] at hF
    simp only [Bool.not_false, Bool.and_eq_true, decide_eq_true_eq] at hq2
    obtain ⟨rfl, E0, E1⟩ := hq2
    obtain ⟨hc, hfd⟩ := ask_fd hm
    obtain ⟨⟨f0, f1⟩, fk', fe'⟩ := fd_rng (hfd f List.mem_cons_self)
    have hn60 := hmy.n
    clear hm hq hil hdl hol hol2 hfd
    obtain ⟨E', rfl⟩ : ∃ k : Nat, E = (k : Int) := ⟨E.toNat, by omega⟩
    rw [i2n] at hF
    obtain ⟨fn, fe, fk, fv⟩ := f
    dsimp only at f0 f1 fk' fe'
    obtain ⟨e0, rfl⟩ : ∃ k : Nat, fe = (k : Int) := ⟨fe.toNat, by omega⟩
    have hsnL : ∀ n : Nat, snL g ⟨fn, (e0 : Int), fk, fv⟩ E' n = if ((ndAt g n).k == 15) = true then snG e0 (ldS g fn n) n E' else [] := fun n => rfl
    obtain ⟨S, hS⟩ : ∃ S, snL g ⟨fn, (e0 : Int), fk, fv⟩ E' = S := ⟨_, rfl⟩
    rw [hS] at hF hsnL
    clear hS
    (refine DV.condF rfl (fun _ => rfl) ?_; (repeat (with_reducible first | apply qa | apply qb | apply qc | apply qd | apply qe)))
    (refine DV.skip ?_; (repeat with_reducible refine qn ?_); (with_reducible refine qm ?_); (repeat (with_reducible first | apply qa | apply qb | apply qc | apply qd | apply qe)))
    (have F := An3 @grE @hgd @hsm; refine Rg3 ?_; clear F; (repeat (with_reducible first | apply qa | apply qb | apply qc | apply qd | apply qe)))
    (refine Rg2 ?_; (repeat (with_reducible first | apply qa | apply qb | apply qc | apply qd | apply qe)))
    (have F := An2 @grE @encL_len; refine Rg3 ?_; clear F; (repeat (with_reducible first | apply qa | apply qb | apply qc | apply qd | apply qe)))
    refine DV.loop (fun x : Nat × List Ou => ⟨[(2, .v true (.c (.int .i64 (E' : Int)))), (4, .v true (.box 4 0)), (8, .v true (.c (.sl (encL tbC (tbS g))))), (9, .v true (.own 58 4 (encL ouC x.2))), (29, .v true (.c (.sl (encL ndC g.n)))), (30, .v true (.c (.int .i64 g.n.length))), (31, .v true (.c (.int .i64 x.1)))], [(4, some ⟨0, 0, [[.int .i64 fn, .int .i64 (e0 : Int), .int .i64 fk, .int .i64 fv]]⟩)], [(58, ⟨161, 4, x.2.length⟩)]⟩) (fun x => x.1 ≤ g.n.length ∧ x.2 = (List.range x.1).flatMap S ∧ x.2.length ≤ 100 * x.1) (fun x => g.n.length - x.1) (0, []) ⟨Nat.zero_le _, rfl, Nat.zero_le _⟩ (by (have F := @n0; exact Wk1)) (fun x hx => ?_)
    obtain ⟨n, L⟩ := x
    dsimp only at hx ⊢
    obtain ⟨hj, hL, hLl⟩ := hx
    (repeat (with_reducible first | apply qa | apply qb | apply qc | apply qd | apply qe))
    have ew := wr1 n (by omega)
    by_cases hlt : n < g.n.length
    rotate_left 1
    · obtain rfl : n = g.n.length := by omega
      have d1 : decide ((g.n.length : Int) < (g.n.length : Int)) = false := decide_eq_false (by omega)
      subst hL hF
      (have F := An2 @encL_len @d1; refine Rg3 ?_; clear F; (repeat (with_reducible first | apply qa | apply qb | apply qc | apply qd | apply qe)))
      (refine DV.condF rfl (fun _ => rfl) ?_; (repeat (with_reducible first | apply qa | apply qb | apply qc | apply qd | apply qe)))
      (refine DV.exit ?_; (repeat (first | (with_reducible refine thenD_exit' ?_) | (with_reducible refine blockD_other (by decide) ?_))); (with_reducible refine blockD_same ?_); (repeat with_reducible refine qn ?_); (with_reducible refine qm ?_); (repeat (with_reducible first | apply qa | apply qb | apply qc | apply qd | apply qe)))
      (refine Rg2 ?_; (repeat (with_reducible first | apply qa | apply qb | apply qc | apply qd | apply qe)))
      (refine DV.ret ?_; (repeat (first | (with_reducible refine thenD_ret' ?_) | (with_reducible refine blockD_ret' ?_))); (with_reducible refine retD_ret' ?_); try (refine Rt0 ?_; try with_reducible exact True.intro))
      try decide
    have d1 : decide ((n : Int) < (g.n.length : Int)) = true := decide_eq_true (by omega)
    have c1 : (0 : Int) ≤ n := by omega
    have c2 : (n : Int) < (g.n.length : Int) := by omega
    have c3 := encL_get (C := ndC) (ndAt_of c1 c2)
    rw [i2n] at c3
    have hnx := rg_snoc S n
    rw [hsnL n] at hnx
    have hln := so_len (tb_ok g) fn n
    have hre := fun (i : Int) (hi : 0 ≤ i ∧ i ≤ 1048576) (hk : (ndAt g n).k = 15) => re_line hc f0 f1 c1 c2 fk' hk fe' hi
    obtain ⟨b, hb⟩ : ∃ b, ldS g fn n = b := ⟨_, rfl⟩
    rw [hb] at hnx hre
    obtain ⟨y, hy⟩ : ∃ y, ndAt g n = y := ⟨_, rfl⟩
    rw [hy] at c3 hnx hre
    obtain ⟨kb, hkb⟩ : ∃ b, (y.k == 15) = b := ⟨_, rfl⟩
    have hkn : (y.k != 15) = !kb := by rw [← hkb]; rfl
    rw [hkb] at hnx
    (have F := An2 @encL_len @d1; refine Rg3 ?_; clear F; (repeat (with_reducible first | apply qa | apply qb | apply qc | apply qd | apply qe)))
    (refine DV.condT rfl (fun _ => rfl) ?_; (repeat (with_reducible first | apply qa | apply qb | apply qc | apply qd | apply qe)))
    (refine DV.skip ?_; (repeat with_reducible refine qn ?_); (with_reducible refine qm ?_); (repeat (with_reducible first | apply qa | apply qb | apply qc | apply qd | apply qe)))
    (have F := An7 @i2n @encL_len @c1 @c2 @hlt @c3 @ndE; refine Rg3 ?_; clear F; (repeat (with_reducible first | apply qa | apply qb | apply qc | apply qd | apply qe)))
    cases kb
    · rw [if_neg (by decide), List.append_nil] at hnx
      have hkn : (y.k != 15) = true := hkn
      (have F := An2 @ndE @hkn; refine Rg3 ?_; clear F; (repeat (with_reducible first | apply qa | apply qb | apply qc | apply qd | apply qe)))
      (refine DV.condT rfl (fun _ => rfl) ?_; (repeat (with_reducible first | apply qa | apply qb | apply qc | apply qd | apply qe)))
      (refine DV.exit ?_; (repeat (first | (with_reducible refine thenD_exit' ?_) | (with_reducible refine blockD_other (by decide) ?_))); (with_reducible refine blockD_same ?_); (repeat with_reducible refine qn ?_); (with_reducible refine qm ?_); (repeat (with_reducible first | apply qa | apply qb | apply qc | apply qd | apply qe)))
      (have F := @ew; refine Re3 ?_; clear F; (repeat with_reducible refine qn ?_); (try with_reducible refine qm ?_); (repeat (with_reducible first | apply qa | apply qb | apply qc | apply qd | apply qe)))
      exact ⟨(n + 1, L), ⟨⟨hlt, hL.trans hnx.symm, by dsimp only; omega⟩, by dsimp only; omega⟩, by exact Wk0⟩
    rw [if_pos rfl] at hnx
    have hkn : (y.k != 15) = false := hkn
    have hk15 := beq_iff_eq.1 hkb
    (have F := An2 @ndE @hkn; refine Rg3 ?_; clear F; (repeat (with_reducible first | apply qa | apply qb | apply qc | apply qd | apply qe)))
    (refine DV.condF rfl (fun _ => rfl) ?_; (repeat (with_reducible first | apply qa | apply qb | apply qc | apply qd | apply qe)))
    (refine DV.skip ?_; (repeat with_reducible refine qn ?_); (with_reducible refine qm ?_); (repeat (with_reducible first | apply qa | apply qb | apply qc | apply qd | apply qe)))
    (refine Rg2 ?_; (repeat (with_reducible first | apply qa | apply qb | apply qc | apply qd | apply qe)))
    refine DV.loop (fun x : Nat × List Ou => ⟨[(2, .v true (.c (.int .i64 (E' : Int)))), (4, .v true (.box 4 0)), (8, .v true (.c (.sl (encL tbC (tbS g))))), (9, .v true (.own 58 4 (encL ouC x.2))), (29, .v true (.c (.sl (encL ndC g.n)))), (30, .v true (.c (.int .i64 g.n.length))), (31, .v true (.c (.int .i64 n))), (10, .v true (.c (.int .i64 n))), (39, .v true (.c (.int .i64 (E' : Int)))), (40, .v true (.c (.int .i64 x.1)))], [(4, some ⟨0, 0, [[.int .i64 fn, .int .i64 (e0 : Int), .int .i64 fk, .int .i64 fv]]⟩)], [(58, ⟨161, 4, x.2.length⟩)]⟩) (fun x => x.1 ≤ E' ∧ x.2 = (List.range n).flatMap S ++ snG e0 b n x.1 ∧ x.2.length ≤ 100 * n + x.1) (fun x => E' - x.1) (0, L) ⟨Nat.zero_le _, by rw [hL, snG_low (Nat.zero_le _), List.append_nil], by dsimp only; omega⟩ (by (have F := @n0; exact Wk1)) (fun x hx => ?_)
    clear hL hLl L
    obtain ⟨i, L⟩ := x
    dsimp only at hx ⊢
    obtain ⟨hi, hL, hLl⟩ := hx
    (repeat (with_reducible first | apply qa | apply qb | apply qc | apply qd | apply qe))
    have ei := wr1 i (by omega)
    by_cases hli : i < E'
    rotate_left 1
    · obtain rfl : i = E' := by omega
      have d2 : decide ((i : Int) < (i : Int)) = false := decide_eq_false (by omega)
      (have F := @d2; refine Rg3 ?_; clear F; (repeat (with_reducible first | apply qa | apply qb | apply qc | apply qd | apply qe)))
      (refine DV.condF rfl (fun _ => rfl) ?_; (repeat (with_reducible first | apply qa | apply qb | apply qc | apply qd | apply qe)))
      (refine DV.exit ?_; (repeat (first | (with_reducible refine thenD_exit' ?_) | (with_reducible refine blockD_other (by decide) ?_))); (with_reducible refine blockD_same ?_); (repeat with_reducible refine qn ?_); (with_reducible refine qm ?_); (repeat (with_reducible first | apply qa | apply qb | apply qc | apply qd | apply qe)))
      (have F := @ew; refine Re3 ?_; clear F; (repeat with_reducible refine qn ?_); (try with_reducible refine qm ?_); (repeat (with_reducible first | apply qa | apply qb | apply qc | apply qd | apply qe)))
      exact ⟨(n + 1, L), ⟨⟨hlt, hL.trans hnx.symm, by dsimp only; omega⟩, by dsimp only; omega⟩, by exact Wk0⟩
    have d2 : decide ((i : Int) < (E' : Int)) = true := decide_eq_true (by omega)
    have hsu := snG_succ e0 b n i
    have hre := hre (i : Int) ⟨by omega, by omega⟩ hk15
    rw [show decide ((e0 : Int) ≤ (i : Int)) = decide (e0 ≤ i) from decide_eq_decide.2 Int.ofNat_le] at hre
    obtain ⟨c, hcb⟩ : ∃ c, (decide (e0 ≤ i) && b) = c := ⟨_, rfl⟩
    rw [hcb] at hre hsu
    (have F := @d2; refine Rg3 ?_; clear F; (repeat (with_reducible first | apply qa | apply qb | apply qc | apply qd | apply qe)))
    (refine DV.condT rfl (fun _ => rfl) ?_; (repeat (with_reducible first | apply qa | apply qb | apply qc | apply qd | apply qe)))
    (refine DV.skip ?_; (repeat with_reducible refine qn ?_); (with_reducible refine qm ?_); (repeat (with_reducible first | apply qa | apply qb | apply qc | apply qd | apply qe)))
    (refine Rg2 ?_; (repeat (with_reducible first | apply qa | apply qb | apply qc | apply qd | apply qe)))
    (have F := An6 @at_enc @at_dec @decL_encL @isL_enc @hln @hre; refine Rd3 ?_; clear F; (repeat (with_reducible first | apply qa | apply qb | apply qc | apply qd | apply qe)))
    cases c
    · rw [if_neg (by decide), List.append_nil] at hsu
      (refine DV.condF rfl (fun _ => rfl) ?_; (repeat (with_reducible first | apply qa | apply qb | apply qc | apply qd | apply qe)))
      (refine DV.skip ?_; (repeat with_reducible refine qn ?_); (with_reducible refine qm ?_); (repeat (with_reducible first | apply qa | apply qb | apply qc | apply qd | apply qe)))
      (have F := @ei; refine Re3 ?_; clear F; (repeat with_reducible refine qn ?_); (try with_reducible refine qm ?_); (repeat (with_reducible first | apply qa | apply qb | apply qc | apply qd | apply qe)))
      exact ⟨(i + 1, L), ⟨⟨hli, by rw [hL, hsu], by dsimp only; omega⟩, by dsimp only; omega⟩, by exact Wk0⟩
    rw [if_pos rfl] at hsu
    have hsn : L ++ [(⟨n, i, 0, 0⟩ : Ou)] = (List.range n).flatMap S ++ snG e0 b n (i + 1) := by rw [hL, hsu, List.append_assoc]
    have a1 := ou_all L
    have k1 := Lib.hid (capOk_of (n := L.length + 1) (by omega))
    have k2 := Lib.hid (capB (n := L.length + 1) (k := 32) (by omega) (by decide))
    have hrow : encL ouC L ++ [[D.int .i64 (n : Int), D.int .i64 (i : Int), D.int .i64 0, D.int .i64 0]] = encL ouC (L ++ [⟨n, i, 0, 0⟩]) := by rw [encL_app]; rfl
    have hlen : (L ++ [(⟨n, i, 0, 0⟩ : Ou)]).length = L.length + 1 := by rw [List.length_append]; rfl
    obtain ⟨L2, hL2⟩ : ∃ z, L ++ [(⟨n, i, 0, 0⟩ : Ou)] = z := ⟨_, rfl⟩
    rw [hL2] at hsn hrow hlen
    (refine DV.condT rfl (fun _ => rfl) ?_; (repeat (with_reducible first | apply qa | apply qb | apply qc | apply qd | apply qe)))
    (have F := An6 @range1 @a1 @encL_len k1.out k2.out @hrow; refine Re3 ?_; clear F; (repeat with_reducible refine qn ?_); (try with_reducible refine qm ?_); (repeat (with_reducible first | apply qa | apply qb | apply qc | apply qd | apply qe)))
    (have F := @ei; refine Re3 ?_; clear F; (repeat with_reducible refine qn ?_); (try with_reducible refine qm ?_); (repeat (with_reducible first | apply qa | apply qb | apply qc | apply qd | apply qe)))
    refine ⟨(i + 1, L2), ⟨⟨hli, hsn, by dsimp only; omega⟩, by dsimp only; omega⟩, ?_⟩
    dsimp only
    rw [hlen]
    (refine wk_of [] ?_ ?_ ?_ ?_ ?_ <;> (simp only [false_and, and_false, and_self, XC, XD, XE, XF, XG, XH, XI, convK, XJ, XK, XL, XM, XN, look, XO, XP, XR, XS, XT, XU, XV, encL_nil, encL_app, encL_cons, List.length_append, gdS, put1, sv, gs, gb, QK, setAt, bad, dem, QP, QR, QS, QT, QU, QV, QW, QY, Q2, Q3, lf, lfs, pOk, Nat.reduceBEq, XA, XB, keep, kp, cand, cor, List.map, List.append, Option.bind, ↓reduceIte, Nat.reduceEqDiff, Nat.reduceAdd, Nat.reduceMul, Nat.reduceLT, Nat.reduceLeDiff, reduceCtorEq, Int.reduceLT, Int.reduceLE, Int.reduceBEq, Int.reduceBNe, Int.reduceAdd, Int.reduceSub, Int.reduceToNat, dq]; try trivial))
  · exact h.elim
open Pa Va

def gr37 : Gr := ⟨[-1], [0], [⟨1, 0, 0, []⟩, ⟨1, 0, 0, []⟩, ⟨15, 0, 0, []⟩], [⟨0, 2, 0, false⟩]⟩
def fl37 : List Fd := [⟨1, 0, 0, 0⟩, ⟨0, 1, 0, 0⟩, ⟨0, 3, 0, 0⟩]
theorem gr37_ok : MyOk gr37 := ⟨⟨by decide, by decide, by decide, by decide⟩, by decide, by decide⟩
theorem fe37 : fesS gr37 fl37 2 2 = ([1], 0) := by decide +kernel
def aw37D : List S1 → CR × Prop
  | [] => (.one (.c (.bool true)), True)
  | _ => (.one (.c (.bool false)), False)
set_option maxHeartbeats 16000000 in
theorem aw37_cal (args : List S1) (h : (aw37D args).2) : Cal Try.prog 46 args (aw37D args).1 := by
  unfold aw37D at h ⊢
  split at h
  · 
    clear h
    have gD : grC.dec [D.sl [[D.int .i64 (-1)]], D.sl [[D.int .i64 0]], D.sl [[D.int .i64 1, D.int .i64 0, D.int .i64 0, D.sl []], [D.int .i64 1, D.int .i64 0, D.int .i64 0, D.sl []], [D.int .i64 15, D.int .i64 0, D.int .i64 0, D.sl []]], D.sl [[D.int .i64 0, D.int .i64 2, D.int .i64 0, D.bool false]]] = gr37 := rfl
    have gE : grC.enc gr37 = [D.sl [[D.int .i64 (-1)]], D.sl [[D.int .i64 0]], D.sl [[D.int .i64 1, D.int .i64 0, D.int .i64 0, D.sl []], [D.int .i64 1, D.int .i64 0, D.int .i64 0, D.sl []], [D.int .i64 15, D.int .i64 0, D.int .i64 0, D.sl []]], D.sl [[D.int .i64 0, D.int .i64 2, D.int .i64 0, D.bool false]]] := rfl
    have fl : isL fdC [[D.int .i64 1, D.int .i64 0, D.int .i64 0, D.int .i64 0], [D.int .i64 0, D.int .i64 1, D.int .i64 0, D.int .i64 0], [D.int .i64 0, D.int .i64 3, D.int .i64 0, D.int .i64 0]] := of_eq_true (isL_enc (C := fdC) fl37)
    have fdl : decL fdC [[D.int .i64 1, D.int .i64 0, D.int .i64 0, D.int .i64 0], [D.int .i64 0, D.int .i64 1, D.int .i64 0, D.int .i64 0], [D.int .i64 0, D.int .i64 3, D.int .i64 0, D.int .i64 0]] = fl37 := rfl
    have fle : fl37.length ≤ 40 := by decide
    have hmy := gr37_ok
    have hfe1 : (fesS gr37 fl37 2 2).1 = [1] := by rw [fe37]
    have hfe2 : (fesS gr37 fl37 2 2).2 = 0 := by rw [fe37]
    have he1 : encL inC [1] = [[D.int .i64 1]] := rfl
    obtain ⟨G, hG⟩ : ∃ t, gr37 = t := ⟨_, rfl⟩
    obtain ⟨FL, hFL⟩ : ∃ t, fl37 = t := ⟨_, rfl⟩
    rw [hG] at gD gE hmy hfe1 hfe2
    rw [hFL] at fdl fle hfe1 hfe2
    have CT := @lfdD.eq_1; refine DV.of (Γ := ⟨[(47, lfdD)], [], [4, 5, 9, 11]⟩) (rs := [ResultVar.tmp 0]) [0, 1, 2, 3] ⟨by intro p hp; simp only [List.mem_singleton] at hp; subst hp; exact lfd_cal, nofun⟩ (by kernel_rfl) Try.func46 rfl rfl (by kernel_rfl) rfl ?_; (repeat (with_reducible first | apply qa | apply qb | apply qc | apply qd | apply qe))
    (refine Rg2 ?_; (repeat (with_reducible first | apply qa | apply qb | apply qc | apply qd | apply qe)))
    (refine Rg2 ?_; (repeat (with_reducible first | apply qa | apply qb | apply qc | apply qd | apply qe)))
    refine DV.weak (σ' := ⟨[(0, .v true (.c (.bool false))), (1, .v true (.box 1 0))], [(1, some ⟨0, 0, [[D.sl [[D.int .i64 (-1)]], D.sl [[D.int .i64 0]], D.sl [[D.int .i64 1, D.int .i64 0, D.int .i64 0, D.sl []], [D.int .i64 1, D.int .i64 0, D.int .i64 0, D.sl []], [D.int .i64 15, D.int .i64 0, D.int .i64 0, D.sl []]], D.sl [[D.int .i64 0, D.int .i64 2, D.int .i64 0, D.bool false]]]]⟩)], []⟩) (by exact Wk0) ?_
    (have F := An9 @gD @gE @fl @fdl @fle @hmy @hfe1 @hfe2 @he1; refine Rg3 ?_; clear F; (repeat (with_reducible first | apply qa | apply qb | apply qc | apply qd | apply qe)))
    have i1 : ((1 : Nat) : Int) = 1 := rfl
    have i2 : (0 : Int) < 1 := by decide
    have z1 : ((1 : Int) == 1) = true := by decide
    (have F := An3 @i1 @z1 @i2; refine Rg3 ?_; clear F; (repeat (with_reducible first | apply qa | apply qb | apply qc | apply qd | apply qe)))
    (refine DV.ret ?_; (repeat (first | (with_reducible refine thenD_ret' ?_) | (with_reducible refine blockD_ret' ?_))); (with_reducible refine retD_ret' ?_); try (refine Rt0 ?_; try with_reducible exact True.intro))
  · exact h.elim
theorem fes_len (g : Gr) (l : List Fd) (s e : Int) : (fesS g l s e).1.length ≤ l.length := by
  unfold fesS
  split
  · exact feL_len g l s e l.length
  · exact Nat.zero_le _
theorem flat_len {α : Type} {F : Nat → List α} {K : Nat} (h : ∀ n, (F n).length ≤ K) (n : Nat) : ((List.range n).flatMap F).length ≤ K * n := by
  induction n with
  | zero => exact Nat.zero_le _
  | succ n ih =>
    rw [rg_snoc, List.length_append]
    have := h n
    rw [Nat.mul_succ]
    omega
theorem sns_len (g : Gr) (f : Fd) (E : Int) : (snsS g f E).1.length ≤ 100 * g.n.length := by
  unfold snsS
  split
  · next h =>
    simp only [Bool.and_eq_true, decide_eq_true_eq] at h
    refine flat_len (fun n => ?_) _
    unfold snL
    split
    · unfold snG
      rw [List.length_map]
      refine Nat.le_trans (List.length_filter_le _ _) ?_
      rw [List.length_range]
      omega
    · exact Nat.zero_le _
  · exact Nat.zero_le _
set_option maxHeartbeats 32000000 in
theorem walk_LineRight (g : Gr) (_ : True) (l : List Fd) (_ : ∀ x ∈ l, True) (hlm : l.length ≤ maxLen) (s : Int) (bs : -9223372036854775808 ≤ s ∧ s ≤ 9223372036854775807) (e : Int) (be : -9223372036854775808 ≤ e ∧ e ≤ 9223372036854775807) (f : Fd) (_ : True) (E : Int) (bE : -9223372036854775808 ≤ E ∧ E ≤ 9223372036854775807) : Cal Try.prog 11 [.agg (grC.enc g), .c (.sl (encL fdC l)), .c (.int .i64 s), .c (.int .i64 e), .agg (fdC.enc f), .c (.int .i64 E)] (.one (.c (.bool true))) := by
  have hgd : grC.dec [D.sl (encL inC g.p), D.sl (encL inC g.b), D.sl (encL ndC g.n), D.sl (encL egC g.e)] = g := grC.de g
  have hfd := fdC.de f
  rw [fdE] at hfd
  have CT := An8 @aw37D.eq_1 @r8sD.eq_1 @lfdD.eq_1 @rfdD.eq_1 @s37D.eq_1 @lsnD.eq_1 @rskD.eq_1 @s12D.eq_1; refine DV.of (Γ := ⟨[(46, aw37D), (28, r8sD), (47, lfdD), (48, rfdD), (49, s37D), (50, lsnD), (51, rskD), (52, s12D)], [], []⟩) (rs := [ResultVar.tmp 12]) [0, 1, 2, 3, 4, 5, 6, 10, 12, 13, 14, 15, 16, 17, 18, 20, 28, 53] ⟨by intro p hp; simp only [List.mem_cons, List.not_mem_nil, or_false] at hp; rcases hp with rfl | rfl | rfl | rfl | rfl | rfl | rfl | rfl; exact aw37_cal; exact r8s_cal; exact lfd_cal; exact rfd_cal; exact s37_cal; exact lsn_cal; exact rsk_cal; exact s12_cal, nofun⟩ (by kernel_rfl) Try.func11 rfl rfl (by kernel_rfl) rfl ?_; (repeat (with_reducible first | apply qa | apply qb | apply qc | apply qd | apply qe))
  (have F := An2 @grE @fdE; refine Rg3 ?_; clear F; (repeat (with_reducible first | apply qa | apply qb | apply qc | apply qd | apply qe)))
  (refine Rg2 ?_; (repeat (with_reducible first | apply qa | apply qb | apply qc | apply qd | apply qe)))
  (refine DV.condF rfl (fun _ => rfl) ?_; (repeat (with_reducible first | apply qa | apply qb | apply qc | apply qd | apply qe)))
  (refine DV.skip ?_; (repeat with_reducible refine qn ?_); (with_reducible refine qm ?_); (repeat (with_reducible first | apply qa | apply qb | apply qc | apply qd | apply qe)))
  obtain ⟨q0, hq0⟩ : ∃ q, shoB g = q := ⟨_, rfl⟩
  obtain ⟨q, hq⟩ : ∃ q, (!q0 || decide (40 < (l.length : Int))) = q := ⟨_, rfl⟩
  (have F := An5 @encL_len @grE @hgd @hq0 @hq; refine Rg3 ?_; clear F; (repeat (with_reducible first | apply qa | apply qb | apply qc | apply qd | apply qe)))
  cases q
  rotate_left 1
  · (refine DV.condT rfl (fun _ => rfl) ?_; (repeat (with_reducible first | apply qa | apply qb | apply qc | apply qd | apply qe)))
    (refine Rg2 ?_; (repeat (with_reducible first | apply qa | apply qb | apply qc | apply qd | apply qe)))
    (refine DV.ret ?_; (repeat (first | (with_reducible refine thenD_ret' ?_) | (with_reducible refine blockD_ret' ?_))); (with_reducible refine retD_ret' ?_); try (refine Rt0 ?_; try with_reducible exact True.intro))
  simp only [Bool.or_eq_false_iff, decide_eq_false_iff_not, Bool.not_eq_false'] at hq
  obtain ⟨rfl, hl40⟩ := hq
  have hl4 : l.length ≤ 40 := by omega
  obtain ⟨hsm, hpr⟩ := sho_sm hq0
  have hn60 : g.n.length ≤ 60 := by
    unfold shoB at hq0
    split at hq0
    · cases hq0
    next h =>
    simp only [Bool.or_eq_true, decide_eq_true_eq, not_or] at h
    omega
  have hmy : MyOk g := ⟨hsm, hn60, fun x hx => Nat.le_trans (hpr x hx) (by decide)⟩
  have hA : (fesS g l s e).1.length ≤ 1073741823 := Nat.le_trans (fes_len g l s e) (by omega)
  have hB : (snsS g f E).1.length ≤ 1073741823 := Nat.le_trans (sns_len g f E) (by omega)
  obtain ⟨A, hAe⟩ : ∃ z, (fesS g l s e).1 = z := ⟨_, rfl⟩
  obtain ⟨x, hxe⟩ : ∃ z, (fesS g l s e).2 = z := ⟨_, rfl⟩
  obtain ⟨B, hBe⟩ : ∃ z, (snsS g f E).1 = z := ⟨_, rfl⟩
  obtain ⟨y, hye⟩ : ∃ z, (snsS g f E).2 = z := ⟨_, rfl⟩
  rw [hAe] at hA
  rw [hBe] at hB
  have hxx : (x != x) = false := by simp
  have hyy : (y == y) = true := by simp
  (refine DV.condF rfl (fun _ => rfl) ?_; (repeat (with_reducible first | apply qa | apply qb | apply qc | apply qd | apply qe)))
  (refine DV.skip ?_; (repeat with_reducible refine qn ?_); (with_reducible refine qm ?_); (repeat (with_reducible first | apply qa | apply qb | apply qc | apply qd | apply qe)))
  (have F := An8 @grE @hgd @decL_encL @isL_enc @hl4 @hmy @hAe @hxe; refine Rg3 ?_; clear F; (repeat (with_reducible first | apply qa | apply qb | apply qc | apply qd | apply qe)))
  (have F := An8 @grE @hgd @decL_encL @isL_enc @hl4 @hmy @hAe @hxe; refine Rg3 ?_; clear F; (repeat (with_reducible first | apply qa | apply qb | apply qc | apply qd | apply qe)))
  (have F := An4 @decL_encL @isL_enc @hA @hxx; refine Rg3 ?_; clear F; (repeat (with_reducible first | apply qa | apply qb | apply qc | apply qd | apply qe)))
  (refine DV.condF rfl (fun _ => rfl) ?_; (repeat (with_reducible first | apply qa | apply qb | apply qc | apply qd | apply qe)))
  (refine DV.skip ?_; (repeat with_reducible refine qn ?_); (with_reducible refine qm ?_); (repeat (with_reducible first | apply qa | apply qb | apply qc | apply qd | apply qe)))
  (have F := An7 @grE @hgd @fdE @hfd @hmy @hBe @hye; refine Rg3 ?_; clear F; (repeat (with_reducible first | apply qa | apply qb | apply qc | apply qd | apply qe)))
  (have F := An7 @grE @hgd @fdE @hfd @hmy @hBe @hye; refine Rg3 ?_; clear F; (repeat (with_reducible first | apply qa | apply qb | apply qc | apply qd | apply qe)))
  (have F := An4 @decL_encL @isL_enc @hB @hyy; refine Rg3 ?_; clear F; (repeat (with_reducible first | apply qa | apply qb | apply qc | apply qd | apply qe)))
  (refine DV.ret ?_; (repeat (first | (with_reducible refine thenD_ret' ?_) | (with_reducible refine blockD_ret' ?_))); (with_reducible refine retD_ret' ?_); try (refine Rt0 ?_; try with_reducible exact True.intro))
end Go.Proofs.Ytkmgdejpdhlleaa.Dq
