/- Paths by deep values: the table of any graph. -/
import Derived.Test.YtkmgdejpdhlleaaTbW
import Derived.Test.YtkmgdejpdhlleaaVa3
namespace Go.Proofs.Ytkmgdejpdhlleaa.Dq
set_option linter.unusedSimpArgs false
set_option linter.unusedVariables false
set_option maxRecDepth 100000
open Go.RowKit
open Pa Va

theorem fill_set {α : Type} {l : List α} {z x : α} {j m : Nat} (h : l[j]? = some x) : (l.take j ++ List.replicate (m + 1) z).set j x = l.take (j + 1) ++ List.replicate m z := by
  obtain ⟨h1, h2⟩ := List.getElem?_eq_some_iff.1 h
  have hl : (l.take j).length = j := by rw [List.length_take]; omega
  rw [List.set_append_right _ _ (by omega), hl, Nat.sub_self, List.replicate_succ, List.set_cons_zero, List.take_add_one, h, List.append_assoc]
  rfl
theorem fill_at {α : Type} {l : List α} {z : α} {j m : Nat} (h : j < l.length) : (l.take j ++ List.replicate (m + 1) z)[j]? = some z := by
  have hl : (l.take j).length = j := by rw [List.length_take]; omega
  rw [List.getElem?_append_right (by omega), hl, Nat.sub_self, List.replicate_succ]
  rfl
def smH (d : Int) : Hp := ⟨d, d, 0, 0, 0, 0, 0, 0, 0, 0, 0⟩
noncomputable def rowS (g : Gr) (fr : Nat) : List (List Hp) := itF (sgOf g) (osum (beg0 (sgOf g) fr (smH (depN g fr))) + 1) (beg0 (sgOf g) fr (smH (depN g fr)))
/-- The table of the least steps. -/
noncomputable def tbS (g : Gr) : List (List (List Hp)) := if ((chkS g).1 != 0) = true then [] else (List.range g.n.length).map (rowS g)
noncomputable def tabD : List S1 → CR × Prop
  | [.agg g] => (.one (.c (.sl (encL tbC (tbS (grC.dec g))))), grC.enc (grC.dec g) = g ∧ Sm (grC.dec g))
  | _ => (.one (.c (.bool false)), False)
theorem edF_at {s : Hp} {t : Nat} {L : List Hp} {k : Nat} {h : Hp} {a : List (List Hp) × Bool} (hk : L[k]? = some h) : edF s t (L.drop k) a = edF s t (L.drop (k + 1)) (if thOk h s = true then (a.1.set t (putS (rg a.1 t) (thR h s)).1, a.2 || (putS (rg a.1 t) (thR h s)).2) else a) := by
  obtain ⟨h1, h2⟩ := List.getElem?_eq_some_iff.1 hk
  rw [List.drop_eq_getElem_cons h1, h2, edF]
theorem swF_at {st : Nat → Hp} {es : List (Nat × Nat)} {k : Nat} {e : Nat × Nat} {a : List (List Hp) × Bool} (hk : es[k]? = some e) : swF st (es.drop k) a = swF st (es.drop (k + 1)) (edF (st e.1) e.2 (rg a.1 e.1) a) := by
  obtain ⟨h1, h2⟩ := List.getElem?_eq_some_iff.1 hk
  rw [List.drop_eq_getElem_cons h1, h2, swF]
set_option maxHeartbeats 32000000 in
theorem tab_cal (args : List S1) (h : (tabD args).2) : Cal Try.prog 29 args (tabD args).1 := by
  unfold tabD at h ⊢
  split at h
  · next g0 =>
    obtain ⟨hg, hsm⟩ := h
    obtain ⟨g, rfl⟩ : ∃ v, g0 = grC.enc v := ⟨_, hg.symm⟩
    rw [grC.de] at hsm ⊢
    clear hg
    have hgd : grC.dec [D.sl (encL inC g.p), D.sl (encL inC g.b), D.sl (encL ndC g.n), D.sl (encL egC g.e)] = g := grC.de g
    obtain ⟨TB, hTB⟩ : ∃ t, tbS g = t := ⟨_, rfl⟩
    rw [hTB]
    unfold tbS at hTB
    obtain ⟨ce, hce⟩ : ∃ c, (chkS g).1 = c := ⟨_, rfl⟩
    obtain ⟨cn, hcn⟩ : ∃ c, (chkS g).2 = c := ⟨_, rfl⟩
    obtain ⟨bc, hbc⟩ : ∃ b, (ce != 0) = b := ⟨_, rfl⟩
    rw [hce, hbc] at hTB
    have CT := An6 @chkD.eq_1 @stgD.eq_1 @tksD.eq_1 @samD.eq_1 @thnD.eq_1 @puD.eq_1; refine DV.of (Γ := ⟨[(24, chkD), (81, stgD), (83, tksD), (82, samD), (84, thnD), (85, puD)], [], [34, 38, 60]⟩) (rs := [ResultVar.tmp 2]) [0, 1, 2, 3, 5, 6, 7, 8, 9, 10, 11, 12, 14, 15, 16, 18, 19, 20, 21, 22, 29, 40, 41, 42, 43, 55, 56, 57, 73, 75, 76, 77, 78, 86, 87, 88, 89, 101] ⟨by intro p hp; simp only [List.mem_cons, List.not_mem_nil, or_false] at hp; rcases hp with rfl | rfl | rfl | rfl | rfl | rfl; exact chk_cal; exact stg_cal; exact tks_cal; exact sam_cal; exact thn_cal; exact pu_cal, nofun⟩ (by kernel_rfl) Try.func29 rfl rfl (by kernel_rfl) rfl ?_; (repeat (with_reducible first | apply qa | apply qb | apply qc | apply qd | apply qe))
    (have F := @grE; refine Rg3 ?_; clear F; (repeat (with_reducible first | apply qa | apply qb | apply qc | apply qd | apply qe)))
    (have F := An5 @grE @hgd @hsm @hce @hcn; refine Rg3 ?_; clear F; (repeat (with_reducible first | apply qa | apply qb | apply qc | apply qd | apply qe)))
    (have F := @hbc; refine Rg3 ?_; clear F; (repeat (with_reducible first | apply qa | apply qb | apply qc | apply qd | apply qe)))
    cases bc
    rotate_left 1
    · rw [if_pos rfl] at hTB
      subst hTB
      (refine DV.condT rfl (fun _ => rfl) ?_; (repeat (with_reducible first | apply qa | apply qb | apply qc | apply qd | apply qe)))
      (refine Rg2 ?_; (repeat (with_reducible first | apply qa | apply qb | apply qc | apply qd | apply qe)))
      (refine DV.ret ?_; (repeat (first | (with_reducible refine thenD_ret' ?_) | (with_reducible refine blockD_ret' ?_))); (with_reducible refine retD_ret' ?_); try (have F := @encL_nil; refine Rt1 ?_; clear F; try with_reducible exact True.intro))
    rw [if_neg (by decide)] at hTB
    have hck : Chkd g := chk_ok (by rw [hce]; simpa using hbc)
    have hN := hck.n32
    have hE := hck.e64
    have hok := sg_ok hck
    obtain ⟨SL, hSL⟩ : ∃ l, (g.e.map fun e => stN (depN g e.f) (ndAt g e.f).k) = l := ⟨_, rfl⟩
    have hSLl : SL.length = g.e.length := by rw [← hSL, List.length_map]
    obtain ⟨tb, htb⟩ : ∃ t, (List.range g.n.length).map (rowS g) = t := ⟨_, rfl⟩
    have htbl : tb.length = g.n.length := by rw [← htb, List.length_map, List.length_range]
    rw [htb] at hTB
    subst hTB
    have n0' : (0 : Int) ≤ (g.n.length : Int) := by omega
    have n1' : (g.n.length : Int) ≤ 1000000 := by omega
    have n2' : (g.n.length : Int).toNat = g.n.length := by omega
    have m0 : (0 : Int) ≤ (g.e.length : Int) := by omega
    have m1 : (g.e.length : Int) ≤ 1000000 := by omega
    have m2 : (g.e.length : Int).toNat = g.e.length := by omega
    have hrt : List.replicate g.n.length [D.sl []] = encL tbC (List.replicate g.n.length []) := by unfold encL; rw [List.map_replicate]; rfl
    have hrr : List.replicate g.n.length [D.sl []] = encL rwC (List.replicate g.n.length []) := by unfold encL; rw [List.map_replicate]; rfl
    have hrs : List.replicate g.e.length [D.int .i64 0, D.int .i64 0, D.int .i64 0, D.int .i64 0, D.int .i64 0, D.int .i64 0, D.int .i64 0, D.int .i64 0, D.int .i64 0, D.int .i64 0, D.int .i64 0] = encL hpC (List.replicate g.e.length hz) := by unfold encL; rw [List.map_replicate]; rfl
    have ega : allK 4 (encL egC g.e) := eg_all g.e
    (refine DV.condF rfl (fun _ => rfl) ?_; (repeat (with_reducible first | apply qa | apply qb | apply qc | apply qd | apply qe)))
    (refine DV.skip ?_; (repeat with_reducible refine qn ?_); (with_reducible refine qm ?_); (repeat (with_reducible first | apply qa | apply qb | apply qc | apply qd | apply qe)))
    (have F := @encL_len; refine Rg3 ?_; clear F; (repeat (with_reducible first | apply qa | apply qb | apply qc | apply qd | apply qe)))
    (have F := An4 @n0' @n1' @n2' @hrt; refine Rg3 ?_; clear F; (repeat (with_reducible first | apply qa | apply qb | apply qc | apply qd | apply qe)))
    (have F := An5 @encL_len @m0 @m1 @m2 @hrs; refine Rg3 ?_; clear F; (repeat (with_reducible first | apply qa | apply qb | apply qc | apply qd | apply qe)))
    (have F := @encL_len; refine Rg3 ?_; clear F; (repeat (with_reducible first | apply qa | apply qb | apply qc | apply qd | apply qe)))
    refine DV.loop (fun j : Nat => ⟨[(1, .v true (.box 1 0)), (5, .v true (.c (.int .i64 g.n.length))), (6, .v true (.c (.lk 34 g.n.length))), (7, .v true (.c (.lk 38 g.e.length))), (40, .v true (.c (.sl (encL egC g.e)))), (41, .v true (.c (.int .i64 g.e.length))), (42, .v true (.c (.int .i64 j)))], [(1, some ⟨0, 0, [[.sl (encL inC g.p), .sl (encL inC g.b), .sl (encL ndC g.n), .sl (encL egC g.e)]]⟩), (34, some ⟨67, 1, encL tbC (List.replicate g.n.length [])⟩), (38, some ⟨82, 11, encL hpC (SL.take j ++ List.replicate (g.e.length - j) hz)⟩)], []⟩) (fun j => j ≤ g.e.length) (fun j => g.e.length - j) 0 (Nat.zero_le _) (by
      have e0 : SL.take 0 ++ List.replicate (g.e.length - 0) hz = List.replicate g.e.length hz := rfl
      rw [e0]
      (refine wk_of [] ?_ ?_ ?_ ?_ ?_ <;> (simp only [false_and, and_false, and_self, XC, XD, XE, XF, XG, XH, XI, convK, XJ, XK, XL, XM, XN, look, XO, XP, XR, XS, XT, XU, XV, encL_nil, encL_app, encL_cons, List.length_append, gdS, put1, sv, gs, gb, QK, setAt, bad, dem, QP, QR, QS, QT, QU, QV, QW, QY, Q2, Q3, lf, lfs, pOk, Nat.reduceBEq, XA, XB, keep, kp, cand, cor, List.map, List.append, Option.bind, ↓reduceIte, Nat.reduceEqDiff, Nat.reduceAdd, Nat.reduceMul, Nat.reduceLT, Nat.reduceLeDiff, reduceCtorEq, Int.reduceLT, Int.reduceLE, Int.reduceBEq, Int.reduceBNe, Int.reduceAdd, Int.reduceSub, Int.reduceToNat, dq, n0]; try trivial))) (fun j hj => ?_)
    (repeat (with_reducible first | apply qa | apply qb | apply qc | apply qd | apply qe))
    by_cases hlt : j < g.e.length
    · obtain ⟨e, he⟩ : ∃ x, g.e[j]? = some x := ⟨_, List.getElem?_eq_getElem hlt⟩
      have d1 : decide ((j : Int) < (g.e.length : Int)) = true := decide_eq_true (by omega)
      have c1 : (0 : Int) ≤ j := by omega
      have c2 : (j : Int) < (g.e.length : Int) := by omega
      have c3 := encL_get (C := egC) he
      have ew := wr1 j (by omega)
      have hed : egC.dec [D.int .i64 e.f, D.int .i64 e.t, D.int .i64 e.p, D.bool e.x] = e := rfl
      obtain ⟨⟨ef0, ef1⟩, et0, et1⟩ := edS_ok (hck.ed j (by omega) (by omega))
      have hat : egAt g j = e := by unfold egAt; rw [show ((j : Int)).toNat = j by omega, he]; rfl
      rw [hat] at ef0 ef1 et0 et1
      obtain ⟨S, hS⟩ : ∃ s, stN (depN g e.f) (ndAt g e.f).k = s := ⟨_, rfl⟩
      have hSj : SL[j]? = some S := by rw [← hSL, List.getElem?_map, he]; exact congrArg some hS
      obtain ⟨m, hm⟩ : ∃ m, g.e.length - j = m + 1 := ⟨g.e.length - j - 1, by omega⟩
      have hm2 : g.e.length - (j + 1) = m := by omega
      have c4 := encL_get (C := hpC) (fill_at (l := SL) (z := hz) (j := j) (m := m) (by omega))
      have hset : (encL hpC (SL.take j ++ List.replicate (m + 1) hz)).set j [.int .i64 S.f, .int .i64 S.k, .int .i64 S.l, .int .i64 S.a, .int .i64 S.b, .int .i64 S.c, .int .i64 S.e, .int .i64 S.p, .int .i64 S.q, .int .i64 S.r, .int .i64 S.s] = encL hpC (SL.take (j + 1) ++ List.replicate m hz) := by rw [show [D.int .i64 S.f, .int .i64 S.k, .int .i64 S.l, .int .i64 S.a, .int .i64 S.b, .int .i64 S.c, .int .i64 S.e, .int .i64 S.p, .int .i64 S.q, .int .i64 S.r, .int .i64 S.s] = hpC.enc S from rfl, encL_set, fill_set hSj]
      have c5 : (SL.take j ++ List.replicate (m + 1) hz).length = g.e.length := by rw [List.length_append, List.length_take, List.length_replicate]; omega
      rw [hm]
      obtain ⟨sl1, hsl1⟩ : ∃ q, SL.take j ++ List.replicate (m + 1) hz = q := ⟨_, rfl⟩
      rw [hsl1] at c4 hset c5 ⊢
      (have F := @d1; refine Rg3 ?_; clear F; (repeat (with_reducible first | apply qa | apply qb | apply qc | apply qd | apply qe)))
      (refine DV.condT rfl (fun _ => rfl) ?_; (repeat (with_reducible first | apply qa | apply qb | apply qc | apply qd | apply qe)))
      (refine DV.skip ?_; (repeat with_reducible refine qn ?_); (with_reducible refine qm ?_); (repeat (with_reducible first | apply qa | apply qb | apply qc | apply qd | apply qe)))
      (have F := An6 @i2n @encL_len @c1 @c2 @c3 @egE; refine Rg3 ?_; clear F; (repeat (with_reducible first | apply qa | apply qb | apply qc | apply qd | apply qe)))
      (have F := An17 @grE @egE @hgd @hed @hck @ef0 @ef1 @hS @i2n @encL_len @c1 @c2 @hlt @c4 @c5 @hpE @hset; refine Re3 ?_; clear F; (repeat with_reducible refine qn ?_); (try with_reducible refine qm ?_); (repeat (with_reducible first | apply qa | apply qb | apply qc | apply qd | apply qe)))
      (have F := @ew; refine Re3 ?_; clear F; (repeat with_reducible refine qn ?_); (try with_reducible refine qm ?_); (repeat (with_reducible first | apply qa | apply qb | apply qc | apply qd | apply qe)))
      refine ⟨j + 1, ⟨hlt, by omega⟩, ?_⟩
      rw [hm2]
      obtain ⟨sl2, hsl2⟩ : ∃ q, SL.take (j + 1) ++ List.replicate m hz = q := ⟨_, rfl⟩
      rw [hsl2]
      (refine wk_of [] ?_ ?_ ?_ ?_ ?_ <;> (simp only [false_and, and_false, and_self, XC, XD, XE, XF, XG, XH, XI, convK, XJ, XK, XL, XM, XN, look, XO, XP, XR, XS, XT, XU, XV, encL_nil, encL_app, encL_cons, List.length_append, gdS, put1, sv, gs, gb, QK, setAt, bad, dem, QP, QR, QS, QT, QU, QV, QW, QY, Q2, Q3, lf, lfs, pOk, Nat.reduceBEq, XA, XB, keep, kp, cand, cor, List.map, List.append, Option.bind, ↓reduceIte, Nat.reduceEqDiff, Nat.reduceAdd, Nat.reduceMul, Nat.reduceLT, Nat.reduceLeDiff, reduceCtorEq, Int.reduceLT, Int.reduceLE, Int.reduceBEq, Int.reduceBNe, Int.reduceAdd, Int.reduceSub, Int.reduceToNat, dq]; try trivial))
    obtain rfl : j = g.e.length := by omega
    have d1 : decide ((g.e.length : Int) < (g.e.length : Int)) = false := decide_eq_false (by omega)
    have e1 : SL.take g.e.length ++ List.replicate (g.e.length - g.e.length) hz = SL := by rw [Nat.sub_self, ← hSLl, List.take_length]; exact List.append_nil _
    have htk : (encL hpC SL).take g.e.length = encL hpC SL := by rw [← hSLl, encL_take, List.take_length]
    rw [e1]
    (have F := @d1; refine Rg3 ?_; clear F; (repeat (with_reducible first | apply qa | apply qb | apply qc | apply qd | apply qe)))
    (refine DV.condF rfl (fun _ => rfl) ?_; (repeat (with_reducible first | apply qa | apply qb | apply qc | apply qd | apply qe)))
    (refine DV.exit ?_; (repeat (first | (with_reducible refine thenD_exit' ?_) | (with_reducible refine blockD_other (by decide) ?_))); (with_reducible refine blockD_same ?_); (repeat with_reducible refine qn ?_); (with_reducible refine qm ?_); (repeat (with_reducible first | apply qa | apply qb | apply qc | apply qd | apply qe)))
    (refine Rg2 ?_; (repeat (with_reducible first | apply qa | apply qb | apply qc | apply qd | apply qe)))
    refine DV.loop (fun j : Nat => ⟨[(1, .v true (.box 1 0)), (5, .v true (.c (.int .i64 g.n.length))), (6, .v true (.c (.lk 34 g.n.length))), (7, .v true (.c (.sl (encL hpC SL)))), (55, .v true (.c (.int .i64 g.n.length))), (56, .v true (.c (.int .i64 j)))], [(1, some ⟨0, 0, [[.sl (encL inC g.p), .sl (encL inC g.b), .sl (encL ndC g.n), .sl (encL egC g.e)]]⟩), (34, some ⟨67, 1, encL tbC (tb.take j ++ List.replicate (g.n.length - j) [])⟩)], []⟩) (fun j => j ≤ g.n.length) (fun j => g.n.length - j) 0 (Nat.zero_le _) (by
      have e0 : tb.take 0 ++ List.replicate (g.n.length - 0) [] = List.replicate g.n.length [] := rfl
      rw [e0]
      (refine wk_of [] ?_ ?_ ?_ ?_ ?_ <;> (simp only [false_and, and_false, and_self, XC, XD, XE, XF, XG, XH, XI, convK, XJ, XK, XL, XM, XN, look, XO, XP, XR, XS, XT, XU, XV, encL_nil, encL_app, encL_cons, List.length_append, gdS, put1, sv, gs, gb, QK, setAt, bad, dem, QP, QR, QS, QT, QU, QV, QW, QY, Q2, Q3, lf, lfs, pOk, Nat.reduceBEq, XA, XB, keep, kp, cand, cor, List.map, List.append, Option.bind, ↓reduceIte, Nat.reduceEqDiff, Nat.reduceAdd, Nat.reduceMul, Nat.reduceLT, Nat.reduceLeDiff, reduceCtorEq, Int.reduceLT, Int.reduceLE, Int.reduceBEq, Int.reduceBNe, Int.reduceAdd, Int.reduceSub, Int.reduceToNat, dq, n0, htk, hSLl, encL_len, lfL_encL, Nat.le_refl]; try trivial))
      try trivial) (fun j hj => ?_)
    (repeat (with_reducible first | apply qa | apply qb | apply qc | apply qd | apply qe))
    by_cases hlt : j < g.n.length
    · have d1 : decide ((j : Int) < (g.n.length : Int)) = true := decide_eq_true (by omega)
      have c1 : (0 : Int) ≤ j := by omega
      have c2 : (j : Int) < (g.n.length : Int) := by omega
      have ew := wr1 j (by omega)
      obtain ⟨m, hm⟩ : ∃ m, g.n.length - j = m + 1 := ⟨g.n.length - j - 1, by omega⟩
      have hm2 : g.n.length - (j + 1) = m := by omega
      obtain ⟨F, hF⟩ : ∃ r, rowS g j = r := ⟨_, rfl⟩
      have htj : tb[j]? = some F := by rw [← htb, List.getElem?_map, List.getElem?_range hlt]; exact congrArg some hF
      have cT := encL_get (C := tbC) (fill_at (l := tb) (z := []) (j := j) (m := m) (by omega))
      have hsT : (encL tbC (tb.take j ++ List.replicate (m + 1) [])).set j [D.sl (encL rwC F)] = encL tbC (tb.take (j + 1) ++ List.replicate m []) := by rw [show [D.sl (encL rwC F)] = tbC.enc F from rfl, encL_set, fill_set htj]
      have c5 : (tb.take j ++ List.replicate (m + 1) []).length = g.n.length := by rw [List.length_append, List.length_take, List.length_replicate]; omega
      rw [hm]
      obtain ⟨T, hT⟩ : ∃ q, tb.take j ++ List.replicate (m + 1) [] = q := ⟨_, rfl⟩
      rw [hT] at cT hsT c5 ⊢
      obtain ⟨⟨dp1, dp4⟩, d10, d11⟩ := hck.dep c1 c2
      have hob : (insB j g.n.length = true → (ndAt g j).k = 10 → 0 ≤ (ndAt g j).s ∧ (ndAt g j).s < (g.p.length : Int)) = True := eq_true fun _ h => (d10 h).2
      have hin : insB j g.n.length = true := insB_iff.2 ⟨c1, c2⟩
      have hval : (if insB j g.n.length = true then dpS g.p (takI g (ndAt g j)) else 0) = depN g j := by rw [if_pos hin]; rfl
      unfold rowS at hF
      obtain ⟨d, hd⟩ : ∃ d, depN g j = d := ⟨_, rfl⟩
      rw [hd] at hF hval dp1 dp4
      obtain ⟨x, hx⟩ : ∃ x, smH d = x := ⟨_, rfl⟩
      have hxr : hopB x = true := by rw [← hx]; exact same_r ⟨dp1, dp4⟩
      have hmd : madeR ⟨d, d, 0, 0, 0, 0, 0, 0, 0, 0, 0⟩ = (x, true) := by rw [← hx]; exact made_r (same_r ⟨dp1, dp4⟩)
      rw [hx] at hF
      have hxf : x.f = d ∧ x.k = d ∧ x.l = 0 := by rw [← hx]; exact ⟨rfl, rfl, rfl⟩
      have hbeg0 : Pa.Ri (sgOf g) x.f (beg0 (sgOf g) j x) := beg_ok (G := sgOf g) (fr := j) hlt hxr (by show x.k + x.l = depN g j; omega) (by omega) (by
        rw [← hx]
        have : d = 1 ∨ d = 2 ∨ d = 3 ∨ d = 4 := by omega
        rcases this with rfl | rfl | rfl | rfl <;> decide) (fun p hp _ => by
        rw [← hx]
        have : d = 1 ∨ d = 2 ∨ d = 3 ∨ d = 4 := by omega
        rcases this with rfl | rfl | rfl | rfl <;> rcases hp with rfl | rfl <;> decide)
      have cR := encL_get (C := rwC) (show (List.replicate g.n.length ([] : List Hp))[j]? = some [] by rw [List.getElem?_replicate, if_pos hlt])
      have hsR : (encL rwC (List.replicate g.n.length [])).set j [D.sl [[.int .i64 x.f, .int .i64 x.k, .int .i64 x.l, .int .i64 x.a, .int .i64 x.b, .int .i64 x.c, .int .i64 x.e, .int .i64 x.p, .int .i64 x.q, .int .i64 x.r, .int .i64 x.s]]] = encL rwC (beg0 (sgOf g) j x) := by rw [show [D.sl [[D.int .i64 x.f, .int .i64 x.k, .int .i64 x.l, .int .i64 x.a, .int .i64 x.b, .int .i64 x.c, .int .i64 x.e, .int .i64 x.p, .int .i64 x.q, .int .i64 x.r, .int .i64 x.s]]] = rwC.enc [x] from rfl, encL_set]; rfl
      obtain ⟨B0, hB0⟩ : ∃ b, beg0 (sgOf g) j x = b := ⟨_, rfl⟩
      rw [hB0] at hF hbeg0 hsR
      have hlr : (List.replicate g.n.length ([] : List Hp)).length = g.n.length := List.length_replicate
      (have F := @d1; refine Rg3 ?_; clear F; (repeat (with_reducible first | apply qa | apply qb | apply qc | apply qd | apply qe)))
      (refine DV.condT rfl (fun _ => rfl) ?_; (repeat (with_reducible first | apply qa | apply qb | apply qc | apply qd | apply qe)))
      (refine DV.skip ?_; (repeat with_reducible refine qn ?_); (with_reducible refine qm ?_); (repeat (with_reducible first | apply qa | apply qb | apply qc | apply qd | apply qe)))
      (refine Rg2 ?_; (repeat (with_reducible first | apply qa | apply qb | apply qc | apply qd | apply qe)))
      (have F := An4 @n0' @n1' @n2' @hrr; refine Rg3 ?_; clear F; (repeat (with_reducible first | apply qa | apply qb | apply qc | apply qd | apply qe)))
      (have F := An7 @grE @hgd @hsm @hob @hval @hmd @hpE; refine Rg3 ?_; clear F; (repeat (with_reducible first | apply qa | apply qb | apply qc | apply qd | apply qe)))
      (have F := An11 @i2n @encL_len @c1 @c2 @hlt @cR @hlr @rwE @encL_nil @hpE @hsR; refine Rg3 ?_; clear F; (repeat (with_reducible first | apply qa | apply qb | apply qc | apply qd | apply qe)))
      (refine Rg2 ?_; (repeat (with_reducible first | apply qa | apply qb | apply qc | apply qd | apply qe)))
      refine DV.loop (fun p : Bool × List (List Hp) => ⟨[(1, .v true (.box 1 0)), (5, .v true (.c (.int .i64 g.n.length))), (6, .v true (.c (.lk 34 g.n.length))), (7, .v true (.c (.sl (encL hpC SL)))), (55, .v true (.c (.int .i64 g.n.length))), (10, .v true (.c (.int .i64 j))), (11, .v true (.c (.lk 60 g.n.length))), (14, .v true (.c (.bool p.1))), (56, .v true (.c (.int .i64 j)))], [(1, some ⟨0, 0, [[.sl (encL inC g.p), .sl (encL inC g.b), .sl (encL ndC g.n), .sl (encL egC g.e)]]⟩), (34, some ⟨67, 1, encL tbC T⟩), (60, some ⟨70, 1, encL rwC p.2⟩)], []⟩) (fun p => Pa.Ri (sgOf g) x.f p.2 ∧ ((p.1 = true ∧ ∃ f, osum p.2 < f ∧ itF (sgOf g) f p.2 = F) ∨ (p.1 = false ∧ p.2 = F))) (fun p => if p.1 = true then osum p.2 + 1 else 0) (true, B0) ⟨hbeg0, .inl ⟨rfl, _, Nat.lt_succ_self _, hF⟩⟩ (by exact Wk0) (fun p hp => ?_)
      obtain ⟨mo, R⟩ := p
      dsimp only at hp ⊢
      obtain ⟨hRi, hp⟩ := hp
      (repeat (with_reducible first | apply qa | apply qb | apply qc | apply qd | apply qe))
      rcases hp with ⟨rfl, f, hf, hit⟩ | ⟨rfl, hRF⟩
      · obtain ⟨f, rfl⟩ : ∃ f', f = f' + 1 := ⟨f - 1, by omega⟩
        rw [itF] at hit
        have sw := swF_ok (G := sgOf g) (d0 := x.f) (sgOf g).ed R false hok hRi
        obtain ⟨W0, hW⟩ : ∃ W, swF (sgOf g).st (sgOf g).ed (R, false) = W := ⟨_, rfl⟩
        obtain ⟨R', mo'⟩ := W0
        rw [hW] at hit sw
        dsimp only at hit sw
        obtain ⟨sw1, sw2, sw3, sw4⟩ := sw
        (refine Rg2 ?_; (repeat (with_reducible first | apply qa | apply qb | apply qc | apply qd | apply qe)))
        (refine DV.condT rfl (fun _ => rfl) ?_; (repeat (with_reducible first | apply qa | apply qb | apply qc | apply qd | apply qe)))
        (refine DV.skip ?_; (repeat with_reducible refine qn ?_); (with_reducible refine qm ?_); (repeat (with_reducible first | apply qa | apply qb | apply qc | apply qd | apply qe)))
        (refine Rg2 ?_; (repeat (with_reducible first | apply qa | apply qb | apply qc | apply qd | apply qe)))
        (have F := @encL_len; refine Rg3 ?_; clear F; (repeat (with_reducible first | apply qa | apply qb | apply qc | apply qd | apply qe)))
        refine DV.loop (fun p : Nat × Bool × List (List Hp) => ⟨[(1, .v true (.box 1 0)), (5, .v true (.c (.int .i64 g.n.length))), (6, .v true (.c (.lk 34 g.n.length))), (7, .v true (.c (.sl (encL hpC SL)))), (55, .v true (.c (.int .i64 g.n.length))), (10, .v true (.c (.int .i64 j))), (11, .v true (.c (.lk 60 g.n.length))), (14, .v true (.c (.bool p.2.1))), (56, .v true (.c (.int .i64 j))), (75, .v true (.c (.sl (encL egC g.e)))), (76, .v true (.c (.int .i64 g.e.length))), (77, .v true (.c (.int .i64 p.1)))], [(1, some ⟨0, 0, [[.sl (encL inC g.p), .sl (encL inC g.b), .sl (encL ndC g.n), .sl (encL egC g.e)]]⟩), (34, some ⟨67, 1, encL tbC T⟩), (60, some ⟨70, 1, encL rwC p.2.2⟩)], []⟩) (fun p => p.1 ≤ g.e.length ∧ swF (sgOf g).st ((sgOf g).ed.drop p.1) (p.2.2, p.2.1) = (R', mo') ∧ Pa.Ri (sgOf g) x.f p.2.2) (fun p => g.e.length - p.1) (0, false, R) ⟨Nat.zero_le _, hW, hRi⟩ (by (have F := @n0; exact Wk1)) (fun p hp => ?_)
        obtain ⟨i, m1, S⟩ := p
        dsimp only at hp ⊢
        obtain ⟨hi, hsw, hS⟩ := hp
        (repeat (with_reducible first | apply qa | apply qb | apply qc | apply qd | apply qe))
        by_cases hil : i < g.e.length
        · obtain ⟨e, he⟩ : ∃ x, g.e[i]? = some x := ⟨_, List.getElem?_eq_getElem hil⟩
          have d2 : decide ((i : Int) < (g.e.length : Int)) = true := decide_eq_true (by omega)
          have i1 : (0 : Int) ≤ i := by omega
          have i2 : (i : Int) < (g.e.length : Int) := by omega
          have i3 := encL_get (C := egC) he
          have ewi := wr1 i (by omega)
          obtain ⟨⟨ef0, ef1⟩, et0, et1⟩ := edS_ok (hck.ed i (by omega) (by omega))
          have hat : egAt g i = e := by unfold egAt; rw [show ((i : Int)).toNat = i by omega, he]; rfl
          rw [hat] at ef0 ef1 et0 et1
          have ef2 : e.f.toNat < g.n.length := by omega
          have et2 : e.t.toNat < g.n.length := by omega
          have hed2 : (sgOf g).ed[i]? = some (e.f.toNat, e.t.toNat) := by show (g.e.map _)[i]? = _; rw [List.getElem?_map, he]; rfl
          have heo : EdOk' (sgOf g) e.f.toNat e.t.toNat := hok _ (List.mem_of_getElem? hed2)
          rw [swF_at hed2] at hsw
          dsimp only at hsw
          obtain ⟨s, hst⟩ : ∃ s, (sgOf g).st e.f.toNat = s := ⟨_, rfl⟩
          have hSi : SL[i]? = some s := by
            rw [← hSL, List.getElem?_map, he, ← hst]
            show some (stN (depN g e.f) (ndAt g e.f).k) = some (stN (depN g ((e.f.toNat : Nat) : Int)) (ndAt g ((e.f.toNat : Nat) : Int)).k)
            rw [show ((e.f.toNat : Nat) : Int) = e.f by omega]
          have cS := encL_get (C := hpC) hSi
          have hSl : S.length = g.n.length := hS.ok.len
          obtain ⟨L, hL⟩ : ∃ L, rg S e.f.toNat = L := ⟨_, rfl⟩
          have hSf : S[e.f.toNat]? = some L := by rw [← hL]; unfold rg; rw [List.getElem?_eq_getElem (by omega)]; rfl
          have cL := encL_get (C := rwC) hSf
          have hLn : L.length ≤ 200000000 := by rw [← hL]; exact Nat.le_trans (rw_len hS.ok hN _ (hS.nd _)) (by decide)
          rw [hst, hL] at hsw
          obtain ⟨A, hA⟩ : ∃ A, edF s e.t.toNat L (S, m1) = A := ⟨_, rfl⟩
          obtain ⟨R1, mo1⟩ := A
          rw [hA] at hsw
          (have F := @d2; refine Rg3 ?_; clear F; (repeat (with_reducible first | apply qa | apply qb | apply qc | apply qd | apply qe)))
          (refine DV.condT rfl (fun _ => rfl) ?_; (repeat (with_reducible first | apply qa | apply qb | apply qc | apply qd | apply qe)))
          (refine DV.skip ?_; (repeat with_reducible refine qn ?_); (with_reducible refine qm ?_); (repeat (with_reducible first | apply qa | apply qb | apply qc | apply qd | apply qe)))
          (have F := An6 @i2n @encL_len @i1 @i2 @i3 @egE; refine Rg3 ?_; clear F; (repeat (with_reducible first | apply qa | apply qb | apply qc | apply qd | apply qe)))
          (have F := An9 @i2n @encL_len @egE @ef0 @ef1 @ef2 @cL @hSl @rwE; refine Rg3 ?_; clear F; (repeat (with_reducible first | apply qa | apply qb | apply qc | apply qd | apply qe)))
          refine DV.loop (fun p : Nat × Bool × List (List Hp) => ⟨[(1, .v true (.box 1 0)), (5, .v true (.c (.int .i64 g.n.length))), (6, .v true (.c (.lk 34 g.n.length))), (7, .v true (.c (.sl (encL hpC SL)))), (55, .v true (.c (.int .i64 g.n.length))), (10, .v true (.c (.int .i64 j))), (11, .v true (.c (.lk 60 g.n.length))), (14, .v true (.c (.bool p.2.1))), (56, .v true (.c (.int .i64 j))), (75, .v true (.c (.sl (encL egC g.e)))), (76, .v true (.c (.int .i64 g.e.length))), (77, .v true (.c (.int .i64 i))), (15, .v true (.c (.int .i64 i))), (16, .v true (.box 16 0)), (86, .v true (.c (.sl (encL hpC L)))), (87, .v true (.c (.int .i64 L.length))), (88, .v true (.c (.int .i64 p.1)))], [(1, some ⟨0, 0, [[.sl (encL inC g.p), .sl (encL inC g.b), .sl (encL ndC g.n), .sl (encL egC g.e)]]⟩), (16, some ⟨0, 0, [[.int .i64 e.f, .int .i64 e.t, .int .i64 e.p, .bool e.x]]⟩), (34, some ⟨67, 1, encL tbC T⟩), (60, some ⟨70, 1, encL rwC p.2.2⟩)], []⟩) (fun p => p.1 ≤ L.length ∧ edF s e.t.toNat (L.drop p.1) (p.2.2, p.2.1) = (R1, mo1) ∧ Pa.Ri (sgOf g) x.f p.2.2 ∧ Mo S p.2.2 ∧ (e.f.toNat ≠ e.t.toNat → rg p.2.2 e.f.toNat = rg S e.f.toNat)) (fun p => L.length - p.1) (0, m1, S) ⟨Nat.zero_le _, hA, hS, Mo.refl (G := sgOf g) (d0 := x.f), fun _ => rfl⟩ (by (have F := @n0; exact Wk1)) (fun p hp => ?_)
          obtain ⟨k, m2, V⟩ := p
          dsimp only at hp ⊢
          obtain ⟨hk, hed, hV, hMo, hsm0⟩ := hp
          (repeat (with_reducible first | apply qa | apply qb | apply qc | apply qd | apply qe))
          by_cases hkl : k < L.length
          · obtain ⟨h, hh⟩ : ∃ h, L[k]? = some h := ⟨_, List.getElem?_eq_getElem hkl⟩
            have d3 : decide ((k : Int) < (L.length : Int)) = true := decide_eq_true (by omega)
            have k1 : (0 : Int) ≤ k := by omega
            have k2 : (k : Int) < (L.length : Int) := by omega
            have cH := encL_get (C := hpC) hh
            have ewk := wr1 k (by omega)
            rw [edF_at hh] at hed
            obtain ⟨b, hb⟩ : ∃ b, thOk h s = b := ⟨_, rfl⟩
            obtain ⟨y, hy⟩ : ∃ y, thR h s = y := ⟨_, rfl⟩
            rw [hb, hy] at hed
            have hVl : V.length = g.n.length := hV.ok.len
            obtain ⟨LV, hLV⟩ : ∃ l, rg V e.t.toNat = l := ⟨_, rfl⟩
            have hVt : V[e.t.toNat]? = some LV := by rw [← hLV]; unfold rg; rw [List.getElem?_eq_getElem (by omega)]; rfl
            have cV := encL_get (C := rwC) hVt
            have hLVn : LV.length ≤ 1000000000 := by rw [← hLV]; exact Nat.le_trans (rw_len hV.ok hN _ (hV.nd _)) (by decide)
            (have F := @d3; refine Rg3 ?_; clear F; (repeat (with_reducible first | apply qa | apply qb | apply qc | apply qd | apply qe)))
            (refine DV.condT rfl (fun _ => rfl) ?_; (repeat (with_reducible first | apply qa | apply qb | apply qc | apply qd | apply qe)))
            (refine DV.skip ?_; (repeat with_reducible refine qn ?_); (with_reducible refine qm ?_); (repeat (with_reducible first | apply qa | apply qb | apply qc | apply qd | apply qe)))
            (have F := An6 @i2n @encL_len @k1 @k2 @cH @hpE; refine Rg3 ?_; clear F; (repeat (with_reducible first | apply qa | apply qb | apply qc | apply qd | apply qe)))
            (have F := An10 @i2n @encL_len @i1 @i2 @hSLl @cS @hpE @hpD @hb @hy; refine Rd3 ?_; clear F; (repeat (with_reducible first | apply qa | apply qb | apply qc | apply qd | apply qe)))
            (refine Rg2 ?_; (repeat (with_reducible first | apply qa | apply qb | apply qc | apply qd | apply qe)))
            cases b
            · rw [if_neg (by decide)] at hed
              (refine DV.condF rfl (fun _ => rfl) ?_; (repeat (with_reducible first | apply qa | apply qb | apply qc | apply qd | apply qe)))
              (refine DV.skip ?_; (repeat with_reducible refine qn ?_); (with_reducible refine qm ?_); (repeat (with_reducible first | apply qa | apply qb | apply qc | apply qd | apply qe)))
              (have F := @ewk; refine Re3 ?_; clear F; (repeat with_reducible refine qn ?_); (try with_reducible refine qm ?_); (repeat (with_reducible first | apply qa | apply qb | apply qc | apply qd | apply qe)))
              exact ⟨(k + 1, m2, V), ⟨⟨hkl, hed, hV, hMo, hsm0⟩, by dsimp only; omega⟩, by exact Wk0⟩
            · rw [if_pos rfl] at hed
              dsimp only at hed
              obtain ⟨o1, o2, o3, o4⟩ := one_ok (R0 := S) (h := h) hV heo hMo hsm0 hS (by rw [hL]; exact List.mem_of_getElem? hh) (by rw [hst]; exact hb)
              rw [hst, hy, hLV] at o1 o2
              rw [hLV] at hed
              obtain ⟨PL, hPL⟩ : ∃ l, (putS LV y).1 = l := ⟨_, rfl⟩
              obtain ⟨pf, hpf⟩ : ∃ b, (putS LV y).2 = b := ⟨_, rfl⟩
              rw [hPL, hpf] at hed
              rw [hPL] at o1 o2
              have hsV : (encL rwC V).set e.t.toNat [D.sl (encL hpC PL)] = encL rwC (V.set e.t.toNat PL) := by rw [show [D.sl (encL hpC PL)] = rwC.enc PL from rfl, encL_set]
              have hrs2 : e.f.toNat ≠ e.t.toNat → rg (V.set e.t.toNat PL) e.f.toNat = rg S e.f.toNat := fun hne => by rw [rg_set (by omega), if_neg hne]; exact hsm0 hne
              (refine DV.condT rfl (fun _ => rfl) ?_; (repeat (with_reducible first | apply qa | apply qb | apply qc | apply qd | apply qe)))
              (have F := An16 @i2n @encL_len @egE @et0 @et1 @et2 @cV @hVl @rwE @hpE @hpD @decL_encL @isL_enc @hLVn @hPL @hpf; refine Rd3 ?_; clear F; (repeat (with_reducible first | apply qa | apply qb | apply qc | apply qd | apply qe)))
              (have F := An10 @i2n @encL_len @egE @et0 @et1 @et2 @cV @hVl @rwE @hsV; refine Rg3 ?_; clear F; (repeat (with_reducible first | apply qa | apply qb | apply qc | apply qd | apply qe)))
              (refine Re2 ?_; (repeat with_reducible refine qn ?_); (try with_reducible refine qm ?_); (repeat (with_reducible first | apply qa | apply qb | apply qc | apply qd | apply qe)))
              (have F := @ewk; refine Re3 ?_; clear F; (repeat with_reducible refine qn ?_); (try with_reducible refine qm ?_); (repeat (with_reducible first | apply qa | apply qb | apply qc | apply qd | apply qe)))
              exact ⟨(k + 1, (m2 || pf), V.set e.t.toNat PL), ⟨⟨hkl, hed, o1, hMo.trans o2, hrs2⟩, by dsimp only; omega⟩, by exact Wk0⟩
          obtain rfl : k = L.length := by omega
          have d3 : decide ((L.length : Int) < (L.length : Int)) = false := decide_eq_false (by omega)
          rw [List.drop_length] at hed
          have hed : (V, m2) = (R1, mo1) := hed
          rw [← hed] at hsw
          (have F := @d3; refine Rg3 ?_; clear F; (repeat (with_reducible first | apply qa | apply qb | apply qc | apply qd | apply qe)))
          (refine DV.condF rfl (fun _ => rfl) ?_; (repeat (with_reducible first | apply qa | apply qb | apply qc | apply qd | apply qe)))
          (refine DV.exit ?_; (repeat (first | (with_reducible refine thenD_exit' ?_) | (with_reducible refine blockD_other (by decide) ?_))); (with_reducible refine blockD_same ?_); (repeat with_reducible refine qn ?_); (with_reducible refine qm ?_); (repeat (with_reducible first | apply qa | apply qb | apply qc | apply qd | apply qe)))
          (have F := @ewi; refine Re3 ?_; clear F; (repeat with_reducible refine qn ?_); (try with_reducible refine qm ?_); (repeat (with_reducible first | apply qa | apply qb | apply qc | apply qd | apply qe)))
          exact ⟨(i + 1, m2, V), ⟨⟨hil, hsw, hV⟩, by dsimp only; omega⟩, by exact Wk0⟩
        obtain rfl : i = g.e.length := by omega
        have d2 : decide ((g.e.length : Int) < (g.e.length : Int)) = false := decide_eq_false (by omega)
        have hdl : (sgOf g).ed.drop g.e.length = [] := List.drop_of_length_le (by show (g.e.map _).length ≤ _; rw [List.length_map]; exact Nat.le_refl _)
        rw [hdl] at hsw
        have hsw : (S, m1) = (R', mo') := hsw
        obtain ⟨rfl, rfl⟩ := Prod.mk.inj hsw
        (have F := @d2; refine Rg3 ?_; clear F; (repeat (with_reducible first | apply qa | apply qb | apply qc | apply qd | apply qe)))
        (refine DV.condF rfl (fun _ => rfl) ?_; (repeat (with_reducible first | apply qa | apply qb | apply qc | apply qd | apply qe)))
        (refine DV.exit ?_; (repeat (first | (with_reducible refine thenD_exit' ?_) | (with_reducible refine blockD_other (by decide) ?_))); (with_reducible refine blockD_same ?_); (repeat with_reducible refine qn ?_); (with_reducible refine qm ?_); (repeat (with_reducible first | apply qa | apply qb | apply qc | apply qd | apply qe)))
        refine ⟨(m1, S), ⟨⟨sw1, ?_⟩, ?_⟩, by exact Wk0⟩
        · cases m1
          · rw [if_neg (by decide)] at hit
            exact .inr ⟨rfl, hit⟩
          · rw [if_pos rfl] at hit
            have := (sw4 rfl).resolve_left (by decide)
            exact .inl ⟨rfl, f, (by show osum S < f; omega), hit⟩
        · cases m1
          · show 0 < osum R + 1
            omega
          · have := (sw4 rfl).resolve_left (by decide)
            show osum S + 1 < osum R + 1
            omega
      subst hRF
      have hRl : R.length = g.n.length := hRi.ok.len
      have htk3 : (encL rwC R).take g.n.length = encL rwC R := by rw [← hRl, encL_take, List.take_length]
      (refine Rg2 ?_; (repeat (with_reducible first | apply qa | apply qb | apply qc | apply qd | apply qe)))
      (refine DV.condF rfl (fun _ => rfl) ?_; (repeat (with_reducible first | apply qa | apply qb | apply qc | apply qd | apply qe)))
      (refine DV.exit ?_; (repeat (first | (with_reducible refine thenD_exit' ?_) | (with_reducible refine blockD_other (by decide) ?_))); (with_reducible refine blockD_same ?_); (repeat with_reducible refine qn ?_); (with_reducible refine qm ?_); (repeat (with_reducible first | apply qa | apply qb | apply qc | apply qd | apply qe)))
      refine DV.weak (σ' := ⟨[(1, .v true (.box 1 0)), (5, .v true (.c (.int .i64 g.n.length))), (6, .v true (.c (.lk 34 g.n.length))), (7, .v true (.c (.sl (encL hpC SL)))), (55, .v true (.c (.int .i64 g.n.length))), (10, .v true (.c (.int .i64 j))), (11, .v true (.c (.sl (encL rwC R)))), (56, .v true (.c (.int .i64 j)))], [(1, some ⟨0, 0, [[.sl (encL inC g.p), .sl (encL inC g.b), .sl (encL ndC g.n), .sl (encL egC g.e)]]⟩), (34, some ⟨67, 1, encL tbC T⟩)], []⟩) (by (refine wk_of [] ?_ ?_ ?_ ?_ ?_ <;> (simp only [false_and, and_false, and_self, XC, XD, XE, XF, XG, XH, XI, convK, XJ, XK, XL, XM, XN, look, XO, XP, XR, XS, XT, XU, XV, encL_nil, encL_app, encL_cons, List.length_append, gdS, put1, sv, gs, gb, QK, setAt, bad, dem, QP, QR, QS, QT, QU, QV, QW, QY, Q2, Q3, lf, lfs, pOk, Nat.reduceBEq, XA, XB, keep, kp, cand, cor, List.map, List.append, Option.bind, ↓reduceIte, Nat.reduceEqDiff, Nat.reduceAdd, Nat.reduceMul, Nat.reduceLT, Nat.reduceLeDiff, reduceCtorEq, Int.reduceLT, Int.reduceLE, Int.reduceBEq, Int.reduceBNe, Int.reduceAdd, Int.reduceSub, Int.reduceToNat, dq, htk3, hRl, encL_len, lfL_encL, Nat.le_refl]; try trivial)); try rfl) ?_
      (have F := An9 @i2n @encL_len @c1 @c2 @hlt @cT @c5 @tbE @hsT; refine Re3 ?_; clear F; (repeat with_reducible refine qn ?_); (try with_reducible refine qm ?_); (repeat (with_reducible first | apply qa | apply qb | apply qc | apply qd | apply qe)))
      (have F := @ew; refine Re3 ?_; clear F; (repeat with_reducible refine qn ?_); (try with_reducible refine qm ?_); (repeat (with_reducible first | apply qa | apply qb | apply qc | apply qd | apply qe)))
      refine ⟨j + 1, ⟨hlt, by omega⟩, ?_⟩
      rw [hm2]
      obtain ⟨sl2, hsl2⟩ : ∃ q, tb.take (j + 1) ++ List.replicate m [] = q := ⟨_, rfl⟩
      rw [hsl2]
      (refine wk_of [] ?_ ?_ ?_ ?_ ?_ <;> (simp only [false_and, and_false, and_self, XC, XD, XE, XF, XG, XH, XI, convK, XJ, XK, XL, XM, XN, look, XO, XP, XR, XS, XT, XU, XV, encL_nil, encL_app, encL_cons, List.length_append, gdS, put1, sv, gs, gb, QK, setAt, bad, dem, QP, QR, QS, QT, QU, QV, QW, QY, Q2, Q3, lf, lfs, pOk, Nat.reduceBEq, XA, XB, keep, kp, cand, cor, List.map, List.append, Option.bind, ↓reduceIte, Nat.reduceEqDiff, Nat.reduceAdd, Nat.reduceMul, Nat.reduceLT, Nat.reduceLeDiff, reduceCtorEq, Int.reduceLT, Int.reduceLE, Int.reduceBEq, Int.reduceBNe, Int.reduceAdd, Int.reduceSub, Int.reduceToNat, dq]; try trivial))
    obtain rfl : j = g.n.length := by omega
    have d1 : decide ((g.n.length : Int) < (g.n.length : Int)) = false := decide_eq_false (by omega)
    have e2 : tb.take g.n.length ++ List.replicate (g.n.length - g.n.length) [] = tb := by rw [Nat.sub_self, ← htbl, List.take_length]; exact List.append_nil _
    have htk2 : (encL tbC tb).take g.n.length = encL tbC tb := by rw [← htbl, encL_take, List.take_length]
    rw [e2]
    (have F := @d1; refine Rg3 ?_; clear F; (repeat (with_reducible first | apply qa | apply qb | apply qc | apply qd | apply qe)))
    (refine DV.condF rfl (fun _ => rfl) ?_; (repeat (with_reducible first | apply qa | apply qb | apply qc | apply qd | apply qe)))
    (refine DV.exit ?_; (repeat (first | (with_reducible refine thenD_exit' ?_) | (with_reducible refine blockD_other (by decide) ?_))); (with_reducible refine blockD_same ?_); (repeat with_reducible refine qn ?_); (with_reducible refine qm ?_); (repeat (with_reducible first | apply qa | apply qb | apply qc | apply qd | apply qe)))
    (refine Rg2 ?_; (repeat (with_reducible first | apply qa | apply qb | apply qc | apply qd | apply qe)))
    (refine DV.ret ?_; (repeat (first | (with_reducible refine thenD_ret' ?_) | (with_reducible refine blockD_ret' ?_))); (with_reducible refine retD_ret' ?_); try (have F := An5 @htk2 @encL_len @htbl @lfL_encL @Nat.le_refl; refine Rt1 ?_; clear F; try with_reducible exact True.intro))
    try decide
  · exact h.elim
end Go.Proofs.Ytkmgdejpdhlleaa.Dq
