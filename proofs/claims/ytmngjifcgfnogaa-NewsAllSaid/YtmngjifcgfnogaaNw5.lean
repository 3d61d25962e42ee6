/- News by deep values: Come, Know, There, Queue, New, light, awake; the invariant. -/
import Derived.Test.YtmngjifcgfnogaaNw1
import Derived.Test.YtmngjifcgfnogaaChK
namespace Go.Proofs.Ytmngjifcgfnogaa.Dq
set_option linter.unusedSimpArgs false
set_option linter.unusedVariables false
set_option maxRecDepth 100000
open Go.RowKit

def quAt (W : Wd) (f t : Nat) : List (List Fr.Ct) := (((W.qu[f]?).getD [])[t]?).getD []
noncomputable def comeS (W : Wd) (f t : Int) : Wd × Int :=
  if (!(decide (f ≥ 0) && decide (f < W.kn.length)) || !(decide (t ≥ 0) && decide (t < W.kn.length))) = true then (W, 1)
  else match quAt W f.toNat t.toNat with
    | [] => (W, 12)
    | c :: r => (⟨W.th, W.kn.set t.toNat (Fr.joinS ((W.kn[t.toNat]?).getD []) c), W.qu.set f.toNat (((W.qu[f.toNat]?).getD []).set t.toNat r)⟩, 0)
/-- .. and its lists are not too great. -/
structure Wg (W : Wd) : Prop where
  f : Wf W
  kn : ∀ k ∈ W.kn, k.length ≤ 100000000
  qu : ∀ q ∈ W.qu, ∀ r ∈ q, ∀ c ∈ r, c.length ≤ 1000000
noncomputable def comeD : List S1 → CR × Prop
  | [.ptr W, .c (.int .i64 f), .c (.int .i64 t)] => (.tup [.ptr (wdC.enc (comeS (wdC.dec W) f t).1), .c (.int .i64 (comeS (wdC.dec W) f t).2)], wdC.enc (wdC.dec W) = W ∧ Wg (wdC.dec W))
  | _ => (.one (.c (.bool false)), False)
set_option maxHeartbeats 8000000 in
theorem come_cal (args : List S1) (h : (comeD args).2) : Cal Try.prog 27 args (comeD args).1 := by
  unfold comeD at h ⊢
  split at h
  · next W0 f t =>
    obtain ⟨h1, hw⟩ := h
    obtain ⟨W, rfl⟩ : ∃ x, W0 = wdC.enc x := ⟨_, h1.symm⟩
    rw [wdC.de] at hw
    rw [wdC.de]
    clear h1
    obtain ⟨R, hR⟩ : ∃ R, comeS W f t = R := ⟨_, rfl⟩
    rw [hR]
    unfold comeS at hR
    obtain ⟨th, kn, qu⟩ := W
    obtain ⟨⟨hth, hkn, hql, hqn⟩, hkl, hcl⟩ := hw
    dsimp only at hR hth hkn hql hqn hkl hcl
    have l1 : th.length ≤ 1073741823 := by omega
    have l2 : kn.length ≤ 1000000 := by omega
    have l3 : qu.length ≤ 1000000 := by omega
    have l4 : ∀ x ∈ qu, x.length ≤ 1000000 := fun x hx => by have := (hqn x hx).1; omega
    refine DV.of (Γ := ⟨[(62, wkD), (64, frJ), (65, c1D)], [(63, locF (cpL f.toNat))], []⟩) (rs := [ResultVar.tmp 6, ResultVar.tmp 7]) [0, 1, 2, 6, 7, 8, 9, 12, 24] ⟨by intro p hp; simp only [List.mem_cons, List.not_mem_nil, or_false] at hp; rcases hp with rfl | rfl | rfl; exact wk_cal; exact fr_j; exact c1_cal, by intro p hp args bx d h; simp only [List.mem_singleton] at hp; subst hp; exact calM_loc (cp_g f.toNat) h⟩ (by kernel_rfl) Try.func27 rfl rfl (by kernel_rfl) rfl ?_; (repeat (with_reducible first | refine DV.sseq ?_ | refine DV.sblock ?_ | refine DV.scond ?_ | refine DV.sloop ?_ | refine DV.block ?_))
    (apply DV.seqreg; kernel_rfl; (simp only [wpS, wpT, go1, evS, ev, evCallee, evMove, evPick, evBin, evUn, evConv, evFieldAddr, evField, evIndexAddr, evIndex, evExtract, evLoad, evAlloc, evBox, evStore, evBuild, evLit, evSlice, evLen, evMm, evApp, evCall, evCallF, evMake, evMakeP, evFn, evNil, nilB, gdS, put1, sv, gs, gb, opd, cst, outS, cellsS, okS, asSl, setAt, elsD, elsOb, fillD, bnd, bad, dem, demD, demDs, demB, demC, demCs, demL, deNl, deNls, deNls_enc, stC, refS, refD, refDs, refB, refC, refCs, refL, isSh, isShC, anySh, lf, lfs, argsD, plainD, plains, plainR, plainRs, noMut, srcS, srcOb, asP, pOk, nilP, nilOk, toCp, ofCp, cpsOb, elsLf, lfs_enc, lfL_encL, lfL_nil, lfL_app, lfL_cons, demDs_enc, refDs_enc, encL_set, Nat.reduceBEq, cv, cvL, wrL, isOwn, argsOb, appOb, slim1, argsS, keep, kp, cand, cor, List.map, List.append, Option.bind, ↓reduceIte, Nat.reduceEqDiff, Nat.reduceAdd, Nat.reduceMul, Nat.reduceLT, Nat.reduceLeDiff, reduceCtorEq, Int.reduceLT, Int.reduceLE, Int.reduceBEq, Int.reduceBNe, Int.reduceAdd, Int.reduceSub, allK_nil, allK_cons, Int.reduceToNat, dq, tya, wkD, frJ, c1D, cpL, wdE]; exact rfl); (repeat (with_reducible first | refine DV.sseq ?_ | refine DV.sblock ?_ | refine DV.scond ?_ | refine DV.sloop ?_ | refine DV.block ?_)))
    (apply DV.seqreg; kernel_rfl; (simp only [wpS, wpT, go1, evS, ev, evCallee, evMove, evPick, evBin, evUn, evConv, evFieldAddr, evField, evIndexAddr, evIndex, evExtract, evLoad, evAlloc, evBox, evStore, evBuild, evLit, evSlice, evLen, evMm, evApp, evCall, evCallF, evMake, evMakeP, evFn, evNil, nilB, gdS, put1, sv, gs, gb, opd, cst, outS, cellsS, okS, asSl, setAt, elsD, elsOb, fillD, bnd, bad, dem, demD, demDs, demB, demC, demCs, demL, deNl, deNls, deNls_enc, stC, refS, refD, refDs, refB, refC, refCs, refL, isSh, isShC, anySh, lf, lfs, argsD, plainD, plains, plainR, plainRs, noMut, srcS, srcOb, asP, pOk, nilP, nilOk, toCp, ofCp, cpsOb, elsLf, lfs_enc, lfL_encL, lfL_nil, lfL_app, lfL_cons, demDs_enc, refDs_enc, encL_set, Nat.reduceBEq, cv, cvL, wrL, isOwn, argsOb, appOb, slim1, argsS, keep, kp, cand, cor, List.map, List.append, Option.bind, ↓reduceIte, Nat.reduceEqDiff, Nat.reduceAdd, Nat.reduceMul, Nat.reduceLT, Nat.reduceLeDiff, reduceCtorEq, Int.reduceLT, Int.reduceLE, Int.reduceBEq, Int.reduceBNe, Int.reduceAdd, Int.reduceSub, allK_nil, allK_cons, Int.reduceToNat, dq, tya, wkD, frJ, c1D, cpL]; exact rfl); (repeat (with_reducible first | refine DV.sseq ?_ | refine DV.sblock ?_ | refine DV.scond ?_ | refine DV.sloop ?_ | refine DV.block ?_)))
    (refine DV.condF rfl (fun _ => rfl) ?_; (repeat (with_reducible first | refine DV.sseq ?_ | refine DV.sblock ?_ | refine DV.scond ?_ | refine DV.sloop ?_ | refine DV.block ?_)))
    (apply DV.seqreg; kernel_rfl; (simp only [wpS, wpT, go1, evS, ev, evCallee, evMove, evPick, evBin, evUn, evConv, evFieldAddr, evField, evIndexAddr, evIndex, evExtract, evLoad, evAlloc, evBox, evStore, evBuild, evLit, evSlice, evLen, evMm, evApp, evCall, evCallF, evMake, evMakeP, evFn, evNil, nilB, gdS, put1, sv, gs, gb, opd, cst, outS, cellsS, okS, asSl, setAt, elsD, elsOb, fillD, bnd, bad, dem, demD, demDs, demB, demC, demCs, demL, deNl, deNls, deNls_enc, stC, refS, refD, refDs, refB, refC, refCs, refL, isSh, isShC, anySh, lf, lfs, argsD, plainD, plains, plainR, plainRs, noMut, srcS, srcOb, asP, pOk, nilP, nilOk, toCp, ofCp, cpsOb, elsLf, lfs_enc, lfL_encL, lfL_nil, lfL_app, lfL_cons, demDs_enc, refDs_enc, encL_set, Nat.reduceBEq, cv, cvL, wrL, isOwn, argsOb, appOb, slim1, argsS, keep, kp, cand, cor, List.map, List.append, Option.bind, ↓reduceIte, Nat.reduceEqDiff, Nat.reduceAdd, Nat.reduceMul, Nat.reduceLT, Nat.reduceLeDiff, reduceCtorEq, Int.reduceLT, Int.reduceLE, Int.reduceBEq, Int.reduceBNe, Int.reduceAdd, Int.reduceSub, allK_nil, allK_cons, Int.reduceToNat, dq, tya, wkD, frJ, c1D, cpL, encL_len]; exact rfl); (repeat (with_reducible first | refine DV.sseq ?_ | refine DV.sblock ?_ | refine DV.scond ?_ | refine DV.sloop ?_ | refine DV.block ?_)))
    (refine DV.cond rfl (fun _ => rfl) (fun hb => ?_) (fun hb => ?_))
    · (apply DV.seqreg; kernel_rfl; (simp only [wpS, wpT, go1, evS, ev, evCallee, evMove, evPick, evBin, evUn, evConv, evFieldAddr, evField, evIndexAddr, evIndex, evExtract, evLoad, evAlloc, evBox, evStore, evBuild, evLit, evSlice, evLen, evMm, evApp, evCall, evCallF, evMake, evMakeP, evFn, evNil, nilB, gdS, put1, sv, gs, gb, opd, cst, outS, cellsS, okS, asSl, setAt, elsD, elsOb, fillD, bnd, bad, dem, demD, demDs, demB, demC, demCs, demL, deNl, deNls, deNls_enc, stC, refS, refD, refDs, refB, refC, refCs, refL, isSh, isShC, anySh, lf, lfs, argsD, plainD, plains, plainR, plainRs, noMut, srcS, srcOb, asP, pOk, nilP, nilOk, toCp, ofCp, cpsOb, elsLf, lfs_enc, lfL_encL, lfL_nil, lfL_app, lfL_cons, demDs_enc, refDs_enc, encL_set, Nat.reduceBEq, cv, cvL, wrL, isOwn, argsOb, appOb, slim1, argsS, keep, kp, cand, cor, List.map, List.append, Option.bind, ↓reduceIte, Nat.reduceEqDiff, Nat.reduceAdd, Nat.reduceMul, Nat.reduceLT, Nat.reduceLeDiff, reduceCtorEq, Int.reduceLT, Int.reduceLE, Int.reduceBEq, Int.reduceBNe, Int.reduceAdd, Int.reduceSub, allK_nil, allK_cons, Int.reduceToNat, dq, tya, wkD, frJ, c1D, cpL]; exact rfl); (repeat (with_reducible first | refine DV.sseq ?_ | refine DV.sblock ?_ | refine DV.scond ?_ | refine DV.sloop ?_ | refine DV.block ?_)))
      (refine DV.ret ?_; (repeat (first | (with_reducible refine thenD_ret' ?_) | (with_reducible refine blockD_ret' ?_))); (with_reducible refine retD_ret' ?_); (try simp only [resOk, resL, rvS, toR, noMu, wpS, wpT, go1, evS, ev, evCallee, evMove, evPick, evBin, evUn, evConv, evFieldAddr, evField, evIndexAddr, evIndex, evExtract, evLoad, evAlloc, evBox, evStore, evBuild, evLit, evSlice, evLen, evMm, evApp, evCall, evCallF, evMake, evMakeP, evFn, evNil, nilB, gdS, put1, sv, gs, gb, opd, cst, outS, cellsS, okS, asSl, setAt, elsD, elsOb, fillD, bnd, bad, dem, demD, demDs, demB, demC, demCs, demL, deNl, deNls, deNls_enc, stC, refS, refD, refDs, refB, refC, refCs, refL, isSh, isShC, anySh, lf, lfs, argsD, plainD, plains, plainR, plainRs, noMut, srcS, srcOb, asP, pOk, nilP, nilOk, toCp, ofCp, cpsOb, elsLf, lfs_enc, lfL_encL, lfL_nil, lfL_app, lfL_cons, demDs_enc, refDs_enc, encL_set, Nat.reduceBEq, cv, cvL, wrL, isOwn, argsOb, appOb, slim1, argsS, keep, kp, cand, cor, List.map, List.append, Option.bind, ↓reduceIte, Nat.reduceEqDiff, Nat.reduceAdd, Nat.reduceMul, Nat.reduceLT, Nat.reduceLeDiff, reduceCtorEq, Int.reduceLT, Int.reduceLE, Int.reduceBEq, Int.reduceBNe, Int.reduceAdd, Int.reduceSub, allK_nil, allK_cons, Int.reduceToNat, dq, tya, wkD, frJ, c1D, cpL, wdE]))
      rw [← hR, if_pos hb]
      exact ⟨by decide, ⟨rfl, rfl, rfl⟩, rfl⟩
    rw [if_neg (by rw [hb]; decide)] at hR
    have hw2 : (0 ≤ f ∧ f < kn.length) ∧ 0 ≤ t ∧ t < kn.length := by
      simp only [Bool.or_eq_false_iff, Bool.not_eq_false', Bool.and_eq_true, decide_eq_true_eq] at hb
      exact ⟨⟨hb.1.1, hb.1.2⟩, hb.2.1, hb.2.2⟩
    obtain ⟨⟨f0, f1⟩, t0, t1⟩ := hw2
    obtain ⟨f, rfl⟩ := Int.eq_ofNat_of_zero_le f0
    obtain ⟨t, rfl⟩ := Int.eq_ofNat_of_zero_le t0
    clear hb
    have hfq : f < qu.length := by omega
    have htk : t < kn.length := by omega
    obtain ⟨qf, hqf⟩ : ∃ q, qu[f]? = some q := ⟨qu[f], List.getElem?_eq_getElem _⟩
    obtain ⟨hqfl, hqfr⟩ := hqn qf (List.mem_of_getElem? hqf)
    have htq : t < qf.length := by omega
    obtain ⟨q, hq⟩ : ∃ q, qf[t]? = some q := ⟨qf[t], List.getElem?_eq_getElem _⟩
    obtain ⟨k, hk⟩ : ∃ q, kn[t]? = some q := ⟨kn[t], List.getElem?_eq_getElem _⟩
    have hqa : quAt ⟨th, kn, qu⟩ (f : Int).toNat (t : Int).toNat = q := by
      unfold quAt
      rw [i2n, i2n]
      dsimp only
      rw [hqf, Option.getD_some, hq, Option.getD_some]
    rw [hqa, i2n, i2n, hqf, Option.getD_some, hk, Option.getD_some] at hR
    clear hqa
    have w1 : (f : Int) < (qu.length : Int) := by omega
    have w2 : (t : Int) < (qf.length : Int) := by omega
    have w3 : (t : Int) < (kn.length : Int) := by omega
    have e1 : (encL fC qu)[f]? = some [.sl (encL qC qf)] := encL_get (C := fC) hqf
    have e2 : (encL qC qf)[t]? = some [.sl (encL nwC q)] := encL_get (C := qC) hq
    have e3 : (encL nwC kn)[t]? = some [.sl (encL ctC k)] := encL_get (C := nwC) hk
    cases q with
    | nil =>
      dsimp only at hR
      (apply DV.seqreg; kernel_rfl; (simp only [wpS, wpT, go1, evS, ev, evCallee, evMove, evPick, evBin, evUn, evConv, evFieldAddr, evField, evIndexAddr, evIndex, evExtract, evLoad, evAlloc, evBox, evStore, evBuild, evLit, evSlice, evLen, evMm, evApp, evCall, evCallF, evMake, evMakeP, evFn, evNil, nilB, gdS, put1, sv, gs, gb, opd, cst, outS, cellsS, okS, asSl, setAt, elsD, elsOb, fillD, bnd, bad, dem, demD, demDs, demB, demC, demCs, demL, deNl, deNls, deNls_enc, stC, refS, refD, refDs, refB, refC, refCs, refL, isSh, isShC, anySh, lf, lfs, argsD, plainD, plains, plainR, plainRs, noMut, srcS, srcOb, asP, pOk, nilP, nilOk, toCp, ofCp, cpsOb, elsLf, lfs_enc, lfL_encL, lfL_nil, lfL_app, lfL_cons, demDs_enc, refDs_enc, encL_set, Nat.reduceBEq, cv, cvL, wrL, isOwn, argsOb, appOb, slim1, argsS, keep, kp, cand, cor, List.map, List.append, Option.bind, ↓reduceIte, Nat.reduceEqDiff, Nat.reduceAdd, Nat.reduceMul, Nat.reduceLT, Nat.reduceLeDiff, reduceCtorEq, Int.reduceLT, Int.reduceLE, Int.reduceBEq, Int.reduceBNe, Int.reduceAdd, Int.reduceSub, allK_nil, allK_cons, Int.reduceToNat, dq, tya, wkD, frJ, c1D, cpL, i2n, f0, t0, w1, w2, e1, e2, encL_len, List.length_nil, encL_nil, n0, beq_self_eq_true]; exact rfl); (repeat (with_reducible first | refine DV.sseq ?_ | refine DV.sblock ?_ | refine DV.scond ?_ | refine DV.sloop ?_ | refine DV.block ?_)))
      (refine DV.condT rfl (fun _ => rfl) ?_; (repeat (with_reducible first | refine DV.sseq ?_ | refine DV.sblock ?_ | refine DV.scond ?_ | refine DV.sloop ?_ | refine DV.block ?_)))
      (apply DV.seqreg; kernel_rfl; (simp only [wpS, wpT, go1, evS, ev, evCallee, evMove, evPick, evBin, evUn, evConv, evFieldAddr, evField, evIndexAddr, evIndex, evExtract, evLoad, evAlloc, evBox, evStore, evBuild, evLit, evSlice, evLen, evMm, evApp, evCall, evCallF, evMake, evMakeP, evFn, evNil, nilB, gdS, put1, sv, gs, gb, opd, cst, outS, cellsS, okS, asSl, setAt, elsD, elsOb, fillD, bnd, bad, dem, demD, demDs, demB, demC, demCs, demL, deNl, deNls, deNls_enc, stC, refS, refD, refDs, refB, refC, refCs, refL, isSh, isShC, anySh, lf, lfs, argsD, plainD, plains, plainR, plainRs, noMut, srcS, srcOb, asP, pOk, nilP, nilOk, toCp, ofCp, cpsOb, elsLf, lfs_enc, lfL_encL, lfL_nil, lfL_app, lfL_cons, demDs_enc, refDs_enc, encL_set, Nat.reduceBEq, cv, cvL, wrL, isOwn, argsOb, appOb, slim1, argsS, keep, kp, cand, cor, List.map, List.append, Option.bind, ↓reduceIte, Nat.reduceEqDiff, Nat.reduceAdd, Nat.reduceMul, Nat.reduceLT, Nat.reduceLeDiff, reduceCtorEq, Int.reduceLT, Int.reduceLE, Int.reduceBEq, Int.reduceBNe, Int.reduceAdd, Int.reduceSub, allK_nil, allK_cons, Int.reduceToNat, dq, tya, wkD, frJ, c1D, cpL]; exact rfl); (repeat (with_reducible first | refine DV.sseq ?_ | refine DV.sblock ?_ | refine DV.scond ?_ | refine DV.sloop ?_ | refine DV.block ?_)))
      (refine DV.ret ?_; (repeat (first | (with_reducible refine thenD_ret' ?_) | (with_reducible refine blockD_ret' ?_))); (with_reducible refine retD_ret' ?_); (try simp only [resOk, resL, rvS, toR, noMu, wpS, wpT, go1, evS, ev, evCallee, evMove, evPick, evBin, evUn, evConv, evFieldAddr, evField, evIndexAddr, evIndex, evExtract, evLoad, evAlloc, evBox, evStore, evBuild, evLit, evSlice, evLen, evMm, evApp, evCall, evCallF, evMake, evMakeP, evFn, evNil, nilB, gdS, put1, sv, gs, gb, opd, cst, outS, cellsS, okS, asSl, setAt, elsD, elsOb, fillD, bnd, bad, dem, demD, demDs, demB, demC, demCs, demL, deNl, deNls, deNls_enc, stC, refS, refD, refDs, refB, refC, refCs, refL, isSh, isShC, anySh, lf, lfs, argsD, plainD, plains, plainR, plainRs, noMut, srcS, srcOb, asP, pOk, nilP, nilOk, toCp, ofCp, cpsOb, elsLf, lfs_enc, lfL_encL, lfL_nil, lfL_app, lfL_cons, demDs_enc, refDs_enc, encL_set, Nat.reduceBEq, cv, cvL, wrL, isOwn, argsOb, appOb, slim1, argsS, keep, kp, cand, cor, List.map, List.append, Option.bind, ↓reduceIte, Nat.reduceEqDiff, Nat.reduceAdd, Nat.reduceMul, Nat.reduceLT, Nat.reduceLeDiff, reduceCtorEq, Int.reduceLT, Int.reduceLE, Int.reduceBEq, Int.reduceBNe, Int.reduceAdd, Int.reduceSub, allK_nil, allK_cons, Int.reduceToNat, dq, tya, wkD, frJ, c1D, cpL, wdE]))
      rw [← hR]
      exact ⟨by decide, ⟨rfl, rfl, rfl⟩, rfl⟩
    | cons c r =>
      dsimp only at hR
      have hne : (((r.length + 1 : Nat) : Int) == 0) = false := beq_eq_false_iff_ne.2 (by omega)
      have hrl := hqfr (c :: r) (List.mem_of_getElem? hq)
      have hkk := hkl k (List.mem_of_getElem? hk)
      have hcc := hcl qf (List.mem_of_getElem? hqf) (c :: r) (List.mem_of_getElem? hq) c List.mem_cons_self
      have l5 : k.length + c.length ≤ 1073741823 := by omega
      have l6 : r.length ≤ 1073741823 := by simp at hrl; omega
      have e4 : encL nwC (c :: r) = [.sl (encL ctC c)] :: encL nwC r := rfl
      have hgw : ((encL fC qu).set f [D.lk 300039 qf.length])[f]? = some [D.lk 300039 qf.length] := List.getElem?_set_self (by rw [encL_len]; exact hfq)
      have b1 : (0 : Int) < ((r.length + 1 : Nat) : Int) := by omega
      have b2 : (1 : Int) ≤ ((r.length + 1 : Nat) : Int) := by omega
      have b3 : (0 : Int) ≤ 1 := by decide
      have b4 : (1 : Int).toNat = 1 := rfl
      have a3 := sl_all (C := ctC) r
      have a4 := sl_all (C := ctC) (c :: r)
      have hlr : (encL nwC (c :: r)).length = (c :: r).length := encL_len _
      have hks : (encL nwC kn).set t [.sl (encL ctC (Fr.joinS k c))] = encL nwC (kn.set t (Fr.joinS k c)) := encL_set (C := nwC) (y := Fr.joinS k c)
      (apply DV.seqreg; kernel_rfl; (simp only [wpS, wpT, go1, evS, ev, evCallee, evMove, evPick, evBin, evUn, evConv, evFieldAddr, evField, evIndexAddr, evIndex, evExtract, evLoad, evAlloc, evBox, evStore, evBuild, evLit, evSlice, evLen, evMm, evApp, evCall, evCallF, evMake, evMakeP, evFn, evNil, nilB, gdS, put1, sv, gs, gb, opd, cst, outS, cellsS, okS, asSl, setAt, elsD, elsOb, fillD, bnd, bad, dem, demD, demDs, demB, demC, demCs, demL, deNl, deNls, deNls_enc, stC, refS, refD, refDs, refB, refC, refCs, refL, isSh, isShC, anySh, lf, lfs, argsD, plainD, plains, plainR, plainRs, noMut, srcS, srcOb, asP, pOk, nilP, nilOk, toCp, ofCp, cpsOb, elsLf, lfs_enc, lfL_encL, lfL_nil, lfL_app, lfL_cons, demDs_enc, refDs_enc, encL_set, Nat.reduceBEq, cv, cvL, wrL, isOwn, argsOb, appOb, slim1, argsS, keep, kp, cand, cor, List.map, List.append, Option.bind, ↓reduceIte, Nat.reduceEqDiff, Nat.reduceAdd, Nat.reduceMul, Nat.reduceLT, Nat.reduceLeDiff, reduceCtorEq, Int.reduceLT, Int.reduceLE, Int.reduceBEq, Int.reduceBNe, Int.reduceAdd, Int.reduceSub, allK_nil, allK_cons, Int.reduceToNat, dq, tya, wkD, frJ, c1D, cpL, i2n, f0, t0, w1, w2, e1, e2, encL_len, hne]; exact rfl); (repeat (with_reducible first | refine DV.sseq ?_ | refine DV.sblock ?_ | refine DV.scond ?_ | refine DV.sloop ?_ | refine DV.block ?_)))
      (refine DV.condF rfl (fun _ => rfl) ?_; (repeat (with_reducible first | refine DV.sseq ?_ | refine DV.sblock ?_ | refine DV.scond ?_ | refine DV.sloop ?_ | refine DV.block ?_)))
      (refine DV.skip ?_; (repeat (with_reducible refine blockD_norm' ?_)); (with_reducible refine thenD_norm' ?_); (repeat (with_reducible first | refine DV.sseq ?_ | refine DV.sblock ?_ | refine DV.scond ?_ | refine DV.sloop ?_ | refine DV.block ?_)))
      (apply DV.seqreg; kernel_rfl; (simp only [wpS, wpT, go1, evS, ev, evCallee, evMove, evPick, evBin, evUn, evConv, evFieldAddr, evField, evIndexAddr, evIndex, evExtract, evLoad, evAlloc, evBox, evStore, evBuild, evLit, evSlice, evLen, evMm, evApp, evCall, evCallF, evMake, evMakeP, evFn, evNil, nilB, gdS, put1, sv, gs, gb, opd, cst, outS, cellsS, okS, asSl, setAt, elsD, elsOb, fillD, bnd, bad, dem, demD, demDs, demB, demC, demCs, demL, deNl, deNls, deNls_enc, stC, refS, refD, refDs, refB, refC, refCs, refL, isSh, isShC, anySh, lf, lfs, argsD, plainD, plains, plainR, plainRs, noMut, srcS, srcOb, asP, pOk, nilP, nilOk, toCp, ofCp, cpsOb, elsLf, lfs_enc, lfL_encL, lfL_nil, lfL_app, lfL_cons, demDs_enc, refDs_enc, encL_set, Nat.reduceBEq, cv, cvL, wrL, isOwn, argsOb, appOb, slim1, argsS, keep, kp, cand, cor, List.map, List.append, Option.bind, ↓reduceIte, Nat.reduceEqDiff, Nat.reduceAdd, Nat.reduceMul, Nat.reduceLT, Nat.reduceLeDiff, reduceCtorEq, Int.reduceLT, Int.reduceLE, Int.reduceBEq, Int.reduceBNe, Int.reduceAdd, Int.reduceSub, allK_nil, allK_cons, Int.reduceToNat, dq, tya, wkD, frJ, c1D, cpL, locF, renV, renSs, renS, renDs, renD, renCs, renC, renL_nil, renL_cons, renL_app, renL_encL, renL_set, renDs_enc, rkV, rkSs, rkS, rkDs, rkD, rkCs, rkC, rkL_nil, rkL_cons, rkL_app, rkL_encL, rkL_set, rkDs_enc, refTs, refT, locs, swp, bsOf, insOk, bijOk, outsOf, freshOk, wbOut, rkB, deadB, i2n, decL_encL, isL_enc, l1, l2, l3, hfq, hqf, encL_len]; exact ⟨⟨l4, of_eq_true (rkL_set ⟨rfl, trivial⟩)⟩, rfl⟩); (repeat (with_reducible first | refine DV.sseq ?_ | refine DV.sblock ?_ | refine DV.scond ?_ | refine DV.sloop ?_ | refine DV.block ?_)))
      (apply DV.seqdrw; kernel_rfl; kernel_rfl; (simp only [wpS, wpT, go1, evS, ev, evCallee, evMove, evPick, evBin, evUn, evConv, evFieldAddr, evField, evIndexAddr, evIndex, evExtract, evLoad, evAlloc, evBox, evStore, evBuild, evLit, evSlice, evLen, evMm, evApp, evCall, evCallF, evMake, evMakeP, evFn, evNil, nilB, gdS, put1, sv, gs, gb, opd, cst, outS, cellsS, okS, asSl, setAt, elsD, elsOb, fillD, bnd, bad, dem, demD, demDs, demB, demC, demCs, demL, deNl, deNls, deNls_enc, stC, refS, refD, refDs, refB, refC, refCs, refL, isSh, isShC, anySh, lf, lfs, argsD, plainD, plains, plainR, plainRs, noMut, srcS, srcOb, asP, pOk, nilP, nilOk, toCp, ofCp, cpsOb, elsLf, lfs_enc, lfL_encL, lfL_nil, lfL_app, lfL_cons, demDs_enc, refDs_enc, encL_set, Nat.reduceBEq, cv, cvL, wrL, isOwn, argsOb, appOb, slim1, argsS, keep, kp, cand, cor, List.map, List.append, Option.bind, ↓reduceIte, Nat.reduceEqDiff, Nat.reduceAdd, Nat.reduceMul, Nat.reduceLT, Nat.reduceLeDiff, reduceCtorEq, Int.reduceLT, Int.reduceLE, Int.reduceBEq, Int.reduceBNe, Int.reduceAdd, Int.reduceSub, allK_nil, allK_cons, Int.reduceToNat, dq, tya, wkD, frJ, c1D, cpL, i2n, f0, t0, w1, w2, w3, e1, e2, e3, e4, b1, htk, l5, hks, encL_len, decL_encL, isL_enc, List.length_set]; exact ⟨rfl, rfl⟩); kernel_rfl; (repeat (with_reducible first | refine DV.sseq ?_ | refine DV.sblock ?_ | refine DV.scond ?_ | refine DV.sloop ?_ | refine DV.block ?_)))
      have htl : (encL nwC r).take r.length = encL nwC r := List.take_of_length_le (by rw [encL_len]; exact Nat.le_refl _)
      have e5 : (encL qC qf)[t]? = some [.sl ([.sl (encL ctC c)] :: encL nwC r)] := e2
      (apply DV.seqdrw; kernel_rfl; kernel_rfl; (simp only [wpS, wpT, go1, evS, ev, evCallee, evMove, evPick, evBin, evUn, evConv, evFieldAddr, evField, evIndexAddr, evIndex, evExtract, evLoad, evAlloc, evBox, evStore, evBuild, evLit, evSlice, evLen, evMm, evApp, evCall, evCallF, evMake, evMakeP, evFn, evNil, nilB, gdS, put1, sv, gs, gb, opd, cst, outS, cellsS, okS, asSl, setAt, elsD, elsOb, fillD, bnd, bad, dem, demD, demDs, demB, demC, demCs, demL, deNl, deNls, deNls_enc, stC, refS, refD, refDs, refB, refC, refCs, refL, isSh, isShC, anySh, lf, lfs, argsD, plainD, plains, plainR, plainRs, noMut, srcS, srcOb, asP, pOk, nilP, nilOk, toCp, ofCp, cpsOb, elsLf, lfs_enc, lfL_encL, lfL_nil, lfL_app, lfL_cons, demDs_enc, refDs_enc, encL_set, Nat.reduceBEq, cv, cvL, wrL, isOwn, argsOb, appOb, slim1, argsS, keep, kp, cand, cor, List.map, List.append, Option.bind, ↓reduceIte, Nat.reduceEqDiff, Nat.reduceAdd, Nat.reduceMul, Nat.reduceLT, Nat.reduceLeDiff, reduceCtorEq, Int.reduceLT, Int.reduceLE, Int.reduceBEq, Int.reduceBNe, Int.reduceAdd, Int.reduceSub, allK_nil, allK_cons, Int.reduceToNat, dq, tya, wkD, frJ, c1D, cpL, i2n, f0, t0, w1, w2, w3, e1, e5, b1, b2, b3, b4, a3, l6, hfq, hgw, htq, htl, Int.le_refl, encL_len, List.length_set]; exact ⟨rfl, rfl⟩); kernel_rfl; (repeat (with_reducible first | refine DV.sseq ?_ | refine DV.sblock ?_ | refine DV.scond ?_ | refine DV.sloop ?_ | refine DV.block ?_)))
      have hs1 : (encL qC qf).set t [.sl (encL nwC r)] = encL qC (qf.set t r) := encL_set (C := qC) (y := r)
      have hs2 : (encL fC qu).set f [.sl (encL qC (qf.set t r))] = encL fC (qu.set f (qf.set t r)) := encL_set (C := fC) (y := qf.set t r)
      have hts : (qf.set t r).take qf.length = qf.set t r := List.take_of_length_le (by rw [List.length_set]; exact Nat.le_refl _)
      have htq2 : (qu.set f (qf.set t r)).take qu.length = qu.set f (qf.set t r) := List.take_of_length_le (by rw [List.length_set]; exact Nat.le_refl _)
      have htk2 : (kn.set t (Fr.joinS k c)).take kn.length = kn.set t (Fr.joinS k c) := List.take_of_length_le (by rw [List.length_set]; exact Nat.le_refl _)
      (apply DV.seqreg; kernel_rfl; (simp only [wpS, wpT, go1, evS, ev, evCallee, evMove, evPick, evBin, evUn, evConv, evFieldAddr, evField, evIndexAddr, evIndex, evExtract, evLoad, evAlloc, evBox, evStore, evBuild, evLit, evSlice, evLen, evMm, evApp, evCall, evCallF, evMake, evMakeP, evFn, evNil, nilB, gdS, put1, sv, gs, gb, opd, cst, outS, cellsS, okS, asSl, setAt, elsD, elsOb, fillD, bnd, bad, dem, demD, demDs, demB, demC, demCs, demL, deNl, deNls, deNls_enc, stC, refS, refD, refDs, refB, refC, refCs, refL, isSh, isShC, anySh, lf, lfs, argsD, plainD, plains, plainR, plainRs, noMut, srcS, srcOb, asP, pOk, nilP, nilOk, toCp, ofCp, cpsOb, elsLf, lfs_enc, lfL_encL, lfL_nil, lfL_app, lfL_cons, demDs_enc, refDs_enc, encL_set, Nat.reduceBEq, cv, cvL, wrL, isOwn, argsOb, appOb, slim1, argsS, keep, kp, cand, cor, List.map, List.append, Option.bind, ↓reduceIte, Nat.reduceEqDiff, Nat.reduceAdd, Nat.reduceMul, Nat.reduceLT, Nat.reduceLeDiff, reduceCtorEq, Int.reduceLT, Int.reduceLE, Int.reduceBEq, Int.reduceBNe, Int.reduceAdd, Int.reduceSub, allK_nil, allK_cons, Int.reduceToNat, dq, tya, wkD, frJ, c1D, cpL]; exact rfl); (repeat (with_reducible first | refine DV.sseq ?_ | refine DV.sblock ?_ | refine DV.scond ?_ | refine DV.sloop ?_ | refine DV.block ?_)))
      refine DV.weak (σ' := ⟨[(6, .v true (.box 39 0)), (7, .v true (.c (.int .i64 0)))], [(39, some ⟨0, 0, [[.sl (encL ctC th), .lk 100039 kn.length, .lk 200039 qu.length]]⟩), (100039, some ⟨56, 1, encL nwC (kn.set t (Fr.joinS k c))⟩), (200039, some ⟨72, 1, (encL fC qu).set f [.lk 300039 qf.length]⟩), (300039, some ⟨71, 1, encL qC (qf.set t r)⟩)], []⟩) (by
        (refine wk_of [] ?_ ?_ ?_ ?_ <;> (simp only [wkS, wkB, wkR, convV, convS, convD, convDs, convB, convO, convC, convCs, look, carried, injB, convDs_enc, lkL_encL, lkL_nil, lkL_app, lkL_cons, encL_nil, encL_app, encL_cons, List.length_append, wpS, wpT, go1, evS, ev, evCallee, evMove, evPick, evBin, evUn, evConv, evFieldAddr, evField, evIndexAddr, evIndex, evExtract, evLoad, evAlloc, evBox, evStore, evBuild, evLit, evSlice, evLen, evMm, evApp, evCall, evCallF, evMake, evMakeP, evFn, evNil, nilB, gdS, put1, sv, gs, gb, opd, cst, outS, cellsS, okS, asSl, setAt, elsD, elsOb, fillD, bnd, bad, dem, demD, demDs, demB, demC, demCs, demL, deNl, deNls, deNls_enc, stC, refS, refD, refDs, refB, refC, refCs, refL, isSh, isShC, anySh, lf, lfs, argsD, plainD, plains, plainR, plainRs, noMut, srcS, srcOb, asP, pOk, nilP, nilOk, toCp, ofCp, cpsOb, elsLf, lfs_enc, lfL_encL, lfL_nil, lfL_app, lfL_cons, demDs_enc, refDs_enc, encL_set, Nat.reduceBEq, cv, cvL, wrL, isOwn, argsOb, appOb, slim1, argsS, keep, kp, cand, cor, List.map, List.append, Option.bind, ↓reduceIte, Nat.reduceEqDiff, Nat.reduceAdd, Nat.reduceMul, Nat.reduceLT, Nat.reduceLeDiff, reduceCtorEq, Int.reduceLT, Int.reduceLE, Int.reduceBEq, Int.reduceBNe, Int.reduceAdd, Int.reduceSub, allK_nil, allK_cons, Int.reduceToNat, dq]; try trivial))
        refine ⟨.inl (lkL_set ⟨rfl, rfl⟩), .inr ?_⟩
        rw [← hs1]
        refine convR_frz2 (enc_lf0 _) ?_
        (simp only [convD, demD, carried, look, lfL_encL, encL_take, encL_len, List.take_length, Nat.le_refl, wpS, wpT, go1, evS, ev, evCallee, evMove, evPick, evBin, evUn, evConv, evFieldAddr, evField, evIndexAddr, evIndex, evExtract, evLoad, evAlloc, evBox, evStore, evBuild, evLit, evSlice, evLen, evMm, evApp, evCall, evCallF, evMake, evMakeP, evFn, evNil, nilB, gdS, put1, sv, gs, gb, opd, cst, outS, cellsS, okS, asSl, setAt, elsD, elsOb, fillD, bnd, bad, dem, demD, demDs, demB, demC, demCs, demL, deNl, deNls, deNls_enc, stC, refS, refD, refDs, refB, refC, refCs, refL, isSh, isShC, anySh, lf, lfs, argsD, plainD, plains, plainR, plainRs, noMut, srcS, srcOb, asP, pOk, nilP, nilOk, toCp, ofCp, cpsOb, elsLf, lfs_enc, lfL_encL, lfL_nil, lfL_app, lfL_cons, demDs_enc, refDs_enc, encL_set, Nat.reduceBEq, cv, cvL, wrL, isOwn, argsOb, appOb, slim1, argsS, keep, kp, cand, cor, List.map, List.append, Option.bind, ↓reduceIte, Nat.reduceEqDiff, Nat.reduceAdd, Nat.reduceMul, Nat.reduceLT, Nat.reduceLeDiff, reduceCtorEq, Int.reduceLT, Int.reduceLE, Int.reduceBEq, Int.reduceBNe, Int.reduceAdd, Int.reduceSub, allK_nil, allK_cons, Int.reduceToNat, dq]; try trivial)) ?_
      refine DV.weak (σ' := ⟨[(6, .v true (.box 39 0)), (7, .v true (.c (.int .i64 0)))], [(39, some ⟨0, 0, [[.sl (encL ctC th), .lk 100039 kn.length, .lk 200039 qu.length]]⟩), (100039, some ⟨56, 1, encL nwC (kn.set t (Fr.joinS k c))⟩), (200039, some ⟨72, 1, encL fC (qu.set f (qf.set t r))⟩)], []⟩) (by
        (refine wk_of [] ?_ ?_ ?_ ?_ <;> (simp only [wkS, wkB, wkR, convV, convS, convD, convDs, convB, convO, convC, convCs, look, carried, injB, convDs_enc, lkL_encL, lkL_nil, lkL_app, lkL_cons, encL_nil, encL_app, encL_cons, List.length_append, wpS, wpT, go1, evS, ev, evCallee, evMove, evPick, evBin, evUn, evConv, evFieldAddr, evField, evIndexAddr, evIndex, evExtract, evLoad, evAlloc, evBox, evStore, evBuild, evLit, evSlice, evLen, evMm, evApp, evCall, evCallF, evMake, evMakeP, evFn, evNil, nilB, gdS, put1, sv, gs, gb, opd, cst, outS, cellsS, okS, asSl, setAt, elsD, elsOb, fillD, bnd, bad, dem, demD, demDs, demB, demC, demCs, demL, deNl, deNls, deNls_enc, stC, refS, refD, refDs, refB, refC, refCs, refL, isSh, isShC, anySh, lf, lfs, argsD, plainD, plains, plainR, plainRs, noMut, srcS, srcOb, asP, pOk, nilP, nilOk, toCp, ofCp, cpsOb, elsLf, lfs_enc, lfL_encL, lfL_nil, lfL_app, lfL_cons, demDs_enc, refDs_enc, encL_set, Nat.reduceBEq, cv, cvL, wrL, isOwn, argsOb, appOb, slim1, argsS, keep, kp, cand, cor, List.map, List.append, Option.bind, ↓reduceIte, Nat.reduceEqDiff, Nat.reduceAdd, Nat.reduceMul, Nat.reduceLT, Nat.reduceLeDiff, reduceCtorEq, Int.reduceLT, Int.reduceLE, Int.reduceBEq, Int.reduceBNe, Int.reduceAdd, Int.reduceSub, allK_nil, allK_cons, Int.reduceToNat, dq]; try trivial))
        rw [← hs2]
        refine .inr (convR_frz2 (enc_lf0 _) ?_)
        (simp only [convD, demD, carried, look, lfL_encL, encL_take, encL_len, List.take_length, Nat.le_refl, wpS, wpT, go1, evS, ev, evCallee, evMove, evPick, evBin, evUn, evConv, evFieldAddr, evField, evIndexAddr, evIndex, evExtract, evLoad, evAlloc, evBox, evStore, evBuild, evLit, evSlice, evLen, evMm, evApp, evCall, evCallF, evMake, evMakeP, evFn, evNil, nilB, gdS, put1, sv, gs, gb, opd, cst, outS, cellsS, okS, asSl, setAt, elsD, elsOb, fillD, bnd, bad, dem, demD, demDs, demB, demC, demCs, demL, deNl, deNls, deNls_enc, stC, refS, refD, refDs, refB, refC, refCs, refL, isSh, isShC, anySh, lf, lfs, argsD, plainD, plains, plainR, plainRs, noMut, srcS, srcOb, asP, pOk, nilP, nilOk, toCp, ofCp, cpsOb, elsLf, lfs_enc, lfL_encL, lfL_nil, lfL_app, lfL_cons, demDs_enc, refDs_enc, encL_set, Nat.reduceBEq, cv, cvL, wrL, isOwn, argsOb, appOb, slim1, argsS, keep, kp, cand, cor, List.map, List.append, Option.bind, ↓reduceIte, Nat.reduceEqDiff, Nat.reduceAdd, Nat.reduceMul, Nat.reduceLT, Nat.reduceLeDiff, reduceCtorEq, Int.reduceLT, Int.reduceLE, Int.reduceBEq, Int.reduceBNe, Int.reduceAdd, Int.reduceSub, allK_nil, allK_cons, Int.reduceToNat, dq, hts, List.length_set]; try trivial)) ?_
      (refine DV.ret ?_; (repeat (first | (with_reducible refine thenD_ret' ?_) | (with_reducible refine blockD_ret' ?_))); (with_reducible refine retD_ret' ?_); (try simp only [resOk, resL, rvS, toR, noMu, wpS, wpT, go1, evS, ev, evCallee, evMove, evPick, evBin, evUn, evConv, evFieldAddr, evField, evIndexAddr, evIndex, evExtract, evLoad, evAlloc, evBox, evStore, evBuild, evLit, evSlice, evLen, evMm, evApp, evCall, evCallF, evMake, evMakeP, evFn, evNil, nilB, gdS, put1, sv, gs, gb, opd, cst, outS, cellsS, okS, asSl, setAt, elsD, elsOb, fillD, bnd, bad, dem, demD, demDs, demB, demC, demCs, demL, deNl, deNls, deNls_enc, stC, refS, refD, refDs, refB, refC, refCs, refL, isSh, isShC, anySh, lf, lfs, argsD, plainD, plains, plainR, plainRs, noMut, srcS, srcOb, asP, pOk, nilP, nilOk, toCp, ofCp, cpsOb, elsLf, lfs_enc, lfL_encL, lfL_nil, lfL_app, lfL_cons, demDs_enc, refDs_enc, encL_set, Nat.reduceBEq, cv, cvL, wrL, isOwn, argsOb, appOb, slim1, argsS, keep, kp, cand, cor, List.map, List.append, Option.bind, ↓reduceIte, Nat.reduceEqDiff, Nat.reduceAdd, Nat.reduceMul, Nat.reduceLT, Nat.reduceLeDiff, reduceCtorEq, Int.reduceLT, Int.reduceLE, Int.reduceBEq, Int.reduceBNe, Int.reduceAdd, Int.reduceSub, allK_nil, allK_cons, Int.reduceToNat, dq, tya, wkD, frJ, c1D, cpL, wdE, encL_len, List.length_set, encL_take, List.take_length, htq2, htk2, Nat.le_refl]))
      rw [← hR]
      exact ⟨by decide, ⟨rfl, rfl, rfl⟩, rfl⟩
  · exact h.elim
def knowS (W : Wd) (k : Int) : List Fr.Ct := if (decide (k ≥ 0) && decide (k < W.kn.length)) = true then (W.kn[k.toNat]?).getD [] else []
def knowD : List S1 → CR × Prop
  | [.ptr W, .c (.int .i64 k)] => (.one (.own 65 6 (encL ctC (knowS (wdC.dec W) k))), wdC.enc (wdC.dec W) = W ∧ ∀ x ∈ (wdC.dec W).kn, x.length ≤ 1073741823)
  | _ => (.one (.c (.bool false)), False)
theorem know_cal (args : List S1) (h : (knowD args).2) : Cal Try.prog 28 args (knowD args).1 := by
  unfold knowD at h ⊢
  split at h
  · next W0 k =>
    obtain ⟨h1, hw⟩ := h
    obtain ⟨W, rfl⟩ : ∃ x, W0 = wdC.enc x := ⟨_, h1.symm⟩
    rw [wdC.de] at hw ⊢
    clear h1
    obtain ⟨R, hR⟩ : ∃ R, knowS W k = R := ⟨_, rfl⟩
    rw [hR]
    unfold knowS at hR
    obtain ⟨th, kn, qu⟩ := W
    dsimp only at hw hR
    refine DV.of (Γ := ⟨[(62, wkD), (59, frC)], [], []⟩) (rs := [ResultVar.tmp 4]) [0, 1, 4, 12] ⟨by intro p hp; simp only [List.mem_cons, List.not_mem_nil, or_false] at hp; rcases hp with rfl | rfl; exact wk_cal; exact fr_c, nofun⟩ (by kernel_rfl) Try.func28 rfl rfl (by kernel_rfl) rfl ?_; (repeat (with_reducible first | refine DV.sseq ?_ | refine DV.sblock ?_ | refine DV.scond ?_ | refine DV.sloop ?_ | refine DV.block ?_))
    (apply DV.seqreg; kernel_rfl; (simp only [wpS, wpT, go1, evS, ev, evCallee, evMove, evPick, evBin, evUn, evConv, evFieldAddr, evField, evIndexAddr, evIndex, evExtract, evLoad, evAlloc, evBox, evStore, evBuild, evLit, evSlice, evLen, evMm, evApp, evCall, evCallF, evMake, evMakeP, evFn, evNil, nilB, gdS, put1, sv, gs, gb, opd, cst, outS, cellsS, okS, asSl, setAt, elsD, elsOb, fillD, bnd, bad, dem, demD, demDs, demB, demC, demCs, demL, deNl, deNls, deNls_enc, stC, refS, refD, refDs, refB, refC, refCs, refL, isSh, isShC, anySh, lf, lfs, argsD, plainD, plains, plainR, plainRs, noMut, srcS, srcOb, asP, pOk, nilP, nilOk, toCp, ofCp, cpsOb, elsLf, lfs_enc, lfL_encL, lfL_nil, lfL_app, lfL_cons, demDs_enc, refDs_enc, encL_set, Nat.reduceBEq, cv, cvL, wrL, isOwn, argsOb, appOb, slim1, argsS, keep, kp, cand, cor, List.map, List.append, Option.bind, ↓reduceIte, Nat.reduceEqDiff, Nat.reduceAdd, Nat.reduceMul, Nat.reduceLT, Nat.reduceLeDiff, reduceCtorEq, Int.reduceLT, Int.reduceLE, Int.reduceBEq, Int.reduceBNe, Int.reduceAdd, Int.reduceSub, allK_nil, allK_cons, Int.reduceToNat, dq, tya, wkD, frC, wdE]; exact rfl); (repeat (with_reducible first | refine DV.sseq ?_ | refine DV.sblock ?_ | refine DV.scond ?_ | refine DV.sloop ?_ | refine DV.block ?_)))
    (apply DV.seqreg; kernel_rfl; (simp only [wpS, wpT, go1, evS, ev, evCallee, evMove, evPick, evBin, evUn, evConv, evFieldAddr, evField, evIndexAddr, evIndex, evExtract, evLoad, evAlloc, evBox, evStore, evBuild, evLit, evSlice, evLen, evMm, evApp, evCall, evCallF, evMake, evMakeP, evFn, evNil, nilB, gdS, put1, sv, gs, gb, opd, cst, outS, cellsS, okS, asSl, setAt, elsD, elsOb, fillD, bnd, bad, dem, demD, demDs, demB, demC, demCs, demL, deNl, deNls, deNls_enc, stC, refS, refD, refDs, refB, refC, refCs, refL, isSh, isShC, anySh, lf, lfs, argsD, plainD, plains, plainR, plainRs, noMut, srcS, srcOb, asP, pOk, nilP, nilOk, toCp, ofCp, cpsOb, elsLf, lfs_enc, lfL_encL, lfL_nil, lfL_app, lfL_cons, demDs_enc, refDs_enc, encL_set, Nat.reduceBEq, cv, cvL, wrL, isOwn, argsOb, appOb, slim1, argsS, keep, kp, cand, cor, List.map, List.append, Option.bind, ↓reduceIte, Nat.reduceEqDiff, Nat.reduceAdd, Nat.reduceMul, Nat.reduceLT, Nat.reduceLeDiff, reduceCtorEq, Int.reduceLT, Int.reduceLE, Int.reduceBEq, Int.reduceBNe, Int.reduceAdd, Int.reduceSub, allK_nil, allK_cons, Int.reduceToNat, dq, tya, wkD, frC, encL_len]; exact rfl); (repeat (with_reducible first | refine DV.sseq ?_ | refine DV.sblock ?_ | refine DV.scond ?_ | refine DV.sloop ?_ | refine DV.block ?_)))
    by_cases hb : (decide (k ≥ 0) && decide (k < (kn.length : Int))) = true
    · rw [if_pos hb] at hR
      simp only [hb, Bool.not_true]
      rw [Bool.and_eq_true, decide_eq_true_eq, decide_eq_true_eq] at hb
      obtain ⟨k0, k1⟩ := hb
      obtain ⟨k, rfl⟩ := Int.eq_ofNat_of_zero_le k0
      obtain ⟨x, hx⟩ : ∃ x, kn[k]? = some x := ⟨kn[k]'(by omega), List.getElem?_eq_getElem _⟩
      rw [i2n, hx, Option.getD_some] at hR
      subst hR
      have hxl := hw x (List.mem_of_getElem? hx)
      have e1 : (encL nwC kn)[k]? = some [.sl (encL ctC x)] := encL_get (C := nwC) hx
      (refine DV.condF rfl (fun _ => rfl) ?_; (repeat (with_reducible first | refine DV.sseq ?_ | refine DV.sblock ?_ | refine DV.scond ?_ | refine DV.sloop ?_ | refine DV.block ?_)))
      (refine DV.skip ?_; (repeat (with_reducible refine blockD_norm' ?_)); (with_reducible refine thenD_norm' ?_); (repeat (with_reducible first | refine DV.sseq ?_ | refine DV.sblock ?_ | refine DV.scond ?_ | refine DV.sloop ?_ | refine DV.block ?_)))
      (apply DV.seqreg; kernel_rfl; (simp only [wpS, wpT, go1, evS, ev, evCallee, evMove, evPick, evBin, evUn, evConv, evFieldAddr, evField, evIndexAddr, evIndex, evExtract, evLoad, evAlloc, evBox, evStore, evBuild, evLit, evSlice, evLen, evMm, evApp, evCall, evCallF, evMake, evMakeP, evFn, evNil, nilB, gdS, put1, sv, gs, gb, opd, cst, outS, cellsS, okS, asSl, setAt, elsD, elsOb, fillD, bnd, bad, dem, demD, demDs, demB, demC, demCs, demL, deNl, deNls, deNls_enc, stC, refS, refD, refDs, refB, refC, refCs, refL, isSh, isShC, anySh, lf, lfs, argsD, plainD, plains, plainR, plainRs, noMut, srcS, srcOb, asP, pOk, nilP, nilOk, toCp, ofCp, cpsOb, elsLf, lfs_enc, lfL_encL, lfL_nil, lfL_app, lfL_cons, demDs_enc, refDs_enc, encL_set, Nat.reduceBEq, cv, cvL, wrL, isOwn, argsOb, appOb, slim1, argsS, keep, kp, cand, cor, List.map, List.append, Option.bind, ↓reduceIte, Nat.reduceEqDiff, Nat.reduceAdd, Nat.reduceMul, Nat.reduceLT, Nat.reduceLeDiff, reduceCtorEq, Int.reduceLT, Int.reduceLE, Int.reduceBEq, Int.reduceBNe, Int.reduceAdd, Int.reduceSub, allK_nil, allK_cons, Int.reduceToNat, dq, tya, wkD, frC, i2n, k0, k1, e1, encL_len, decL_encL, isL_enc, hxl]; exact rfl); (repeat (with_reducible first | refine DV.sseq ?_ | refine DV.sblock ?_ | refine DV.scond ?_ | refine DV.sloop ?_ | refine DV.block ?_)))
      (refine DV.ret ?_; (repeat (first | (with_reducible refine thenD_ret' ?_) | (with_reducible refine blockD_ret' ?_))); (with_reducible refine retD_ret' ?_); (try simp only [resOk, resL, rvS, toR, noMu, wpS, wpT, go1, evS, ev, evCallee, evMove, evPick, evBin, evUn, evConv, evFieldAddr, evField, evIndexAddr, evIndex, evExtract, evLoad, evAlloc, evBox, evStore, evBuild, evLit, evSlice, evLen, evMm, evApp, evCall, evCallF, evMake, evMakeP, evFn, evNil, nilB, gdS, put1, sv, gs, gb, opd, cst, outS, cellsS, okS, asSl, setAt, elsD, elsOb, fillD, bnd, bad, dem, demD, demDs, demB, demC, demCs, demL, deNl, deNls, deNls_enc, stC, refS, refD, refDs, refB, refC, refCs, refL, isSh, isShC, anySh, lf, lfs, argsD, plainD, plains, plainR, plainRs, noMut, srcS, srcOb, asP, pOk, nilP, nilOk, toCp, ofCp, cpsOb, elsLf, lfs_enc, lfL_encL, lfL_nil, lfL_app, lfL_cons, demDs_enc, refDs_enc, encL_set, Nat.reduceBEq, cv, cvL, wrL, isOwn, argsOb, appOb, slim1, argsS, keep, kp, cand, cor, List.map, List.append, Option.bind, ↓reduceIte, Nat.reduceEqDiff, Nat.reduceAdd, Nat.reduceMul, Nat.reduceLT, Nat.reduceLeDiff, reduceCtorEq, Int.reduceLT, Int.reduceLE, Int.reduceBEq, Int.reduceBNe, Int.reduceAdd, Int.reduceSub, allK_nil, allK_cons, Int.reduceToNat, dq, tya, wkD, frC, encL_len]))
    · rw [if_neg hb] at hR
      rw [Bool.not_eq_true] at hb
      simp only [hb, Bool.not_false]
      subst hR
      (refine DV.condT rfl (fun _ => rfl) ?_; (repeat (with_reducible first | refine DV.sseq ?_ | refine DV.sblock ?_ | refine DV.scond ?_ | refine DV.sloop ?_ | refine DV.block ?_)))
      (apply DV.seqreg; kernel_rfl; (simp only [wpS, wpT, go1, evS, ev, evCallee, evMove, evPick, evBin, evUn, evConv, evFieldAddr, evField, evIndexAddr, evIndex, evExtract, evLoad, evAlloc, evBox, evStore, evBuild, evLit, evSlice, evLen, evMm, evApp, evCall, evCallF, evMake, evMakeP, evFn, evNil, nilB, gdS, put1, sv, gs, gb, opd, cst, outS, cellsS, okS, asSl, setAt, elsD, elsOb, fillD, bnd, bad, dem, demD, demDs, demB, demC, demCs, demL, deNl, deNls, deNls_enc, stC, refS, refD, refDs, refB, refC, refCs, refL, isSh, isShC, anySh, lf, lfs, argsD, plainD, plains, plainR, plainRs, noMut, srcS, srcOb, asP, pOk, nilP, nilOk, toCp, ofCp, cpsOb, elsLf, lfs_enc, lfL_encL, lfL_nil, lfL_app, lfL_cons, demDs_enc, refDs_enc, encL_set, Nat.reduceBEq, cv, cvL, wrL, isOwn, argsOb, appOb, slim1, argsS, keep, kp, cand, cor, List.map, List.append, Option.bind, ↓reduceIte, Nat.reduceEqDiff, Nat.reduceAdd, Nat.reduceMul, Nat.reduceLT, Nat.reduceLeDiff, reduceCtorEq, Int.reduceLT, Int.reduceLE, Int.reduceBEq, Int.reduceBNe, Int.reduceAdd, Int.reduceSub, allK_nil, allK_cons, Int.reduceToNat, dq, tya, wkD, frC]; exact rfl); (repeat (with_reducible first | refine DV.sseq ?_ | refine DV.sblock ?_ | refine DV.scond ?_ | refine DV.sloop ?_ | refine DV.block ?_)))
      (refine DV.ret ?_; (repeat (first | (with_reducible refine thenD_ret' ?_) | (with_reducible refine blockD_ret' ?_))); (with_reducible refine retD_ret' ?_); (try simp only [resOk, resL, rvS, toR, noMu, wpS, wpT, go1, evS, ev, evCallee, evMove, evPick, evBin, evUn, evConv, evFieldAddr, evField, evIndexAddr, evIndex, evExtract, evLoad, evAlloc, evBox, evStore, evBuild, evLit, evSlice, evLen, evMm, evApp, evCall, evCallF, evMake, evMakeP, evFn, evNil, nilB, gdS, put1, sv, gs, gb, opd, cst, outS, cellsS, okS, asSl, setAt, elsD, elsOb, fillD, bnd, bad, dem, demD, demDs, demB, demC, demCs, demL, deNl, deNls, deNls_enc, stC, refS, refD, refDs, refB, refC, refCs, refL, isSh, isShC, anySh, lf, lfs, argsD, plainD, plains, plainR, plainRs, noMut, srcS, srcOb, asP, pOk, nilP, nilOk, toCp, ofCp, cpsOb, elsLf, lfs_enc, lfL_encL, lfL_nil, lfL_app, lfL_cons, demDs_enc, refDs_enc, encL_set, Nat.reduceBEq, cv, cvL, wrL, isOwn, argsOb, appOb, slim1, argsS, keep, kp, cand, cor, List.map, List.append, Option.bind, ↓reduceIte, Nat.reduceEqDiff, Nat.reduceAdd, Nat.reduceMul, Nat.reduceLT, Nat.reduceLeDiff, reduceCtorEq, Int.reduceLT, Int.reduceLE, Int.reduceBEq, Int.reduceBNe, Int.reduceAdd, Int.reduceSub, allK_nil, allK_cons, Int.reduceToNat, dq, tya, wkD, frC]))
      rfl
  · exact h.elim
def thereD : List S1 → CR × Prop
  | [.ptr W] => (.one (.own 65 6 (encL ctC (wdC.dec W).th)), wdC.enc (wdC.dec W) = W ∧ (wdC.dec W).th.length ≤ 1073741823)
  | _ => (.one (.c (.bool false)), False)
theorem there_cal (args : List S1) (h : (thereD args).2) : Cal Try.prog 29 args (thereD args).1 := by
  unfold thereD at h ⊢
  split at h
  · next W0 =>
    obtain ⟨h1, hw⟩ := h
    obtain ⟨W, rfl⟩ : ∃ x, W0 = wdC.enc x := ⟨_, h1.symm⟩
    rw [wdC.de] at hw ⊢
    clear h1
    obtain ⟨th, kn, qu⟩ := W
    dsimp only at hw ⊢
    refine DV.of (Γ := ⟨[(59, frC)], [], []⟩) (rs := [ResultVar.tmp 2]) [0, 2, 4] ⟨by intro p hp; simp only [List.mem_singleton] at hp; subst hp; exact fr_c, nofun⟩ (by kernel_rfl) Try.func29 rfl rfl (by kernel_rfl) rfl ?_; (repeat (with_reducible first | refine DV.sseq ?_ | refine DV.sblock ?_ | refine DV.scond ?_ | refine DV.sloop ?_ | refine DV.block ?_))
    (apply DV.seqreg; kernel_rfl; (simp only [wpS, wpT, go1, evS, ev, evCallee, evMove, evPick, evBin, evUn, evConv, evFieldAddr, evField, evIndexAddr, evIndex, evExtract, evLoad, evAlloc, evBox, evStore, evBuild, evLit, evSlice, evLen, evMm, evApp, evCall, evCallF, evMake, evMakeP, evFn, evNil, nilB, gdS, put1, sv, gs, gb, opd, cst, outS, cellsS, okS, asSl, setAt, elsD, elsOb, fillD, bnd, bad, dem, demD, demDs, demB, demC, demCs, demL, deNl, deNls, deNls_enc, stC, refS, refD, refDs, refB, refC, refCs, refL, isSh, isShC, anySh, lf, lfs, argsD, plainD, plains, plainR, plainRs, noMut, srcS, srcOb, asP, pOk, nilP, nilOk, toCp, ofCp, cpsOb, elsLf, lfs_enc, lfL_encL, lfL_nil, lfL_app, lfL_cons, demDs_enc, refDs_enc, encL_set, Nat.reduceBEq, cv, cvL, wrL, isOwn, argsOb, appOb, slim1, argsS, keep, kp, cand, cor, List.map, List.append, Option.bind, ↓reduceIte, Nat.reduceEqDiff, Nat.reduceAdd, Nat.reduceMul, Nat.reduceLT, Nat.reduceLeDiff, reduceCtorEq, Int.reduceLT, Int.reduceLE, Int.reduceBEq, Int.reduceBNe, Int.reduceAdd, Int.reduceSub, allK_nil, allK_cons, Int.reduceToNat, dq, tya, frC, wdE]; exact rfl); (repeat (with_reducible first | refine DV.sseq ?_ | refine DV.sblock ?_ | refine DV.scond ?_ | refine DV.sloop ?_ | refine DV.block ?_)))
    (apply DV.seqreg; kernel_rfl; (simp only [wpS, wpT, go1, evS, ev, evCallee, evMove, evPick, evBin, evUn, evConv, evFieldAddr, evField, evIndexAddr, evIndex, evExtract, evLoad, evAlloc, evBox, evStore, evBuild, evLit, evSlice, evLen, evMm, evApp, evCall, evCallF, evMake, evMakeP, evFn, evNil, nilB, gdS, put1, sv, gs, gb, opd, cst, outS, cellsS, okS, asSl, setAt, elsD, elsOb, fillD, bnd, bad, dem, demD, demDs, demB, demC, demCs, demL, deNl, deNls, deNls_enc, stC, refS, refD, refDs, refB, refC, refCs, refL, isSh, isShC, anySh, lf, lfs, argsD, plainD, plains, plainR, plainRs, noMut, srcS, srcOb, asP, pOk, nilP, nilOk, toCp, ofCp, cpsOb, elsLf, lfs_enc, lfL_encL, lfL_nil, lfL_app, lfL_cons, demDs_enc, refDs_enc, encL_set, Nat.reduceBEq, cv, cvL, wrL, isOwn, argsOb, appOb, slim1, argsS, keep, kp, cand, cor, List.map, List.append, Option.bind, ↓reduceIte, Nat.reduceEqDiff, Nat.reduceAdd, Nat.reduceMul, Nat.reduceLT, Nat.reduceLeDiff, reduceCtorEq, Int.reduceLT, Int.reduceLE, Int.reduceBEq, Int.reduceBNe, Int.reduceAdd, Int.reduceSub, allK_nil, allK_cons, Int.reduceToNat, dq, tya, frC]; exact rfl); (repeat (with_reducible first | refine DV.sseq ?_ | refine DV.sblock ?_ | refine DV.scond ?_ | refine DV.sloop ?_ | refine DV.block ?_)))
    (refine DV.condF rfl (fun _ => rfl) ?_; (repeat (with_reducible first | refine DV.sseq ?_ | refine DV.sblock ?_ | refine DV.scond ?_ | refine DV.sloop ?_ | refine DV.block ?_)))
    (refine DV.skip ?_; (repeat (with_reducible refine blockD_norm' ?_)); (with_reducible refine thenD_norm' ?_); (repeat (with_reducible first | refine DV.sseq ?_ | refine DV.sblock ?_ | refine DV.scond ?_ | refine DV.sloop ?_ | refine DV.block ?_)))
    (apply DV.seqreg; kernel_rfl; (simp only [wpS, wpT, go1, evS, ev, evCallee, evMove, evPick, evBin, evUn, evConv, evFieldAddr, evField, evIndexAddr, evIndex, evExtract, evLoad, evAlloc, evBox, evStore, evBuild, evLit, evSlice, evLen, evMm, evApp, evCall, evCallF, evMake, evMakeP, evFn, evNil, nilB, gdS, put1, sv, gs, gb, opd, cst, outS, cellsS, okS, asSl, setAt, elsD, elsOb, fillD, bnd, bad, dem, demD, demDs, demB, demC, demCs, demL, deNl, deNls, deNls_enc, stC, refS, refD, refDs, refB, refC, refCs, refL, isSh, isShC, anySh, lf, lfs, argsD, plainD, plains, plainR, plainRs, noMut, srcS, srcOb, asP, pOk, nilP, nilOk, toCp, ofCp, cpsOb, elsLf, lfs_enc, lfL_encL, lfL_nil, lfL_app, lfL_cons, demDs_enc, refDs_enc, encL_set, Nat.reduceBEq, cv, cvL, wrL, isOwn, argsOb, appOb, slim1, argsS, keep, kp, cand, cor, List.map, List.append, Option.bind, ↓reduceIte, Nat.reduceEqDiff, Nat.reduceAdd, Nat.reduceMul, Nat.reduceLT, Nat.reduceLeDiff, reduceCtorEq, Int.reduceLT, Int.reduceLE, Int.reduceBEq, Int.reduceBNe, Int.reduceAdd, Int.reduceSub, allK_nil, allK_cons, Int.reduceToNat, dq, tya, frC, encL_len, decL_encL, isL_enc, hw]; exact rfl); (repeat (with_reducible first | refine DV.sseq ?_ | refine DV.sblock ?_ | refine DV.scond ?_ | refine DV.sloop ?_ | refine DV.block ?_)))
    (refine DV.ret ?_; (repeat (first | (with_reducible refine thenD_ret' ?_) | (with_reducible refine blockD_ret' ?_))); (with_reducible refine retD_ret' ?_); (try simp only [resOk, resL, rvS, toR, noMu, wpS, wpT, go1, evS, ev, evCallee, evMove, evPick, evBin, evUn, evConv, evFieldAddr, evField, evIndexAddr, evIndex, evExtract, evLoad, evAlloc, evBox, evStore, evBuild, evLit, evSlice, evLen, evMm, evApp, evCall, evCallF, evMake, evMakeP, evFn, evNil, nilB, gdS, put1, sv, gs, gb, opd, cst, outS, cellsS, okS, asSl, setAt, elsD, elsOb, fillD, bnd, bad, dem, demD, demDs, demB, demC, demCs, demL, deNl, deNls, deNls_enc, stC, refS, refD, refDs, refB, refC, refCs, refL, isSh, isShC, anySh, lf, lfs, argsD, plainD, plains, plainR, plainRs, noMut, srcS, srcOb, asP, pOk, nilP, nilOk, toCp, ofCp, cpsOb, elsLf, lfs_enc, lfL_encL, lfL_nil, lfL_app, lfL_cons, demDs_enc, refDs_enc, encL_set, Nat.reduceBEq, cv, cvL, wrL, isOwn, argsOb, appOb, slim1, argsS, keep, kp, cand, cor, List.map, List.append, Option.bind, ↓reduceIte, Nat.reduceEqDiff, Nat.reduceAdd, Nat.reduceMul, Nat.reduceLT, Nat.reduceLeDiff, reduceCtorEq, Int.reduceLT, Int.reduceLE, Int.reduceBEq, Int.reduceBNe, Int.reduceAdd, Int.reduceSub, allK_nil, allK_cons, Int.reduceToNat, dq, tya, frC, encL_len]))
  · exact h.elim
def queueS (W : Wd) (f t : Int) : Int := if (!(decide (f ≥ 0) && decide (f < W.kn.length)) || !(decide (t ≥ 0) && decide (t < W.kn.length))) = true then 0 else (quAt W f.toNat t.toNat).length
def queueD : List S1 → CR × Prop
  | [.ptr W, .c (.int .i64 f), .c (.int .i64 t)] => (.one (.c (.int .i64 (queueS (wdC.dec W) f t))), wdC.enc (wdC.dec W) = W ∧ (wdC.dec W).qu.length = (wdC.dec W).kn.length ∧ ∀ q ∈ (wdC.dec W).qu, q.length = (wdC.dec W).kn.length)
  | _ => (.one (.c (.bool false)), False)
theorem queue_cal (args : List S1) (h : (queueD args).2) : Cal Try.prog 30 args (queueD args).1 := by
  unfold queueD at h ⊢
  split at h
  · next W0 f t =>
    obtain ⟨h1, hql, hqn⟩ := h
    obtain ⟨W, rfl⟩ : ∃ x, W0 = wdC.enc x := ⟨_, h1.symm⟩
    rw [wdC.de] at hql hqn ⊢
    clear h1
    obtain ⟨R, hR⟩ : ∃ R, queueS W f t = R := ⟨_, rfl⟩
    rw [hR]
    unfold queueS at hR
    obtain ⟨th, kn, qu⟩ := W
    dsimp only at hql hqn hR
    refine DV.of (Γ := ⟨[(62, wkD)], [], []⟩) (rs := [ResultVar.tmp 6]) [0, 1, 2, 6, 20] ⟨by intro p hp; simp only [List.mem_singleton] at hp; subst hp; exact wk_cal, nofun⟩ (by kernel_rfl) Try.func30 rfl rfl (by kernel_rfl) rfl ?_; (repeat (with_reducible first | refine DV.sseq ?_ | refine DV.sblock ?_ | refine DV.scond ?_ | refine DV.sloop ?_ | refine DV.block ?_))
    (apply DV.seqreg; kernel_rfl; (simp only [wpS, wpT, go1, evS, ev, evCallee, evMove, evPick, evBin, evUn, evConv, evFieldAddr, evField, evIndexAddr, evIndex, evExtract, evLoad, evAlloc, evBox, evStore, evBuild, evLit, evSlice, evLen, evMm, evApp, evCall, evCallF, evMake, evMakeP, evFn, evNil, nilB, gdS, put1, sv, gs, gb, opd, cst, outS, cellsS, okS, asSl, setAt, elsD, elsOb, fillD, bnd, bad, dem, demD, demDs, demB, demC, demCs, demL, deNl, deNls, deNls_enc, stC, refS, refD, refDs, refB, refC, refCs, refL, isSh, isShC, anySh, lf, lfs, argsD, plainD, plains, plainR, plainRs, noMut, srcS, srcOb, asP, pOk, nilP, nilOk, toCp, ofCp, cpsOb, elsLf, lfs_enc, lfL_encL, lfL_nil, lfL_app, lfL_cons, demDs_enc, refDs_enc, encL_set, Nat.reduceBEq, cv, cvL, wrL, isOwn, argsOb, appOb, slim1, argsS, keep, kp, cand, cor, List.map, List.append, Option.bind, ↓reduceIte, Nat.reduceEqDiff, Nat.reduceAdd, Nat.reduceMul, Nat.reduceLT, Nat.reduceLeDiff, reduceCtorEq, Int.reduceLT, Int.reduceLE, Int.reduceBEq, Int.reduceBNe, Int.reduceAdd, Int.reduceSub, allK_nil, allK_cons, Int.reduceToNat, dq, tya, wkD, wdE]; exact rfl); (repeat (with_reducible first | refine DV.sseq ?_ | refine DV.sblock ?_ | refine DV.scond ?_ | refine DV.sloop ?_ | refine DV.block ?_)))
    (apply DV.seqreg; kernel_rfl; (simp only [wpS, wpT, go1, evS, ev, evCallee, evMove, evPick, evBin, evUn, evConv, evFieldAddr, evField, evIndexAddr, evIndex, evExtract, evLoad, evAlloc, evBox, evStore, evBuild, evLit, evSlice, evLen, evMm, evApp, evCall, evCallF, evMake, evMakeP, evFn, evNil, nilB, gdS, put1, sv, gs, gb, opd, cst, outS, cellsS, okS, asSl, setAt, elsD, elsOb, fillD, bnd, bad, dem, demD, demDs, demB, demC, demCs, demL, deNl, deNls, deNls_enc, stC, refS, refD, refDs, refB, refC, refCs, refL, isSh, isShC, anySh, lf, lfs, argsD, plainD, plains, plainR, plainRs, noMut, srcS, srcOb, asP, pOk, nilP, nilOk, toCp, ofCp, cpsOb, elsLf, lfs_enc, lfL_encL, lfL_nil, lfL_app, lfL_cons, demDs_enc, refDs_enc, encL_set, Nat.reduceBEq, cv, cvL, wrL, isOwn, argsOb, appOb, slim1, argsS, keep, kp, cand, cor, List.map, List.append, Option.bind, ↓reduceIte, Nat.reduceEqDiff, Nat.reduceAdd, Nat.reduceMul, Nat.reduceLT, Nat.reduceLeDiff, reduceCtorEq, Int.reduceLT, Int.reduceLE, Int.reduceBEq, Int.reduceBNe, Int.reduceAdd, Int.reduceSub, allK_nil, allK_cons, Int.reduceToNat, dq, tya, wkD, encL_len]; exact rfl); (repeat (with_reducible first | refine DV.sseq ?_ | refine DV.sblock ?_ | refine DV.scond ?_ | refine DV.sloop ?_ | refine DV.block ?_)))
    (refine DV.cond rfl (fun _ => rfl) (fun hb => ?_) (fun hb => ?_))
    · (apply DV.seqreg; kernel_rfl; (simp only [wpS, wpT, go1, evS, ev, evCallee, evMove, evPick, evBin, evUn, evConv, evFieldAddr, evField, evIndexAddr, evIndex, evExtract, evLoad, evAlloc, evBox, evStore, evBuild, evLit, evSlice, evLen, evMm, evApp, evCall, evCallF, evMake, evMakeP, evFn, evNil, nilB, gdS, put1, sv, gs, gb, opd, cst, outS, cellsS, okS, asSl, setAt, elsD, elsOb, fillD, bnd, bad, dem, demD, demDs, demB, demC, demCs, demL, deNl, deNls, deNls_enc, stC, refS, refD, refDs, refB, refC, refCs, refL, isSh, isShC, anySh, lf, lfs, argsD, plainD, plains, plainR, plainRs, noMut, srcS, srcOb, asP, pOk, nilP, nilOk, toCp, ofCp, cpsOb, elsLf, lfs_enc, lfL_encL, lfL_nil, lfL_app, lfL_cons, demDs_enc, refDs_enc, encL_set, Nat.reduceBEq, cv, cvL, wrL, isOwn, argsOb, appOb, slim1, argsS, keep, kp, cand, cor, List.map, List.append, Option.bind, ↓reduceIte, Nat.reduceEqDiff, Nat.reduceAdd, Nat.reduceMul, Nat.reduceLT, Nat.reduceLeDiff, reduceCtorEq, Int.reduceLT, Int.reduceLE, Int.reduceBEq, Int.reduceBNe, Int.reduceAdd, Int.reduceSub, allK_nil, allK_cons, Int.reduceToNat, dq, tya, wkD]; exact rfl); (repeat (with_reducible first | refine DV.sseq ?_ | refine DV.sblock ?_ | refine DV.scond ?_ | refine DV.sloop ?_ | refine DV.block ?_)))
      (refine DV.ret ?_; (repeat (first | (with_reducible refine thenD_ret' ?_) | (with_reducible refine blockD_ret' ?_))); (with_reducible refine retD_ret' ?_); (try simp only [resOk, resL, rvS, toR, noMu, wpS, wpT, go1, evS, ev, evCallee, evMove, evPick, evBin, evUn, evConv, evFieldAddr, evField, evIndexAddr, evIndex, evExtract, evLoad, evAlloc, evBox, evStore, evBuild, evLit, evSlice, evLen, evMm, evApp, evCall, evCallF, evMake, evMakeP, evFn, evNil, nilB, gdS, put1, sv, gs, gb, opd, cst, outS, cellsS, okS, asSl, setAt, elsD, elsOb, fillD, bnd, bad, dem, demD, demDs, demB, demC, demCs, demL, deNl, deNls, deNls_enc, stC, refS, refD, refDs, refB, refC, refCs, refL, isSh, isShC, anySh, lf, lfs, argsD, plainD, plains, plainR, plainRs, noMut, srcS, srcOb, asP, pOk, nilP, nilOk, toCp, ofCp, cpsOb, elsLf, lfs_enc, lfL_encL, lfL_nil, lfL_app, lfL_cons, demDs_enc, refDs_enc, encL_set, Nat.reduceBEq, cv, cvL, wrL, isOwn, argsOb, appOb, slim1, argsS, keep, kp, cand, cor, List.map, List.append, Option.bind, ↓reduceIte, Nat.reduceEqDiff, Nat.reduceAdd, Nat.reduceMul, Nat.reduceLT, Nat.reduceLeDiff, reduceCtorEq, Int.reduceLT, Int.reduceLE, Int.reduceBEq, Int.reduceBNe, Int.reduceAdd, Int.reduceSub, allK_nil, allK_cons, Int.reduceToNat, dq, tya, wkD]))
      rw [if_pos hb] at hR
      exact hR
    rw [if_neg (by rw [hb]; decide)] at hR
    have hw2 : (0 ≤ f ∧ f < kn.length) ∧ 0 ≤ t ∧ t < kn.length := by
      simp only [Bool.or_eq_false_iff, Bool.not_eq_false', Bool.and_eq_true, decide_eq_true_eq] at hb
      exact ⟨⟨hb.1.1, hb.1.2⟩, hb.2.1, hb.2.2⟩
    obtain ⟨⟨f0, f1⟩, t0, t1⟩ := hw2
    obtain ⟨f, rfl⟩ := Int.eq_ofNat_of_zero_le f0
    obtain ⟨t, rfl⟩ := Int.eq_ofNat_of_zero_le t0
    have hfq : f < qu.length := by omega
    obtain ⟨qf, hqf⟩ : ∃ q, qu[f]? = some q := ⟨qu[f], List.getElem?_eq_getElem _⟩
    have hqfl := hqn qf (List.mem_of_getElem? hqf)
    have htq : t < qf.length := by omega
    obtain ⟨q, hq⟩ : ∃ q, qf[t]? = some q := ⟨qf[t], List.getElem?_eq_getElem _⟩
    have hqa : quAt ⟨th, kn, qu⟩ (f : Int).toNat (t : Int).toNat = q := by
      unfold quAt
      rw [i2n, i2n]
      dsimp only
      rw [hqf, Option.getD_some, hq, Option.getD_some]
    rw [hqa] at hR
    have w1 : (f : Int) < (qu.length : Int) := by omega
    have w2 : (t : Int) < (qf.length : Int) := by omega
    have e1 : (encL fC qu)[f]? = some [.sl (encL qC qf)] := encL_get (C := fC) hqf
    have e2 : (encL qC qf)[t]? = some [.sl (encL nwC q)] := encL_get (C := qC) hq
    (refine DV.skip ?_; (repeat (with_reducible refine blockD_norm' ?_)); (with_reducible refine thenD_norm' ?_); (repeat (with_reducible first | refine DV.sseq ?_ | refine DV.sblock ?_ | refine DV.scond ?_ | refine DV.sloop ?_ | refine DV.block ?_)))
    (apply DV.seqreg; kernel_rfl; (simp only [wpS, wpT, go1, evS, ev, evCallee, evMove, evPick, evBin, evUn, evConv, evFieldAddr, evField, evIndexAddr, evIndex, evExtract, evLoad, evAlloc, evBox, evStore, evBuild, evLit, evSlice, evLen, evMm, evApp, evCall, evCallF, evMake, evMakeP, evFn, evNil, nilB, gdS, put1, sv, gs, gb, opd, cst, outS, cellsS, okS, asSl, setAt, elsD, elsOb, fillD, bnd, bad, dem, demD, demDs, demB, demC, demCs, demL, deNl, deNls, deNls_enc, stC, refS, refD, refDs, refB, refC, refCs, refL, isSh, isShC, anySh, lf, lfs, argsD, plainD, plains, plainR, plainRs, noMut, srcS, srcOb, asP, pOk, nilP, nilOk, toCp, ofCp, cpsOb, elsLf, lfs_enc, lfL_encL, lfL_nil, lfL_app, lfL_cons, demDs_enc, refDs_enc, encL_set, Nat.reduceBEq, cv, cvL, wrL, isOwn, argsOb, appOb, slim1, argsS, keep, kp, cand, cor, List.map, List.append, Option.bind, ↓reduceIte, Nat.reduceEqDiff, Nat.reduceAdd, Nat.reduceMul, Nat.reduceLT, Nat.reduceLeDiff, reduceCtorEq, Int.reduceLT, Int.reduceLE, Int.reduceBEq, Int.reduceBNe, Int.reduceAdd, Int.reduceSub, allK_nil, allK_cons, Int.reduceToNat, dq, tya, wkD, i2n, f0, t0, w1, w2, e1, e2, encL_len]; exact rfl); (repeat (with_reducible first | refine DV.sseq ?_ | refine DV.sblock ?_ | refine DV.scond ?_ | refine DV.sloop ?_ | refine DV.block ?_)))
    (refine DV.ret ?_; (repeat (first | (with_reducible refine thenD_ret' ?_) | (with_reducible refine blockD_ret' ?_))); (with_reducible refine retD_ret' ?_); (try simp only [resOk, resL, rvS, toR, noMu, wpS, wpT, go1, evS, ev, evCallee, evMove, evPick, evBin, evUn, evConv, evFieldAddr, evField, evIndexAddr, evIndex, evExtract, evLoad, evAlloc, evBox, evStore, evBuild, evLit, evSlice, evLen, evMm, evApp, evCall, evCallF, evMake, evMakeP, evFn, evNil, nilB, gdS, put1, sv, gs, gb, opd, cst, outS, cellsS, okS, asSl, setAt, elsD, elsOb, fillD, bnd, bad, dem, demD, demDs, demB, demC, demCs, demL, deNl, deNls, deNls_enc, stC, refS, refD, refDs, refB, refC, refCs, refL, isSh, isShC, anySh, lf, lfs, argsD, plainD, plains, plainR, plainRs, noMut, srcS, srcOb, asP, pOk, nilP, nilOk, toCp, ofCp, cpsOb, elsLf, lfs_enc, lfL_encL, lfL_nil, lfL_app, lfL_cons, demDs_enc, refDs_enc, encL_set, Nat.reduceBEq, cv, cvL, wrL, isOwn, argsOb, appOb, slim1, argsS, keep, kp, cand, cor, List.map, List.append, Option.bind, ↓reduceIte, Nat.reduceEqDiff, Nat.reduceAdd, Nat.reduceMul, Nat.reduceLT, Nat.reduceLeDiff, reduceCtorEq, Int.reduceLT, Int.reduceLE, Int.reduceBEq, Int.reduceBNe, Int.reduceAdd, Int.reduceSub, allK_nil, allK_cons, Int.reduceToNat, dq, tya, wkD]))
    exact hR
  · exact h.elim
def newW (n : Nat) (l : List Fr.Ct) : Wd := ⟨l, List.replicate n l, List.replicate n (List.replicate n [])⟩
def nwB (n : Int) (l : List Fr.Ct) : Bool := decide (n < 1) || decide (64 < n) || !Fr.rightC l || l.any negB
def newD : List S1 → CR × Prop
  | [.c (.int .i64 n), .c (.sl l)] => (if nwB n (decL ctC l) = true then .tup [.k (.pointer none), .c (.int .i64 1)] else .tup [.ptr (wdC.enc (newW n.toNat (decL ctC l))), .c (.int .i64 0)], isL ctC l ∧ (decL ctC l).length ≤ 1073741823)
  | _ => (.one (.c (.bool false)), False)
theorem rep_snoc {α : Type} (j : Nat) (x : α) : List.replicate j x ++ [x] = List.replicate (j + 1) x := (List.replicate_succ' ..).symm
set_option maxHeartbeats 4000000 in
theorem new_cal (args : List S1) (h : (newD args).2) : Cal Try.prog 25 args (newD args).1 := by
  unfold newD at h ⊢
  split at h
  · next n l0 =>
    obtain ⟨h1, hn⟩ := h
    obtain ⟨l, rfl⟩ : ∃ x, l0 = encL ctC x := ⟨_, h1.symm⟩
    rw [decL_encL] at hn ⊢
    clear h1
    obtain ⟨b, hb⟩ : ∃ b, nwB n l = b := ⟨_, rfl⟩
    rw [hb]
    unfold nwB at hb
    obtain ⟨r, hr⟩ : ∃ b, Fr.rightC l = b := ⟨_, rfl⟩
    obtain ⟨a, ha⟩ : ∃ b, l.any negB = b := ⟨_, rfl⟩
    rw [hr, ha] at hb
    refine DV.of (Γ := ⟨[(56, frR), (57, cnCt), (59, frC)], [], [37, 48, 1000046]⟩) (rs := [ResultVar.tmp 4, ResultVar.tmp 5]) [0, 1, 4, 5, 6, 21, 26, 27, 28] ⟨by intro p hp; simp only [List.mem_cons, List.not_mem_nil, or_false] at hp; rcases hp with rfl | rfl | rfl; exact fr_r; exact cnCt_cal; exact fr_c, nofun⟩ (by kernel_rfl) Try.func25 rfl rfl (by kernel_rfl) rfl ?_; (repeat (with_reducible first | refine DV.sseq ?_ | refine DV.sblock ?_ | refine DV.scond ?_ | refine DV.sloop ?_ | refine DV.block ?_))
    (apply DV.seqreg; kernel_rfl; (simp only [wpS, wpT, go1, evS, ev, evCallee, evMove, evPick, evBin, evUn, evConv, evFieldAddr, evField, evIndexAddr, evIndex, evExtract, evLoad, evAlloc, evBox, evStore, evBuild, evLit, evSlice, evLen, evMm, evApp, evCall, evCallF, evMake, evMakeP, evFn, evNil, nilB, gdS, put1, sv, gs, gb, opd, cst, outS, cellsS, okS, asSl, setAt, elsD, elsOb, fillD, bnd, bad, dem, demD, demDs, demB, demC, demCs, demL, deNl, deNls, deNls_enc, stC, refS, refD, refDs, refB, refC, refCs, refL, isSh, isShC, anySh, lf, lfs, argsD, plainD, plains, plainR, plainRs, noMut, srcS, srcOb, asP, pOk, nilP, nilOk, toCp, ofCp, cpsOb, elsLf, lfs_enc, lfL_encL, lfL_nil, lfL_app, lfL_cons, demDs_enc, refDs_enc, encL_set, Nat.reduceBEq, cv, cvL, wrL, isOwn, argsOb, appOb, slim1, argsS, keep, kp, cand, cor, List.map, List.append, Option.bind, ↓reduceIte, Nat.reduceEqDiff, Nat.reduceAdd, Nat.reduceMul, Nat.reduceLT, Nat.reduceLeDiff, reduceCtorEq, Int.reduceLT, Int.reduceLE, Int.reduceBEq, Int.reduceBNe, Int.reduceAdd, Int.reduceSub, allK_nil, allK_cons, Int.reduceToNat, dq, tya, frR, cnCt, frC]; exact rfl); (repeat (with_reducible first | refine DV.sseq ?_ | refine DV.sblock ?_ | refine DV.scond ?_ | refine DV.sloop ?_ | refine DV.block ?_)))
    (apply DV.seqreg; kernel_rfl; (simp only [wpS, wpT, go1, evS, ev, evCallee, evMove, evPick, evBin, evUn, evConv, evFieldAddr, evField, evIndexAddr, evIndex, evExtract, evLoad, evAlloc, evBox, evStore, evBuild, evLit, evSlice, evLen, evMm, evApp, evCall, evCallF, evMake, evMakeP, evFn, evNil, nilB, gdS, put1, sv, gs, gb, opd, cst, outS, cellsS, okS, asSl, setAt, elsD, elsOb, fillD, bnd, bad, dem, demD, demDs, demB, demC, demCs, demL, deNl, deNls, deNls_enc, stC, refS, refD, refDs, refB, refC, refCs, refL, isSh, isShC, anySh, lf, lfs, argsD, plainD, plains, plainR, plainRs, noMut, srcS, srcOb, asP, pOk, nilP, nilOk, toCp, ofCp, cpsOb, elsLf, lfs_enc, lfL_encL, lfL_nil, lfL_app, lfL_cons, demDs_enc, refDs_enc, encL_set, Nat.reduceBEq, cv, cvL, wrL, isOwn, argsOb, appOb, slim1, argsS, keep, kp, cand, cor, List.map, List.append, Option.bind, ↓reduceIte, Nat.reduceEqDiff, Nat.reduceAdd, Nat.reduceMul, Nat.reduceLT, Nat.reduceLeDiff, reduceCtorEq, Int.reduceLT, Int.reduceLE, Int.reduceBEq, Int.reduceBNe, Int.reduceAdd, Int.reduceSub, allK_nil, allK_cons, Int.reduceToNat, dq, tya, frR, cnCt, frC, decL_encL, isL_enc, hn, hr, ha, hb, isfn58]; exact rfl); (repeat (with_reducible first | refine DV.sseq ?_ | refine DV.sblock ?_ | refine DV.scond ?_ | refine DV.sloop ?_ | refine DV.block ?_)))
    cases b
    · rw [if_neg (by decide)]
      have hin : 1 ≤ n ∧ n ≤ 64 := by
        simp only [Bool.or_eq_false_iff, decide_eq_false_iff_not] at hb
        omega
      obtain ⟨m, rfl⟩ : ∃ m : Nat, n = m := ⟨n.toNat, by omega⟩
      rw [i2n]
      clear hb
      have m0 : (0 : Int) ≤ m := by omega
      have m1 : (m : Int) ≤ 1000000 := by omega
      (refine DV.condF rfl (fun _ => rfl) ?_; (repeat (with_reducible first | refine DV.sseq ?_ | refine DV.sblock ?_ | refine DV.scond ?_ | refine DV.sloop ?_ | refine DV.block ?_)))
      (refine DV.skip ?_; (repeat (with_reducible refine blockD_norm' ?_)); (with_reducible refine thenD_norm' ?_); (repeat (with_reducible first | refine DV.sseq ?_ | refine DV.sblock ?_ | refine DV.scond ?_ | refine DV.sloop ?_ | refine DV.block ?_)))
      (apply DV.seqreg; kernel_rfl; (simp only [wpS, wpT, go1, evS, ev, evCallee, evMove, evPick, evBin, evUn, evConv, evFieldAddr, evField, evIndexAddr, evIndex, evExtract, evLoad, evAlloc, evBox, evStore, evBuild, evLit, evSlice, evLen, evMm, evApp, evCall, evCallF, evMake, evMakeP, evFn, evNil, nilB, gdS, put1, sv, gs, gb, opd, cst, outS, cellsS, okS, asSl, setAt, elsD, elsOb, fillD, bnd, bad, dem, demD, demDs, demB, demC, demCs, demL, deNl, deNls, deNls_enc, stC, refS, refD, refDs, refB, refC, refCs, refL, isSh, isShC, anySh, lf, lfs, argsD, plainD, plains, plainR, plainRs, noMut, srcS, srcOb, asP, pOk, nilP, nilOk, toCp, ofCp, cpsOb, elsLf, lfs_enc, lfL_encL, lfL_nil, lfL_app, lfL_cons, demDs_enc, refDs_enc, encL_set, Nat.reduceBEq, cv, cvL, wrL, isOwn, argsOb, appOb, slim1, argsS, keep, kp, cand, cor, List.map, List.append, Option.bind, ↓reduceIte, Nat.reduceEqDiff, Nat.reduceAdd, Nat.reduceMul, Nat.reduceLT, Nat.reduceLeDiff, reduceCtorEq, Int.reduceLT, Int.reduceLE, Int.reduceBEq, Int.reduceBNe, Int.reduceAdd, Int.reduceSub, allK_nil, allK_cons, Int.reduceToNat, dq, tya, frR, cnCt, frC, decL_encL, isL_enc, hn]; exact rfl); (repeat (with_reducible first | refine DV.sseq ?_ | refine DV.sblock ?_ | refine DV.scond ?_ | refine DV.sloop ?_ | refine DV.block ?_)))
      (apply DV.seqreg; kernel_rfl; (simp only [wpS, wpT, go1, evS, ev, evCallee, evMove, evPick, evBin, evUn, evConv, evFieldAddr, evField, evIndexAddr, evIndex, evExtract, evLoad, evAlloc, evBox, evStore, evBuild, evLit, evSlice, evLen, evMm, evApp, evCall, evCallF, evMake, evMakeP, evFn, evNil, nilB, gdS, put1, sv, gs, gb, opd, cst, outS, cellsS, okS, asSl, setAt, elsD, elsOb, fillD, bnd, bad, dem, demD, demDs, demB, demC, demCs, demL, deNl, deNls, deNls_enc, stC, refS, refD, refDs, refB, refC, refCs, refL, isSh, isShC, anySh, lf, lfs, argsD, plainD, plains, plainR, plainRs, noMut, srcS, srcOb, asP, pOk, nilP, nilOk, toCp, ofCp, cpsOb, elsLf, lfs_enc, lfL_encL, lfL_nil, lfL_app, lfL_cons, demDs_enc, refDs_enc, encL_set, Nat.reduceBEq, cv, cvL, wrL, isOwn, argsOb, appOb, slim1, argsS, keep, kp, cand, cor, List.map, List.append, Option.bind, ↓reduceIte, Nat.reduceEqDiff, Nat.reduceAdd, Nat.reduceMul, Nat.reduceLT, Nat.reduceLeDiff, reduceCtorEq, Int.reduceLT, Int.reduceLE, Int.reduceBEq, Int.reduceBNe, Int.reduceAdd, Int.reduceSub, allK_nil, allK_cons, Int.reduceToNat, dq, tya, frR, cnCt, frC]; exact rfl); (repeat (with_reducible first | refine DV.sseq ?_ | refine DV.sblock ?_ | refine DV.scond ?_ | refine DV.sloop ?_ | refine DV.block ?_)))
      refine DV.loop (fun j : Nat => ⟨[(0, .v true (.c (.int .i64 m))), (1, .v true (.c (.sl (encL ctC l)))), (6, .v true (.box 25 0)), (26, .v true (.c (.int .i64 m))), (27, .v true (.c (.int .i64 j)))], [(25, some ⟨0, 0, [[.sl (encL ctC l), .lk 1001 j, .lk 1002 j]]⟩), (1001, some ⟨56, 1, encL nwC (List.replicate j l)⟩), (1002, some ⟨72, 1, encL fC (List.replicate j (List.replicate m []))⟩)], []⟩) (fun j => j ≤ m) (fun j => m - j) 0 (Nat.zero_le _) (by (refine wk_of [(1001, none), (1002, none)] ?_ ?_ ?_ ?_ <;> (simp only [wkS, wkB, wkR, convV, convS, convD, convDs, convB, convO, convC, convCs, look, carried, injB, convDs_enc, lkL_encL, lkL_nil, lkL_app, lkL_cons, encL_nil, encL_app, encL_cons, List.length_append, wpS, wpT, go1, evS, ev, evCallee, evMove, evPick, evBin, evUn, evConv, evFieldAddr, evField, evIndexAddr, evIndex, evExtract, evLoad, evAlloc, evBox, evStore, evBuild, evLit, evSlice, evLen, evMm, evApp, evCall, evCallF, evMake, evMakeP, evFn, evNil, nilB, gdS, put1, sv, gs, gb, opd, cst, outS, cellsS, okS, asSl, setAt, elsD, elsOb, fillD, bnd, bad, dem, demD, demDs, demB, demC, demCs, demL, deNl, deNls, deNls_enc, stC, refS, refD, refDs, refB, refC, refCs, refL, isSh, isShC, anySh, lf, lfs, argsD, plainD, plains, plainR, plainRs, noMut, srcS, srcOb, asP, pOk, nilP, nilOk, toCp, ofCp, cpsOb, elsLf, lfs_enc, lfL_encL, lfL_nil, lfL_app, lfL_cons, demDs_enc, refDs_enc, encL_set, Nat.reduceBEq, cv, cvL, wrL, isOwn, argsOb, appOb, slim1, argsS, keep, kp, cand, cor, List.map, List.append, Option.bind, ↓reduceIte, Nat.reduceEqDiff, Nat.reduceAdd, Nat.reduceMul, Nat.reduceLT, Nat.reduceLeDiff, reduceCtorEq, Int.reduceLT, Int.reduceLE, Int.reduceBEq, Int.reduceBNe, Int.reduceAdd, Int.reduceSub, allK_nil, allK_cons, Int.reduceToNat, dq, List.replicate_zero, n0]; try trivial))) (fun j hj => ?_)
      (repeat (with_reducible first | refine DV.sseq ?_ | refine DV.sblock ?_ | refine DV.scond ?_ | refine DV.sloop ?_ | refine DV.block ?_))
      by_cases hlt : j < m
      · have d1 : decide ((j : Int) < (m : Int)) = true := decide_eq_true (by omega)
        have ew := wr1 j (by omega)
        have q1 := Lib.hid (capOk_of (n := j + 1) (by omega))
        have q2 := Lib.hid (capB (n := j + 1) (k := 24) (by omega) (by decide))
        have r1 : encL nwC (List.replicate j l) ++ [[.sl (encL ctC l)]] = encL nwC (List.replicate (j + 1) l) := by rw [← rep_snoc, encL_app]; rfl
        have r2 : encL fC (List.replicate j (List.replicate m [])) ++ [[.sl (List.replicate m [.sl []])]] = encL fC (List.replicate (j + 1) (List.replicate m [])) := by
          rw [← rep_snoc, encL_app, show List.replicate m [D.sl []] = encL qC (List.replicate m []) from encL_rep (C := qC) (x := [])]
          rfl
        (apply DV.seqreg; kernel_rfl; (simp only [wpS, wpT, go1, evS, ev, evCallee, evMove, evPick, evBin, evUn, evConv, evFieldAddr, evField, evIndexAddr, evIndex, evExtract, evLoad, evAlloc, evBox, evStore, evBuild, evLit, evSlice, evLen, evMm, evApp, evCall, evCallF, evMake, evMakeP, evFn, evNil, nilB, gdS, put1, sv, gs, gb, opd, cst, outS, cellsS, okS, asSl, setAt, elsD, elsOb, fillD, bnd, bad, dem, demD, demDs, demB, demC, demCs, demL, deNl, deNls, deNls_enc, stC, refS, refD, refDs, refB, refC, refCs, refL, isSh, isShC, anySh, lf, lfs, argsD, plainD, plains, plainR, plainRs, noMut, srcS, srcOb, asP, pOk, nilP, nilOk, toCp, ofCp, cpsOb, elsLf, lfs_enc, lfL_encL, lfL_nil, lfL_app, lfL_cons, demDs_enc, refDs_enc, encL_set, Nat.reduceBEq, cv, cvL, wrL, isOwn, argsOb, appOb, slim1, argsS, keep, kp, cand, cor, List.map, List.append, Option.bind, ↓reduceIte, Nat.reduceEqDiff, Nat.reduceAdd, Nat.reduceMul, Nat.reduceLT, Nat.reduceLeDiff, reduceCtorEq, Int.reduceLT, Int.reduceLE, Int.reduceBEq, Int.reduceBNe, Int.reduceAdd, Int.reduceSub, allK_nil, allK_cons, Int.reduceToNat, dq, tya, frR, cnCt, frC, d1]; exact rfl); (repeat (with_reducible first | refine DV.sseq ?_ | refine DV.sblock ?_ | refine DV.scond ?_ | refine DV.sloop ?_ | refine DV.block ?_)))
        (refine DV.condT rfl (fun _ => rfl) ?_; (repeat (with_reducible first | refine DV.sseq ?_ | refine DV.sblock ?_ | refine DV.scond ?_ | refine DV.sloop ?_ | refine DV.block ?_)))
        (refine DV.skip ?_; (repeat (with_reducible refine blockD_norm' ?_)); (with_reducible refine thenD_norm' ?_); (repeat (with_reducible first | refine DV.sseq ?_ | refine DV.sblock ?_ | refine DV.scond ?_ | refine DV.sloop ?_ | refine DV.block ?_)))
        (apply DV.seqdrw; kernel_rfl; kernel_rfl; (simp only [wpS, wpT, go1, evS, ev, evCallee, evMove, evPick, evBin, evUn, evConv, evFieldAddr, evField, evIndexAddr, evIndex, evExtract, evLoad, evAlloc, evBox, evStore, evBuild, evLit, evSlice, evLen, evMm, evApp, evCall, evCallF, evMake, evMakeP, evFn, evNil, nilB, gdS, put1, sv, gs, gb, opd, cst, outS, cellsS, okS, asSl, setAt, elsD, elsOb, fillD, bnd, bad, dem, demD, demDs, demB, demC, demCs, demL, deNl, deNls, deNls_enc, stC, refS, refD, refDs, refB, refC, refCs, refL, isSh, isShC, anySh, lf, lfs, argsD, plainD, plains, plainR, plainRs, noMut, srcS, srcOb, asP, pOk, nilP, nilOk, toCp, ofCp, cpsOb, elsLf, lfs_enc, lfL_encL, lfL_nil, lfL_app, lfL_cons, demDs_enc, refDs_enc, encL_set, Nat.reduceBEq, cv, cvL, wrL, isOwn, argsOb, appOb, slim1, argsS, keep, kp, cand, cor, List.map, List.append, Option.bind, ↓reduceIte, Nat.reduceEqDiff, Nat.reduceAdd, Nat.reduceMul, Nat.reduceLT, Nat.reduceLeDiff, reduceCtorEq, Int.reduceLT, Int.reduceLE, Int.reduceBEq, Int.reduceBNe, Int.reduceAdd, Int.reduceSub, allK_nil, allK_cons, Int.reduceToNat, dq, tya, frR, cnCt, frC, decL_encL, isL_enc, hn, encL_len, List.length_replicate, encL_take, List.take_replicate, Nat.min_self, Nat.le_refl, range1, q1.out, q2.out, r1]; exact ⟨rfl, rfl⟩); kernel_rfl; (repeat (with_reducible first | refine DV.sseq ?_ | refine DV.sblock ?_ | refine DV.scond ?_ | refine DV.sloop ?_ | refine DV.block ?_)))
        (apply DV.drw; kernel_rfl; kernel_rfl; (simp only [wpS, wpT, go1, evS, ev, evCallee, evMove, evPick, evBin, evUn, evConv, evFieldAddr, evField, evIndexAddr, evIndex, evExtract, evLoad, evAlloc, evBox, evStore, evBuild, evLit, evSlice, evLen, evMm, evApp, evCall, evCallF, evMake, evMakeP, evFn, evNil, nilB, gdS, put1, sv, gs, gb, opd, cst, outS, cellsS, okS, asSl, setAt, elsD, elsOb, fillD, bnd, bad, dem, demD, demDs, demB, demC, demCs, demL, deNl, deNls, deNls_enc, stC, refS, refD, refDs, refB, refC, refCs, refL, isSh, isShC, anySh, lf, lfs, argsD, plainD, plains, plainR, plainRs, noMut, srcS, srcOb, asP, pOk, nilP, nilOk, toCp, ofCp, cpsOb, elsLf, lfs_enc, lfL_encL, lfL_nil, lfL_app, lfL_cons, demDs_enc, refDs_enc, encL_set, Nat.reduceBEq, cv, cvL, wrL, isOwn, argsOb, appOb, slim1, argsS, keep, kp, cand, cor, List.map, List.append, Option.bind, ↓reduceIte, Nat.reduceEqDiff, Nat.reduceAdd, Nat.reduceMul, Nat.reduceLT, Nat.reduceLeDiff, reduceCtorEq, Int.reduceLT, Int.reduceLE, Int.reduceBEq, Int.reduceBNe, Int.reduceAdd, Int.reduceSub, allK_nil, allK_cons, Int.reduceToNat, dq, tya, frR, cnCt, frC, m0, m1, i2n, encL_len, List.length_replicate, encL_take, List.take_replicate, Nat.min_self, Nat.le_refl, range1, q1.out, q2.out, r2]; exact ⟨rfl, rfl⟩); kernel_rfl; (repeat (with_reducible refine blockD_norm' ?_)); (try with_reducible refine thenD_norm' ?_); (repeat (with_reducible first | refine DV.sseq ?_ | refine DV.sblock ?_ | refine DV.scond ?_ | refine DV.sloop ?_ | refine DV.block ?_)))
        (apply DV.reg; kernel_rfl; (simp only [wpS, wpT, go1, evS, ev, evCallee, evMove, evPick, evBin, evUn, evConv, evFieldAddr, evField, evIndexAddr, evIndex, evExtract, evLoad, evAlloc, evBox, evStore, evBuild, evLit, evSlice, evLen, evMm, evApp, evCall, evCallF, evMake, evMakeP, evFn, evNil, nilB, gdS, put1, sv, gs, gb, opd, cst, outS, cellsS, okS, asSl, setAt, elsD, elsOb, fillD, bnd, bad, dem, demD, demDs, demB, demC, demCs, demL, deNl, deNls, deNls_enc, stC, refS, refD, refDs, refB, refC, refCs, refL, isSh, isShC, anySh, lf, lfs, argsD, plainD, plains, plainR, plainRs, noMut, srcS, srcOb, asP, pOk, nilP, nilOk, toCp, ofCp, cpsOb, elsLf, lfs_enc, lfL_encL, lfL_nil, lfL_app, lfL_cons, demDs_enc, refDs_enc, encL_set, Nat.reduceBEq, cv, cvL, wrL, isOwn, argsOb, appOb, slim1, argsS, keep, kp, cand, cor, List.map, List.append, Option.bind, ↓reduceIte, Nat.reduceEqDiff, Nat.reduceAdd, Nat.reduceMul, Nat.reduceLT, Nat.reduceLeDiff, reduceCtorEq, Int.reduceLT, Int.reduceLE, Int.reduceBEq, Int.reduceBNe, Int.reduceAdd, Int.reduceSub, allK_nil, allK_cons, Int.reduceToNat, dq, tya, frR, cnCt, frC, ew]; exact rfl); (repeat (with_reducible refine blockD_norm' ?_)); (try with_reducible refine thenD_norm' ?_); (repeat (with_reducible first | refine DV.sseq ?_ | refine DV.sblock ?_ | refine DV.scond ?_ | refine DV.sloop ?_ | refine DV.block ?_)))
        exact ⟨j + 1, ⟨hlt, by omega⟩, by (refine wk_of [(1001, some 37), (1002, some 48)] ?_ ?_ ?_ ?_ <;> (simp only [wkS, wkB, wkR, convV, convS, convD, convDs, convB, convO, convC, convCs, look, carried, injB, convDs_enc, lkL_encL, lkL_nil, lkL_app, lkL_cons, encL_nil, encL_app, encL_cons, List.length_append, wpS, wpT, go1, evS, ev, evCallee, evMove, evPick, evBin, evUn, evConv, evFieldAddr, evField, evIndexAddr, evIndex, evExtract, evLoad, evAlloc, evBox, evStore, evBuild, evLit, evSlice, evLen, evMm, evApp, evCall, evCallF, evMake, evMakeP, evFn, evNil, nilB, gdS, put1, sv, gs, gb, opd, cst, outS, cellsS, okS, asSl, setAt, elsD, elsOb, fillD, bnd, bad, dem, demD, demDs, demB, demC, demCs, demL, deNl, deNls, deNls_enc, stC, refS, refD, refDs, refB, refC, refCs, refL, isSh, isShC, anySh, lf, lfs, argsD, plainD, plains, plainR, plainRs, noMut, srcS, srcOb, asP, pOk, nilP, nilOk, toCp, ofCp, cpsOb, elsLf, lfs_enc, lfL_encL, lfL_nil, lfL_app, lfL_cons, demDs_enc, refDs_enc, encL_set, Nat.reduceBEq, cv, cvL, wrL, isOwn, argsOb, appOb, slim1, argsS, keep, kp, cand, cor, List.map, List.append, Option.bind, ↓reduceIte, Nat.reduceEqDiff, Nat.reduceAdd, Nat.reduceMul, Nat.reduceLT, Nat.reduceLeDiff, reduceCtorEq, Int.reduceLT, Int.reduceLE, Int.reduceBEq, Int.reduceBNe, Int.reduceAdd, Int.reduceSub, allK_nil, allK_cons, Int.reduceToNat, dq]; try trivial))⟩
      · obtain rfl : j = m := by omega
        have d1 : decide ((j : Int) < (j : Int)) = false := decide_eq_false (by omega)
        (apply DV.seqreg; kernel_rfl; (simp only [wpS, wpT, go1, evS, ev, evCallee, evMove, evPick, evBin, evUn, evConv, evFieldAddr, evField, evIndexAddr, evIndex, evExtract, evLoad, evAlloc, evBox, evStore, evBuild, evLit, evSlice, evLen, evMm, evApp, evCall, evCallF, evMake, evMakeP, evFn, evNil, nilB, gdS, put1, sv, gs, gb, opd, cst, outS, cellsS, okS, asSl, setAt, elsD, elsOb, fillD, bnd, bad, dem, demD, demDs, demB, demC, demCs, demL, deNl, deNls, deNls_enc, stC, refS, refD, refDs, refB, refC, refCs, refL, isSh, isShC, anySh, lf, lfs, argsD, plainD, plains, plainR, plainRs, noMut, srcS, srcOb, asP, pOk, nilP, nilOk, toCp, ofCp, cpsOb, elsLf, lfs_enc, lfL_encL, lfL_nil, lfL_app, lfL_cons, demDs_enc, refDs_enc, encL_set, Nat.reduceBEq, cv, cvL, wrL, isOwn, argsOb, appOb, slim1, argsS, keep, kp, cand, cor, List.map, List.append, Option.bind, ↓reduceIte, Nat.reduceEqDiff, Nat.reduceAdd, Nat.reduceMul, Nat.reduceLT, Nat.reduceLeDiff, reduceCtorEq, Int.reduceLT, Int.reduceLE, Int.reduceBEq, Int.reduceBNe, Int.reduceAdd, Int.reduceSub, allK_nil, allK_cons, Int.reduceToNat, dq, tya, frR, cnCt, frC, d1]; exact rfl); (repeat (with_reducible first | refine DV.sseq ?_ | refine DV.sblock ?_ | refine DV.scond ?_ | refine DV.sloop ?_ | refine DV.block ?_)))
        (refine DV.condF rfl (fun _ => rfl) ?_; (repeat (with_reducible first | refine DV.sseq ?_ | refine DV.sblock ?_ | refine DV.scond ?_ | refine DV.sloop ?_ | refine DV.block ?_)))
        (refine DV.exit ?_; (repeat (first | (with_reducible refine thenD_exit' ?_) | (with_reducible refine blockD_other (by decide) ?_))); (with_reducible refine blockD_same ?_); (repeat (with_reducible refine blockD_norm' ?_)); (with_reducible refine thenD_norm' ?_); (repeat (with_reducible first | refine DV.sseq ?_ | refine DV.sblock ?_ | refine DV.scond ?_ | refine DV.sloop ?_ | refine DV.block ?_)))
        (apply DV.seqreg; kernel_rfl; (simp only [wpS, wpT, go1, evS, ev, evCallee, evMove, evPick, evBin, evUn, evConv, evFieldAddr, evField, evIndexAddr, evIndex, evExtract, evLoad, evAlloc, evBox, evStore, evBuild, evLit, evSlice, evLen, evMm, evApp, evCall, evCallF, evMake, evMakeP, evFn, evNil, nilB, gdS, put1, sv, gs, gb, opd, cst, outS, cellsS, okS, asSl, setAt, elsD, elsOb, fillD, bnd, bad, dem, demD, demDs, demB, demC, demCs, demL, deNl, deNls, deNls_enc, stC, refS, refD, refDs, refB, refC, refCs, refL, isSh, isShC, anySh, lf, lfs, argsD, plainD, plains, plainR, plainRs, noMut, srcS, srcOb, asP, pOk, nilP, nilOk, toCp, ofCp, cpsOb, elsLf, lfs_enc, lfL_encL, lfL_nil, lfL_app, lfL_cons, demDs_enc, refDs_enc, encL_set, Nat.reduceBEq, cv, cvL, wrL, isOwn, argsOb, appOb, slim1, argsS, keep, kp, cand, cor, List.map, List.append, Option.bind, ↓reduceIte, Nat.reduceEqDiff, Nat.reduceAdd, Nat.reduceMul, Nat.reduceLT, Nat.reduceLeDiff, reduceCtorEq, Int.reduceLT, Int.reduceLE, Int.reduceBEq, Int.reduceBNe, Int.reduceAdd, Int.reduceSub, allK_nil, allK_cons, Int.reduceToNat, dq, tya, frR, cnCt, frC]; exact rfl); (repeat (with_reducible first | refine DV.sseq ?_ | refine DV.sblock ?_ | refine DV.scond ?_ | refine DV.sloop ?_ | refine DV.block ?_)))
        (refine DV.ret ?_; (repeat (first | (with_reducible refine thenD_ret' ?_) | (with_reducible refine blockD_ret' ?_))); (with_reducible refine retD_ret' ?_); (try simp only [resOk, resL, rvS, toR, noMu, wpS, wpT, go1, evS, ev, evCallee, evMove, evPick, evBin, evUn, evConv, evFieldAddr, evField, evIndexAddr, evIndex, evExtract, evLoad, evAlloc, evBox, evStore, evBuild, evLit, evSlice, evLen, evMm, evApp, evCall, evCallF, evMake, evMakeP, evFn, evNil, nilB, gdS, put1, sv, gs, gb, opd, cst, outS, cellsS, okS, asSl, setAt, elsD, elsOb, fillD, bnd, bad, dem, demD, demDs, demB, demC, demCs, demL, deNl, deNls, deNls_enc, stC, refS, refD, refDs, refB, refC, refCs, refL, isSh, isShC, anySh, lf, lfs, argsD, plainD, plains, plainR, plainRs, noMut, srcS, srcOb, asP, pOk, nilP, nilOk, toCp, ofCp, cpsOb, elsLf, lfs_enc, lfL_encL, lfL_nil, lfL_app, lfL_cons, demDs_enc, refDs_enc, encL_set, Nat.reduceBEq, cv, cvL, wrL, isOwn, argsOb, appOb, slim1, argsS, keep, kp, cand, cor, List.map, List.append, Option.bind, ↓reduceIte, Nat.reduceEqDiff, Nat.reduceAdd, Nat.reduceMul, Nat.reduceLT, Nat.reduceLeDiff, reduceCtorEq, Int.reduceLT, Int.reduceLE, Int.reduceBEq, Int.reduceBNe, Int.reduceAdd, Int.reduceSub, allK_nil, allK_cons, Int.reduceToNat, dq, tya, frR, cnCt, frC, wdE, newW, encL_len, List.length_replicate, encL_take, List.take_replicate, Nat.min_self, Nat.le_refl]))
        decide
    · rw [if_pos rfl]
      (refine DV.condT rfl (fun _ => rfl) ?_; (repeat (with_reducible first | refine DV.sseq ?_ | refine DV.sblock ?_ | refine DV.scond ?_ | refine DV.sloop ?_ | refine DV.block ?_)))
      (apply DV.seqreg; kernel_rfl; (simp only [wpS, wpT, go1, evS, ev, evCallee, evMove, evPick, evBin, evUn, evConv, evFieldAddr, evField, evIndexAddr, evIndex, evExtract, evLoad, evAlloc, evBox, evStore, evBuild, evLit, evSlice, evLen, evMm, evApp, evCall, evCallF, evMake, evMakeP, evFn, evNil, nilB, gdS, put1, sv, gs, gb, opd, cst, outS, cellsS, okS, asSl, setAt, elsD, elsOb, fillD, bnd, bad, dem, demD, demDs, demB, demC, demCs, demL, deNl, deNls, deNls_enc, stC, refS, refD, refDs, refB, refC, refCs, refL, isSh, isShC, anySh, lf, lfs, argsD, plainD, plains, plainR, plainRs, noMut, srcS, srcOb, asP, pOk, nilP, nilOk, toCp, ofCp, cpsOb, elsLf, lfs_enc, lfL_encL, lfL_nil, lfL_app, lfL_cons, demDs_enc, refDs_enc, encL_set, Nat.reduceBEq, cv, cvL, wrL, isOwn, argsOb, appOb, slim1, argsS, keep, kp, cand, cor, List.map, List.append, Option.bind, ↓reduceIte, Nat.reduceEqDiff, Nat.reduceAdd, Nat.reduceMul, Nat.reduceLT, Nat.reduceLeDiff, reduceCtorEq, Int.reduceLT, Int.reduceLE, Int.reduceBEq, Int.reduceBNe, Int.reduceAdd, Int.reduceSub, allK_nil, allK_cons, Int.reduceToNat, dq, tya, frR, cnCt, frC]; exact rfl); (repeat (with_reducible first | refine DV.sseq ?_ | refine DV.sblock ?_ | refine DV.scond ?_ | refine DV.sloop ?_ | refine DV.block ?_)))
      (refine DV.ret ?_; (repeat (first | (with_reducible refine thenD_ret' ?_) | (with_reducible refine blockD_ret' ?_))); (with_reducible refine retD_ret' ?_); (try simp only [resOk, resL, rvS, toR, noMu, wpS, wpT, go1, evS, ev, evCallee, evMove, evPick, evBin, evUn, evConv, evFieldAddr, evField, evIndexAddr, evIndex, evExtract, evLoad, evAlloc, evBox, evStore, evBuild, evLit, evSlice, evLen, evMm, evApp, evCall, evCallF, evMake, evMakeP, evFn, evNil, nilB, gdS, put1, sv, gs, gb, opd, cst, outS, cellsS, okS, asSl, setAt, elsD, elsOb, fillD, bnd, bad, dem, demD, demDs, demB, demC, demCs, demL, deNl, deNls, deNls_enc, stC, refS, refD, refDs, refB, refC, refCs, refL, isSh, isShC, anySh, lf, lfs, argsD, plainD, plains, plainR, plainRs, noMut, srcS, srcOb, asP, pOk, nilP, nilOk, toCp, ofCp, cpsOb, elsLf, lfs_enc, lfL_encL, lfL_nil, lfL_app, lfL_cons, demDs_enc, refDs_enc, encL_set, Nat.reduceBEq, cv, cvL, wrL, isOwn, argsOb, appOb, slim1, argsS, keep, kp, cand, cor, List.map, List.append, Option.bind, ↓reduceIte, Nat.reduceEqDiff, Nat.reduceAdd, Nat.reduceMul, Nat.reduceLT, Nat.reduceLeDiff, reduceCtorEq, Int.reduceLT, Int.reduceLE, Int.reduceBEq, Int.reduceBNe, Int.reduceAdd, Int.reduceSub, allK_nil, allK_cons, Int.reduceToNat, dq, tya, frR, cnCt, frC]))
      decide
  · exact h.elim
structure An where
  w : Bool
  f : Int
  t : Int
  k : Tm
  p : List Tm
def anC : Cod An where
  K := 9
  enc := fun a => [.bool a.w, .int .i64 a.f, .int .i64 a.t, .int .i64 a.k.d, .int .i64 a.k.a, .int .i64 a.k.b, .int .i64 a.k.c, .int .i64 a.k.e, .sl (encL tmC a.p)]
  dec := fun l => match l with
    | [.bool w, .int _ f, .int _ t, .int _ d, .int _ a, .int _ b, .int _ c, .int _ e, .sl p] => ⟨w, f, t, ⟨d, a, b, c, e⟩, decL tmC p⟩
    | _ => ⟨false, 0, 0, ⟨0, 0, 0, 0, 0⟩, []⟩
  de := fun x => by dsimp only; rw [decL_encL]
  len := fun _ => rfl
  lf := fun _ => rfl
theorem anE (a : An) : anC.enc a = [.bool a.w, .int .i64 a.f, .int .i64 a.t, .int .i64 a.k.d, .int .i64 a.k.a, .int .i64 a.k.b, .int .i64 a.k.c, .int .i64 a.k.e, .sl (encL tmC a.p)] := rfl
def lightB (l : List Fr.Ct) (m : List An) : Bool := decide (l.length ≤ 30) && decide (m.length ≤ 150) && l.all (fun x => decide (x.n ≤ 1000000)) && m.all (fun a => decide (a.p.length ≤ 20))
def liD : List S1 → CR × Prop
  | [.c (.sl l), .c (.sl m)] => (.one (.c (.bool (lightB (decL ctC l) (decL anC m)))), isL ctC l ∧ isL anC m)
  | _ => (.one (.c (.bool false)), False)
set_option maxHeartbeats 4000000 in
theorem li_cal (args : List S1) (h : (liD args).2) : Cal Try.prog 24 args (liD args).1 := by
  unfold liD at h ⊢
  split at h
  · next l0 m0 =>
    obtain ⟨h1, h2⟩ := h
    obtain ⟨l, rfl⟩ : ∃ x, l0 = encL ctC x := ⟨_, h1.symm⟩
    obtain ⟨m, rfl⟩ : ∃ x, m0 = encL anC x := ⟨_, h2.symm⟩
    rw [decL_encL, decL_encL]
    clear h1 h2
    obtain ⟨R, hR⟩ : ∃ R, lightB l m = R := ⟨_, rfl⟩
    rw [hR]
    unfold lightB at hR
    refine DV.of (Γ := ⟨[], [], []⟩) (rs := [ResultVar.tmp 4]) [0, 1, 4, 5, 6, 14, 18, 26, 30, 39] ⟨nofun, nofun⟩ (by kernel_rfl) Try.func24 rfl rfl (by kernel_rfl) rfl ?_; (repeat (with_reducible first | refine DV.sseq ?_ | refine DV.sblock ?_ | refine DV.scond ?_ | refine DV.sloop ?_ | refine DV.block ?_))
    (apply DV.seqreg; kernel_rfl; (simp only [wpS, wpT, go1, evS, ev, evCallee, evMove, evPick, evBin, evUn, evConv, evFieldAddr, evField, evIndexAddr, evIndex, evExtract, evLoad, evAlloc, evBox, evStore, evBuild, evLit, evSlice, evLen, evMm, evApp, evCall, evCallF, evMake, evMakeP, evFn, evNil, nilB, gdS, put1, sv, gs, gb, opd, cst, outS, cellsS, okS, asSl, setAt, elsD, elsOb, fillD, bnd, bad, dem, demD, demDs, demB, demC, demCs, demL, deNl, deNls, deNls_enc, stC, refS, refD, refDs, refB, refC, refCs, refL, isSh, isShC, anySh, lf, lfs, argsD, plainD, plains, plainR, plainRs, noMut, srcS, srcOb, asP, pOk, nilP, nilOk, toCp, ofCp, cpsOb, elsLf, lfs_enc, lfL_encL, lfL_nil, lfL_app, lfL_cons, demDs_enc, refDs_enc, encL_set, Nat.reduceBEq, cv, cvL, wrL, isOwn, argsOb, appOb, slim1, argsS, keep, kp, cand, cor, List.map, List.append, Option.bind, ↓reduceIte, Nat.reduceEqDiff, Nat.reduceAdd, Nat.reduceMul, Nat.reduceLT, Nat.reduceLeDiff, reduceCtorEq, Int.reduceLT, Int.reduceLE, Int.reduceBEq, Int.reduceBNe, Int.reduceAdd, Int.reduceSub, allK_nil, allK_cons, Int.reduceToNat, dq, tya]; exact rfl); (repeat (with_reducible first | refine DV.sseq ?_ | refine DV.sblock ?_ | refine DV.scond ?_ | refine DV.sloop ?_ | refine DV.block ?_)))
    (apply DV.seqreg; kernel_rfl; (simp only [wpS, wpT, go1, evS, ev, evCallee, evMove, evPick, evBin, evUn, evConv, evFieldAddr, evField, evIndexAddr, evIndex, evExtract, evLoad, evAlloc, evBox, evStore, evBuild, evLit, evSlice, evLen, evMm, evApp, evCall, evCallF, evMake, evMakeP, evFn, evNil, nilB, gdS, put1, sv, gs, gb, opd, cst, outS, cellsS, okS, asSl, setAt, elsD, elsOb, fillD, bnd, bad, dem, demD, demDs, demB, demC, demCs, demL, deNl, deNls, deNls_enc, stC, refS, refD, refDs, refB, refC, refCs, refL, isSh, isShC, anySh, lf, lfs, argsD, plainD, plains, plainR, plainRs, noMut, srcS, srcOb, asP, pOk, nilP, nilOk, toCp, ofCp, cpsOb, elsLf, lfs_enc, lfL_encL, lfL_nil, lfL_app, lfL_cons, demDs_enc, refDs_enc, encL_set, Nat.reduceBEq, cv, cvL, wrL, isOwn, argsOb, appOb, slim1, argsS, keep, kp, cand, cor, List.map, List.append, Option.bind, ↓reduceIte, Nat.reduceEqDiff, Nat.reduceAdd, Nat.reduceMul, Nat.reduceLT, Nat.reduceLeDiff, reduceCtorEq, Int.reduceLT, Int.reduceLE, Int.reduceBEq, Int.reduceBNe, Int.reduceAdd, Int.reduceSub, allK_nil, allK_cons, Int.reduceToNat, dq, tya, encL_len]; exact rfl); (repeat (with_reducible first | refine DV.sseq ?_ | refine DV.sblock ?_ | refine DV.scond ?_ | refine DV.sloop ?_ | refine DV.block ?_)))
    (refine DV.cond rfl (fun _ => rfl) (fun hb => ?_) (fun hb => ?_))
    · (apply DV.seqreg; kernel_rfl; (simp only [wpS, wpT, go1, evS, ev, evCallee, evMove, evPick, evBin, evUn, evConv, evFieldAddr, evField, evIndexAddr, evIndex, evExtract, evLoad, evAlloc, evBox, evStore, evBuild, evLit, evSlice, evLen, evMm, evApp, evCall, evCallF, evMake, evMakeP, evFn, evNil, nilB, gdS, put1, sv, gs, gb, opd, cst, outS, cellsS, okS, asSl, setAt, elsD, elsOb, fillD, bnd, bad, dem, demD, demDs, demB, demC, demCs, demL, deNl, deNls, deNls_enc, stC, refS, refD, refDs, refB, refC, refCs, refL, isSh, isShC, anySh, lf, lfs, argsD, plainD, plains, plainR, plainRs, noMut, srcS, srcOb, asP, pOk, nilP, nilOk, toCp, ofCp, cpsOb, elsLf, lfs_enc, lfL_encL, lfL_nil, lfL_app, lfL_cons, demDs_enc, refDs_enc, encL_set, Nat.reduceBEq, cv, cvL, wrL, isOwn, argsOb, appOb, slim1, argsS, keep, kp, cand, cor, List.map, List.append, Option.bind, ↓reduceIte, Nat.reduceEqDiff, Nat.reduceAdd, Nat.reduceMul, Nat.reduceLT, Nat.reduceLeDiff, reduceCtorEq, Int.reduceLT, Int.reduceLE, Int.reduceBEq, Int.reduceBNe, Int.reduceAdd, Int.reduceSub, allK_nil, allK_cons, Int.reduceToNat, dq, tya]; exact rfl); (repeat (with_reducible first | refine DV.sseq ?_ | refine DV.sblock ?_ | refine DV.scond ?_ | refine DV.sloop ?_ | refine DV.block ?_)))
      (refine DV.ret ?_; (repeat (first | (with_reducible refine thenD_ret' ?_) | (with_reducible refine blockD_ret' ?_))); (with_reducible refine retD_ret' ?_); (try simp only [resOk, resL, rvS, toR, noMu, wpS, wpT, go1, evS, ev, evCallee, evMove, evPick, evBin, evUn, evConv, evFieldAddr, evField, evIndexAddr, evIndex, evExtract, evLoad, evAlloc, evBox, evStore, evBuild, evLit, evSlice, evLen, evMm, evApp, evCall, evCallF, evMake, evMakeP, evFn, evNil, nilB, gdS, put1, sv, gs, gb, opd, cst, outS, cellsS, okS, asSl, setAt, elsD, elsOb, fillD, bnd, bad, dem, demD, demDs, demB, demC, demCs, demL, deNl, deNls, deNls_enc, stC, refS, refD, refDs, refB, refC, refCs, refL, isSh, isShC, anySh, lf, lfs, argsD, plainD, plains, plainR, plainRs, noMut, srcS, srcOb, asP, pOk, nilP, nilOk, toCp, ofCp, cpsOb, elsLf, lfs_enc, lfL_encL, lfL_nil, lfL_app, lfL_cons, demDs_enc, refDs_enc, encL_set, Nat.reduceBEq, cv, cvL, wrL, isOwn, argsOb, appOb, slim1, argsS, keep, kp, cand, cor, List.map, List.append, Option.bind, ↓reduceIte, Nat.reduceEqDiff, Nat.reduceAdd, Nat.reduceMul, Nat.reduceLT, Nat.reduceLeDiff, reduceCtorEq, Int.reduceLT, Int.reduceLE, Int.reduceBEq, Int.reduceBNe, Int.reduceAdd, Int.reduceSub, allK_nil, allK_cons, Int.reduceToNat, dq, tya]))
      rw [← hR]
      have : (decide (l.length ≤ 30) && decide (m.length ≤ 150)) = false := by
        simp only [Bool.or_eq_true, decide_eq_true_eq] at hb
        rw [Bool.and_eq_false_iff, decide_eq_false_iff_not, decide_eq_false_iff_not]
        omega
      rw [this]
      rfl
    have hb2 : l.length ≤ 30 ∧ m.length ≤ 150 := by
      simp only [Bool.or_eq_false_iff, decide_eq_false_iff_not] at hb
      omega
    rw [decide_eq_true hb2.1, decide_eq_true hb2.2] at hR
    obtain ⟨hl, hm⟩ := hb2
    (refine DV.skip ?_; (repeat (with_reducible refine blockD_norm' ?_)); (with_reducible refine thenD_norm' ?_); (repeat (with_reducible first | refine DV.sseq ?_ | refine DV.sblock ?_ | refine DV.scond ?_ | refine DV.sloop ?_ | refine DV.block ?_)))
    (apply DV.seqreg; kernel_rfl; (simp only [wpS, wpT, go1, evS, ev, evCallee, evMove, evPick, evBin, evUn, evConv, evFieldAddr, evField, evIndexAddr, evIndex, evExtract, evLoad, evAlloc, evBox, evStore, evBuild, evLit, evSlice, evLen, evMm, evApp, evCall, evCallF, evMake, evMakeP, evFn, evNil, nilB, gdS, put1, sv, gs, gb, opd, cst, outS, cellsS, okS, asSl, setAt, elsD, elsOb, fillD, bnd, bad, dem, demD, demDs, demB, demC, demCs, demL, deNl, deNls, deNls_enc, stC, refS, refD, refDs, refB, refC, refCs, refL, isSh, isShC, anySh, lf, lfs, argsD, plainD, plains, plainR, plainRs, noMut, srcS, srcOb, asP, pOk, nilP, nilOk, toCp, ofCp, cpsOb, elsLf, lfs_enc, lfL_encL, lfL_nil, lfL_app, lfL_cons, demDs_enc, refDs_enc, encL_set, Nat.reduceBEq, cv, cvL, wrL, isOwn, argsOb, appOb, slim1, argsS, keep, kp, cand, cor, List.map, List.append, Option.bind, ↓reduceIte, Nat.reduceEqDiff, Nat.reduceAdd, Nat.reduceMul, Nat.reduceLT, Nat.reduceLeDiff, reduceCtorEq, Int.reduceLT, Int.reduceLE, Int.reduceBEq, Int.reduceBNe, Int.reduceAdd, Int.reduceSub, allK_nil, allK_cons, Int.reduceToNat, dq, tya]; exact rfl); (repeat (with_reducible first | refine DV.sseq ?_ | refine DV.sblock ?_ | refine DV.scond ?_ | refine DV.sloop ?_ | refine DV.block ?_)))
    refine DV.loop (fun j : Nat => ⟨[(0, .v true (.c (.sl (encL ctC l)))), (1, .v true (.c (.sl (encL anC m)))), (5, .v true (.c (.int .i64 j)))], [], []⟩) (fun j => j ≤ l.length ∧ ∀ (k : Nat) x, k < j → l[k]? = some x → x.n ≤ 1000000) (fun j => l.length - j) 0 ⟨Nat.zero_le _, fun k x hk => absurd hk (Nat.not_lt_zero k)⟩ (by (refine wk_of [] ?_ ?_ ?_ ?_ <;> (simp only [wkS, wkB, wkR, convV, convS, convD, convDs, convB, convO, convC, convCs, look, carried, injB, convDs_enc, lkL_encL, lkL_nil, lkL_app, lkL_cons, encL_nil, encL_app, encL_cons, List.length_append, wpS, wpT, go1, evS, ev, evCallee, evMove, evPick, evBin, evUn, evConv, evFieldAddr, evField, evIndexAddr, evIndex, evExtract, evLoad, evAlloc, evBox, evStore, evBuild, evLit, evSlice, evLen, evMm, evApp, evCall, evCallF, evMake, evMakeP, evFn, evNil, nilB, gdS, put1, sv, gs, gb, opd, cst, outS, cellsS, okS, asSl, setAt, elsD, elsOb, fillD, bnd, bad, dem, demD, demDs, demB, demC, demCs, demL, deNl, deNls, deNls_enc, stC, refS, refD, refDs, refB, refC, refCs, refL, isSh, isShC, anySh, lf, lfs, argsD, plainD, plains, plainR, plainRs, noMut, srcS, srcOb, asP, pOk, nilP, nilOk, toCp, ofCp, cpsOb, elsLf, lfs_enc, lfL_encL, lfL_nil, lfL_app, lfL_cons, demDs_enc, refDs_enc, encL_set, Nat.reduceBEq, cv, cvL, wrL, isOwn, argsOb, appOb, slim1, argsS, keep, kp, cand, cor, List.map, List.append, Option.bind, ↓reduceIte, Nat.reduceEqDiff, Nat.reduceAdd, Nat.reduceMul, Nat.reduceLT, Nat.reduceLeDiff, reduceCtorEq, Int.reduceLT, Int.reduceLE, Int.reduceBEq, Int.reduceBNe, Int.reduceAdd, Int.reduceSub, allK_nil, allK_cons, Int.reduceToNat, dq]; try trivial))) (fun j hj => ?_)
    obtain ⟨hj, hall⟩ := hj
    (repeat (with_reducible first | refine DV.sseq ?_ | refine DV.sblock ?_ | refine DV.scond ?_ | refine DV.sloop ?_ | refine DV.block ?_))
    by_cases hlt : j < l.length
    · obtain ⟨x, hx⟩ : ∃ x, l[j]? = some x := ⟨l[j], List.getElem?_eq_getElem _⟩
      have d1 : decide ((j : Int) < (l.length : Int)) = true := decide_eq_true (by omega)
      have c1 : (0 : Int) ≤ j := by omega
      have c2 : (j : Int) < (l.length : Int) := by omega
      have c3 := encL_get (C := ctC) hx
      have ew := wr1 j (by omega)
      (apply DV.seqreg; kernel_rfl; (simp only [wpS, wpT, go1, evS, ev, evCallee, evMove, evPick, evBin, evUn, evConv, evFieldAddr, evField, evIndexAddr, evIndex, evExtract, evLoad, evAlloc, evBox, evStore, evBuild, evLit, evSlice, evLen, evMm, evApp, evCall, evCallF, evMake, evMakeP, evFn, evNil, nilB, gdS, put1, sv, gs, gb, opd, cst, outS, cellsS, okS, asSl, setAt, elsD, elsOb, fillD, bnd, bad, dem, demD, demDs, demB, demC, demCs, demL, deNl, deNls, deNls_enc, stC, refS, refD, refDs, refB, refC, refCs, refL, isSh, isShC, anySh, lf, lfs, argsD, plainD, plains, plainR, plainRs, noMut, srcS, srcOb, asP, pOk, nilP, nilOk, toCp, ofCp, cpsOb, elsLf, lfs_enc, lfL_encL, lfL_nil, lfL_app, lfL_cons, demDs_enc, refDs_enc, encL_set, Nat.reduceBEq, cv, cvL, wrL, isOwn, argsOb, appOb, slim1, argsS, keep, kp, cand, cor, List.map, List.append, Option.bind, ↓reduceIte, Nat.reduceEqDiff, Nat.reduceAdd, Nat.reduceMul, Nat.reduceLT, Nat.reduceLeDiff, reduceCtorEq, Int.reduceLT, Int.reduceLE, Int.reduceBEq, Int.reduceBNe, Int.reduceAdd, Int.reduceSub, allK_nil, allK_cons, Int.reduceToNat, dq, tya, encL_len, d1]; exact rfl); (repeat (with_reducible first | refine DV.sseq ?_ | refine DV.sblock ?_ | refine DV.scond ?_ | refine DV.sloop ?_ | refine DV.block ?_)))
      (refine DV.condT rfl (fun _ => rfl) ?_; (repeat (with_reducible first | refine DV.sseq ?_ | refine DV.sblock ?_ | refine DV.scond ?_ | refine DV.sloop ?_ | refine DV.block ?_)))
      (refine DV.skip ?_; (repeat (with_reducible refine blockD_norm' ?_)); (with_reducible refine thenD_norm' ?_); (repeat (with_reducible first | refine DV.sseq ?_ | refine DV.sblock ?_ | refine DV.scond ?_ | refine DV.sloop ?_ | refine DV.block ?_)))
      (apply DV.seqreg; kernel_rfl; (simp only [wpS, wpT, go1, evS, ev, evCallee, evMove, evPick, evBin, evUn, evConv, evFieldAddr, evField, evIndexAddr, evIndex, evExtract, evLoad, evAlloc, evBox, evStore, evBuild, evLit, evSlice, evLen, evMm, evApp, evCall, evCallF, evMake, evMakeP, evFn, evNil, nilB, gdS, put1, sv, gs, gb, opd, cst, outS, cellsS, okS, asSl, setAt, elsD, elsOb, fillD, bnd, bad, dem, demD, demDs, demB, demC, demCs, demL, deNl, deNls, deNls_enc, stC, refS, refD, refDs, refB, refC, refCs, refL, isSh, isShC, anySh, lf, lfs, argsD, plainD, plains, plainR, plainRs, noMut, srcS, srcOb, asP, pOk, nilP, nilOk, toCp, ofCp, cpsOb, elsLf, lfs_enc, lfL_encL, lfL_nil, lfL_app, lfL_cons, demDs_enc, refDs_enc, encL_set, Nat.reduceBEq, cv, cvL, wrL, isOwn, argsOb, appOb, slim1, argsS, keep, kp, cand, cor, List.map, List.append, Option.bind, ↓reduceIte, Nat.reduceEqDiff, Nat.reduceAdd, Nat.reduceMul, Nat.reduceLT, Nat.reduceLeDiff, reduceCtorEq, Int.reduceLT, Int.reduceLE, Int.reduceBEq, Int.reduceBNe, Int.reduceAdd, Int.reduceSub, allK_nil, allK_cons, Int.reduceToNat, dq, tya, i2n, encL_len, c1, c2, c3, ctE]; exact rfl); (repeat (with_reducible first | refine DV.sseq ?_ | refine DV.sblock ?_ | refine DV.scond ?_ | refine DV.sloop ?_ | refine DV.block ?_)))
      (refine DV.cond rfl (fun _ => rfl) (fun hq => ?_) (fun hq => ?_))
      · (apply DV.seqreg; kernel_rfl; (simp only [wpS, wpT, go1, evS, ev, evCallee, evMove, evPick, evBin, evUn, evConv, evFieldAddr, evField, evIndexAddr, evIndex, evExtract, evLoad, evAlloc, evBox, evStore, evBuild, evLit, evSlice, evLen, evMm, evApp, evCall, evCallF, evMake, evMakeP, evFn, evNil, nilB, gdS, put1, sv, gs, gb, opd, cst, outS, cellsS, okS, asSl, setAt, elsD, elsOb, fillD, bnd, bad, dem, demD, demDs, demB, demC, demCs, demL, deNl, deNls, deNls_enc, stC, refS, refD, refDs, refB, refC, refCs, refL, isSh, isShC, anySh, lf, lfs, argsD, plainD, plains, plainR, plainRs, noMut, srcS, srcOb, asP, pOk, nilP, nilOk, toCp, ofCp, cpsOb, elsLf, lfs_enc, lfL_encL, lfL_nil, lfL_app, lfL_cons, demDs_enc, refDs_enc, encL_set, Nat.reduceBEq, cv, cvL, wrL, isOwn, argsOb, appOb, slim1, argsS, keep, kp, cand, cor, List.map, List.append, Option.bind, ↓reduceIte, Nat.reduceEqDiff, Nat.reduceAdd, Nat.reduceMul, Nat.reduceLT, Nat.reduceLeDiff, reduceCtorEq, Int.reduceLT, Int.reduceLE, Int.reduceBEq, Int.reduceBNe, Int.reduceAdd, Int.reduceSub, allK_nil, allK_cons, Int.reduceToNat, dq, tya]; exact rfl); (repeat (with_reducible first | refine DV.sseq ?_ | refine DV.sblock ?_ | refine DV.scond ?_ | refine DV.sloop ?_ | refine DV.block ?_)))
        (refine DV.ret ?_; (repeat (first | (with_reducible refine thenD_ret' ?_) | (with_reducible refine blockD_ret' ?_))); (with_reducible refine retD_ret' ?_); (try simp only [resOk, resL, rvS, toR, noMu, wpS, wpT, go1, evS, ev, evCallee, evMove, evPick, evBin, evUn, evConv, evFieldAddr, evField, evIndexAddr, evIndex, evExtract, evLoad, evAlloc, evBox, evStore, evBuild, evLit, evSlice, evLen, evMm, evApp, evCall, evCallF, evMake, evMakeP, evFn, evNil, nilB, gdS, put1, sv, gs, gb, opd, cst, outS, cellsS, okS, asSl, setAt, elsD, elsOb, fillD, bnd, bad, dem, demD, demDs, demB, demC, demCs, demL, deNl, deNls, deNls_enc, stC, refS, refD, refDs, refB, refC, refCs, refL, isSh, isShC, anySh, lf, lfs, argsD, plainD, plains, plainR, plainRs, noMut, srcS, srcOb, asP, pOk, nilP, nilOk, toCp, ofCp, cpsOb, elsLf, lfs_enc, lfL_encL, lfL_nil, lfL_app, lfL_cons, demDs_enc, refDs_enc, encL_set, Nat.reduceBEq, cv, cvL, wrL, isOwn, argsOb, appOb, slim1, argsS, keep, kp, cand, cor, List.map, List.append, Option.bind, ↓reduceIte, Nat.reduceEqDiff, Nat.reduceAdd, Nat.reduceMul, Nat.reduceLT, Nat.reduceLeDiff, reduceCtorEq, Int.reduceLT, Int.reduceLE, Int.reduceBEq, Int.reduceBNe, Int.reduceAdd, Int.reduceSub, allK_nil, allK_cons, Int.reduceToNat, dq, tya]))
        rw [← hR, List.all_eq_false.2 ⟨x, List.mem_of_getElem? hx, by have := of_decide_eq_true hq; simp; omega⟩]
        rfl
      (refine DV.skip ?_; (repeat (with_reducible refine blockD_norm' ?_)); (with_reducible refine thenD_norm' ?_); (repeat (with_reducible first | refine DV.sseq ?_ | refine DV.sblock ?_ | refine DV.scond ?_ | refine DV.sloop ?_ | refine DV.block ?_)))
      (apply DV.reg; kernel_rfl; (simp only [wpS, wpT, go1, evS, ev, evCallee, evMove, evPick, evBin, evUn, evConv, evFieldAddr, evField, evIndexAddr, evIndex, evExtract, evLoad, evAlloc, evBox, evStore, evBuild, evLit, evSlice, evLen, evMm, evApp, evCall, evCallF, evMake, evMakeP, evFn, evNil, nilB, gdS, put1, sv, gs, gb, opd, cst, outS, cellsS, okS, asSl, setAt, elsD, elsOb, fillD, bnd, bad, dem, demD, demDs, demB, demC, demCs, demL, deNl, deNls, deNls_enc, stC, refS, refD, refDs, refB, refC, refCs, refL, isSh, isShC, anySh, lf, lfs, argsD, plainD, plains, plainR, plainRs, noMut, srcS, srcOb, asP, pOk, nilP, nilOk, toCp, ofCp, cpsOb, elsLf, lfs_enc, lfL_encL, lfL_nil, lfL_app, lfL_cons, demDs_enc, refDs_enc, encL_set, Nat.reduceBEq, cv, cvL, wrL, isOwn, argsOb, appOb, slim1, argsS, keep, kp, cand, cor, List.map, List.append, Option.bind, ↓reduceIte, Nat.reduceEqDiff, Nat.reduceAdd, Nat.reduceMul, Nat.reduceLT, Nat.reduceLeDiff, reduceCtorEq, Int.reduceLT, Int.reduceLE, Int.reduceBEq, Int.reduceBNe, Int.reduceAdd, Int.reduceSub, allK_nil, allK_cons, Int.reduceToNat, dq, tya, ew]; exact rfl); (repeat (with_reducible refine blockD_norm' ?_)); (try with_reducible refine thenD_norm' ?_); (repeat (with_reducible first | refine DV.sseq ?_ | refine DV.sblock ?_ | refine DV.scond ?_ | refine DV.sloop ?_ | refine DV.block ?_)))
      refine ⟨j + 1, ⟨⟨hlt, fun k y hk hy => ?_⟩, by omega⟩, by (refine wk_of [] ?_ ?_ ?_ ?_ <;> (simp only [wkS, wkB, wkR, convV, convS, convD, convDs, convB, convO, convC, convCs, look, carried, injB, convDs_enc, lkL_encL, lkL_nil, lkL_app, lkL_cons, encL_nil, encL_app, encL_cons, List.length_append, wpS, wpT, go1, evS, ev, evCallee, evMove, evPick, evBin, evUn, evConv, evFieldAddr, evField, evIndexAddr, evIndex, evExtract, evLoad, evAlloc, evBox, evStore, evBuild, evLit, evSlice, evLen, evMm, evApp, evCall, evCallF, evMake, evMakeP, evFn, evNil, nilB, gdS, put1, sv, gs, gb, opd, cst, outS, cellsS, okS, asSl, setAt, elsD, elsOb, fillD, bnd, bad, dem, demD, demDs, demB, demC, demCs, demL, deNl, deNls, deNls_enc, stC, refS, refD, refDs, refB, refC, refCs, refL, isSh, isShC, anySh, lf, lfs, argsD, plainD, plains, plainR, plainRs, noMut, srcS, srcOb, asP, pOk, nilP, nilOk, toCp, ofCp, cpsOb, elsLf, lfs_enc, lfL_encL, lfL_nil, lfL_app, lfL_cons, demDs_enc, refDs_enc, encL_set, Nat.reduceBEq, cv, cvL, wrL, isOwn, argsOb, appOb, slim1, argsS, keep, kp, cand, cor, List.map, List.append, Option.bind, ↓reduceIte, Nat.reduceEqDiff, Nat.reduceAdd, Nat.reduceMul, Nat.reduceLT, Nat.reduceLeDiff, reduceCtorEq, Int.reduceLT, Int.reduceLE, Int.reduceBEq, Int.reduceBNe, Int.reduceAdd, Int.reduceSub, allK_nil, allK_cons, Int.reduceToNat, dq]; try trivial))⟩
      rcases Nat.lt_or_ge k j with h | h
      · exact hall k y h hy
      · obtain rfl : k = j := by omega
        rw [hx] at hy
        obtain rfl := Option.some.inj hy
        have := of_decide_eq_false hq
        omega
    obtain rfl : j = l.length := by omega
    have d1 : decide ((l.length : Int) < (l.length : Int)) = false := decide_eq_false (by omega)
    have hla : l.all (fun x => decide (x.n ≤ 1000000)) = true := List.all_eq_true.2 fun x hx => by
      obtain ⟨k, hk⟩ := List.mem_iff_getElem?.1 hx
      exact decide_eq_true (hall k x (List.getElem?_eq_some_iff.1 hk).1 hk)
    rw [hla] at hR
    clear hall hlt hj hla
    (apply DV.seqreg; kernel_rfl; (simp only [wpS, wpT, go1, evS, ev, evCallee, evMove, evPick, evBin, evUn, evConv, evFieldAddr, evField, evIndexAddr, evIndex, evExtract, evLoad, evAlloc, evBox, evStore, evBuild, evLit, evSlice, evLen, evMm, evApp, evCall, evCallF, evMake, evMakeP, evFn, evNil, nilB, gdS, put1, sv, gs, gb, opd, cst, outS, cellsS, okS, asSl, setAt, elsD, elsOb, fillD, bnd, bad, dem, demD, demDs, demB, demC, demCs, demL, deNl, deNls, deNls_enc, stC, refS, refD, refDs, refB, refC, refCs, refL, isSh, isShC, anySh, lf, lfs, argsD, plainD, plains, plainR, plainRs, noMut, srcS, srcOb, asP, pOk, nilP, nilOk, toCp, ofCp, cpsOb, elsLf, lfs_enc, lfL_encL, lfL_nil, lfL_app, lfL_cons, demDs_enc, refDs_enc, encL_set, Nat.reduceBEq, cv, cvL, wrL, isOwn, argsOb, appOb, slim1, argsS, keep, kp, cand, cor, List.map, List.append, Option.bind, ↓reduceIte, Nat.reduceEqDiff, Nat.reduceAdd, Nat.reduceMul, Nat.reduceLT, Nat.reduceLeDiff, reduceCtorEq, Int.reduceLT, Int.reduceLE, Int.reduceBEq, Int.reduceBNe, Int.reduceAdd, Int.reduceSub, allK_nil, allK_cons, Int.reduceToNat, dq, tya, encL_len, d1]; exact rfl); (repeat (with_reducible first | refine DV.sseq ?_ | refine DV.sblock ?_ | refine DV.scond ?_ | refine DV.sloop ?_ | refine DV.block ?_)))
    (refine DV.condF rfl (fun _ => rfl) ?_; (repeat (with_reducible first | refine DV.sseq ?_ | refine DV.sblock ?_ | refine DV.scond ?_ | refine DV.sloop ?_ | refine DV.block ?_)))
    (refine DV.exit ?_; (repeat (first | (with_reducible refine thenD_exit' ?_) | (with_reducible refine blockD_other (by decide) ?_))); (with_reducible refine blockD_same ?_); (repeat (with_reducible refine blockD_norm' ?_)); (with_reducible refine thenD_norm' ?_); (repeat (with_reducible first | refine DV.sseq ?_ | refine DV.sblock ?_ | refine DV.scond ?_ | refine DV.sloop ?_ | refine DV.block ?_)))
    (apply DV.seqreg; kernel_rfl; (simp only [wpS, wpT, go1, evS, ev, evCallee, evMove, evPick, evBin, evUn, evConv, evFieldAddr, evField, evIndexAddr, evIndex, evExtract, evLoad, evAlloc, evBox, evStore, evBuild, evLit, evSlice, evLen, evMm, evApp, evCall, evCallF, evMake, evMakeP, evFn, evNil, nilB, gdS, put1, sv, gs, gb, opd, cst, outS, cellsS, okS, asSl, setAt, elsD, elsOb, fillD, bnd, bad, dem, demD, demDs, demB, demC, demCs, demL, deNl, deNls, deNls_enc, stC, refS, refD, refDs, refB, refC, refCs, refL, isSh, isShC, anySh, lf, lfs, argsD, plainD, plains, plainR, plainRs, noMut, srcS, srcOb, asP, pOk, nilP, nilOk, toCp, ofCp, cpsOb, elsLf, lfs_enc, lfL_encL, lfL_nil, lfL_app, lfL_cons, demDs_enc, refDs_enc, encL_set, Nat.reduceBEq, cv, cvL, wrL, isOwn, argsOb, appOb, slim1, argsS, keep, kp, cand, cor, List.map, List.append, Option.bind, ↓reduceIte, Nat.reduceEqDiff, Nat.reduceAdd, Nat.reduceMul, Nat.reduceLT, Nat.reduceLeDiff, reduceCtorEq, Int.reduceLT, Int.reduceLE, Int.reduceBEq, Int.reduceBNe, Int.reduceAdd, Int.reduceSub, allK_nil, allK_cons, Int.reduceToNat, dq, tya]; exact rfl); (repeat (with_reducible first | refine DV.sseq ?_ | refine DV.sblock ?_ | refine DV.scond ?_ | refine DV.sloop ?_ | refine DV.block ?_)))
    refine DV.loop (fun j : Nat => ⟨[(1, .v true (.c (.sl (encL anC m)))), (6, .v true (.c (.int .i64 j)))], [], []⟩) (fun j => j ≤ m.length ∧ ∀ (k : Nat) x, k < j → m[k]? = some x → x.p.length ≤ 20) (fun j => m.length - j) 0 ⟨Nat.zero_le _, fun k x hk => absurd hk (Nat.not_lt_zero k)⟩ (by (refine wk_of [] ?_ ?_ ?_ ?_ <;> (simp only [wkS, wkB, wkR, convV, convS, convD, convDs, convB, convO, convC, convCs, look, carried, injB, convDs_enc, lkL_encL, lkL_nil, lkL_app, lkL_cons, encL_nil, encL_app, encL_cons, List.length_append, wpS, wpT, go1, evS, ev, evCallee, evMove, evPick, evBin, evUn, evConv, evFieldAddr, evField, evIndexAddr, evIndex, evExtract, evLoad, evAlloc, evBox, evStore, evBuild, evLit, evSlice, evLen, evMm, evApp, evCall, evCallF, evMake, evMakeP, evFn, evNil, nilB, gdS, put1, sv, gs, gb, opd, cst, outS, cellsS, okS, asSl, setAt, elsD, elsOb, fillD, bnd, bad, dem, demD, demDs, demB, demC, demCs, demL, deNl, deNls, deNls_enc, stC, refS, refD, refDs, refB, refC, refCs, refL, isSh, isShC, anySh, lf, lfs, argsD, plainD, plains, plainR, plainRs, noMut, srcS, srcOb, asP, pOk, nilP, nilOk, toCp, ofCp, cpsOb, elsLf, lfs_enc, lfL_encL, lfL_nil, lfL_app, lfL_cons, demDs_enc, refDs_enc, encL_set, Nat.reduceBEq, cv, cvL, wrL, isOwn, argsOb, appOb, slim1, argsS, keep, kp, cand, cor, List.map, List.append, Option.bind, ↓reduceIte, Nat.reduceEqDiff, Nat.reduceAdd, Nat.reduceMul, Nat.reduceLT, Nat.reduceLeDiff, reduceCtorEq, Int.reduceLT, Int.reduceLE, Int.reduceBEq, Int.reduceBNe, Int.reduceAdd, Int.reduceSub, allK_nil, allK_cons, Int.reduceToNat, dq]; try trivial))) (fun j hj => ?_)
    obtain ⟨hj, hall⟩ := hj
    (repeat (with_reducible first | refine DV.sseq ?_ | refine DV.sblock ?_ | refine DV.scond ?_ | refine DV.sloop ?_ | refine DV.block ?_))
    by_cases hlt : j < m.length
    · obtain ⟨x, hx⟩ : ∃ x, m[j]? = some x := ⟨m[j], List.getElem?_eq_getElem _⟩
      have d1 : decide ((j : Int) < (m.length : Int)) = true := decide_eq_true (by omega)
      have c1 : (0 : Int) ≤ j := by omega
      have c2 : (j : Int) < (m.length : Int) := by omega
      have c3 := encL_get (C := anC) hx
      have ew := wr1 j (by omega)
      (apply DV.seqreg; kernel_rfl; (simp only [wpS, wpT, go1, evS, ev, evCallee, evMove, evPick, evBin, evUn, evConv, evFieldAddr, evField, evIndexAddr, evIndex, evExtract, evLoad, evAlloc, evBox, evStore, evBuild, evLit, evSlice, evLen, evMm, evApp, evCall, evCallF, evMake, evMakeP, evFn, evNil, nilB, gdS, put1, sv, gs, gb, opd, cst, outS, cellsS, okS, asSl, setAt, elsD, elsOb, fillD, bnd, bad, dem, demD, demDs, demB, demC, demCs, demL, deNl, deNls, deNls_enc, stC, refS, refD, refDs, refB, refC, refCs, refL, isSh, isShC, anySh, lf, lfs, argsD, plainD, plains, plainR, plainRs, noMut, srcS, srcOb, asP, pOk, nilP, nilOk, toCp, ofCp, cpsOb, elsLf, lfs_enc, lfL_encL, lfL_nil, lfL_app, lfL_cons, demDs_enc, refDs_enc, encL_set, Nat.reduceBEq, cv, cvL, wrL, isOwn, argsOb, appOb, slim1, argsS, keep, kp, cand, cor, List.map, List.append, Option.bind, ↓reduceIte, Nat.reduceEqDiff, Nat.reduceAdd, Nat.reduceMul, Nat.reduceLT, Nat.reduceLeDiff, reduceCtorEq, Int.reduceLT, Int.reduceLE, Int.reduceBEq, Int.reduceBNe, Int.reduceAdd, Int.reduceSub, allK_nil, allK_cons, Int.reduceToNat, dq, tya, encL_len, d1]; exact rfl); (repeat (with_reducible first | refine DV.sseq ?_ | refine DV.sblock ?_ | refine DV.scond ?_ | refine DV.sloop ?_ | refine DV.block ?_)))
      (refine DV.condT rfl (fun _ => rfl) ?_; (repeat (with_reducible first | refine DV.sseq ?_ | refine DV.sblock ?_ | refine DV.scond ?_ | refine DV.sloop ?_ | refine DV.block ?_)))
      (refine DV.skip ?_; (repeat (with_reducible refine blockD_norm' ?_)); (with_reducible refine thenD_norm' ?_); (repeat (with_reducible first | refine DV.sseq ?_ | refine DV.sblock ?_ | refine DV.scond ?_ | refine DV.sloop ?_ | refine DV.block ?_)))
      (apply DV.seqreg; kernel_rfl; (simp only [wpS, wpT, go1, evS, ev, evCallee, evMove, evPick, evBin, evUn, evConv, evFieldAddr, evField, evIndexAddr, evIndex, evExtract, evLoad, evAlloc, evBox, evStore, evBuild, evLit, evSlice, evLen, evMm, evApp, evCall, evCallF, evMake, evMakeP, evFn, evNil, nilB, gdS, put1, sv, gs, gb, opd, cst, outS, cellsS, okS, asSl, setAt, elsD, elsOb, fillD, bnd, bad, dem, demD, demDs, demB, demC, demCs, demL, deNl, deNls, deNls_enc, stC, refS, refD, refDs, refB, refC, refCs, refL, isSh, isShC, anySh, lf, lfs, argsD, plainD, plains, plainR, plainRs, noMut, srcS, srcOb, asP, pOk, nilP, nilOk, toCp, ofCp, cpsOb, elsLf, lfs_enc, lfL_encL, lfL_nil, lfL_app, lfL_cons, demDs_enc, refDs_enc, encL_set, Nat.reduceBEq, cv, cvL, wrL, isOwn, argsOb, appOb, slim1, argsS, keep, kp, cand, cor, List.map, List.append, Option.bind, ↓reduceIte, Nat.reduceEqDiff, Nat.reduceAdd, Nat.reduceMul, Nat.reduceLT, Nat.reduceLeDiff, reduceCtorEq, Int.reduceLT, Int.reduceLE, Int.reduceBEq, Int.reduceBNe, Int.reduceAdd, Int.reduceSub, allK_nil, allK_cons, Int.reduceToNat, dq, tya, i2n, encL_len, c1, c2, c3, anE]; exact rfl); (repeat (with_reducible first | refine DV.sseq ?_ | refine DV.sblock ?_ | refine DV.scond ?_ | refine DV.sloop ?_ | refine DV.block ?_)))
      (refine DV.cond rfl (fun _ => rfl) (fun hq => ?_) (fun hq => ?_))
      · (apply DV.seqreg; kernel_rfl; (simp only [wpS, wpT, go1, evS, ev, evCallee, evMove, evPick, evBin, evUn, evConv, evFieldAddr, evField, evIndexAddr, evIndex, evExtract, evLoad, evAlloc, evBox, evStore, evBuild, evLit, evSlice, evLen, evMm, evApp, evCall, evCallF, evMake, evMakeP, evFn, evNil, nilB, gdS, put1, sv, gs, gb, opd, cst, outS, cellsS, okS, asSl, setAt, elsD, elsOb, fillD, bnd, bad, dem, demD, demDs, demB, demC, demCs, demL, deNl, deNls, deNls_enc, stC, refS, refD, refDs, refB, refC, refCs, refL, isSh, isShC, anySh, lf, lfs, argsD, plainD, plains, plainR, plainRs, noMut, srcS, srcOb, asP, pOk, nilP, nilOk, toCp, ofCp, cpsOb, elsLf, lfs_enc, lfL_encL, lfL_nil, lfL_app, lfL_cons, demDs_enc, refDs_enc, encL_set, Nat.reduceBEq, cv, cvL, wrL, isOwn, argsOb, appOb, slim1, argsS, keep, kp, cand, cor, List.map, List.append, Option.bind, ↓reduceIte, Nat.reduceEqDiff, Nat.reduceAdd, Nat.reduceMul, Nat.reduceLT, Nat.reduceLeDiff, reduceCtorEq, Int.reduceLT, Int.reduceLE, Int.reduceBEq, Int.reduceBNe, Int.reduceAdd, Int.reduceSub, allK_nil, allK_cons, Int.reduceToNat, dq, tya]; exact rfl); (repeat (with_reducible first | refine DV.sseq ?_ | refine DV.sblock ?_ | refine DV.scond ?_ | refine DV.sloop ?_ | refine DV.block ?_)))
        (refine DV.ret ?_; (repeat (first | (with_reducible refine thenD_ret' ?_) | (with_reducible refine blockD_ret' ?_))); (with_reducible refine retD_ret' ?_); (try simp only [resOk, resL, rvS, toR, noMu, wpS, wpT, go1, evS, ev, evCallee, evMove, evPick, evBin, evUn, evConv, evFieldAddr, evField, evIndexAddr, evIndex, evExtract, evLoad, evAlloc, evBox, evStore, evBuild, evLit, evSlice, evLen, evMm, evApp, evCall, evCallF, evMake, evMakeP, evFn, evNil, nilB, gdS, put1, sv, gs, gb, opd, cst, outS, cellsS, okS, asSl, setAt, elsD, elsOb, fillD, bnd, bad, dem, demD, demDs, demB, demC, demCs, demL, deNl, deNls, deNls_enc, stC, refS, refD, refDs, refB, refC, refCs, refL, isSh, isShC, anySh, lf, lfs, argsD, plainD, plains, plainR, plainRs, noMut, srcS, srcOb, asP, pOk, nilP, nilOk, toCp, ofCp, cpsOb, elsLf, lfs_enc, lfL_encL, lfL_nil, lfL_app, lfL_cons, demDs_enc, refDs_enc, encL_set, Nat.reduceBEq, cv, cvL, wrL, isOwn, argsOb, appOb, slim1, argsS, keep, kp, cand, cor, List.map, List.append, Option.bind, ↓reduceIte, Nat.reduceEqDiff, Nat.reduceAdd, Nat.reduceMul, Nat.reduceLT, Nat.reduceLeDiff, reduceCtorEq, Int.reduceLT, Int.reduceLE, Int.reduceBEq, Int.reduceBNe, Int.reduceAdd, Int.reduceSub, allK_nil, allK_cons, Int.reduceToNat, dq, tya]))
        rw [← hR, List.all_eq_false.2 ⟨x, List.mem_of_getElem? hx, by have := of_decide_eq_true hq; simp; omega⟩]
        rfl
      (refine DV.skip ?_; (repeat (with_reducible refine blockD_norm' ?_)); (with_reducible refine thenD_norm' ?_); (repeat (with_reducible first | refine DV.sseq ?_ | refine DV.sblock ?_ | refine DV.scond ?_ | refine DV.sloop ?_ | refine DV.block ?_)))
      (apply DV.reg; kernel_rfl; (simp only [wpS, wpT, go1, evS, ev, evCallee, evMove, evPick, evBin, evUn, evConv, evFieldAddr, evField, evIndexAddr, evIndex, evExtract, evLoad, evAlloc, evBox, evStore, evBuild, evLit, evSlice, evLen, evMm, evApp, evCall, evCallF, evMake, evMakeP, evFn, evNil, nilB, gdS, put1, sv, gs, gb, opd, cst, outS, cellsS, okS, asSl, setAt, elsD, elsOb, fillD, bnd, bad, dem, demD, demDs, demB, demC, demCs, demL, deNl, deNls, deNls_enc, stC, refS, refD, refDs, refB, refC, refCs, refL, isSh, isShC, anySh, lf, lfs, argsD, plainD, plains, plainR, plainRs, noMut, srcS, srcOb, asP, pOk, nilP, nilOk, toCp, ofCp, cpsOb, elsLf, lfs_enc, lfL_encL, lfL_nil, lfL_app, lfL_cons, demDs_enc, refDs_enc, encL_set, Nat.reduceBEq, cv, cvL, wrL, isOwn, argsOb, appOb, slim1, argsS, keep, kp, cand, cor, List.map, List.append, Option.bind, ↓reduceIte, Nat.reduceEqDiff, Nat.reduceAdd, Nat.reduceMul, Nat.reduceLT, Nat.reduceLeDiff, reduceCtorEq, Int.reduceLT, Int.reduceLE, Int.reduceBEq, Int.reduceBNe, Int.reduceAdd, Int.reduceSub, allK_nil, allK_cons, Int.reduceToNat, dq, tya, ew]; exact rfl); (repeat (with_reducible refine blockD_norm' ?_)); (try with_reducible refine thenD_norm' ?_); (repeat (with_reducible first | refine DV.sseq ?_ | refine DV.sblock ?_ | refine DV.scond ?_ | refine DV.sloop ?_ | refine DV.block ?_)))
      refine ⟨j + 1, ⟨⟨hlt, fun k y hk hy => ?_⟩, by omega⟩, by (refine wk_of [] ?_ ?_ ?_ ?_ <;> (simp only [wkS, wkB, wkR, convV, convS, convD, convDs, convB, convO, convC, convCs, look, carried, injB, convDs_enc, lkL_encL, lkL_nil, lkL_app, lkL_cons, encL_nil, encL_app, encL_cons, List.length_append, wpS, wpT, go1, evS, ev, evCallee, evMove, evPick, evBin, evUn, evConv, evFieldAddr, evField, evIndexAddr, evIndex, evExtract, evLoad, evAlloc, evBox, evStore, evBuild, evLit, evSlice, evLen, evMm, evApp, evCall, evCallF, evMake, evMakeP, evFn, evNil, nilB, gdS, put1, sv, gs, gb, opd, cst, outS, cellsS, okS, asSl, setAt, elsD, elsOb, fillD, bnd, bad, dem, demD, demDs, demB, demC, demCs, demL, deNl, deNls, deNls_enc, stC, refS, refD, refDs, refB, refC, refCs, refL, isSh, isShC, anySh, lf, lfs, argsD, plainD, plains, plainR, plainRs, noMut, srcS, srcOb, asP, pOk, nilP, nilOk, toCp, ofCp, cpsOb, elsLf, lfs_enc, lfL_encL, lfL_nil, lfL_app, lfL_cons, demDs_enc, refDs_enc, encL_set, Nat.reduceBEq, cv, cvL, wrL, isOwn, argsOb, appOb, slim1, argsS, keep, kp, cand, cor, List.map, List.append, Option.bind, ↓reduceIte, Nat.reduceEqDiff, Nat.reduceAdd, Nat.reduceMul, Nat.reduceLT, Nat.reduceLeDiff, reduceCtorEq, Int.reduceLT, Int.reduceLE, Int.reduceBEq, Int.reduceBNe, Int.reduceAdd, Int.reduceSub, allK_nil, allK_cons, Int.reduceToNat, dq]; try trivial))⟩
      rcases Nat.lt_or_ge k j with h | h
      · exact hall k y h hy
      · obtain rfl : k = j := by omega
        rw [hx] at hy
        obtain rfl := Option.some.inj hy
        have := of_decide_eq_false hq
        omega
    · obtain rfl : j = m.length := by omega
      have d1 : decide ((m.length : Int) < (m.length : Int)) = false := decide_eq_false (by omega)
      have hla : m.all (fun a => decide (a.p.length ≤ 20)) = true := List.all_eq_true.2 fun x hx => by
        obtain ⟨k, hk⟩ := List.mem_iff_getElem?.1 hx
        exact decide_eq_true (hall k x (List.getElem?_eq_some_iff.1 hk).1 hk)
      rw [hla] at hR
      (apply DV.seqreg; kernel_rfl; (simp only [wpS, wpT, go1, evS, ev, evCallee, evMove, evPick, evBin, evUn, evConv, evFieldAddr, evField, evIndexAddr, evIndex, evExtract, evLoad, evAlloc, evBox, evStore, evBuild, evLit, evSlice, evLen, evMm, evApp, evCall, evCallF, evMake, evMakeP, evFn, evNil, nilB, gdS, put1, sv, gs, gb, opd, cst, outS, cellsS, okS, asSl, setAt, elsD, elsOb, fillD, bnd, bad, dem, demD, demDs, demB, demC, demCs, demL, deNl, deNls, deNls_enc, stC, refS, refD, refDs, refB, refC, refCs, refL, isSh, isShC, anySh, lf, lfs, argsD, plainD, plains, plainR, plainRs, noMut, srcS, srcOb, asP, pOk, nilP, nilOk, toCp, ofCp, cpsOb, elsLf, lfs_enc, lfL_encL, lfL_nil, lfL_app, lfL_cons, demDs_enc, refDs_enc, encL_set, Nat.reduceBEq, cv, cvL, wrL, isOwn, argsOb, appOb, slim1, argsS, keep, kp, cand, cor, List.map, List.append, Option.bind, ↓reduceIte, Nat.reduceEqDiff, Nat.reduceAdd, Nat.reduceMul, Nat.reduceLT, Nat.reduceLeDiff, reduceCtorEq, Int.reduceLT, Int.reduceLE, Int.reduceBEq, Int.reduceBNe, Int.reduceAdd, Int.reduceSub, allK_nil, allK_cons, Int.reduceToNat, dq, tya, encL_len, d1]; exact rfl); (repeat (with_reducible first | refine DV.sseq ?_ | refine DV.sblock ?_ | refine DV.scond ?_ | refine DV.sloop ?_ | refine DV.block ?_)))
      (refine DV.condF rfl (fun _ => rfl) ?_; (repeat (with_reducible first | refine DV.sseq ?_ | refine DV.sblock ?_ | refine DV.scond ?_ | refine DV.sloop ?_ | refine DV.block ?_)))
      (refine DV.exit ?_; (repeat (first | (with_reducible refine thenD_exit' ?_) | (with_reducible refine blockD_other (by decide) ?_))); (with_reducible refine blockD_same ?_); (repeat (with_reducible refine blockD_norm' ?_)); (with_reducible refine thenD_norm' ?_); (repeat (with_reducible first | refine DV.sseq ?_ | refine DV.sblock ?_ | refine DV.scond ?_ | refine DV.sloop ?_ | refine DV.block ?_)))
      (apply DV.seqreg; kernel_rfl; (simp only [wpS, wpT, go1, evS, ev, evCallee, evMove, evPick, evBin, evUn, evConv, evFieldAddr, evField, evIndexAddr, evIndex, evExtract, evLoad, evAlloc, evBox, evStore, evBuild, evLit, evSlice, evLen, evMm, evApp, evCall, evCallF, evMake, evMakeP, evFn, evNil, nilB, gdS, put1, sv, gs, gb, opd, cst, outS, cellsS, okS, asSl, setAt, elsD, elsOb, fillD, bnd, bad, dem, demD, demDs, demB, demC, demCs, demL, deNl, deNls, deNls_enc, stC, refS, refD, refDs, refB, refC, refCs, refL, isSh, isShC, anySh, lf, lfs, argsD, plainD, plains, plainR, plainRs, noMut, srcS, srcOb, asP, pOk, nilP, nilOk, toCp, ofCp, cpsOb, elsLf, lfs_enc, lfL_encL, lfL_nil, lfL_app, lfL_cons, demDs_enc, refDs_enc, encL_set, Nat.reduceBEq, cv, cvL, wrL, isOwn, argsOb, appOb, slim1, argsS, keep, kp, cand, cor, List.map, List.append, Option.bind, ↓reduceIte, Nat.reduceEqDiff, Nat.reduceAdd, Nat.reduceMul, Nat.reduceLT, Nat.reduceLeDiff, reduceCtorEq, Int.reduceLT, Int.reduceLE, Int.reduceBEq, Int.reduceBNe, Int.reduceAdd, Int.reduceSub, allK_nil, allK_cons, Int.reduceToNat, dq, tya]; exact rfl); (repeat (with_reducible first | refine DV.sseq ?_ | refine DV.sblock ?_ | refine DV.scond ?_ | refine DV.sloop ?_ | refine DV.block ?_)))
      (refine DV.ret ?_; (repeat (first | (with_reducible refine thenD_ret' ?_) | (with_reducible refine blockD_ret' ?_))); (with_reducible refine retD_ret' ?_); (try simp only [resOk, resL, rvS, toR, noMu, wpS, wpT, go1, evS, ev, evCallee, evMove, evPick, evBin, evUn, evConv, evFieldAddr, evField, evIndexAddr, evIndex, evExtract, evLoad, evAlloc, evBox, evStore, evBuild, evLit, evSlice, evLen, evMm, evApp, evCall, evCallF, evMake, evMakeP, evFn, evNil, nilB, gdS, put1, sv, gs, gb, opd, cst, outS, cellsS, okS, asSl, setAt, elsD, elsOb, fillD, bnd, bad, dem, demD, demDs, demB, demC, demCs, demL, deNl, deNls, deNls_enc, stC, refS, refD, refDs, refB, refC, refCs, refL, isSh, isShC, anySh, lf, lfs, argsD, plainD, plains, plainR, plainRs, noMut, srcS, srcOb, asP, pOk, nilP, nilOk, toCp, ofCp, cpsOb, elsLf, lfs_enc, lfL_encL, lfL_nil, lfL_app, lfL_cons, demDs_enc, refDs_enc, encL_set, Nat.reduceBEq, cv, cvL, wrL, isOwn, argsOb, appOb, slim1, argsS, keep, kp, cand, cor, List.map, List.append, Option.bind, ↓reduceIte, Nat.reduceEqDiff, Nat.reduceAdd, Nat.reduceMul, Nat.reduceLT, Nat.reduceLeDiff, reduceCtorEq, Int.reduceLT, Int.reduceLE, Int.reduceBEq, Int.reduceBNe, Int.reduceAdd, Int.reduceSub, allK_nil, allK_cons, Int.reduceToNat, dq, tya]))
      exact hR
  · exact h.elim
def W0 : Wd := ⟨[⟨1, 0, 0, 0, 0, 1⟩], [[⟨1, 0, 0, 0, 0, 1⟩], [⟨1, 0, 0, 0, 0, 1⟩]], [[[], []], [[], []]]⟩
def cg : List Fr.Ct := [⟨1, 0, 0, 0, 0, -1⟩, ⟨1, 1, 0, 0, 0, 1⟩]
def W1 : Wd := ⟨[⟨1, 1, 0, 0, 0, 1⟩], [[⟨1, 0, 0, 0, 0, 1⟩], [⟨1, 0, 0, 0, 0, 1⟩]], [[[cg], [cg]], [[], []]]⟩
def W2 : Wd := ⟨[⟨1, 1, 0, 0, 0, 1⟩], [[⟨1, 0, 0, 0, 0, 1⟩], [⟨1, 1, 0, 0, 0, 1⟩]], [[[cg], []], [[], []]]⟩
theorem aw_1 : workS W0 0 ⟨1, 0, 0, 0, 0⟩ [⟨1, 1, 0, 0, 0⟩] = (W1, 0) := by kernel_rfl
theorem aw_2 : comeS W1 0 1 = (W2, 0) := by kernel_rfl
theorem aw_w0 : Wf W0 := ⟨by decide, by decide, rfl, by decide⟩
theorem aw_w1 : Wg W1 := ⟨⟨by decide, by decide, rfl, by decide⟩, by decide, by decide⟩
set_option maxHeartbeats 4000000 in
theorem aw26_cal : Cal Try.prog 23 [] (.one (.c (.bool true))) := by
  have f1 : nwB 2 (decL ctC [[D.int .i64 1, .int .i64 0, .int .i64 0, .int .i64 0, .int .i64 0, .int .i64 1]]) = false := by kernel_rfl
  have f2 : newW 2 (decL ctC [[D.int .i64 1, .int .i64 0, .int .i64 0, .int .i64 0, .int .i64 0, .int .i64 1]]) = W0 := rfl
  have f3 : isL ctC [[D.int .i64 1, .int .i64 0, .int .i64 0, .int .i64 0, .int .i64 0, .int .i64 1]] := rfl
  have f4 : (decL ctC [[D.int .i64 1, .int .i64 0, .int .i64 0, .int .i64 0, .int .i64 0, .int .i64 1]]).length ≤ 1073741823 := by decide
  have g0 : wdC.dec (wdC.enc W0) = W0 := wdC.de W0
  have g1 : wdC.dec (wdC.enc W1) = W1 := wdC.de W1
  have g2 : wdC.dec (wdC.enc W2) = W2 := wdC.de W2
  have t1 : decL tmC [[D.int .i64 1, .int .i64 1, .int .i64 0, .int .i64 0, .int .i64 0]] = [⟨1, 1, 0, 0, 0⟩] := rfl
  have t2 : isL tmC [[D.int .i64 1, .int .i64 1, .int .i64 0, .int .i64 0, .int .i64 0]] := rfl
  have k1 : encL ctC (knowS W2 0) = [[D.int .i64 1, .int .i64 0, .int .i64 0, .int .i64 0, .int .i64 0, .int .i64 1]] := rfl
  have k2 : encL ctC (knowS W2 1) = [[D.int .i64 1, .int .i64 1, .int .i64 0, .int .i64 0, .int .i64 0, .int .i64 1]] := rfl
  have k3 : ∀ x ∈ W2.kn, x.length ≤ 1073741823 := by decide
  have k4 : queueS W2 0 0 = 1 := rfl
  have k5 : W2.qu.length = W2.kn.length := rfl
  have k6 : ∀ q ∈ W2.qu, q.length = W2.kn.length := by decide
  have w0 := aw_w0
  have w1 := aw_w1
  have e1 := aw_1
  have e2 := aw_2
  generalize W0 = X0 at f2 g0 w0 e1
  generalize W1 = X1 at g1 w1 e1 e2
  generalize W2 = X2 at g2 e2 k1 k2 k3 k4 k5 k6
  have q1 : EqOk Try.prog 47 [D.int IntKind.i64 1, D.int IntKind.i64 0, D.int IntKind.i64 0, D.int IntKind.i64 0, D.int IntKind.i64 0] [D.int IntKind.i64 1, D.int IntKind.i64 0, D.int IntKind.i64 0, D.int IntKind.i64 0, D.int IntKind.i64 0] := eqok47 1 0 0 0 0 1 0 0 0 0
  have q2 : EqOk Try.prog 47 [D.int IntKind.i64 1, D.int IntKind.i64 1, D.int IntKind.i64 0, D.int IntKind.i64 0, D.int IntKind.i64 0] [D.int IntKind.i64 1, D.int IntKind.i64 1, D.int IntKind.i64 0, D.int IntKind.i64 0, D.int IntKind.i64 0] := eqok47 1 1 0 0 0 1 1 0 0 0
  have b1 : ((1 : Nat) : Int) = 1 := rfl
  refine DV.of (Γ := ⟨[(25, newD), (31, workD), (27, comeD), (28, knowD), (30, queueD)], [], []⟩) (rs := [ResultVar.tmp 0]) [0, 1, 2, 3, 4, 5, 6, 7, 8] ⟨by intro p hp; simp only [List.mem_cons, List.not_mem_nil, or_false] at hp; rcases hp with rfl | rfl | rfl | rfl | rfl; exact new_cal; exact work_cal; exact come_cal; exact know_cal; exact queue_cal, nofun⟩ (by kernel_rfl) Try.func23 rfl rfl (by kernel_rfl) rfl ?_; (repeat (with_reducible first | refine DV.sseq ?_ | refine DV.sblock ?_ | refine DV.scond ?_ | refine DV.sloop ?_ | refine DV.block ?_))
  (apply DV.seqreg; kernel_rfl; (simp only [wpS, wpT, go1, evS, ev, evCallee, evMove, evPick, evBin, evUn, evConv, evFieldAddr, evField, evIndexAddr, evIndex, evExtract, evLoad, evAlloc, evBox, evStore, evBuild, evLit, evSlice, evLen, evMm, evApp, evCall, evCallF, evMake, evMakeP, evFn, evNil, nilB, gdS, put1, sv, gs, gb, opd, cst, outS, cellsS, okS, asSl, setAt, elsD, elsOb, fillD, bnd, bad, dem, demD, demDs, demB, demC, demCs, demL, deNl, deNls, deNls_enc, stC, refS, refD, refDs, refB, refC, refCs, refL, isSh, isShC, anySh, lf, lfs, argsD, plainD, plains, plainR, plainRs, noMut, srcS, srcOb, asP, pOk, nilP, nilOk, toCp, ofCp, cpsOb, elsLf, lfs_enc, lfL_encL, lfL_nil, lfL_app, lfL_cons, demDs_enc, refDs_enc, encL_set, Nat.reduceBEq, cv, cvL, wrL, isOwn, argsOb, appOb, slim1, argsS, keep, kp, cand, cor, List.map, List.append, Option.bind, ↓reduceIte, Nat.reduceEqDiff, Nat.reduceAdd, Nat.reduceMul, Nat.reduceLT, Nat.reduceLeDiff, reduceCtorEq, Int.reduceLT, Int.reduceLE, Int.reduceBEq, Int.reduceBNe, Int.reduceAdd, Int.reduceSub, allK_nil, allK_cons, Int.reduceToNat, dq, tya, newD, workD, comeD, knowD, queueD]; exact rfl); (repeat (with_reducible first | refine DV.sseq ?_ | refine DV.sblock ?_ | refine DV.scond ?_ | refine DV.sloop ?_ | refine DV.block ?_)))
  (apply DV.seqreg; kernel_rfl; (simp only [wpS, wpT, go1, evS, ev, evCallee, evMove, evPick, evBin, evUn, evConv, evFieldAddr, evField, evIndexAddr, evIndex, evExtract, evLoad, evAlloc, evBox, evStore, evBuild, evLit, evSlice, evLen, evMm, evApp, evCall, evCallF, evMake, evMakeP, evFn, evNil, nilB, gdS, put1, sv, gs, gb, opd, cst, outS, cellsS, okS, asSl, setAt, elsD, elsOb, fillD, bnd, bad, dem, demD, demDs, demB, demC, demCs, demL, deNl, deNls, deNls_enc, stC, refS, refD, refDs, refB, refC, refCs, refL, isSh, isShC, anySh, lf, lfs, argsD, plainD, plains, plainR, plainRs, noMut, srcS, srcOb, asP, pOk, nilP, nilOk, toCp, ofCp, cpsOb, elsLf, lfs_enc, lfL_encL, lfL_nil, lfL_app, lfL_cons, demDs_enc, refDs_enc, encL_set, Nat.reduceBEq, cv, cvL, wrL, isOwn, argsOb, appOb, slim1, argsS, keep, kp, cand, cor, List.map, List.append, Option.bind, ↓reduceIte, Nat.reduceEqDiff, Nat.reduceAdd, Nat.reduceMul, Nat.reduceLT, Nat.reduceLeDiff, reduceCtorEq, Int.reduceLT, Int.reduceLE, Int.reduceBEq, Int.reduceBNe, Int.reduceAdd, Int.reduceSub, allK_nil, allK_cons, Int.reduceToNat, dq, tya, newD, workD, comeD, knowD, queueD]; exact rfl); (repeat (with_reducible first | refine DV.sseq ?_ | refine DV.sblock ?_ | refine DV.scond ?_ | refine DV.sloop ?_ | refine DV.block ?_)))
  (apply DV.seqreg; kernel_rfl; (simp only [wpS, wpT, go1, evS, ev, evCallee, evMove, evPick, evBin, evUn, evConv, evFieldAddr, evField, evIndexAddr, evIndex, evExtract, evLoad, evAlloc, evBox, evStore, evBuild, evLit, evSlice, evLen, evMm, evApp, evCall, evCallF, evMake, evMakeP, evFn, evNil, nilB, gdS, put1, sv, gs, gb, opd, cst, outS, cellsS, okS, asSl, setAt, elsD, elsOb, fillD, bnd, bad, dem, demD, demDs, demB, demC, demCs, demL, deNl, deNls, deNls_enc, stC, refS, refD, refDs, refB, refC, refCs, refL, isSh, isShC, anySh, lf, lfs, argsD, plainD, plains, plainR, plainRs, noMut, srcS, srcOb, asP, pOk, nilP, nilOk, toCp, ofCp, cpsOb, elsLf, lfs_enc, lfL_encL, lfL_nil, lfL_app, lfL_cons, demDs_enc, refDs_enc, encL_set, Nat.reduceBEq, cv, cvL, wrL, isOwn, argsOb, appOb, slim1, argsS, keep, kp, cand, cor, List.map, List.append, Option.bind, ↓reduceIte, Nat.reduceEqDiff, Nat.reduceAdd, Nat.reduceMul, Nat.reduceLT, Nat.reduceLeDiff, reduceCtorEq, Int.reduceLT, Int.reduceLE, Int.reduceBEq, Int.reduceBNe, Int.reduceAdd, Int.reduceSub, allK_nil, allK_cons, Int.reduceToNat, dq, tya, newD, workD, comeD, knowD, queueD, f1, f2, f3, f4, range1]; exact rfl); (repeat (with_reducible first | refine DV.sseq ?_ | refine DV.sblock ?_ | refine DV.scond ?_ | refine DV.sloop ?_ | refine DV.block ?_)))
  (apply DV.seqreg; kernel_rfl; (simp only [wpS, wpT, go1, evS, ev, evCallee, evMove, evPick, evBin, evUn, evConv, evFieldAddr, evField, evIndexAddr, evIndex, evExtract, evLoad, evAlloc, evBox, evStore, evBuild, evLit, evSlice, evLen, evMm, evApp, evCall, evCallF, evMake, evMakeP, evFn, evNil, nilB, gdS, put1, sv, gs, gb, opd, cst, outS, cellsS, okS, asSl, setAt, elsD, elsOb, fillD, bnd, bad, dem, demD, demDs, demB, demC, demCs, demL, deNl, deNls, deNls_enc, stC, refS, refD, refDs, refB, refC, refCs, refL, isSh, isShC, anySh, lf, lfs, argsD, plainD, plains, plainR, plainRs, noMut, srcS, srcOb, asP, pOk, nilP, nilOk, toCp, ofCp, cpsOb, elsLf, lfs_enc, lfL_encL, lfL_nil, lfL_app, lfL_cons, demDs_enc, refDs_enc, encL_set, Nat.reduceBEq, cv, cvL, wrL, isOwn, argsOb, appOb, slim1, argsS, keep, kp, cand, cor, List.map, List.append, Option.bind, ↓reduceIte, Nat.reduceEqDiff, Nat.reduceAdd, Nat.reduceMul, Nat.reduceLT, Nat.reduceLeDiff, reduceCtorEq, Int.reduceLT, Int.reduceLE, Int.reduceBEq, Int.reduceBNe, Int.reduceAdd, Int.reduceSub, allK_nil, allK_cons, Int.reduceToNat, dq, tya, newD, workD, comeD, knowD, queueD, g0, tmD, tmCE, t1, t2, e1, w0, range1]; exact rfl); (repeat (with_reducible first | refine DV.sseq ?_ | refine DV.sblock ?_ | refine DV.scond ?_ | refine DV.sloop ?_ | refine DV.block ?_)))
  (apply DV.seqreg; kernel_rfl; (simp only [wpS, wpT, go1, evS, ev, evCallee, evMove, evPick, evBin, evUn, evConv, evFieldAddr, evField, evIndexAddr, evIndex, evExtract, evLoad, evAlloc, evBox, evStore, evBuild, evLit, evSlice, evLen, evMm, evApp, evCall, evCallF, evMake, evMakeP, evFn, evNil, nilB, gdS, put1, sv, gs, gb, opd, cst, outS, cellsS, okS, asSl, setAt, elsD, elsOb, fillD, bnd, bad, dem, demD, demDs, demB, demC, demCs, demL, deNl, deNls, deNls_enc, stC, refS, refD, refDs, refB, refC, refCs, refL, isSh, isShC, anySh, lf, lfs, argsD, plainD, plains, plainR, plainRs, noMut, srcS, srcOb, asP, pOk, nilP, nilOk, toCp, ofCp, cpsOb, elsLf, lfs_enc, lfL_encL, lfL_nil, lfL_app, lfL_cons, demDs_enc, refDs_enc, encL_set, Nat.reduceBEq, cv, cvL, wrL, isOwn, argsOb, appOb, slim1, argsS, keep, kp, cand, cor, List.map, List.append, Option.bind, ↓reduceIte, Nat.reduceEqDiff, Nat.reduceAdd, Nat.reduceMul, Nat.reduceLT, Nat.reduceLeDiff, reduceCtorEq, Int.reduceLT, Int.reduceLE, Int.reduceBEq, Int.reduceBNe, Int.reduceAdd, Int.reduceSub, allK_nil, allK_cons, Int.reduceToNat, dq, tya, newD, workD, comeD, knowD, queueD, g1, e2, w1]; exact rfl); (repeat (with_reducible first | refine DV.sseq ?_ | refine DV.sblock ?_ | refine DV.scond ?_ | refine DV.sloop ?_ | refine DV.block ?_)))
  (apply DV.seqreg; kernel_rfl; (simp only [wpS, wpT, go1, evS, ev, evCallee, evMove, evPick, evBin, evUn, evConv, evFieldAddr, evField, evIndexAddr, evIndex, evExtract, evLoad, evAlloc, evBox, evStore, evBuild, evLit, evSlice, evLen, evMm, evApp, evCall, evCallF, evMake, evMakeP, evFn, evNil, nilB, gdS, put1, sv, gs, gb, opd, cst, outS, cellsS, okS, asSl, setAt, elsD, elsOb, fillD, bnd, bad, dem, demD, demDs, demB, demC, demCs, demL, deNl, deNls, deNls_enc, stC, refS, refD, refDs, refB, refC, refCs, refL, isSh, isShC, anySh, lf, lfs, argsD, plainD, plains, plainR, plainRs, noMut, srcS, srcOb, asP, pOk, nilP, nilOk, toCp, ofCp, cpsOb, elsLf, lfs_enc, lfL_encL, lfL_nil, lfL_app, lfL_cons, demDs_enc, refDs_enc, encL_set, Nat.reduceBEq, cv, cvL, wrL, isOwn, argsOb, appOb, slim1, argsS, keep, kp, cand, cor, List.map, List.append, Option.bind, ↓reduceIte, Nat.reduceEqDiff, Nat.reduceAdd, Nat.reduceMul, Nat.reduceLT, Nat.reduceLeDiff, reduceCtorEq, Int.reduceLT, Int.reduceLE, Int.reduceBEq, Int.reduceBNe, Int.reduceAdd, Int.reduceSub, allK_nil, allK_cons, Int.reduceToNat, dq, tya, newD, workD, comeD, knowD, queueD, g2, k1, k2, k3]; exact ⟨k3, k3, rfl⟩); (repeat (with_reducible first | refine DV.sseq ?_ | refine DV.sblock ?_ | refine DV.scond ?_ | refine DV.sloop ?_ | refine DV.block ?_)))
  (apply DV.seqdrw; kernel_rfl; kernel_rfl; (simp only [wpS, wpT, go1, evS, ev, evCallee, evMove, evPick, evBin, evUn, evConv, evFieldAddr, evField, evIndexAddr, evIndex, evExtract, evLoad, evAlloc, evBox, evStore, evBuild, evLit, evSlice, evLen, evMm, evApp, evCall, evCallF, evMake, evMakeP, evFn, evNil, nilB, gdS, put1, sv, gs, gb, opd, cst, outS, cellsS, okS, asSl, setAt, elsD, elsOb, fillD, bnd, bad, dem, demD, demDs, demB, demC, demCs, demL, deNl, deNls, deNls_enc, stC, refS, refD, refDs, refB, refC, refCs, refL, isSh, isShC, anySh, lf, lfs, argsD, plainD, plains, plainR, plainRs, noMut, srcS, srcOb, asP, pOk, nilP, nilOk, toCp, ofCp, cpsOb, elsLf, lfs_enc, lfL_encL, lfL_nil, lfL_app, lfL_cons, demDs_enc, refDs_enc, encL_set, Nat.reduceBEq, cv, cvL, wrL, isOwn, argsOb, appOb, slim1, argsS, keep, kp, cand, cor, List.map, List.append, Option.bind, ↓reduceIte, Nat.reduceEqDiff, Nat.reduceAdd, Nat.reduceMul, Nat.reduceLT, Nat.reduceLeDiff, reduceCtorEq, Int.reduceLT, Int.reduceLE, Int.reduceBEq, Int.reduceBNe, Int.reduceAdd, Int.reduceSub, allK_nil, allK_cons, Int.reduceToNat, dq, tya, newD, workD, comeD, knowD, queueD, g2, k4, k5, q1, q2, eqF, b1, beq_self_eq_true]; exact ⟨k6, rfl, rfl⟩); kernel_rfl; (repeat (with_reducible first | refine DV.sseq ?_ | refine DV.sblock ?_ | refine DV.scond ?_ | refine DV.sloop ?_ | refine DV.block ?_)))
  (refine DV.ret ?_; (repeat (first | (with_reducible refine thenD_ret' ?_) | (with_reducible refine blockD_ret' ?_))); (with_reducible refine retD_ret' ?_); (try simp only [resOk, resL, rvS, toR, noMu, wpS, wpT, go1, evS, ev, evCallee, evMove, evPick, evBin, evUn, evConv, evFieldAddr, evField, evIndexAddr, evIndex, evExtract, evLoad, evAlloc, evBox, evStore, evBuild, evLit, evSlice, evLen, evMm, evApp, evCall, evCallF, evMake, evMakeP, evFn, evNil, nilB, gdS, put1, sv, gs, gb, opd, cst, outS, cellsS, okS, asSl, setAt, elsD, elsOb, fillD, bnd, bad, dem, demD, demDs, demB, demC, demCs, demL, deNl, deNls, deNls_enc, stC, refS, refD, refDs, refB, refC, refCs, refL, isSh, isShC, anySh, lf, lfs, argsD, plainD, plains, plainR, plainRs, noMut, srcS, srcOb, asP, pOk, nilP, nilOk, toCp, ofCp, cpsOb, elsLf, lfs_enc, lfL_encL, lfL_nil, lfL_app, lfL_cons, demDs_enc, refDs_enc, encL_set, Nat.reduceBEq, cv, cvL, wrL, isOwn, argsOb, appOb, slim1, argsS, keep, kp, cand, cor, List.map, List.append, Option.bind, ↓reduceIte, Nat.reduceEqDiff, Nat.reduceAdd, Nat.reduceMul, Nat.reduceLT, Nat.reduceLeDiff, reduceCtorEq, Int.reduceLT, Int.reduceLE, Int.reduceBEq, Int.reduceBNe, Int.reduceAdd, Int.reduceSub, allK_nil, allK_cons, Int.reduceToNat, dq, tya, newD, workD, comeD, knowD, queueD]))
theorem putI_totN {l : List Fr.Ct} (h : Fr.rightK l = true) (r : Tm) (q : Int) (hq : Fr.mayB q = true) (hm : Fr.mayB (Fr.cnt l r + q) = true) : Fr.tot (Fr.putI l r q) = Fr.tot l + q := by
  rw [Fr.put_eq h, hq, hm]
  by_cases h0 : q = 0
  · subst h0
    simp
  · simp only [show (q == 0) = false by simp [h0], Bool.not_true, Bool.or_self, Bool.false_eq_true, if_false]
    exact Fr.ins_tot r q l
theorem put_step {o : List Fr.Ct} (h : Fr.rightC o = true) {t : Tm} {q : Int} {B : Int} (hB : 0 ≤ B) (hq : -32768 ≤ q ∧ q ≤ 32768) (ht : rightB t = true) (hc : ∀ s, -B ≤ Fr.cnt o s ∧ Fr.cnt o s ≤ B) (hb : B ≤ 10000000) :
    Fr.rightC (Fr.putS o t q) = true ∧ (∀ s, Fr.cnt (Fr.putS o t q) s = Fr.cnt o s + (if t = s then q else 0)) ∧ Fr.tot (Fr.putS o t q) = Fr.tot o + q ∧ (Fr.putS o t q).length ≤ o.length + 1 := by
  refine ⟨Fr.putS_right h t q, ?_⟩
  have hl := Fr.putS_len h t q
  rw [Fr.putS_eq h] at hl ⊢
  have hk := ((Fr.rightC_iff o).1 h).1
  have h1 := hc t
  have m1 : Fr.mayB q = true := (Fr.mayB_iff q).2 (by omega)
  have m2 : Fr.mayB (Fr.cnt o t + q) = true := (Fr.mayB_iff _).2 (by omega)
  simp only [ht, if_true] at hl ⊢
  exact ⟨fun s => Fr.put_cnt hk t q m1 m2 s, putI_totN hk t q m1 m2, hl⟩
theorem jn_all : ∀ (c o : List Fr.Ct) (B : Int), Fr.rightC o = true → 0 ≤ B → (∀ x ∈ c, rightB x.t = true ∧ -32768 ≤ x.n ∧ x.n ≤ 32768) → (∀ s, -B ≤ Fr.cnt o s ∧ Fr.cnt o s ≤ B) → B + 32768 * c.length ≤ 10000000 →
    Fr.rightC (Fr.joinF o c) = true ∧ (∀ s, Fr.cnt (Fr.joinF o c) s = Fr.cnt o s + Fr.cnt c s) ∧ Fr.tot (Fr.joinF o c) = Fr.tot o + Fr.tot c ∧ (Fr.joinF o c).length ≤ o.length + c.length
  | [], o, B, h, _, _, _, _ => ⟨h, fun s => by simp [Fr.joinF, Fr.cnt], by simp [Fr.joinF, Fr.tot], by simp [Fr.joinF]⟩
  | x :: c, o, B, h, hB, hp, hc, hb => by
    have hq := hp x List.mem_cons_self
    rw [List.length_cons] at hb
    obtain ⟨h1, h2, h3, h4⟩ := put_step h (t := x.t) (q := x.n) hB hq.2 hq.1 hc (by omega)
    obtain ⟨k1, k2, k3, k4⟩ := jn_all c (Fr.putS o x.t x.n) (B + 32768) h1 (by omega) (fun y hy => hp y (List.mem_cons_of_mem _ hy)) (fun s => by
      rw [h2]
      have := hc s
      split <;> omega) (by omega)
    have e : Fr.joinF o (x :: c) = Fr.joinF (Fr.putS o x.t x.n) c := rfl
    rw [e]
    refine ⟨k1, fun s => ?_, ?_, ?_⟩
    · rw [k2, h2, Fr.cnt]; omega
    · rw [k3, h3, Fr.tot_cons]; omega
    · rw [List.length_cons]; omega
/-- How often a timestamp is among some. -/
def cntT : List Tm → Tm → Int
  | [], _ => 0
  | x :: l, s => (if x = s then 1 else 0) + cntT l s
theorem cntT_nn (s : Tm) : ∀ l : List Tm, 0 ≤ cntT l s ∧ cntT l s ≤ l.length
  | [] => by simp [cntT]
  | x :: l => by have := cntT_nn s l; simp only [cntT, List.length_cons]; split <;> omega
theorem cntT_mem {s : Tm} : ∀ {l : List Tm}, 0 < cntT l s → s ∈ l
  | [], h => by simp [cntT] at h
  | x :: l, h => by
    by_cases e : x = s
    · subst e; exact List.mem_cons_self
    · simp only [cntT, if_neg e] at h
      exact List.mem_cons_of_mem _ (cntT_mem (by omega))
theorem fold_all : ∀ (l : List Tm) (o : List Fr.Ct) (B : Int), Fr.rightC o = true → 0 ≤ B → (∀ x ∈ l, rightB x = true) → (∀ s, -B ≤ Fr.cnt o s ∧ Fr.cnt o s ≤ B) → B + l.length ≤ 1000000 →
    Fr.rightC (l.foldl (fun o x => Fr.addS o x 1) o) = true ∧ (∀ s, Fr.cnt (l.foldl (fun o x => Fr.addS o x 1) o) s = Fr.cnt o s + cntT l s) ∧ Fr.tot (l.foldl (fun o x => Fr.addS o x 1) o) = Fr.tot o + l.length
  | [], o, B, h, _, _, _, _ => ⟨h, fun s => by simp [cntT], by simp⟩
  | x :: l, o, B, h, hB, hp, hc, hb => by
    rw [List.length_cons] at hb
    obtain ⟨h1, h2, h3, -⟩ := put_step h (t := x) (q := 1) hB (by omega) (hp x List.mem_cons_self) hc (by omega)
    have ea : Fr.addS o x 1 = Fr.putS o x 1 := by unfold Fr.addS; rw [if_pos h]
    obtain ⟨k1, k2, k3⟩ := fold_all l (Fr.addS o x 1) (B + 1) (by rw [ea]; exact h1) (by omega) (fun y hy => hp y (List.mem_cons_of_mem _ hy)) (fun s => by
      rw [ea, h2]
      have := hc s
      split <;> omega) (by omega)
    rw [List.foldl_cons]
    refine ⟨k1, fun s => ?_, ?_⟩
    · rw [k2, ea, h2, cntT]; omega
    · rw [k3, ea, h3, List.length_cons]; omega
/-- A piece of work that may be done. -/
structure Mw (t : Tm) (l : List Tm) : Prop where
  r : rightB t = true
  p : ∀ x ∈ l, leB t x = true ∧ x ≠ t
  n : l.length ≤ 20
theorem chg_all {t : Tm} {l : List Tm} (h : Mw t l) : Fr.rightC (chg t l) = true ∧ (∀ s, Fr.cnt (chg t l) s = (if t = s then -1 else 0) + cntT l s) ∧ Fr.tot (chg t l) = (l.length : Int) - 1 ∧ (chg t l).length ≤ 21 := by
  have h0 : Fr.rightC [] = true := rfl
  obtain ⟨h1, h2, h3, -⟩ := put_step (o := []) h0 (t := t) (q := -1) (B := 0) (by omega) (by omega) h.r (fun s => by simp [Fr.cnt]) (by omega)
  have ea : Fr.addS [] t (-1) = Fr.putS [] t (-1) := by unfold Fr.addS; rw [if_pos h0]
  have hn := h.n
  obtain ⟨k1, k2, k3⟩ := fold_all l (Fr.addS [] t (-1)) 1 (by rw [ea]; exact h1) (by omega) (fun x hx => (leB_right (h.p x hx).1).2) (fun s => by rw [ea, h2]; simp only [Fr.cnt]; split <;> omega) (by omega)
  refine ⟨k1, fun s => ?_, ?_, ?_⟩
  · show Fr.cnt (l.foldl _ _) s = _
    rw [k2, ea, h2]; simp [Fr.cnt]
  · show Fr.tot (l.foldl _ _) = _
    rw [k3, ea, h3]; simp [Fr.tot]; omega
  · have := chg_len t l; omega
theorem right_elt {l : List Fr.Ct} (h : Fr.rightC l = true) {x : Fr.Ct} (hx : x ∈ l) : rightB x.t = true ∧ x.n ≠ 0 := by
  unfold Fr.rightC at h
  rw [Bool.and_eq_true, List.all_eq_true] at h
  have := h.1 x hx
  unfold Fr.okC at this
  simp only [Bool.and_eq_true, Bool.not_eq_true', beq_eq_false_iff_ne] at this
  exact ⟨this.1, this.2.1⟩
theorem cnt_or {l : List Fr.Ct} (h : Fr.rightC l = true) (s : Tm) : Fr.cnt l s = 0 ∨ ∃ x ∈ l, x.t = s ∧ Fr.cnt l s = x.n := by
  rw [Fr.at_pos h]
  cases e : l[Fr.posC l s]? with
  | none => exact .inl rfl
  | some x =>
    dsimp only
    split
    · next ht => exact .inr ⟨x, List.mem_of_getElem? e, (eqT_iff _ _).1 ht, rfl⟩
    · exact .inl rfl
theorem cnt_of {l : List Fr.Ct} (h : Fr.rightC l = true) {x : Fr.Ct} (hx : x ∈ l) : Fr.cnt l x.t = x.n := by
  have : ∀ {l : List Fr.Ct}, Fr.SrtK l → x ∈ l → Fr.cnt l x.t = x.n := fun {l} => by
    induction l with
    | nil => intro _ h; cases h
    | cons y l ih =>
      intro hs hm
      rcases List.mem_cons.1 hm with rfl | hm
      · exact Fr.cnt_head hs
      · have hne := Fr.srt_ne hs x hm
        rw [Fr.cnt, if_neg (fun e => hne e.symm), ih (List.Pairwise.of_cons hs) hm]
        omega
  exact this ((Fr.right_iff l).1 ((Fr.rightC_iff l).1 h).1).2 hx
theorem set_getN {α : Type} {l : List α} {i : Nat} {y : α} {k : Nat} {z : α} (h : (l.set i y)[k]? = some z) : (k = i ∧ z = y) ∨ (k ≠ i ∧ l[k]? = some z) := by
  rw [List.getElem?_set] at h
  split at h
  · next he =>
    split at h
    · exact .inl ⟨he.symm, (Option.some.inj h).symm⟩
    · cases h
  · next hne => exact .inr ⟨fun e => hne e.symm, h⟩
def sumC : List (List Fr.Ct) → Tm → Int
  | [], _ => 0
  | c :: l, s => Fr.cnt c s + sumC l s
theorem sumC_app (s : Tm) : ∀ (l m : List (List Fr.Ct)), sumC (l ++ m) s = sumC l s + sumC m s
  | [], m => by simp [sumC]
  | c :: l, m => by simp only [List.cons_append, sumC, sumC_app s l m]; omega
/-- What is on its way to a worker. -/
def way (qu : List (List (List (List Fr.Ct)))) (k : Nat) : List (List Fr.Ct) := qu.flatMap fun q => (q[k]?).getD []
theorem way_set {k : Nat} {q q' : List (List (List Fr.Ct))} (s : Tm) : ∀ {qu : List (List (List (List Fr.Ct)))} {i : Nat}, qu[i]? = some q → sumC (way (qu.set i q') k) s = sumC (way qu k) s + sumC ((q'[k]?).getD []) s - sumC ((q[k]?).getD []) s
  | [], _, h => by simp at h
  | a :: l, 0, h => by
    obtain rfl : a = q := by simpa using h
    simp only [List.set_cons_zero, way, List.flatMap_cons, sumC_app]; omega
  | a :: l, i + 1, h => by
    have := way_set s (k := k) (q' := q') (qu := l) (i := i) (by simpa using h)
    simp only [way] at this
    simp only [List.set_cons_succ, way, List.flatMap_cons, sumC_app, this]; omega
theorem way_mem {qu : List (List (List (List Fr.Ct)))} {k : Nat} {c : List Fr.Ct} (h : c ∈ way qu k) : ∃ q ∈ qu, ∃ r ∈ q, c ∈ r := by
  obtain ⟨q, hq, hc⟩ := List.mem_flatMap.1 h
  cases e : q[k]? with
  | none => rw [e] at hc; cases hc
  | some r =>
    rw [e] at hc
    exact ⟨q, hq, r, List.mem_of_getElem? e, hc⟩
def Pc (c : List Fr.Ct) : Prop := ∃ t l, c = chg t l ∧ Mw t l
/-- What holds of a world. -/
structure Nv (n j m : Nat) (W : Wd) : Prop where
  kl : W.kn.length = n
  ql : W.qu.length = n
  qn : ∀ q ∈ W.qu, q.length = n
  tr : Fr.rightC W.th = true
  tc : ∀ s, 0 ≤ Fr.cnt W.th s ∧ Fr.cnt W.th s ≤ 1000000 + 21 * j
  tl : W.th.length ≤ 30 + 21 * j
  kr : ∀ k ∈ W.kn, Fr.rightC k = true ∧ k.length ≤ 30 + 21 * j ∧ ∀ s, -(1000000 + 21 * j) ≤ Fr.cnt k s ∧ Fr.cnt k s ≤ 1000000 + 21 * j
  qp : ∀ q ∈ W.qu, ∀ r ∈ q, r.length ≤ m ∧ ∀ c ∈ r, Pc c
  sm : ∀ k l, W.kn[k]? = some l → ∀ s, Fr.cnt l s + sumC (way W.qu k) s = Fr.cnt W.th s
theorem Pc.all {c : List Fr.Ct} (h : Pc c) : Fr.rightC c = true ∧ c.length ≤ 21 ∧ (∀ s, -1 ≤ Fr.cnt c s ∧ Fr.cnt c s ≤ 20) ∧ ∀ x ∈ c, rightB x.t = true ∧ -32768 ≤ x.n ∧ x.n ≤ 32768 := by
  obtain ⟨t, l, rfl, hm⟩ := h
  obtain ⟨k1, k2, -, k4⟩ := chg_all hm
  have hn := hm.n
  have hc : ∀ s, -1 ≤ Fr.cnt (chg t l) s ∧ Fr.cnt (chg t l) s ≤ 20 := fun s => by
    rw [k2]
    have := cntT_nn s l
    split <;> omega
  refine ⟨k1, k4, hc, fun x hx => ?_⟩
  have h1 := cnt_of k1 hx
  have h2 := hc x.t
  exact ⟨(right_elt k1 hx).1, by omega, by omega⟩
theorem Nv.wf {n j m : Nat} {W : Wd} (h : Nv n j m W) (hn : n ≤ 64) (hj : j ≤ 100000) (hm : m ≤ 1000) : Wg W := by
  refine ⟨⟨by have := h.tl; omega, by rw [h.kl]; omega, by rw [h.ql, h.kl], fun q hq => ⟨by rw [h.qn q hq, h.kl], fun r hr => by have := (h.qp q hq r hr).1; omega⟩⟩, fun k hk => by have := (h.kr k hk).2.1; omega, fun q hq r hr c hc => by have := (((h.qp q hq r hr).2 c hc).all).2.1; omega⟩
theorem may_mw {t : Tm} {l : List Tm} (h : mayQ t l = true) (hn : l.length ≤ 20) : Mw t l := by
  unfold mayQ at h
  rw [Bool.and_eq_true, Bool.and_eq_true, Bool.not_eq_true'] at h
  refine ⟨h.1.1, fun x hx => ?_, hn⟩
  have := List.any_eq_false.1 h.2 x hx
  unfold notB at this
  simp only [Bool.or_eq_true, Bool.not_eq_true', not_or, Bool.not_eq_false] at this
  exact ⟨this.1, fun e => this.2 ((tm_eqF x t).2 e)⟩
theorem join_all {o c : List Fr.Ct} {B : Int} (h : Fr.rightC o = true) (hB : 0 ≤ B) (hc : ∀ s, -B ≤ Fr.cnt o s ∧ Fr.cnt o s ≤ B) (hb : B ≤ 9000000) (hp : Pc c) :
    Fr.rightC (Fr.joinS o c) = true ∧ (∀ s, Fr.cnt (Fr.joinS o c) s = Fr.cnt o s + Fr.cnt c s) ∧ Fr.tot (Fr.joinS o c) = Fr.tot o + Fr.tot c ∧ (Fr.joinS o c).length ≤ o.length + c.length := by
  obtain ⟨k1, k2, -, k4⟩ := hp.all
  unfold Fr.joinS
  rw [h, k1, if_pos (show (true && true) = true from rfl)]
  exact jn_all c o B h hB k4 hc (by omega)
theorem Nv.later {n j m : Nat} {W : Wd} (h : Nv n j m W) : Nv n (j + 1) m W :=
  ⟨h.kl, h.ql, h.qn, h.tr, fun s => by have := h.tc s; omega, by have := h.tl; omega, fun k hk => ⟨(h.kr k hk).1, by have := (h.kr k hk).2.1; omega, fun s => by have := (h.kr k hk).2.2 s; omega⟩, h.qp, h.sm⟩
theorem Nv.more {n j m : Nat} {W : Wd} (h : Nv n j m W) : Nv n j (m + 1) W :=
  ⟨h.kl, h.ql, h.qn, h.tr, h.tc, h.tl, h.kr, fun q hq r hr => ⟨Nat.le_succ_of_le (h.qp q hq r hr).1, (h.qp q hq r hr).2⟩, h.sm⟩
/-- A worker works. -/
theorem Nv.work {n j m : Nat} {W : Wd} (h : Nv n j m W) (hj : j ≤ 100000) (w : Int) (t : Tm) (l : List Tm) (hl : l.length ≤ 20) :
    Nv n (j + 1) (m + 1) (workS W w t l).1 ∧ Fr.tot (workS W w t l).1.th = Fr.tot W.th + (if (workS W w t l).2 = 0 then (l.length : Int) - 1 else 0) := by
  unfold workS
  by_cases h1 : (!(decide (w ≥ 0) && decide (w < W.kn.length)) || !mayQ t l) = true
  · rw [if_pos h1]
    exact ⟨h.later.more, by simp⟩
  rw [if_neg h1]
  by_cases h2 : Fr.atS W.th t < 1
  · rw [if_pos h2]
    exact ⟨h.later.more, by simp⟩
  rw [if_neg h2]
  have hb : (0 ≤ w ∧ w < W.kn.length) ∧ mayQ t l = true := by
    rw [Bool.not_eq_true] at h1
    simp only [Bool.or_eq_false_iff, Bool.not_eq_false', Bool.and_eq_true, decide_eq_true_eq] at h1
    exact h1
  obtain ⟨⟨w0, w1⟩, hmay⟩ := hb
  obtain ⟨w, rfl⟩ := Int.eq_ofNat_of_zero_le w0
  rw [i2n]
  have hmw := may_mw hmay hl
  have hpc : Pc (chg t l) := ⟨t, l, rfl, hmw⟩
  have hkl := h.kl
  have hql := h.ql
  obtain ⟨q, hq⟩ : ∃ q, W.qu[w]? = some q := ⟨W.qu[w]'(by omega), List.getElem?_eq_getElem _⟩
  rw [hq, Option.getD_some]
  obtain ⟨c1, c2, c3, c4⟩ := chg_all hmw
  obtain ⟨j1, j2, j3, j4⟩ := join_all h.tr (B := 1000000 + 21 * j) (by omega) (fun s => by have := h.tc s; omega) (by omega) hpc
  have hat : 1 ≤ Fr.cnt W.th t := by
    unfold Fr.atS at h2
    rw [if_pos h.tr] at h2
    omega
  have hsl : (sent (chg t l) q).length = q.length := by unfold sent; rw [List.length_map]
  have hqm := List.mem_of_getElem? hq
  refine ⟨⟨hkl, by rw [List.length_set]; exact hql, fun x hx => ?_, j1, fun s => ?_, ?_, fun k hk => ⟨(h.kr k hk).1, by have := (h.kr k hk).2.1; omega, fun s => by have := (h.kr k hk).2.2 s; omega⟩, fun x hx r hr => ?_, fun k lk hk s => ?_⟩, ?_⟩
  · rcases List.mem_or_eq_of_mem_set hx with hx | rfl
    · exact h.qn x hx
    · rw [hsl]; exact h.qn q hqm
  · show 0 ≤ Fr.cnt (Fr.joinS W.th (chg t l)) s ∧ Fr.cnt (Fr.joinS W.th (chg t l)) s ≤ _
    rw [j2, c2]
    have k1 := h.tc s
    have k2 := cntT_nn s l
    by_cases e : t = s
    · subst e
      rw [if_pos rfl]
      omega
    · rw [if_neg e]
      omega
  · show (Fr.joinS W.th (chg t l)).length ≤ _
    have := h.tl
    omega
  · rcases List.mem_or_eq_of_mem_set hx with hx | rfl
    · exact ⟨by have := (h.qp x hx r hr).1; omega, (h.qp x hx r hr).2⟩
    · obtain ⟨r0, hr0, rfl⟩ := List.mem_map.1 hr
      have := h.qp q hqm r0 hr0
      refine ⟨by rw [List.length_append]; simp; exact this.1, fun c hc => ?_⟩
      rcases List.mem_append.1 hc with hc | hc
      · exact this.2 c hc
      · rw [List.mem_singleton.1 hc]; exact hpc
  · show Fr.cnt lk s + sumC (way (W.qu.set w (sent (chg t l) q)) k) s = Fr.cnt (Fr.joinS W.th (chg t l)) s
    have hkn : k < q.length := by
      rw [h.qn q hqm, ← hkl]
      exact (List.getElem?_eq_some_iff.1 hk).1
    have e1 : (sent (chg t l) q)[k]? = some (q[k] ++ [chg t l]) := by
      unfold sent
      rw [List.getElem?_map, List.getElem?_eq_getElem hkn]
      rfl
    rw [way_set s hq, e1, List.getElem?_eq_getElem hkn, Option.getD_some, Option.getD_some, sumC_app, j2]
    have := h.sm k lk hk s
    simp only [sumC]
    omega
  · show Fr.tot (Fr.joinS W.th (chg t l)) = _ + (if (0 : Int) = 0 then _ else _)
    rw [j3, c3, if_pos rfl]
/-- News come. -/
theorem Nv.come {n j m : Nat} {W : Wd} (h : Nv n j m W) (hj : j ≤ 100000) (f t : Int) : Nv n (j + 1) m (comeS W f t).1 ∧ (comeS W f t).1.th = W.th := by
  unfold comeS
  by_cases h1 : (!(decide (f ≥ 0) && decide (f < W.kn.length)) || !(decide (t ≥ 0) && decide (t < W.kn.length))) = true
  · rw [if_pos h1]
    exact ⟨h.later, rfl⟩
  rw [if_neg h1]
  have hb : (0 ≤ f ∧ f < W.kn.length) ∧ 0 ≤ t ∧ t < W.kn.length := by
    rw [Bool.not_eq_true] at h1
    simp only [Bool.or_eq_false_iff, Bool.not_eq_false', Bool.and_eq_true, decide_eq_true_eq] at h1
    exact h1
  obtain ⟨⟨f0, f1⟩, t0, t1⟩ := hb
  obtain ⟨f, rfl⟩ := Int.eq_ofNat_of_zero_le f0
  obtain ⟨t, rfl⟩ := Int.eq_ofNat_of_zero_le t0
  have hkl := h.kl
  have hql := h.ql
  obtain ⟨q, hq⟩ : ∃ q, W.qu[f]? = some q := ⟨W.qu[f]'(by omega), List.getElem?_eq_getElem _⟩
  have hqm := List.mem_of_getElem? hq
  have hqn := h.qn q hqm
  obtain ⟨r, hr⟩ : ∃ r, q[t]? = some r := ⟨q[t]'(by omega), List.getElem?_eq_getElem _⟩
  obtain ⟨k, hk⟩ : ∃ k, W.kn[t]? = some k := ⟨W.kn[t]'(by omega), List.getElem?_eq_getElem _⟩
  have hqa : quAt W (f : Int).toNat (t : Int).toNat = r := by
    unfold quAt
    rw [i2n, i2n, hq, Option.getD_some, hr, Option.getD_some]
  rw [hqa, i2n, i2n, hk, hq, Option.getD_some, Option.getD_some]
  cases r with
  | nil => exact ⟨h.later, rfl⟩
  | cons c r =>
    have hqp := h.qp q hqm (c :: r) (List.mem_of_getElem? hr)
    have hpc := hqp.2 c List.mem_cons_self
    obtain ⟨p1, p2, p3, -⟩ := hpc.all
    have hkr := h.kr k (List.mem_of_getElem? hk)
    obtain ⟨j1, j2, -, j4⟩ := join_all hkr.1 (B := 1000000 + 21 * j) (by omega) (fun s => hkr.2.2 s) (by omega) hpc
    refine ⟨⟨by rw [List.length_set]; exact hkl, by rw [List.length_set]; exact hql, fun x hx => ?_, h.tr, h.later.tc, h.later.tl, fun x hx => ?_, fun x hx y hy => ?_, fun i lk hi s => ?_⟩, rfl⟩
    · rcases List.mem_or_eq_of_mem_set hx with hx | rfl
      · exact h.qn x hx
      · rw [List.length_set]; exact hqn
    · rcases List.mem_or_eq_of_mem_set hx with hx | rfl
      · exact h.later.kr x hx
      · refine ⟨j1, by have := hkr.2.1; omega, fun s => ?_⟩
        rw [j2]
        have k1 := hkr.2.2 s
        have k2 := p3 s
        omega
    · rcases List.mem_or_eq_of_mem_set hx with hx | rfl
      · exact h.qp x hx y hy
      · rcases List.mem_or_eq_of_mem_set hy with hy | rfl
        · exact h.qp q hqm y hy
        · have := hqp.1
          rw [List.length_cons] at this
          exact ⟨by omega, fun z hz => hqp.2 z (List.mem_cons_of_mem _ hz)⟩
    · show Fr.cnt lk s + sumC (way (W.qu.set f (q.set t r)) i) s = Fr.cnt W.th s
      rw [way_set s hq]
      rcases set_getN hi with ⟨rfl, rfl⟩ | ⟨hne, hi⟩
      · rw [List.getElem?_set_self (by omega), hr, Option.getD_some, Option.getD_some, j2]
        have := h.sm i k hk s
        simp only [sumC]
        omega
      · rw [List.getElem?_set_ne (fun e => hne e.symm)]
        have := h.sm i lk hi s
        omega
end Go.Proofs.Ytmngjifcgfnogaa.Dq
