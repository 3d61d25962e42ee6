/- State by versions by deep values: IndexFunc, DeleteFunc with their closures. -/
import Derived.Test.YtkmgdejpdhlleaaVs4
import Derived.Test.YtkmgdejpdhlleaaVsE
namespace Go.Proofs.Ytkmgdejpdhlleaa.Dq
set_option linter.unusedSimpArgs false
set_option linter.unusedVariables false
set_option maxRecDepth 100000
open Go.RowKit
open Vs

def capI : List D → Int
  | [.int _ n] => n
  | _ => 0
theorem anyN_ex {α : Type} {P : α → Bool} : ∀ {l : List α}, l.any P = true → ∃ (k : Nat) (x : α), anyN P l = (k : Int) ∧ l[k]? = some x ∧ P x = true ∧ ∀ (j : Nat) y, j < k → l[j]? = some y → P y = false
  | [], h => by simp at h
  | a :: l, h => by
    cases ha : P a
    · obtain ⟨k, x, h1, h2, h3, h4⟩ := anyN_ex (l := l) (P := P) (by simpa [ha] using h)
      have hb : ∀ (j : Nat) y, j < k + 1 → (a :: l)[j]? = some y → P y = false := fun j y hj hy => by
        cases j with
        | zero => obtain rfl : a = y := by simpa using hy
                  exact ha
        | succ j => exact h4 j y (by omega) (by simpa using hy)
      exact ⟨k + 1, x, anyN_at (by simpa using h2) h3 hb, by simpa using h2, h3, hb⟩
    · have hb : ∀ (j : Nat) y, j < 0 → (a :: l)[j]? = some y → P y = false := fun j y hj => absurd hj (Nat.not_lt_zero j)
      exact ⟨0, a, anyN_at (j := 0) rfl ha hb, rfl, ha, hb⟩
theorem anyN_none {α : Type} {P : α → Bool} {l : List α} (h : l.any P = false) : anyN P l = -1 := anyN_no fun k y hy => by
  rw [List.any_eq_false] at h
  simpa using h y (List.mem_of_getElem? hy)
/-- How far a deletion is. -/
structure DelP {α : Type} (P : α → Bool) (l : List α) (i j : Nat) (ys : List α) : Prop where
  len : ys.length = l.length
  a : ys.take i = (l.take j).filter fun x => !P x
  b : ys.drop j = l.drop j
section
variable {α : Type} {P : α → Bool} {l ys : List α} {i j : Nat} {x : α}
theorem DelP.get (h : DelP P l i j ys) (hx : ys[j]? = some x) : l[j]? = some x := by
  have := congrArg (fun z => z[0]?) h.b
  simp only [List.getElem?_drop, Nat.add_zero] at this
  rw [← this]
  exact hx
theorem DelP.more (h : DelP P l i j ys) : ys.drop (j + 1) = l.drop (j + 1) := by
  have := congrArg (List.drop 1) h.b
  simpa [List.drop_drop, Nat.add_comm] using this
theorem DelP.skip (h : DelP P l i j ys) (hx : ys[j]? = some x) (hp : P x = true) : DelP P l i (j + 1) ys := by
  refine ⟨h.len, ?_, h.more⟩
  rw [List.take_add_one, h.get hx, Option.toList_some, List.filter_append, h.a]
  simp [hp]
theorem DelP.keep (h : DelP P l i j ys) (hij : i < j) (hx : ys[j]? = some x) (hp : P x = false) : DelP P l (i + 1) (j + 1) (ys.set i x) := by
  have hj := (List.getElem?_eq_some_iff.1 hx).1
  refine ⟨by rw [List.length_set, h.len], ?_, ?_⟩
  · rw [List.take_add_one, List.take_add_one, h.get hx, Option.toList_some, List.filter_append, ← h.a, List.getElem?_set_self (by omega), List.take_set_of_le (Nat.le_refl _)]
    simp [hp]
  · rw [List.drop_set_of_lt (by omega)]
    exact h.more
theorem DelP.start {k : Nat} (hx : l[k]? = some x) (hp : P x = true) (hb : ∀ (j : Nat) y, j < k → l[j]? = some y → P y = false) : DelP P l k (k + 1) l := by
  refine ⟨rfl, ?_, rfl⟩
  rw [List.take_add_one, hx, Option.toList_some, List.filter_append]
  have : (l.take k).filter (fun x => !P x) = l.take k := by
    rw [List.filter_eq_self]
    intro y hy
    obtain ⟨j, hj⟩ := List.getElem?_of_mem hy
    rw [List.getElem?_take] at hj
    split at hj
    · rename_i hjk
      rw [hb j y hjk hj]; rfl
    · cases hj
  rw [this]
  simp [hp]
theorem DelP.done (h : DelP P l i l.length ys) : ys.take i = l.filter fun x => !P x := by
  rw [h.a, List.take_length]
end
def k1D : List S1 → CR × Prop
  | [.agg x, .ptr t] => (.one (.c (.bool (decide ((enC.dec t).at_ < (enC.dec x).at_)))), enC.enc (enC.dec x) = x ∧ enC.enc (enC.dec t) = t)
  | _ => (.one (.c (.bool false)), False)
theorem k1_cal (args : List S1) (h : (k1D args).2) : Cal Try.prog 56 args (k1D args).1 := by
  unfold k1D at h ⊢
  split at h
  · next x0 t0 =>
    obtain ⟨h1, h2⟩ := h
    obtain ⟨x, rfl⟩ : ∃ x, x0 = enC.enc x := ⟨_, h1.symm⟩
    obtain ⟨t, rfl⟩ : ∃ t, t0 = enC.enc t := ⟨_, h2.symm⟩
    clear h2
    rw [enC.de, enC.de]
    clear h1
    refine DV.of (Γ := ⟨[], [], []⟩) (rs := [ResultVar.tmp 3]) [0, 1, 2, 3] ⟨nofun, nofun⟩ (by kernel_rfl) Try.func56 rfl rfl (by kernel_rfl) rfl ?_; (repeat (with_reducible first | apply qa | apply qb | apply qc | apply qd | apply qe))
    (apply DV.seqreg; kernel_rfl; (simp only [wpS, wpT, go1, evS, ev, evMove, evBin, evFieldAddr, evLoad, evBox, nilB, gdS, put1, sv, gs, gb, opd, cst, outS, cellsS, okS, asSl, setAt, bad, dem, demD, demDs, demB, demC, demCs, demL, deNl, deNls, refS, refD, refDs, refB, refC, refCs, lf, lfs, asP, pOk, nilP, Nat.reduceBEq, slim1, argsS, keep, kp, cand, cor, List.map, List.append, Option.bind, ↓reduceIte, Nat.reduceEqDiff, Nat.reduceAdd, Nat.reduceMul, Nat.reduceLT, Nat.reduceLeDiff, reduceCtorEq, Int.reduceLT, Int.reduceLE, Int.reduceBEq, Int.reduceBNe, Int.reduceAdd, Int.reduceSub, Int.reduceToNat, dq, tya, enE]; exact rfl); (repeat (with_reducible first | apply qa | apply qb | apply qc | apply qd | apply qe)))
    (apply DV.seqreg; kernel_rfl; (simp only [wpS, wpT, go1, evS, ev, evMove, evBin, evFieldAddr, evLoad, evBox, nilB, gdS, put1, sv, gs, gb, opd, cst, outS, cellsS, okS, asSl, setAt, bad, dem, demD, demDs, demB, demC, demCs, demL, deNl, deNls, refS, refD, refDs, refB, refC, refCs, lf, lfs, asP, pOk, nilP, Nat.reduceBEq, slim1, argsS, keep, kp, cand, cor, List.map, List.append, Option.bind, ↓reduceIte, Nat.reduceEqDiff, Nat.reduceAdd, Nat.reduceMul, Nat.reduceLT, Nat.reduceLeDiff, reduceCtorEq, Int.reduceLT, Int.reduceLE, Int.reduceBEq, Int.reduceBNe, Int.reduceAdd, Int.reduceSub, Int.reduceToNat, dq, tya, enE]; exact rfl); (repeat (with_reducible first | apply qa | apply qb | apply qc | apply qd | apply qe)))
    (refine DV.ret ?_; (repeat (first | (with_reducible refine thenD_ret' ?_) | (with_reducible refine blockD_ret' ?_))); (with_reducible refine retD_ret' ?_); (try simp only [resOk, resL, rvS, toR, noMu, wpS, wpT, go1, evS, ev, evMove, evBin, evFieldAddr, evLoad, evBox, nilB, gdS, put1, sv, gs, gb, opd, cst, outS, cellsS, okS, asSl, setAt, bad, dem, demD, demDs, demB, demC, demCs, demL, deNl, deNls, refS, refD, refDs, refB, refC, refCs, lf, lfs, asP, pOk, nilP, Nat.reduceBEq, slim1, argsS, keep, kp, cand, cor, List.map, List.append, Option.bind, ↓reduceIte, Nat.reduceEqDiff, Nat.reduceAdd, Nat.reduceMul, Nat.reduceLT, Nat.reduceLeDiff, reduceCtorEq, Int.reduceLT, Int.reduceLE, Int.reduceBEq, Int.reduceBNe, Int.reduceAdd, Int.reduceSub, Int.reduceToNat, dq, tya]))
    try rfl
  · exact h.elim
def k2D : List S1 → CR × Prop
  | [.agg x, .ptr t] => (.one (.c (.bool (decide ((enC.dec t).at_ ≤ (vnC.dec x).at_)))), vnC.enc (vnC.dec x) = x ∧ enC.enc (enC.dec t) = t)
  | _ => (.one (.c (.bool false)), False)
theorem k2_cal (args : List S1) (h : (k2D args).2) : Cal Try.prog 60 args (k2D args).1 := by
  unfold k2D at h ⊢
  split at h
  · next x0 t0 =>
    obtain ⟨h1, h2⟩ := h
    obtain ⟨x, rfl⟩ : ∃ x, x0 = vnC.enc x := ⟨_, h1.symm⟩
    obtain ⟨t, rfl⟩ : ∃ t, t0 = enC.enc t := ⟨_, h2.symm⟩
    clear h2
    rw [vnC.de, enC.de]
    clear h1
    refine DV.of (Γ := ⟨[], [], []⟩) (rs := [ResultVar.tmp 3]) [0, 1, 2, 3] ⟨nofun, nofun⟩ (by kernel_rfl) Try.func60 rfl rfl (by kernel_rfl) rfl ?_; (repeat (with_reducible first | apply qa | apply qb | apply qc | apply qd | apply qe))
    (apply DV.seqreg; kernel_rfl; (simp only [wpS, wpT, go1, evS, ev, evMove, evBin, evFieldAddr, evLoad, evBox, nilB, gdS, put1, sv, gs, gb, opd, cst, outS, cellsS, okS, asSl, setAt, bad, dem, demD, demDs, demB, demC, demCs, demL, deNl, deNls, refS, refD, refDs, refB, refC, refCs, lf, lfs, asP, pOk, nilP, Nat.reduceBEq, slim1, argsS, keep, kp, cand, cor, List.map, List.append, Option.bind, ↓reduceIte, Nat.reduceEqDiff, Nat.reduceAdd, Nat.reduceMul, Nat.reduceLT, Nat.reduceLeDiff, reduceCtorEq, Int.reduceLT, Int.reduceLE, Int.reduceBEq, Int.reduceBNe, Int.reduceAdd, Int.reduceSub, Int.reduceToNat, dq, tya, vnE, enE]; exact rfl); (repeat (with_reducible first | apply qa | apply qb | apply qc | apply qd | apply qe)))
    (apply DV.seqreg; kernel_rfl; (simp only [wpS, wpT, go1, evS, ev, evMove, evBin, evFieldAddr, evLoad, evBox, nilB, gdS, put1, sv, gs, gb, opd, cst, outS, cellsS, okS, asSl, setAt, bad, dem, demD, demDs, demB, demC, demCs, demL, deNl, deNls, refS, refD, refDs, refB, refC, refCs, lf, lfs, asP, pOk, nilP, Nat.reduceBEq, slim1, argsS, keep, kp, cand, cor, List.map, List.append, Option.bind, ↓reduceIte, Nat.reduceEqDiff, Nat.reduceAdd, Nat.reduceMul, Nat.reduceLT, Nat.reduceLeDiff, reduceCtorEq, Int.reduceLT, Int.reduceLE, Int.reduceBEq, Int.reduceBNe, Int.reduceAdd, Int.reduceSub, Int.reduceToNat, dq, tya, vnE, enE]; exact rfl); (repeat (with_reducible first | apply qa | apply qb | apply qc | apply qd | apply qe)))
    (refine DV.ret ?_; (repeat (first | (with_reducible refine thenD_ret' ?_) | (with_reducible refine blockD_ret' ?_))); (with_reducible refine retD_ret' ?_); (try simp only [resOk, resL, rvS, toR, noMu, wpS, wpT, go1, evS, ev, evMove, evBin, evFieldAddr, evLoad, evBox, nilB, gdS, put1, sv, gs, gb, opd, cst, outS, cellsS, okS, asSl, setAt, bad, dem, demD, demDs, demB, demC, demCs, demL, deNl, deNls, refS, refD, refDs, refB, refC, refCs, lf, lfs, asP, pOk, nilP, Nat.reduceBEq, slim1, argsS, keep, kp, cand, cor, List.map, List.append, Option.bind, ↓reduceIte, Nat.reduceEqDiff, Nat.reduceAdd, Nat.reduceMul, Nat.reduceLT, Nat.reduceLeDiff, reduceCtorEq, Int.reduceLT, Int.reduceLE, Int.reduceBEq, Int.reduceBNe, Int.reduceAdd, Int.reduceSub, Int.reduceToNat, dq, tya]))
    try rfl
  · exact h.elim
def x1D : List S1 → CR × Prop
  | [.c (.sl l), .fn f [.ptr t]] => (.one (.c (.int .i64 (anyN (fun x : En => decide ((enC.dec t).at_ < x.at_)) (decL enC l)))), f = 56 ∧ isL enC l ∧ (decL enC l).length ≤ 1073741823 ∧ enC.enc (enC.dec t) = t)
  | _ => (.one (.c (.bool false)), False)
set_option maxHeartbeats 4000000 in
theorem x1_cal (args : List S1) (h : (x1D args).2) : Cal Try.prog 55 args (x1D args).1 := by
  unfold x1D at h ⊢
  split at h
  · rename_i l0 f t0
    obtain ⟨rfl, hl, hn, hp0⟩ := h
    obtain ⟨L, rfl⟩ : ∃ l, l0 = encL enC l := ⟨_, hl.symm⟩
    rw [decL_encL] at hn ⊢
    clear hl
    obtain ⟨T, rfl⟩ : ∃ x, t0 = enC.enc x := ⟨_, hp0.symm⟩
    rw [enC.de]
    clear hp0
    have hcd : enC.dec [D.int .i64 T.at_, D.int .i64 T.k, D.int .i64 T.v, D.int .i64 T.n] = T := enC.de T
    refine DV.of (Γ := ⟨[(56, k1D)], [], []⟩) (rs := [ResultVar.tmp 4]) [0, 1, 4, 5, 7, 8, 9, 16] ⟨by intro p hp; simp only [List.mem_singleton] at hp; subst hp; exact k1_cal, nofun⟩ (by kernel_rfl) Try.func55 rfl rfl (by kernel_rfl) rfl ?_; (repeat (with_reducible first | apply qa | apply qb | apply qc | apply qd | apply qe))
    (apply DV.seqreg; kernel_rfl; (simp only [wpS, wpT, go1, evS, ev, evCallee, evMove, evBin, evIndexAddr, evLoad, evLen, evCall, evCallF, nilB, gdS, put1, sv, gs, gb, opd, cst, outS, cellsS, okS, asSl, setAt, bad, dem, demD, demDs, demB, demC, demCs, demL, deNl, deNls, refS, refD, refDs, refB, refC, refCs, refL, isSh, isShC, anySh, lf, lfs, argsD, plainD, plains, plainR, plainRs, noMut, asP, pOk, nilP, ofCp, Nat.reduceBEq, cv, cvL, wrL, isOwn, argsOb, slim1, argsS, keep, kp, cand, cor, List.map, List.append, Option.bind, ↓reduceIte, Nat.reduceEqDiff, Nat.reduceAdd, Nat.reduceMul, Nat.reduceLT, Nat.reduceLeDiff, reduceCtorEq, Int.reduceLT, Int.reduceLE, Int.reduceBEq, Int.reduceBNe, Int.reduceAdd, Int.reduceSub, Int.reduceToNat, dq, tya, k1D]; exact rfl); (repeat (with_reducible first | apply qa | apply qb | apply qc | apply qd | apply qe)))
    (apply DV.seqreg; kernel_rfl; (simp only [wpS, wpT, go1, evS, ev, evCallee, evMove, evBin, evIndexAddr, evLoad, evLen, evCall, evCallF, nilB, gdS, put1, sv, gs, gb, opd, cst, outS, cellsS, okS, asSl, setAt, bad, dem, demD, demDs, demB, demC, demCs, demL, deNl, deNls, refS, refD, refDs, refB, refC, refCs, refL, isSh, isShC, anySh, lf, lfs, argsD, plainD, plains, plainR, plainRs, noMut, asP, pOk, nilP, ofCp, Nat.reduceBEq, cv, cvL, wrL, isOwn, argsOb, slim1, argsS, keep, kp, cand, cor, List.map, List.append, Option.bind, ↓reduceIte, Nat.reduceEqDiff, Nat.reduceAdd, Nat.reduceMul, Nat.reduceLT, Nat.reduceLeDiff, reduceCtorEq, Int.reduceLT, Int.reduceLE, Int.reduceBEq, Int.reduceBNe, Int.reduceAdd, Int.reduceSub, Int.reduceToNat, dq, tya, k1D, encL_len]; exact rfl); (repeat (with_reducible first | apply qa | apply qb | apply qc | apply qd | apply qe)))
    refine DV.loop (fun j : Nat => ⟨[(0, .v true (.c (.sl (encL enC L)))), (1, .v true (.fn 56 [.ptr [.int .i64 T.at_, .int .i64 T.k, .int .i64 T.v, .int .i64 T.n]])), (7, .v true (.c (.int .i64 L.length))), (8, .v true (.c (.int .i64 j)))], [], []⟩) (fun j => j ≤ L.length ∧ ∀ (k : Nat) y, k < j → L[k]? = some y → (fun x : En => decide (T.at_ < x.at_)) y = false) (fun j => L.length - j) 0 ⟨Nat.zero_le _, fun k y hk => absurd hk (Nat.not_lt_zero k)⟩ (by (refine wk_of [] ?_ ?_ ?_ ?_ ?_ <;> (simp only [false_and, and_false, and_self, wkS, wkB, wkR, wkP, convV, convS, convD, convDs, convB, convO, convC, convCs, look, carried, injB, convDs_enc, lkL_encL, lkL_nil, lkL_app, lkL_cons, encL_nil, encL_app, encL_cons, List.length_append, gdS, put1, sv, gs, gb, cellsS, setAt, bad, dem, demD, demDs, demB, demC, demCs, demL, deNl, deNls, refD, refDs, lf, lfs, pOk, Nat.reduceBEq, slim1, argsS, keep, kp, cand, cor, List.map, List.append, Option.bind, ↓reduceIte, Nat.reduceEqDiff, Nat.reduceAdd, Nat.reduceMul, Nat.reduceLT, Nat.reduceLeDiff, reduceCtorEq, Int.reduceLT, Int.reduceLE, Int.reduceBEq, Int.reduceBNe, Int.reduceAdd, Int.reduceSub, Int.reduceToNat, dq]; try trivial))) (fun j hj => ?_)
    obtain ⟨hj, hall⟩ := hj
    (repeat (with_reducible first | apply qa | apply qb | apply qc | apply qd | apply qe))
    by_cases hlt : j < L.length
    · obtain ⟨x, hx⟩ : ∃ x, L[j]? = some x := ⟨L[j], List.getElem?_eq_getElem _⟩
      have d1 : decide ((j : Int) < (L.length : Int)) = true := decide_eq_true (by omega)
      have c1 : (0 : Int) ≤ j := by omega
      have c2 : (j : Int) < (L.length : Int) := by omega
      have c3 := encL_get (C := enC) hx
      have ew := wr1 j (by omega)
      obtain ⟨px, hpx⟩ : ∃ px, (fun x : En => decide (T.at_ < x.at_)) x = px := ⟨_, rfl⟩
      have hde : enC.dec (enC.enc x) = x := enC.de x
      rw [enE] at hde
      dsimp only at hpx
      (apply DV.seqreg; kernel_rfl; (simp only [wpS, wpT, go1, evS, ev, evCallee, evMove, evBin, evIndexAddr, evLoad, evLen, evCall, evCallF, nilB, gdS, put1, sv, gs, gb, opd, cst, outS, cellsS, okS, asSl, setAt, bad, dem, demD, demDs, demB, demC, demCs, demL, deNl, deNls, refS, refD, refDs, refB, refC, refCs, refL, isSh, isShC, anySh, lf, lfs, argsD, plainD, plains, plainR, plainRs, noMut, asP, pOk, nilP, ofCp, Nat.reduceBEq, cv, cvL, wrL, isOwn, argsOb, slim1, argsS, keep, kp, cand, cor, List.map, List.append, Option.bind, ↓reduceIte, Nat.reduceEqDiff, Nat.reduceAdd, Nat.reduceMul, Nat.reduceLT, Nat.reduceLeDiff, reduceCtorEq, Int.reduceLT, Int.reduceLE, Int.reduceBEq, Int.reduceBNe, Int.reduceAdd, Int.reduceSub, Int.reduceToNat, dq, tya, k1D, encL_len, d1]; exact rfl); (repeat (with_reducible first | apply qa | apply qb | apply qc | apply qd | apply qe)))
      (refine DV.condT rfl (fun _ => rfl) ?_; (repeat (with_reducible first | apply qa | apply qb | apply qc | apply qd | apply qe)))
      (refine DV.skip ?_; (repeat (with_reducible refine blockD_norm' ?_)); (with_reducible refine thenD_norm' ?_); (repeat (with_reducible first | apply qa | apply qb | apply qc | apply qd | apply qe)))
      (apply DV.seqreg; kernel_rfl; (simp only [wpS, wpT, go1, evS, ev, evCallee, evMove, evBin, evIndexAddr, evLoad, evLen, evCall, evCallF, nilB, gdS, put1, sv, gs, gb, opd, cst, outS, cellsS, okS, asSl, setAt, bad, dem, demD, demDs, demB, demC, demCs, demL, deNl, deNls, refS, refD, refDs, refB, refC, refCs, refL, isSh, isShC, anySh, lf, lfs, argsD, plainD, plains, plainR, plainRs, noMut, asP, pOk, nilP, ofCp, Nat.reduceBEq, cv, cvL, wrL, isOwn, argsOb, slim1, argsS, keep, kp, cand, cor, List.map, List.append, Option.bind, ↓reduceIte, Nat.reduceEqDiff, Nat.reduceAdd, Nat.reduceMul, Nat.reduceLT, Nat.reduceLeDiff, reduceCtorEq, Int.reduceLT, Int.reduceLE, Int.reduceBEq, Int.reduceBNe, Int.reduceAdd, Int.reduceSub, Int.reduceToNat, dq, tya, k1D]; exact rfl); (repeat (with_reducible first | apply qa | apply qb | apply qc | apply qd | apply qe)))
      (apply DV.seqreg; kernel_rfl; (simp only [wpS, wpT, go1, evS, ev, evCallee, evMove, evBin, evIndexAddr, evLoad, evLen, evCall, evCallF, nilB, gdS, put1, sv, gs, gb, opd, cst, outS, cellsS, okS, asSl, setAt, bad, dem, demD, demDs, demB, demC, demCs, demL, deNl, deNls, refS, refD, refDs, refB, refC, refCs, refL, isSh, isShC, anySh, lf, lfs, argsD, plainD, plains, plainR, plainRs, noMut, asP, pOk, nilP, ofCp, Nat.reduceBEq, cv, cvL, wrL, isOwn, argsOb, slim1, argsS, keep, kp, cand, cor, List.map, List.append, Option.bind, ↓reduceIte, Nat.reduceEqDiff, Nat.reduceAdd, Nat.reduceMul, Nat.reduceLT, Nat.reduceLeDiff, reduceCtorEq, Int.reduceLT, Int.reduceLE, Int.reduceBEq, Int.reduceBNe, Int.reduceAdd, Int.reduceSub, Int.reduceToNat, dq, tya, k1D, i2n, encL_len, c1, c2, c3, enE, hde, hcd, enE, hpx, isfn56]; exact rfl); (repeat (with_reducible first | apply qa | apply qb | apply qc | apply qd | apply qe)))
      (refine DV.cond rfl (fun _ => rfl) (fun hb => ?_) (fun hb => ?_))
      · (apply DV.seqreg; kernel_rfl; (simp only [wpS, wpT, go1, evS, ev, evCallee, evMove, evBin, evIndexAddr, evLoad, evLen, evCall, evCallF, nilB, gdS, put1, sv, gs, gb, opd, cst, outS, cellsS, okS, asSl, setAt, bad, dem, demD, demDs, demB, demC, demCs, demL, deNl, deNls, refS, refD, refDs, refB, refC, refCs, refL, isSh, isShC, anySh, lf, lfs, argsD, plainD, plains, plainR, plainRs, noMut, asP, pOk, nilP, ofCp, Nat.reduceBEq, cv, cvL, wrL, isOwn, argsOb, slim1, argsS, keep, kp, cand, cor, List.map, List.append, Option.bind, ↓reduceIte, Nat.reduceEqDiff, Nat.reduceAdd, Nat.reduceMul, Nat.reduceLT, Nat.reduceLeDiff, reduceCtorEq, Int.reduceLT, Int.reduceLE, Int.reduceBEq, Int.reduceBNe, Int.reduceAdd, Int.reduceSub, Int.reduceToNat, dq, tya, k1D]; exact rfl); (repeat (with_reducible first | apply qa | apply qb | apply qc | apply qd | apply qe)))
        (refine DV.ret ?_; (repeat (first | (with_reducible refine thenD_ret' ?_) | (with_reducible refine blockD_ret' ?_))); (with_reducible refine retD_ret' ?_); (try simp only [resOk, resL, rvS, toR, noMu, wpS, wpT, go1, evS, ev, evCallee, evMove, evBin, evIndexAddr, evLoad, evLen, evCall, evCallF, nilB, gdS, put1, sv, gs, gb, opd, cst, outS, cellsS, okS, asSl, setAt, bad, dem, demD, demDs, demB, demC, demCs, demL, deNl, deNls, refS, refD, refDs, refB, refC, refCs, refL, isSh, isShC, anySh, lf, lfs, argsD, plainD, plains, plainR, plainRs, noMut, asP, pOk, nilP, ofCp, Nat.reduceBEq, cv, cvL, wrL, isOwn, argsOb, slim1, argsS, keep, kp, cand, cor, List.map, List.append, Option.bind, ↓reduceIte, Nat.reduceEqDiff, Nat.reduceAdd, Nat.reduceMul, Nat.reduceLT, Nat.reduceLeDiff, reduceCtorEq, Int.reduceLT, Int.reduceLE, Int.reduceBEq, Int.reduceBNe, Int.reduceAdd, Int.reduceSub, Int.reduceToNat, dq, tya, k1D]))
        rw [anyN_at hx (hpx.trans hb) hall]
      (refine DV.skip ?_; (repeat (with_reducible refine blockD_norm' ?_)); (with_reducible refine thenD_norm' ?_); (repeat (with_reducible first | apply qa | apply qb | apply qc | apply qd | apply qe)))
      (apply DV.reg; kernel_rfl; (simp only [wpS, wpT, go1, evS, ev, evCallee, evMove, evBin, evIndexAddr, evLoad, evLen, evCall, evCallF, nilB, gdS, put1, sv, gs, gb, opd, cst, outS, cellsS, okS, asSl, setAt, bad, dem, demD, demDs, demB, demC, demCs, demL, deNl, deNls, refS, refD, refDs, refB, refC, refCs, refL, isSh, isShC, anySh, lf, lfs, argsD, plainD, plains, plainR, plainRs, noMut, asP, pOk, nilP, ofCp, Nat.reduceBEq, cv, cvL, wrL, isOwn, argsOb, slim1, argsS, keep, kp, cand, cor, List.map, List.append, Option.bind, ↓reduceIte, Nat.reduceEqDiff, Nat.reduceAdd, Nat.reduceMul, Nat.reduceLT, Nat.reduceLeDiff, reduceCtorEq, Int.reduceLT, Int.reduceLE, Int.reduceBEq, Int.reduceBNe, Int.reduceAdd, Int.reduceSub, Int.reduceToNat, dq, tya, k1D, ew]; exact rfl); (repeat (with_reducible refine blockD_norm' ?_)); (try with_reducible refine thenD_norm' ?_); (repeat (with_reducible first | apply qa | apply qb | apply qc | apply qd | apply qe)))
      refine ⟨j + 1, ⟨⟨hlt, fun k y hk hy => ?_⟩, by omega⟩, by (refine wk_of [] ?_ ?_ ?_ ?_ ?_ <;> (simp only [false_and, and_false, and_self, wkS, wkB, wkR, wkP, convV, convS, convD, convDs, convB, convO, convC, convCs, look, carried, injB, convDs_enc, lkL_encL, lkL_nil, lkL_app, lkL_cons, encL_nil, encL_app, encL_cons, List.length_append, gdS, put1, sv, gs, gb, cellsS, setAt, bad, dem, demD, demDs, demB, demC, demCs, demL, deNl, deNls, refD, refDs, lf, lfs, pOk, Nat.reduceBEq, slim1, argsS, keep, kp, cand, cor, List.map, List.append, Option.bind, ↓reduceIte, Nat.reduceEqDiff, Nat.reduceAdd, Nat.reduceMul, Nat.reduceLT, Nat.reduceLeDiff, reduceCtorEq, Int.reduceLT, Int.reduceLE, Int.reduceBEq, Int.reduceBNe, Int.reduceAdd, Int.reduceSub, Int.reduceToNat, dq]; try trivial))⟩
      rcases Nat.lt_or_ge k j with h | h
      · exact hall k y h hy
      · obtain rfl : k = j := by omega
        rw [hx] at hy
        obtain rfl := Option.some.inj hy
        exact hpx.trans hb
    · have d1 : decide ((j : Int) < (L.length : Int)) = false := decide_eq_false (by omega)
      (apply DV.seqreg; kernel_rfl; (simp only [wpS, wpT, go1, evS, ev, evCallee, evMove, evBin, evIndexAddr, evLoad, evLen, evCall, evCallF, nilB, gdS, put1, sv, gs, gb, opd, cst, outS, cellsS, okS, asSl, setAt, bad, dem, demD, demDs, demB, demC, demCs, demL, deNl, deNls, refS, refD, refDs, refB, refC, refCs, refL, isSh, isShC, anySh, lf, lfs, argsD, plainD, plains, plainR, plainRs, noMut, asP, pOk, nilP, ofCp, Nat.reduceBEq, cv, cvL, wrL, isOwn, argsOb, slim1, argsS, keep, kp, cand, cor, List.map, List.append, Option.bind, ↓reduceIte, Nat.reduceEqDiff, Nat.reduceAdd, Nat.reduceMul, Nat.reduceLT, Nat.reduceLeDiff, reduceCtorEq, Int.reduceLT, Int.reduceLE, Int.reduceBEq, Int.reduceBNe, Int.reduceAdd, Int.reduceSub, Int.reduceToNat, dq, tya, k1D, encL_len, d1]; exact rfl); (repeat (with_reducible first | apply qa | apply qb | apply qc | apply qd | apply qe)))
      (refine DV.condF rfl (fun _ => rfl) ?_; (repeat (with_reducible first | apply qa | apply qb | apply qc | apply qd | apply qe)))
      (refine DV.exit ?_; (repeat (first | (with_reducible refine thenD_exit' ?_) | (with_reducible refine blockD_other (by decide) ?_))); (with_reducible refine blockD_same ?_); (repeat (with_reducible refine blockD_norm' ?_)); (with_reducible refine thenD_norm' ?_); (repeat (with_reducible first | apply qa | apply qb | apply qc | apply qd | apply qe)))
      (apply DV.seqreg; kernel_rfl; (simp only [wpS, wpT, go1, evS, ev, evCallee, evMove, evBin, evIndexAddr, evLoad, evLen, evCall, evCallF, nilB, gdS, put1, sv, gs, gb, opd, cst, outS, cellsS, okS, asSl, setAt, bad, dem, demD, demDs, demB, demC, demCs, demL, deNl, deNls, refS, refD, refDs, refB, refC, refCs, refL, isSh, isShC, anySh, lf, lfs, argsD, plainD, plains, plainR, plainRs, noMut, asP, pOk, nilP, ofCp, Nat.reduceBEq, cv, cvL, wrL, isOwn, argsOb, slim1, argsS, keep, kp, cand, cor, List.map, List.append, Option.bind, ↓reduceIte, Nat.reduceEqDiff, Nat.reduceAdd, Nat.reduceMul, Nat.reduceLT, Nat.reduceLeDiff, reduceCtorEq, Int.reduceLT, Int.reduceLE, Int.reduceBEq, Int.reduceBNe, Int.reduceAdd, Int.reduceSub, Int.reduceToNat, dq, tya, k1D]; exact rfl); (repeat (with_reducible first | apply qa | apply qb | apply qc | apply qd | apply qe)))
      (refine DV.ret ?_; (repeat (first | (with_reducible refine thenD_ret' ?_) | (with_reducible refine blockD_ret' ?_))); (with_reducible refine retD_ret' ?_); (try simp only [resOk, resL, rvS, toR, noMu, wpS, wpT, go1, evS, ev, evCallee, evMove, evBin, evIndexAddr, evLoad, evLen, evCall, evCallF, nilB, gdS, put1, sv, gs, gb, opd, cst, outS, cellsS, okS, asSl, setAt, bad, dem, demD, demDs, demB, demC, demCs, demL, deNl, deNls, refS, refD, refDs, refB, refC, refCs, refL, isSh, isShC, anySh, lf, lfs, argsD, plainD, plains, plainR, plainRs, noMut, asP, pOk, nilP, ofCp, Nat.reduceBEq, cv, cvL, wrL, isOwn, argsOb, slim1, argsS, keep, kp, cand, cor, List.map, List.append, Option.bind, ↓reduceIte, Nat.reduceEqDiff, Nat.reduceAdd, Nat.reduceMul, Nat.reduceLT, Nat.reduceLeDiff, reduceCtorEq, Int.reduceLT, Int.reduceLE, Int.reduceBEq, Int.reduceBNe, Int.reduceAdd, Int.reduceSub, Int.reduceToNat, dq, tya, k1D]))
      rw [anyN_no fun k y hy => hall k y (by have := (List.getElem?_eq_some_iff.1 hy).1; omega) hy]
  · exact h.elim
def x2D : List S1 → CR × Prop
  | [.c (.sl l), .fn f [.ptr t]] => (.one (.c (.int .i64 (anyN (fun x : Vn => decide ((enC.dec t).at_ ≤ x.at_)) (decL vnC l)))), f = 60 ∧ isL vnC l ∧ (decL vnC l).length ≤ 1073741823 ∧ enC.enc (enC.dec t) = t)
  | _ => (.one (.c (.bool false)), False)
set_option maxHeartbeats 4000000 in
theorem x2_cal (args : List S1) (h : (x2D args).2) : Cal Try.prog 113 args (x2D args).1 := by
  unfold x2D at h ⊢
  split at h
  · rename_i l0 f t0
    obtain ⟨rfl, hl, hn, hp0⟩ := h
    obtain ⟨L, rfl⟩ : ∃ l, l0 = encL vnC l := ⟨_, hl.symm⟩
    rw [decL_encL] at hn ⊢
    clear hl
    obtain ⟨T, rfl⟩ : ∃ x, t0 = enC.enc x := ⟨_, hp0.symm⟩
    rw [enC.de]
    clear hp0
    have hcd : enC.dec [D.int .i64 T.at_, D.int .i64 T.k, D.int .i64 T.v, D.int .i64 T.n] = T := enC.de T
    refine DV.of (Γ := ⟨[(60, k2D)], [], []⟩) (rs := [ResultVar.tmp 4]) [0, 1, 4, 5, 7, 8, 9, 16] ⟨by intro p hp; simp only [List.mem_singleton] at hp; subst hp; exact k2_cal, nofun⟩ (by kernel_rfl) Try.func113 rfl rfl (by kernel_rfl) rfl ?_; (repeat (with_reducible first | apply qa | apply qb | apply qc | apply qd | apply qe))
    (apply DV.seqreg; kernel_rfl; (simp only [wpS, wpT, go1, evS, ev, evCallee, evMove, evBin, evIndexAddr, evLoad, evLen, evCall, evCallF, nilB, gdS, put1, sv, gs, gb, opd, cst, outS, cellsS, okS, asSl, setAt, bad, dem, demD, demDs, demB, demC, demCs, demL, deNl, deNls, refS, refD, refDs, refB, refC, refCs, refL, isSh, isShC, anySh, lf, lfs, argsD, plainD, plains, plainR, plainRs, noMut, asP, pOk, nilP, ofCp, Nat.reduceBEq, cv, cvL, wrL, isOwn, argsOb, slim1, argsS, keep, kp, cand, cor, List.map, List.append, Option.bind, ↓reduceIte, Nat.reduceEqDiff, Nat.reduceAdd, Nat.reduceMul, Nat.reduceLT, Nat.reduceLeDiff, reduceCtorEq, Int.reduceLT, Int.reduceLE, Int.reduceBEq, Int.reduceBNe, Int.reduceAdd, Int.reduceSub, Int.reduceToNat, dq, tya, k2D]; exact rfl); (repeat (with_reducible first | apply qa | apply qb | apply qc | apply qd | apply qe)))
    (apply DV.seqreg; kernel_rfl; (simp only [wpS, wpT, go1, evS, ev, evCallee, evMove, evBin, evIndexAddr, evLoad, evLen, evCall, evCallF, nilB, gdS, put1, sv, gs, gb, opd, cst, outS, cellsS, okS, asSl, setAt, bad, dem, demD, demDs, demB, demC, demCs, demL, deNl, deNls, refS, refD, refDs, refB, refC, refCs, refL, isSh, isShC, anySh, lf, lfs, argsD, plainD, plains, plainR, plainRs, noMut, asP, pOk, nilP, ofCp, Nat.reduceBEq, cv, cvL, wrL, isOwn, argsOb, slim1, argsS, keep, kp, cand, cor, List.map, List.append, Option.bind, ↓reduceIte, Nat.reduceEqDiff, Nat.reduceAdd, Nat.reduceMul, Nat.reduceLT, Nat.reduceLeDiff, reduceCtorEq, Int.reduceLT, Int.reduceLE, Int.reduceBEq, Int.reduceBNe, Int.reduceAdd, Int.reduceSub, Int.reduceToNat, dq, tya, k2D, encL_len]; exact rfl); (repeat (with_reducible first | apply qa | apply qb | apply qc | apply qd | apply qe)))
    refine DV.loop (fun j : Nat => ⟨[(0, .v true (.c (.sl (encL vnC L)))), (1, .v true (.fn 60 [.ptr [.int .i64 T.at_, .int .i64 T.k, .int .i64 T.v, .int .i64 T.n]])), (7, .v true (.c (.int .i64 L.length))), (8, .v true (.c (.int .i64 j)))], [], []⟩) (fun j => j ≤ L.length ∧ ∀ (k : Nat) y, k < j → L[k]? = some y → (fun x : Vn => decide (T.at_ ≤ x.at_)) y = false) (fun j => L.length - j) 0 ⟨Nat.zero_le _, fun k y hk => absurd hk (Nat.not_lt_zero k)⟩ (by (refine wk_of [] ?_ ?_ ?_ ?_ ?_ <;> (simp only [false_and, and_false, and_self, wkS, wkB, wkR, wkP, convV, convS, convD, convDs, convB, convO, convC, convCs, look, carried, injB, convDs_enc, lkL_encL, lkL_nil, lkL_app, lkL_cons, encL_nil, encL_app, encL_cons, List.length_append, gdS, put1, sv, gs, gb, cellsS, setAt, bad, dem, demD, demDs, demB, demC, demCs, demL, deNl, deNls, refD, refDs, lf, lfs, pOk, Nat.reduceBEq, slim1, argsS, keep, kp, cand, cor, List.map, List.append, Option.bind, ↓reduceIte, Nat.reduceEqDiff, Nat.reduceAdd, Nat.reduceMul, Nat.reduceLT, Nat.reduceLeDiff, reduceCtorEq, Int.reduceLT, Int.reduceLE, Int.reduceBEq, Int.reduceBNe, Int.reduceAdd, Int.reduceSub, Int.reduceToNat, dq]; try trivial))) (fun j hj => ?_)
    obtain ⟨hj, hall⟩ := hj
    (repeat (with_reducible first | apply qa | apply qb | apply qc | apply qd | apply qe))
    by_cases hlt : j < L.length
    · obtain ⟨x, hx⟩ : ∃ x, L[j]? = some x := ⟨L[j], List.getElem?_eq_getElem _⟩
      have d1 : decide ((j : Int) < (L.length : Int)) = true := decide_eq_true (by omega)
      have c1 : (0 : Int) ≤ j := by omega
      have c2 : (j : Int) < (L.length : Int) := by omega
      have c3 := encL_get (C := vnC) hx
      have ew := wr1 j (by omega)
      obtain ⟨px, hpx⟩ : ∃ px, (fun x : Vn => decide (T.at_ ≤ x.at_)) x = px := ⟨_, rfl⟩
      have hde : vnC.dec (vnC.enc x) = x := vnC.de x
      rw [vnE] at hde
      dsimp only at hpx
      (apply DV.seqreg; kernel_rfl; (simp only [wpS, wpT, go1, evS, ev, evCallee, evMove, evBin, evIndexAddr, evLoad, evLen, evCall, evCallF, nilB, gdS, put1, sv, gs, gb, opd, cst, outS, cellsS, okS, asSl, setAt, bad, dem, demD, demDs, demB, demC, demCs, demL, deNl, deNls, refS, refD, refDs, refB, refC, refCs, refL, isSh, isShC, anySh, lf, lfs, argsD, plainD, plains, plainR, plainRs, noMut, asP, pOk, nilP, ofCp, Nat.reduceBEq, cv, cvL, wrL, isOwn, argsOb, slim1, argsS, keep, kp, cand, cor, List.map, List.append, Option.bind, ↓reduceIte, Nat.reduceEqDiff, Nat.reduceAdd, Nat.reduceMul, Nat.reduceLT, Nat.reduceLeDiff, reduceCtorEq, Int.reduceLT, Int.reduceLE, Int.reduceBEq, Int.reduceBNe, Int.reduceAdd, Int.reduceSub, Int.reduceToNat, dq, tya, k2D, encL_len, d1]; exact rfl); (repeat (with_reducible first | apply qa | apply qb | apply qc | apply qd | apply qe)))
      (refine DV.condT rfl (fun _ => rfl) ?_; (repeat (with_reducible first | apply qa | apply qb | apply qc | apply qd | apply qe)))
      (refine DV.skip ?_; (repeat (with_reducible refine blockD_norm' ?_)); (with_reducible refine thenD_norm' ?_); (repeat (with_reducible first | apply qa | apply qb | apply qc | apply qd | apply qe)))
      (apply DV.seqreg; kernel_rfl; (simp only [wpS, wpT, go1, evS, ev, evCallee, evMove, evBin, evIndexAddr, evLoad, evLen, evCall, evCallF, nilB, gdS, put1, sv, gs, gb, opd, cst, outS, cellsS, okS, asSl, setAt, bad, dem, demD, demDs, demB, demC, demCs, demL, deNl, deNls, refS, refD, refDs, refB, refC, refCs, refL, isSh, isShC, anySh, lf, lfs, argsD, plainD, plains, plainR, plainRs, noMut, asP, pOk, nilP, ofCp, Nat.reduceBEq, cv, cvL, wrL, isOwn, argsOb, slim1, argsS, keep, kp, cand, cor, List.map, List.append, Option.bind, ↓reduceIte, Nat.reduceEqDiff, Nat.reduceAdd, Nat.reduceMul, Nat.reduceLT, Nat.reduceLeDiff, reduceCtorEq, Int.reduceLT, Int.reduceLE, Int.reduceBEq, Int.reduceBNe, Int.reduceAdd, Int.reduceSub, Int.reduceToNat, dq, tya, k2D]; exact rfl); (repeat (with_reducible first | apply qa | apply qb | apply qc | apply qd | apply qe)))
      (apply DV.seqreg; kernel_rfl; (simp only [wpS, wpT, go1, evS, ev, evCallee, evMove, evBin, evIndexAddr, evLoad, evLen, evCall, evCallF, nilB, gdS, put1, sv, gs, gb, opd, cst, outS, cellsS, okS, asSl, setAt, bad, dem, demD, demDs, demB, demC, demCs, demL, deNl, deNls, refS, refD, refDs, refB, refC, refCs, refL, isSh, isShC, anySh, lf, lfs, argsD, plainD, plains, plainR, plainRs, noMut, asP, pOk, nilP, ofCp, Nat.reduceBEq, cv, cvL, wrL, isOwn, argsOb, slim1, argsS, keep, kp, cand, cor, List.map, List.append, Option.bind, ↓reduceIte, Nat.reduceEqDiff, Nat.reduceAdd, Nat.reduceMul, Nat.reduceLT, Nat.reduceLeDiff, reduceCtorEq, Int.reduceLT, Int.reduceLE, Int.reduceBEq, Int.reduceBNe, Int.reduceAdd, Int.reduceSub, Int.reduceToNat, dq, tya, k2D, i2n, encL_len, c1, c2, c3, vnE, hde, hcd, enE, hpx, isfn60]; exact rfl); (repeat (with_reducible first | apply qa | apply qb | apply qc | apply qd | apply qe)))
      (refine DV.cond rfl (fun _ => rfl) (fun hb => ?_) (fun hb => ?_))
      · (apply DV.seqreg; kernel_rfl; (simp only [wpS, wpT, go1, evS, ev, evCallee, evMove, evBin, evIndexAddr, evLoad, evLen, evCall, evCallF, nilB, gdS, put1, sv, gs, gb, opd, cst, outS, cellsS, okS, asSl, setAt, bad, dem, demD, demDs, demB, demC, demCs, demL, deNl, deNls, refS, refD, refDs, refB, refC, refCs, refL, isSh, isShC, anySh, lf, lfs, argsD, plainD, plains, plainR, plainRs, noMut, asP, pOk, nilP, ofCp, Nat.reduceBEq, cv, cvL, wrL, isOwn, argsOb, slim1, argsS, keep, kp, cand, cor, List.map, List.append, Option.bind, ↓reduceIte, Nat.reduceEqDiff, Nat.reduceAdd, Nat.reduceMul, Nat.reduceLT, Nat.reduceLeDiff, reduceCtorEq, Int.reduceLT, Int.reduceLE, Int.reduceBEq, Int.reduceBNe, Int.reduceAdd, Int.reduceSub, Int.reduceToNat, dq, tya, k2D]; exact rfl); (repeat (with_reducible first | apply qa | apply qb | apply qc | apply qd | apply qe)))
        (refine DV.ret ?_; (repeat (first | (with_reducible refine thenD_ret' ?_) | (with_reducible refine blockD_ret' ?_))); (with_reducible refine retD_ret' ?_); (try simp only [resOk, resL, rvS, toR, noMu, wpS, wpT, go1, evS, ev, evCallee, evMove, evBin, evIndexAddr, evLoad, evLen, evCall, evCallF, nilB, gdS, put1, sv, gs, gb, opd, cst, outS, cellsS, okS, asSl, setAt, bad, dem, demD, demDs, demB, demC, demCs, demL, deNl, deNls, refS, refD, refDs, refB, refC, refCs, refL, isSh, isShC, anySh, lf, lfs, argsD, plainD, plains, plainR, plainRs, noMut, asP, pOk, nilP, ofCp, Nat.reduceBEq, cv, cvL, wrL, isOwn, argsOb, slim1, argsS, keep, kp, cand, cor, List.map, List.append, Option.bind, ↓reduceIte, Nat.reduceEqDiff, Nat.reduceAdd, Nat.reduceMul, Nat.reduceLT, Nat.reduceLeDiff, reduceCtorEq, Int.reduceLT, Int.reduceLE, Int.reduceBEq, Int.reduceBNe, Int.reduceAdd, Int.reduceSub, Int.reduceToNat, dq, tya, k2D]))
        rw [anyN_at hx (hpx.trans hb) hall]
      (refine DV.skip ?_; (repeat (with_reducible refine blockD_norm' ?_)); (with_reducible refine thenD_norm' ?_); (repeat (with_reducible first | apply qa | apply qb | apply qc | apply qd | apply qe)))
      (apply DV.reg; kernel_rfl; (simp only [wpS, wpT, go1, evS, ev, evCallee, evMove, evBin, evIndexAddr, evLoad, evLen, evCall, evCallF, nilB, gdS, put1, sv, gs, gb, opd, cst, outS, cellsS, okS, asSl, setAt, bad, dem, demD, demDs, demB, demC, demCs, demL, deNl, deNls, refS, refD, refDs, refB, refC, refCs, refL, isSh, isShC, anySh, lf, lfs, argsD, plainD, plains, plainR, plainRs, noMut, asP, pOk, nilP, ofCp, Nat.reduceBEq, cv, cvL, wrL, isOwn, argsOb, slim1, argsS, keep, kp, cand, cor, List.map, List.append, Option.bind, ↓reduceIte, Nat.reduceEqDiff, Nat.reduceAdd, Nat.reduceMul, Nat.reduceLT, Nat.reduceLeDiff, reduceCtorEq, Int.reduceLT, Int.reduceLE, Int.reduceBEq, Int.reduceBNe, Int.reduceAdd, Int.reduceSub, Int.reduceToNat, dq, tya, k2D, ew]; exact rfl); (repeat (with_reducible refine blockD_norm' ?_)); (try with_reducible refine thenD_norm' ?_); (repeat (with_reducible first | apply qa | apply qb | apply qc | apply qd | apply qe)))
      refine ⟨j + 1, ⟨⟨hlt, fun k y hk hy => ?_⟩, by omega⟩, by (refine wk_of [] ?_ ?_ ?_ ?_ ?_ <;> (simp only [false_and, and_false, and_self, wkS, wkB, wkR, wkP, convV, convS, convD, convDs, convB, convO, convC, convCs, look, carried, injB, convDs_enc, lkL_encL, lkL_nil, lkL_app, lkL_cons, encL_nil, encL_app, encL_cons, List.length_append, gdS, put1, sv, gs, gb, cellsS, setAt, bad, dem, demD, demDs, demB, demC, demCs, demL, deNl, deNls, refD, refDs, lf, lfs, pOk, Nat.reduceBEq, slim1, argsS, keep, kp, cand, cor, List.map, List.append, Option.bind, ↓reduceIte, Nat.reduceEqDiff, Nat.reduceAdd, Nat.reduceMul, Nat.reduceLT, Nat.reduceLeDiff, reduceCtorEq, Int.reduceLT, Int.reduceLE, Int.reduceBEq, Int.reduceBNe, Int.reduceAdd, Int.reduceSub, Int.reduceToNat, dq]; try trivial))⟩
      rcases Nat.lt_or_ge k j with h | h
      · exact hall k y h hy
      · obtain rfl : k = j := by omega
        rw [hx] at hy
        obtain rfl := Option.some.inj hy
        exact hpx.trans hb
    · have d1 : decide ((j : Int) < (L.length : Int)) = false := decide_eq_false (by omega)
      (apply DV.seqreg; kernel_rfl; (simp only [wpS, wpT, go1, evS, ev, evCallee, evMove, evBin, evIndexAddr, evLoad, evLen, evCall, evCallF, nilB, gdS, put1, sv, gs, gb, opd, cst, outS, cellsS, okS, asSl, setAt, bad, dem, demD, demDs, demB, demC, demCs, demL, deNl, deNls, refS, refD, refDs, refB, refC, refCs, refL, isSh, isShC, anySh, lf, lfs, argsD, plainD, plains, plainR, plainRs, noMut, asP, pOk, nilP, ofCp, Nat.reduceBEq, cv, cvL, wrL, isOwn, argsOb, slim1, argsS, keep, kp, cand, cor, List.map, List.append, Option.bind, ↓reduceIte, Nat.reduceEqDiff, Nat.reduceAdd, Nat.reduceMul, Nat.reduceLT, Nat.reduceLeDiff, reduceCtorEq, Int.reduceLT, Int.reduceLE, Int.reduceBEq, Int.reduceBNe, Int.reduceAdd, Int.reduceSub, Int.reduceToNat, dq, tya, k2D, encL_len, d1]; exact rfl); (repeat (with_reducible first | apply qa | apply qb | apply qc | apply qd | apply qe)))
      (refine DV.condF rfl (fun _ => rfl) ?_; (repeat (with_reducible first | apply qa | apply qb | apply qc | apply qd | apply qe)))
      (refine DV.exit ?_; (repeat (first | (with_reducible refine thenD_exit' ?_) | (with_reducible refine blockD_other (by decide) ?_))); (with_reducible refine blockD_same ?_); (repeat (with_reducible refine blockD_norm' ?_)); (with_reducible refine thenD_norm' ?_); (repeat (with_reducible first | apply qa | apply qb | apply qc | apply qd | apply qe)))
      (apply DV.seqreg; kernel_rfl; (simp only [wpS, wpT, go1, evS, ev, evCallee, evMove, evBin, evIndexAddr, evLoad, evLen, evCall, evCallF, nilB, gdS, put1, sv, gs, gb, opd, cst, outS, cellsS, okS, asSl, setAt, bad, dem, demD, demDs, demB, demC, demCs, demL, deNl, deNls, refS, refD, refDs, refB, refC, refCs, refL, isSh, isShC, anySh, lf, lfs, argsD, plainD, plains, plainR, plainRs, noMut, asP, pOk, nilP, ofCp, Nat.reduceBEq, cv, cvL, wrL, isOwn, argsOb, slim1, argsS, keep, kp, cand, cor, List.map, List.append, Option.bind, ↓reduceIte, Nat.reduceEqDiff, Nat.reduceAdd, Nat.reduceMul, Nat.reduceLT, Nat.reduceLeDiff, reduceCtorEq, Int.reduceLT, Int.reduceLE, Int.reduceBEq, Int.reduceBNe, Int.reduceAdd, Int.reduceSub, Int.reduceToNat, dq, tya, k2D]; exact rfl); (repeat (with_reducible first | apply qa | apply qb | apply qc | apply qd | apply qe)))
      (refine DV.ret ?_; (repeat (first | (with_reducible refine thenD_ret' ?_) | (with_reducible refine blockD_ret' ?_))); (with_reducible refine retD_ret' ?_); (try simp only [resOk, resL, rvS, toR, noMu, wpS, wpT, go1, evS, ev, evCallee, evMove, evBin, evIndexAddr, evLoad, evLen, evCall, evCallF, nilB, gdS, put1, sv, gs, gb, opd, cst, outS, cellsS, okS, asSl, setAt, bad, dem, demD, demDs, demB, demC, demCs, demL, deNl, deNls, refS, refD, refDs, refB, refC, refCs, refL, isSh, isShC, anySh, lf, lfs, argsD, plainD, plains, plainR, plainRs, noMut, asP, pOk, nilP, ofCp, Nat.reduceBEq, cv, cvL, wrL, isOwn, argsOb, slim1, argsS, keep, kp, cand, cor, List.map, List.append, Option.bind, ↓reduceIte, Nat.reduceEqDiff, Nat.reduceAdd, Nat.reduceMul, Nat.reduceLT, Nat.reduceLeDiff, reduceCtorEq, Int.reduceLT, Int.reduceLE, Int.reduceBEq, Int.reduceBNe, Int.reduceAdd, Int.reduceSub, Int.reduceToNat, dq, tya, k2D]))
      rw [anyN_no fun k y hy => hall k y (by have := (List.getElem?_eq_some_iff.1 hy).1; omega) hy]
  · exact h.elim
def d2L : List S1 → Bt → (V1 × Bt) × Prop
  | [.c (.lk 5000 n), .fn f [.box 5001 0]], [(5000, some o), (5001, some q)] => ((.one (.c (.lk 5000 ((decL vnC o.l).filter fun x => !(fun x : Vn => decide ((enC.dec ((q.l[0]?).getD [])).at_ ≤ x.at_)) x).length)), [(5000, some ⟨116, 2, encL vnC (((decL vnC o.l).filter fun x => !(fun x : Vn => decide ((enC.dec ((q.l[0]?).getD [])).at_ ≤ x.at_)) x) ++ List.replicate ((decL vnC o.l).length - ((decL vnC o.l).filter fun x => !(fun x : Vn => decide ((enC.dec ((q.l[0]?).getD [])).at_ ≤ x.at_)) x).length) (⟨0, []⟩ : Vn))⟩)]), f = 60 ∧ o.e = 116 ∧ o.K = 2 ∧ n = o.l.length ∧ isL vnC o.l ∧ (decL vnC o.l).length ≤ 1000000000 ∧ q = ⟨0, 0, [(q.l[0]?).getD []]⟩ ∧ enC.enc (enC.dec ((q.l[0]?).getD [])) = (q.l[0]?).getD [])
  | _, _ => ((.one (.c (.bool false)), []), False)
set_option maxHeartbeats 8000000 in
theorem d2_g (xs : List S1) (bs : Bt) (h : (d2L xs bs).2) : CalG Try.prog 58 xs bs (d2L xs bs).1.1 (d2L xs bs).1.2 := by
  unfold d2L at h ⊢
  split at h
  · rename_i n f o q
    obtain ⟨rfl, h1, h2, h3, h4, hn, h5, hp0⟩ := h
    obtain ⟨oe, oK, ol⟩ := o
    dsimp only at h1 h2 h3 h4 hn ⊢
    subst h1 h2 h3
    obtain ⟨L, rfl⟩ : ∃ l, ol = encL vnC l := ⟨_, h4.symm⟩
    generalize ht0 : (q.l[0]?).getD [] = t0 at h5 hp0 ⊢
    subst h5
    obtain ⟨T, rfl⟩ : ∃ x, t0 = enC.enc x := ⟨_, hp0.symm⟩
    rw [enC.de]
    clear hp0
    have hcd : enC.dec [D.int .i64 T.at_, D.int .i64 T.k, D.int .i64 T.v, D.int .i64 T.n] = T := enC.de T
    rw [decL_encL] at hn ⊢
    rw [encL_len]
    clear h4 ht0
    obtain ⟨PR, hPR⟩ : ∃ P : Vn → Bool, P = (fun x : Vn => decide (T.at_ ≤ x.at_)) := ⟨_, rfl⟩
    have hPR2 : (fun x : Vn => !decide (T.at_ ≤ x.at_)) = fun x => !PR x := by rw [hPR]
    rw [hPR2]
    have hPx : ∀ x, (fun x : Vn => decide (T.at_ ≤ x.at_)) x = PR x := fun x => by rw [hPR]
    dsimp only at hPx
    have hn2 : L.length ≤ 1073741823 := by omega
    have ltk : (encL vnC L).take L.length = encL vnC L := by rw [encL_take, List.take_length]
    refine DV.ofG (Γ := ⟨[(113, x2D), (60, k2D)], [], []⟩) (rs := [ResultVar.tmp 4]) [0, 1, 4, 5, 6, 7, 12, 19, 29] ⟨by intro p hp; simp only [List.mem_cons, List.not_mem_nil, or_false] at hp; rcases hp with rfl | rfl; exact x2_cal; exact k2_cal, nofun⟩ (by kernel_rfl) Try.func58 rfl rfl (by kernel_rfl) rfl ?_; (repeat (with_reducible first | apply qa | apply qb | apply qc | apply qd | apply qe))
    (apply DV.seqreg; kernel_rfl; (simp only [wpS, wpT, go1, evS, ev, evCallee, evMove, evBin, evUn, evIndexAddr, evLoad, evAlloc, evStore, evSlice, evClear, evLen, evCall, evCallF, nilB, gdS, put1, sv, gs, gb, opd, cst, outS, cellsS, okS, asSl, setAt, bnd, bad, dem, demD, demDs, demB, demC, demCs, demL, deNl, deNls, stC, refS, refD, refDs, refB, refC, refCs, refL, isSh, isShC, anySh, lf, lfs, argsD, plainD, plains, plainR, plainRs, noMut, asP, pOk, nilP, ofCp, Nat.reduceBEq, cv, cvL, wrL, isOwn, argsOb, slim1, argsS, keep, kp, cand, cor, List.map, List.append, Option.bind, ↓reduceIte, Nat.reduceEqDiff, Nat.reduceAdd, Nat.reduceMul, Nat.reduceLT, Nat.reduceLeDiff, reduceCtorEq, Int.reduceLT, Int.reduceLE, Int.reduceBEq, Int.reduceBNe, Int.reduceAdd, Int.reduceSub, Int.reduceToNat, dq, tya, x2D, k2D]; exact rfl); (repeat (with_reducible first | apply qa | apply qb | apply qc | apply qd | apply qe)))
    obtain ⟨I, hI⟩ : ∃ I, anyN PR L = I := ⟨_, rfl⟩
    have hI2 : anyN (fun x : Vn => decide (T.at_ ≤ x.at_)) L = I := by rw [← hPR]; exact hI
    (apply DV.seqreg; kernel_rfl; (simp only [wpS, wpT, go1, evS, ev, evCallee, evMove, evBin, evUn, evIndexAddr, evLoad, evAlloc, evStore, evSlice, evClear, evLen, evCall, evCallF, nilB, gdS, put1, sv, gs, gb, opd, cst, outS, cellsS, okS, asSl, setAt, bnd, bad, dem, demD, demDs, demB, demC, demCs, demL, deNl, deNls, stC, refS, refD, refDs, refB, refC, refCs, refL, isSh, isShC, anySh, lf, lfs, argsD, plainD, plains, plainR, plainRs, noMut, asP, pOk, nilP, ofCp, Nat.reduceBEq, cv, cvL, wrL, isOwn, argsOb, slim1, argsS, keep, kp, cand, cor, List.map, List.append, Option.bind, ↓reduceIte, Nat.reduceEqDiff, Nat.reduceAdd, Nat.reduceMul, Nat.reduceLT, Nat.reduceLeDiff, reduceCtorEq, Int.reduceLT, Int.reduceLE, Int.reduceBEq, Int.reduceBNe, Int.reduceAdd, Int.reduceSub, Int.reduceToNat, dq, tya, x2D, k2D, ltk, lfL_encL, encL_len, Nat.le_refl, decL_encL, isL_enc, hn2, hcd, enE, hI2]; exact rfl); (repeat (with_reducible first | apply qa | apply qb | apply qc | apply qd | apply qe)))
    by_cases hany : L.any PR = true
    · obtain ⟨k, xk, hk, hxk, hpk, hbe⟩ := anyN_ex hany
      rw [hI] at hk
      subst hk
      have hkl := (List.getElem?_eq_some_iff.1 hxk).1
      have e0 : ((k : Int) == -1) = false := by simp
      have ek := wr1 k (by omega)
      (apply DV.seqreg; kernel_rfl; (simp only [wpS, wpT, go1, evS, ev, evCallee, evMove, evBin, evUn, evIndexAddr, evLoad, evAlloc, evStore, evSlice, evClear, evLen, evCall, evCallF, nilB, gdS, put1, sv, gs, gb, opd, cst, outS, cellsS, okS, asSl, setAt, bnd, bad, dem, demD, demDs, demB, demC, demCs, demL, deNl, deNls, stC, refS, refD, refDs, refB, refC, refCs, refL, isSh, isShC, anySh, lf, lfs, argsD, plainD, plains, plainR, plainRs, noMut, asP, pOk, nilP, ofCp, Nat.reduceBEq, cv, cvL, wrL, isOwn, argsOb, slim1, argsS, keep, kp, cand, cor, List.map, List.append, Option.bind, ↓reduceIte, Nat.reduceEqDiff, Nat.reduceAdd, Nat.reduceMul, Nat.reduceLT, Nat.reduceLeDiff, reduceCtorEq, Int.reduceLT, Int.reduceLE, Int.reduceBEq, Int.reduceBNe, Int.reduceAdd, Int.reduceSub, Int.reduceToNat, dq, tya, x2D, k2D, e0]; exact rfl); (repeat (with_reducible first | apply qa | apply qb | apply qc | apply qd | apply qe)))
      (refine DV.condF rfl (fun _ => rfl) ?_; (repeat (with_reducible first | apply qa | apply qb | apply qc | apply qd | apply qe)))
      (refine DV.skip ?_; (repeat (with_reducible refine blockD_norm' ?_)); (with_reducible refine thenD_norm' ?_); (repeat (with_reducible first | apply qa | apply qb | apply qc | apply qd | apply qe)))
      (apply DV.seqreg; kernel_rfl; (simp only [wpS, wpT, go1, evS, ev, evCallee, evMove, evBin, evUn, evIndexAddr, evLoad, evAlloc, evStore, evSlice, evClear, evLen, evCall, evCallF, nilB, gdS, put1, sv, gs, gb, opd, cst, outS, cellsS, okS, asSl, setAt, bnd, bad, dem, demD, demDs, demB, demC, demCs, demL, deNl, deNls, stC, refS, refD, refDs, refB, refC, refCs, refL, isSh, isShC, anySh, lf, lfs, argsD, plainD, plains, plainR, plainRs, noMut, asP, pOk, nilP, ofCp, Nat.reduceBEq, cv, cvL, wrL, isOwn, argsOb, slim1, argsS, keep, kp, cand, cor, List.map, List.append, Option.bind, ↓reduceIte, Nat.reduceEqDiff, Nat.reduceAdd, Nat.reduceMul, Nat.reduceLT, Nat.reduceLeDiff, reduceCtorEq, Int.reduceLT, Int.reduceLE, Int.reduceBEq, Int.reduceBNe, Int.reduceAdd, Int.reduceSub, Int.reduceToNat, dq, tya, x2D, k2D, ek]; exact rfl); (repeat (with_reducible first | apply qa | apply qb | apply qc | apply qd | apply qe)))
      refine DV.loop (fun x : Nat × Nat × List Vn => ⟨[(0, .v true (.c (.lk 5000 L.length))), (1, .v true (.fn 60 [.box 5001 0])), (5, .v true (.c (.int .i64 x.1))), (6, .v true (.c (.int .i64 x.2.1)))], [(5000, some ⟨116, 2, encL vnC x.2.2⟩), (5001, some ⟨0, 0, [[.int .i64 T.at_, .int .i64 T.k, .int .i64 T.v, .int .i64 T.n]]⟩)], []⟩) (fun x => x.1 < x.2.1 ∧ x.2.1 ≤ L.length ∧ DelP PR L x.1 x.2.1 x.2.2) (fun x => L.length - x.2.1) (k, k + 1, L) ⟨Nat.lt_succ_self _, hkl, DelP.start hxk hpk hbe⟩ (by (refine wk_of [(5000, some 5000), (5001, some 5001)] ?_ ?_ ?_ ?_ ?_ <;> (simp only [false_and, and_false, and_self, wkS, wkB, wkR, wkP, convV, convS, convD, convDs, convB, convO, convC, convCs, look, carried, injB, convDs_enc, lkL_encL, lkL_nil, lkL_app, lkL_cons, encL_nil, encL_app, encL_cons, List.length_append, gdS, put1, sv, gs, gb, cellsS, setAt, bad, dem, demD, demDs, demB, demC, demCs, demL, deNl, deNls, refD, refDs, lf, lfs, pOk, Nat.reduceBEq, slim1, argsS, keep, kp, cand, cor, List.map, List.append, Option.bind, ↓reduceIte, Nat.reduceEqDiff, Nat.reduceAdd, Nat.reduceMul, Nat.reduceLT, Nat.reduceLeDiff, reduceCtorEq, Int.reduceLT, Int.reduceLE, Int.reduceBEq, Int.reduceBNe, Int.reduceAdd, Int.reduceSub, Int.reduceToNat, dq]; try trivial))) (fun x hx => ?_)
      obtain ⟨i, j, ys⟩ := x
      obtain ⟨hij, hjn, hD⟩ := hx
      dsimp only at hij hjn hD
      have hyl := hD.len
      (repeat (with_reducible first | apply qa | apply qb | apply qc | apply qd | apply qe))
      have c1 : (0 : Int) ≤ j := by omega
      have c1' : (0 : Int) ≤ i := by omega
      by_cases hlt : j < L.length
      · obtain ⟨x, hx⟩ : ∃ x, ys[j]? = some x := ⟨ys[j]'(by omega), List.getElem?_eq_getElem _⟩
        have d1 : decide ((j : Int) < (L.length : Int)) = true := decide_eq_true (by omega)
        have c2 : (j : Int) < (L.length : Int) := by omega
        have c2' : (i : Int) < (L.length : Int) := by omega
        have c2n : j < ys.length := by omega
        have c2m : i < L.length := by omega
        have c3 := encL_get (C := vnC) hx
        obtain ⟨y, hy⟩ : ∃ y, ys[i]? = some y := ⟨ys[i]'(by omega), List.getElem?_eq_getElem _⟩
        have c3' := encL_get (C := vnC) hy
        have ew := wr1 j (by omega)
        have ew2 := wr1 i (by omega)
        have hde : vnC.dec (vnC.enc x) = x := vnC.de x
        rw [vnE] at hde
        have hset : (encL vnC ys).set i [D.int .i64 x.at_, D.sl (encL rcC x.s)] = encL vnC (ys.set i x) := encL_set (C := vnC) (y := x)
        have hpx := hPx x
        (apply DV.seqreg; kernel_rfl; (simp only [wpS, wpT, go1, evS, ev, evCallee, evMove, evBin, evUn, evIndexAddr, evLoad, evAlloc, evStore, evSlice, evClear, evLen, evCall, evCallF, nilB, gdS, put1, sv, gs, gb, opd, cst, outS, cellsS, okS, asSl, setAt, bnd, bad, dem, demD, demDs, demB, demC, demCs, demL, deNl, deNls, stC, refS, refD, refDs, refB, refC, refCs, refL, isSh, isShC, anySh, lf, lfs, argsD, plainD, plains, plainR, plainRs, noMut, asP, pOk, nilP, ofCp, Nat.reduceBEq, cv, cvL, wrL, isOwn, argsOb, slim1, argsS, keep, kp, cand, cor, List.map, List.append, Option.bind, ↓reduceIte, Nat.reduceEqDiff, Nat.reduceAdd, Nat.reduceMul, Nat.reduceLT, Nat.reduceLeDiff, reduceCtorEq, Int.reduceLT, Int.reduceLE, Int.reduceBEq, Int.reduceBNe, Int.reduceAdd, Int.reduceSub, Int.reduceToNat, dq, tya, x2D, k2D, d1]; exact rfl); (repeat (with_reducible first | apply qa | apply qb | apply qc | apply qd | apply qe)))
        (refine DV.condT rfl (fun _ => rfl) ?_; (repeat (with_reducible first | apply qa | apply qb | apply qc | apply qd | apply qe)))
        (refine DV.skip ?_; (repeat (with_reducible refine blockD_norm' ?_)); (with_reducible refine thenD_norm' ?_); (repeat (with_reducible first | apply qa | apply qb | apply qc | apply qd | apply qe)))
        (apply DV.seqreg; kernel_rfl; (simp only [wpS, wpT, go1, evS, ev, evCallee, evMove, evBin, evUn, evIndexAddr, evLoad, evAlloc, evStore, evSlice, evClear, evLen, evCall, evCallF, nilB, gdS, put1, sv, gs, gb, opd, cst, outS, cellsS, okS, asSl, setAt, bnd, bad, dem, demD, demDs, demB, demC, demCs, demL, deNl, deNls, stC, refS, refD, refDs, refB, refC, refCs, refL, isSh, isShC, anySh, lf, lfs, argsD, plainD, plains, plainR, plainRs, noMut, asP, pOk, nilP, ofCp, Nat.reduceBEq, cv, cvL, wrL, isOwn, argsOb, slim1, argsS, keep, kp, cand, cor, List.map, List.append, Option.bind, ↓reduceIte, Nat.reduceEqDiff, Nat.reduceAdd, Nat.reduceMul, Nat.reduceLT, Nat.reduceLeDiff, reduceCtorEq, Int.reduceLT, Int.reduceLE, Int.reduceBEq, Int.reduceBNe, Int.reduceAdd, Int.reduceSub, Int.reduceToNat, dq, tya, x2D, k2D, i2n, encL_len, c1, c2, c2n, c3, vnE, hyl, hlt]; exact rfl); (repeat (with_reducible first | apply qa | apply qb | apply qc | apply qd | apply qe)))
        cases hb : PR x
        · rw [hb] at hpx
          (apply DV.seqreg; kernel_rfl; (simp only [wpS, wpT, go1, evS, ev, evCallee, evMove, evBin, evUn, evIndexAddr, evLoad, evAlloc, evStore, evSlice, evClear, evLen, evCall, evCallF, nilB, gdS, put1, sv, gs, gb, opd, cst, outS, cellsS, okS, asSl, setAt, bnd, bad, dem, demD, demDs, demB, demC, demCs, demL, deNl, deNls, stC, refS, refD, refDs, refB, refC, refCs, refL, isSh, isShC, anySh, lf, lfs, argsD, plainD, plains, plainR, plainRs, noMut, asP, pOk, nilP, ofCp, Nat.reduceBEq, cv, cvL, wrL, isOwn, argsOb, slim1, argsS, keep, kp, cand, cor, List.map, List.append, Option.bind, ↓reduceIte, Nat.reduceEqDiff, Nat.reduceAdd, Nat.reduceMul, Nat.reduceLT, Nat.reduceLeDiff, reduceCtorEq, Int.reduceLT, Int.reduceLE, Int.reduceBEq, Int.reduceBNe, Int.reduceAdd, Int.reduceSub, Int.reduceToNat, dq, tya, x2D, k2D, hde, vnE, hcd, enE, hpx, isfn60]; exact rfl); (repeat (with_reducible first | apply qa | apply qb | apply qc | apply qd | apply qe)))
          (refine DV.condT rfl (fun _ => rfl) ?_; (repeat (with_reducible first | apply qa | apply qb | apply qc | apply qd | apply qe)))
          (apply DV.seqreg; kernel_rfl; (simp only [wpS, wpT, go1, evS, ev, evCallee, evMove, evBin, evUn, evIndexAddr, evLoad, evAlloc, evStore, evSlice, evClear, evLen, evCall, evCallF, nilB, gdS, put1, sv, gs, gb, opd, cst, outS, cellsS, okS, asSl, setAt, bnd, bad, dem, demD, demDs, demB, demC, demCs, demL, deNl, deNls, stC, refS, refD, refDs, refB, refC, refCs, refL, isSh, isShC, anySh, lf, lfs, argsD, plainD, plains, plainR, plainRs, noMut, asP, pOk, nilP, ofCp, Nat.reduceBEq, cv, cvL, wrL, isOwn, argsOb, slim1, argsS, keep, kp, cand, cor, List.map, List.append, Option.bind, ↓reduceIte, Nat.reduceEqDiff, Nat.reduceAdd, Nat.reduceMul, Nat.reduceLT, Nat.reduceLeDiff, reduceCtorEq, Int.reduceLT, Int.reduceLE, Int.reduceBEq, Int.reduceBNe, Int.reduceAdd, Int.reduceSub, Int.reduceToNat, dq, tya, x2D, k2D, i2n, encL_len, c1', c2', c2m, c3', vnE, hset, hyl, hlt, hij]; exact rfl); (repeat (with_reducible first | apply qa | apply qb | apply qc | apply qd | apply qe)))
          (apply DV.reg; kernel_rfl; (simp only [wpS, wpT, go1, evS, ev, evCallee, evMove, evBin, evUn, evIndexAddr, evLoad, evAlloc, evStore, evSlice, evClear, evLen, evCall, evCallF, nilB, gdS, put1, sv, gs, gb, opd, cst, outS, cellsS, okS, asSl, setAt, bnd, bad, dem, demD, demDs, demB, demC, demCs, demL, deNl, deNls, stC, refS, refD, refDs, refB, refC, refCs, refL, isSh, isShC, anySh, lf, lfs, argsD, plainD, plains, plainR, plainRs, noMut, asP, pOk, nilP, ofCp, Nat.reduceBEq, cv, cvL, wrL, isOwn, argsOb, slim1, argsS, keep, kp, cand, cor, List.map, List.append, Option.bind, ↓reduceIte, Nat.reduceEqDiff, Nat.reduceAdd, Nat.reduceMul, Nat.reduceLT, Nat.reduceLeDiff, reduceCtorEq, Int.reduceLT, Int.reduceLE, Int.reduceBEq, Int.reduceBNe, Int.reduceAdd, Int.reduceSub, Int.reduceToNat, dq, tya, x2D, k2D, ew2]; exact rfl); (repeat (with_reducible refine blockD_norm' ?_)); (try with_reducible refine thenD_norm' ?_); (repeat (with_reducible first | apply qa | apply qb | apply qc | apply qd | apply qe)))
          (apply DV.reg; kernel_rfl; (simp only [wpS, wpT, go1, evS, ev, evCallee, evMove, evBin, evUn, evIndexAddr, evLoad, evAlloc, evStore, evSlice, evClear, evLen, evCall, evCallF, nilB, gdS, put1, sv, gs, gb, opd, cst, outS, cellsS, okS, asSl, setAt, bnd, bad, dem, demD, demDs, demB, demC, demCs, demL, deNl, deNls, stC, refS, refD, refDs, refB, refC, refCs, refL, isSh, isShC, anySh, lf, lfs, argsD, plainD, plains, plainR, plainRs, noMut, asP, pOk, nilP, ofCp, Nat.reduceBEq, cv, cvL, wrL, isOwn, argsOb, slim1, argsS, keep, kp, cand, cor, List.map, List.append, Option.bind, ↓reduceIte, Nat.reduceEqDiff, Nat.reduceAdd, Nat.reduceMul, Nat.reduceLT, Nat.reduceLeDiff, reduceCtorEq, Int.reduceLT, Int.reduceLE, Int.reduceBEq, Int.reduceBNe, Int.reduceAdd, Int.reduceSub, Int.reduceToNat, dq, tya, x2D, k2D, ew]; exact rfl); (repeat (with_reducible refine blockD_norm' ?_)); (try with_reducible refine thenD_norm' ?_); (repeat (with_reducible first | apply qa | apply qb | apply qc | apply qd | apply qe)))
          refine ⟨(i + 1, j + 1, ys.set i x), ⟨⟨by dsimp only; omega, hlt, hD.keep hij hx hb⟩, by dsimp only; omega⟩, by (refine wk_of [(5000, some 5000), (5001, some 5001)] ?_ ?_ ?_ ?_ ?_ <;> (simp only [false_and, and_false, and_self, wkS, wkB, wkR, wkP, convV, convS, convD, convDs, convB, convO, convC, convCs, look, carried, injB, convDs_enc, lkL_encL, lkL_nil, lkL_app, lkL_cons, encL_nil, encL_app, encL_cons, List.length_append, gdS, put1, sv, gs, gb, cellsS, setAt, bad, dem, demD, demDs, demB, demC, demCs, demL, deNl, deNls, refD, refDs, lf, lfs, pOk, Nat.reduceBEq, slim1, argsS, keep, kp, cand, cor, List.map, List.append, Option.bind, ↓reduceIte, Nat.reduceEqDiff, Nat.reduceAdd, Nat.reduceMul, Nat.reduceLT, Nat.reduceLeDiff, reduceCtorEq, Int.reduceLT, Int.reduceLE, Int.reduceBEq, Int.reduceBNe, Int.reduceAdd, Int.reduceSub, Int.reduceToNat, dq]; try trivial))⟩
        · rw [hb] at hpx
          (apply DV.seqreg; kernel_rfl; (simp only [wpS, wpT, go1, evS, ev, evCallee, evMove, evBin, evUn, evIndexAddr, evLoad, evAlloc, evStore, evSlice, evClear, evLen, evCall, evCallF, nilB, gdS, put1, sv, gs, gb, opd, cst, outS, cellsS, okS, asSl, setAt, bnd, bad, dem, demD, demDs, demB, demC, demCs, demL, deNl, deNls, stC, refS, refD, refDs, refB, refC, refCs, refL, isSh, isShC, anySh, lf, lfs, argsD, plainD, plains, plainR, plainRs, noMut, asP, pOk, nilP, ofCp, Nat.reduceBEq, cv, cvL, wrL, isOwn, argsOb, slim1, argsS, keep, kp, cand, cor, List.map, List.append, Option.bind, ↓reduceIte, Nat.reduceEqDiff, Nat.reduceAdd, Nat.reduceMul, Nat.reduceLT, Nat.reduceLeDiff, reduceCtorEq, Int.reduceLT, Int.reduceLE, Int.reduceBEq, Int.reduceBNe, Int.reduceAdd, Int.reduceSub, Int.reduceToNat, dq, tya, x2D, k2D, hde, vnE, hcd, enE, hpx, isfn60]; exact rfl); (repeat (with_reducible first | apply qa | apply qb | apply qc | apply qd | apply qe)))
          (refine DV.condF rfl (fun _ => rfl) ?_; (repeat (with_reducible first | apply qa | apply qb | apply qc | apply qd | apply qe)))
          (refine DV.skip ?_; (repeat (with_reducible refine blockD_norm' ?_)); (with_reducible refine thenD_norm' ?_); (repeat (with_reducible first | apply qa | apply qb | apply qc | apply qd | apply qe)))
          (apply DV.reg; kernel_rfl; (simp only [wpS, wpT, go1, evS, ev, evCallee, evMove, evBin, evUn, evIndexAddr, evLoad, evAlloc, evStore, evSlice, evClear, evLen, evCall, evCallF, nilB, gdS, put1, sv, gs, gb, opd, cst, outS, cellsS, okS, asSl, setAt, bnd, bad, dem, demD, demDs, demB, demC, demCs, demL, deNl, deNls, stC, refS, refD, refDs, refB, refC, refCs, refL, isSh, isShC, anySh, lf, lfs, argsD, plainD, plains, plainR, plainRs, noMut, asP, pOk, nilP, ofCp, Nat.reduceBEq, cv, cvL, wrL, isOwn, argsOb, slim1, argsS, keep, kp, cand, cor, List.map, List.append, Option.bind, ↓reduceIte, Nat.reduceEqDiff, Nat.reduceAdd, Nat.reduceMul, Nat.reduceLT, Nat.reduceLeDiff, reduceCtorEq, Int.reduceLT, Int.reduceLE, Int.reduceBEq, Int.reduceBNe, Int.reduceAdd, Int.reduceSub, Int.reduceToNat, dq, tya, x2D, k2D, ew]; exact rfl); (repeat (with_reducible refine blockD_norm' ?_)); (try with_reducible refine thenD_norm' ?_); (repeat (with_reducible first | apply qa | apply qb | apply qc | apply qd | apply qe)))
          refine ⟨(i, j + 1, ys), ⟨⟨by dsimp only; omega, hlt, hD.skip hx hb⟩, by dsimp only; omega⟩, by (refine wk_of [(5000, some 5000), (5001, some 5001)] ?_ ?_ ?_ ?_ ?_ <;> (simp only [false_and, and_false, and_self, wkS, wkB, wkR, wkP, convV, convS, convD, convDs, convB, convO, convC, convCs, look, carried, injB, convDs_enc, lkL_encL, lkL_nil, lkL_app, lkL_cons, encL_nil, encL_app, encL_cons, List.length_append, gdS, put1, sv, gs, gb, cellsS, setAt, bad, dem, demD, demDs, demB, demC, demCs, demL, deNl, deNls, refD, refDs, lf, lfs, pOk, Nat.reduceBEq, slim1, argsS, keep, kp, cand, cor, List.map, List.append, Option.bind, ↓reduceIte, Nat.reduceEqDiff, Nat.reduceAdd, Nat.reduceMul, Nat.reduceLT, Nat.reduceLeDiff, reduceCtorEq, Int.reduceLT, Int.reduceLE, Int.reduceBEq, Int.reduceBNe, Int.reduceAdd, Int.reduceSub, Int.reduceToNat, dq]; try trivial))⟩
      · obtain rfl : j = L.length := by omega
        have d1 : decide ((L.length : Int) < (L.length : Int)) = false := decide_eq_false (by omega)
        have c2' : (i : Int) < (L.length : Int) := by omega
        have c4 : (i : Int) ≤ (L.length : Int) := by omega
        have hf := hD.done
        have hfl : (L.filter fun x => !PR x).length = i := by rw [← hf, List.length_take]; omega
        have hsub : i + (L.length - i) = L.length := by omega
        have hrow : (encL vnC ys).take i ++ List.replicate (L.length - i) [D.int .i64 0, D.sl []] ++ (encL vnC ys).drop L.length = encL vnC ((L.filter fun x => !PR x) ++ List.replicate (L.length - i) (⟨0, []⟩ : Vn)) := by
          rw [encL_app, ← hf, encL_take, encL_drop, List.drop_of_length_le (by omega), encL_nil, List.append_nil, ← encL_rep]
          rfl
        rw [hfl]
        (apply DV.seqreg; kernel_rfl; (simp only [wpS, wpT, go1, evS, ev, evCallee, evMove, evBin, evUn, evIndexAddr, evLoad, evAlloc, evStore, evSlice, evClear, evLen, evCall, evCallF, nilB, gdS, put1, sv, gs, gb, opd, cst, outS, cellsS, okS, asSl, setAt, bnd, bad, dem, demD, demDs, demB, demC, demCs, demL, deNl, deNls, stC, refS, refD, refDs, refB, refC, refCs, refL, isSh, isShC, anySh, lf, lfs, argsD, plainD, plains, plainR, plainRs, noMut, asP, pOk, nilP, ofCp, Nat.reduceBEq, cv, cvL, wrL, isOwn, argsOb, slim1, argsS, keep, kp, cand, cor, List.map, List.append, Option.bind, ↓reduceIte, Nat.reduceEqDiff, Nat.reduceAdd, Nat.reduceMul, Nat.reduceLT, Nat.reduceLeDiff, reduceCtorEq, Int.reduceLT, Int.reduceLE, Int.reduceBEq, Int.reduceBNe, Int.reduceAdd, Int.reduceSub, Int.reduceToNat, dq, tya, x2D, k2D, d1]; exact rfl); (repeat (with_reducible first | apply qa | apply qb | apply qc | apply qd | apply qe)))
        (refine DV.condF rfl (fun _ => rfl) ?_; (repeat (with_reducible first | apply qa | apply qb | apply qc | apply qd | apply qe)))
        (refine DV.exit ?_; (repeat (first | (with_reducible refine thenD_exit' ?_) | (with_reducible refine blockD_other (by decide) ?_))); (with_reducible refine blockD_same ?_); (repeat (with_reducible refine blockD_norm' ?_)); (with_reducible refine thenD_norm' ?_); (repeat (with_reducible first | apply qa | apply qb | apply qc | apply qd | apply qe)))
        (apply DV.seqreg; kernel_rfl; (simp only [wpS, wpT, go1, evS, ev, evCallee, evMove, evBin, evUn, evIndexAddr, evLoad, evAlloc, evStore, evSlice, evClear, evLen, evCall, evCallF, nilB, gdS, put1, sv, gs, gb, opd, cst, outS, cellsS, okS, asSl, setAt, bnd, bad, dem, demD, demDs, demB, demC, demCs, demL, deNl, deNls, stC, refS, refD, refDs, refB, refC, refCs, refL, isSh, isShC, anySh, lf, lfs, argsD, plainD, plains, plainR, plainRs, noMut, asP, pOk, nilP, ofCp, Nat.reduceBEq, cv, cvL, wrL, isOwn, argsOb, slim1, argsS, keep, kp, cand, cor, List.map, List.append, Option.bind, ↓reduceIte, Nat.reduceEqDiff, Nat.reduceAdd, Nat.reduceMul, Nat.reduceLT, Nat.reduceLeDiff, reduceCtorEq, Int.reduceLT, Int.reduceLE, Int.reduceBEq, Int.reduceBNe, Int.reduceAdd, Int.reduceSub, Int.reduceToNat, dq, tya, x2D, k2D, i2n, c1', c2', hsub, hrow, encL_len, hyl, Nat.le_refl, hij]; exact rfl); (repeat (with_reducible first | apply qa | apply qb | apply qc | apply qd | apply qe)))
        (apply DV.seqreg; kernel_rfl; (simp only [wpS, wpT, go1, evS, ev, evCallee, evMove, evBin, evUn, evIndexAddr, evLoad, evAlloc, evStore, evSlice, evClear, evLen, evCall, evCallF, nilB, gdS, put1, sv, gs, gb, opd, cst, outS, cellsS, okS, asSl, setAt, bnd, bad, dem, demD, demDs, demB, demC, demCs, demL, deNl, deNls, stC, refS, refD, refDs, refB, refC, refCs, refL, isSh, isShC, anySh, lf, lfs, argsD, plainD, plains, plainR, plainRs, noMut, asP, pOk, nilP, ofCp, Nat.reduceBEq, cv, cvL, wrL, isOwn, argsOb, slim1, argsS, keep, kp, cand, cor, List.map, List.append, Option.bind, ↓reduceIte, Nat.reduceEqDiff, Nat.reduceAdd, Nat.reduceMul, Nat.reduceLT, Nat.reduceLeDiff, reduceCtorEq, Int.reduceLT, Int.reduceLE, Int.reduceBEq, Int.reduceBNe, Int.reduceAdd, Int.reduceSub, Int.reduceToNat, dq, tya, x2D, k2D, i2n, c1', c4]; exact rfl); (repeat (with_reducible first | apply qa | apply qb | apply qc | apply qd | apply qe)))
        (refine DV.ret ?_; (repeat (first | (with_reducible refine thenD_ret' ?_) | (with_reducible refine blockD_ret' ?_))); (with_reducible refine retG_ret ?_); (try simp only [v1Ok, resX, vL, rvS, unO, objX, wpS, wpT, go1, evS, ev, evCallee, evMove, evBin, evUn, evIndexAddr, evLoad, evAlloc, evStore, evSlice, evClear, evLen, evCall, evCallF, nilB, gdS, put1, sv, gs, gb, opd, cst, outS, cellsS, okS, asSl, setAt, bnd, bad, dem, demD, demDs, demB, demC, demCs, demL, deNl, deNls, stC, refS, refD, refDs, refB, refC, refCs, refL, isSh, isShC, anySh, lf, lfs, argsD, plainD, plains, plainR, plainRs, noMut, asP, pOk, nilP, ofCp, Nat.reduceBEq, cv, cvL, wrL, isOwn, argsOb, slim1, argsS, keep, kp, cand, cor, List.map, List.append, Option.bind, ↓reduceIte, Nat.reduceEqDiff, Nat.reduceAdd, Nat.reduceMul, Nat.reduceLT, Nat.reduceLeDiff, reduceCtorEq, Int.reduceLT, Int.reduceLE, Int.reduceBEq, Int.reduceBNe, Int.reduceAdd, Int.reduceSub, Int.reduceToNat, dq, tya, x2D, k2D]))
    · have hno : L.any PR = false := by simpa using hany
      have hm : I = -1 := by rw [← hI]; exact anyN_none hno
      subst hm
      have hf : (L.filter fun x => !PR x) = L := by
        rw [List.filter_eq_self]
        intro y hy
        rw [List.any_eq_false] at hno
        simpa using hno y hy
      have hr0 : List.replicate (L.length - L.length) (⟨0, []⟩ : Vn) = [] := by rw [Nat.sub_self]; rfl
      rw [hf, hr0, List.append_nil]
      have e0 : ((-1 : Int) == -1) = true := by decide
      (apply DV.seqreg; kernel_rfl; (simp only [wpS, wpT, go1, evS, ev, evCallee, evMove, evBin, evUn, evIndexAddr, evLoad, evAlloc, evStore, evSlice, evClear, evLen, evCall, evCallF, nilB, gdS, put1, sv, gs, gb, opd, cst, outS, cellsS, okS, asSl, setAt, bnd, bad, dem, demD, demDs, demB, demC, demCs, demL, deNl, deNls, stC, refS, refD, refDs, refB, refC, refCs, refL, isSh, isShC, anySh, lf, lfs, argsD, plainD, plains, plainR, plainRs, noMut, asP, pOk, nilP, ofCp, Nat.reduceBEq, cv, cvL, wrL, isOwn, argsOb, slim1, argsS, keep, kp, cand, cor, List.map, List.append, Option.bind, ↓reduceIte, Nat.reduceEqDiff, Nat.reduceAdd, Nat.reduceMul, Nat.reduceLT, Nat.reduceLeDiff, reduceCtorEq, Int.reduceLT, Int.reduceLE, Int.reduceBEq, Int.reduceBNe, Int.reduceAdd, Int.reduceSub, Int.reduceToNat, dq, tya, x2D, k2D, e0]; exact rfl); (repeat (with_reducible first | apply qa | apply qb | apply qc | apply qd | apply qe)))
      (refine DV.condT rfl (fun _ => rfl) ?_; (repeat (with_reducible first | apply qa | apply qb | apply qc | apply qd | apply qe)))
      (apply DV.seqreg; kernel_rfl; (simp only [wpS, wpT, go1, evS, ev, evCallee, evMove, evBin, evUn, evIndexAddr, evLoad, evAlloc, evStore, evSlice, evClear, evLen, evCall, evCallF, nilB, gdS, put1, sv, gs, gb, opd, cst, outS, cellsS, okS, asSl, setAt, bnd, bad, dem, demD, demDs, demB, demC, demCs, demL, deNl, deNls, stC, refS, refD, refDs, refB, refC, refCs, refL, isSh, isShC, anySh, lf, lfs, argsD, plainD, plains, plainR, plainRs, noMut, asP, pOk, nilP, ofCp, Nat.reduceBEq, cv, cvL, wrL, isOwn, argsOb, slim1, argsS, keep, kp, cand, cor, List.map, List.append, Option.bind, ↓reduceIte, Nat.reduceEqDiff, Nat.reduceAdd, Nat.reduceMul, Nat.reduceLT, Nat.reduceLeDiff, reduceCtorEq, Int.reduceLT, Int.reduceLE, Int.reduceBEq, Int.reduceBNe, Int.reduceAdd, Int.reduceSub, Int.reduceToNat, dq, tya, x2D, k2D]; exact rfl); (repeat (with_reducible first | apply qa | apply qb | apply qc | apply qd | apply qe)))
      (refine DV.ret ?_; (repeat (first | (with_reducible refine thenD_ret' ?_) | (with_reducible refine blockD_ret' ?_))); (with_reducible refine retG_ret ?_); (try simp only [v1Ok, resX, vL, rvS, unO, objX, wpS, wpT, go1, evS, ev, evCallee, evMove, evBin, evUn, evIndexAddr, evLoad, evAlloc, evStore, evSlice, evClear, evLen, evCall, evCallF, nilB, gdS, put1, sv, gs, gb, opd, cst, outS, cellsS, okS, asSl, setAt, bnd, bad, dem, demD, demDs, demB, demC, demCs, demL, deNl, deNls, stC, refS, refD, refDs, refB, refC, refCs, refL, isSh, isShC, anySh, lf, lfs, argsD, plainD, plains, plainR, plainRs, noMut, asP, pOk, nilP, ofCp, Nat.reduceBEq, cv, cvL, wrL, isOwn, argsOb, slim1, argsS, keep, kp, cand, cor, List.map, List.append, Option.bind, ↓reduceIte, Nat.reduceEqDiff, Nat.reduceAdd, Nat.reduceMul, Nat.reduceLT, Nat.reduceLeDiff, reduceCtorEq, Int.reduceLT, Int.reduceLE, Int.reduceBEq, Int.reduceBNe, Int.reduceAdd, Int.reduceSub, Int.reduceToNat, dq, tya, x2D, k2D, encL_len]))
  · exact h.elim
end Go.Proofs.Ytkmgdejpdhlleaa.Dq
