/- Paths by deep values: steps done and put together; what may come. -/
import Derived.Test.YtkmgdejpdhlleaaPaA
import Derived.Test.YtkmgdejpdhlleaaVa2
import Derived.Test.YtkmgdejpdhlleaaHop9
namespace Go.Proofs.Ytkmgdejpdhlleaa.Dq
set_option linter.unusedSimpArgs false
set_option linter.unusedVariables false
set_option maxRecDepth 100000
open Go.RowKit
open Pa Va

theorem ints_den {A : Pr} {w : World} (l : List Int) : DenL A w (l.map (D.int .i64)) (l.map (Value.int .i64)) := ⟨by rw [List.length_map, List.length_map], fun j d u h1 h2 => by
  rw [List.getElem?_map] at h1 h2
  cases hj : l[j]? with
  | none => rw [hj] at h1; cases h1
  | some x =>
    rw [hj] at h1 h2
    obtain rfl := Option.some.inj h1
    obtain rfl := Option.some.inj h2
    exact Den.int .i64 x⟩
def tiC : Cod Tm where
  K := 5
  enc := fun m => [.int .i64 m.d, .int .i64 m.a, .int .i64 m.b, .int .i64 m.c, .int .i64 m.e]
  dec := fun l => match l with
    | [.int _ d, .int _ a, .int _ b, .int _ c, .int _ e] => ⟨d, a, b, c, e⟩
    | _ => ⟨0, 0, 0, 0, 0⟩
  de := fun _ => rfl
  len := fun _ => rfl
  lf := fun _ => rfl
theorem tiE (m : Tm) : tiC.enc m = [.int .i64 m.d, .int .i64 m.a, .int .i64 m.b, .int .i64 m.c, .int .i64 m.e] := rfl
theorem tiD (m : Tm) : tiC.dec [D.int .i64 m.d, D.int .i64 m.a, D.int .i64 m.b, D.int .i64 m.c, D.int .i64 m.e] = m := rfl
theorem ti_val {G : Gh} {w : World} {h : Tm} {v : Value} (hd : D1 G w (.agg (tiC.enc h)) v) : v = tv h := by
  obtain ⟨us, rfl, h0⟩ := hd
  obtain rfl := flatXU (vs := [.int .i64 h.d, .int .i64 h.a, .int .i64 h.b, .int .i64 h.c, .int .i64 h.e]) h0 rfl
  rfl
theorem hp_den {A : Pr} {w : World} (h : Hp) : DenL A w (hpC.enc h) [.int .i64 h.f, .int .i64 h.k, .int .i64 h.l, .int .i64 h.a, .int .i64 h.b, .int .i64 h.c, .int .i64 h.e, .int .i64 h.p, .int .i64 h.q, .int .i64 h.r, .int .i64 h.s] := ints_den [h.f, h.k, h.l, h.a, h.b, h.c, h.e, h.p, h.q, h.r, h.s]
theorem ti_den {A : Pr} {w : World} (h : Tm) : DenL A w (tiC.enc h) [.int .i64 h.d, .int .i64 h.a, .int .i64 h.b, .int .i64 h.c, .int .i64 h.e] := ints_den [h.d, h.a, h.b, h.c, h.e]
theorem tup_ab {A : Pr} {base : Nat} {w : World} {l : List D} {us : Array Value} (b : Bool) (h : DenL A w l us.toList) : RDs A base w (.tup [.agg l, .c (.bool b)]) (.tuple #[.agg us, .bool b]) := ⟨_, rfl, rfl, fun j y u h1 h2 => by
  match j, h1, h2 with
  | 0, h1, h2 =>
    obtain rfl := Option.some.inj h1
    obtain rfl : Value.agg us = u := by simpa using h2
    exact ⟨us, rfl, h⟩
  | 1, h1, h2 =>
    obtain rfl := Option.some.inj h1
    obtain rfl : Value.bool b = u := by simpa using h2
    exact Den.bool _
  | j + 2, h1, h2 => simp at h1⟩
def samD : List S1 → CR × Prop
  | [.c (.int .i64 d)] => (.tup [.agg (hpC.enc (madeR ⟨d, d, 0, 0, 0, 0, 0, 0, 0, 0, 0⟩).1), .c (.bool (madeR ⟨d, d, 0, 0, 0, 0, 0, 0, 0, 0, 0⟩).2)], True)
  | _ => (.one (.c (.bool false)), False)
theorem sam_cal (args : List S1) (h : (samD args).2) : Cal Try.prog 82 args (samD args).1 := by
  unfold samD at h ⊢
  split at h
  · next d =>
    intro A w vs hA hd
    obtain ⟨v0, vs, rfl, e0, hd⟩ := D1L.cons_inv hd
    obtain rfl := D1L.nil_inv hd
    obtain rfl := D1_int e0
    refine (hopSame_any d w).mono ?_
    rintro r w' ⟨rfl, hx⟩
    obtain ⟨k1, k2⟩ := newA_ok hA hx
    exact ⟨_, newA A w w', rfl, hx, k1, k2, tup_ab _ (hp_den _)⟩
  · exact h.elim
def thnD : List S1 → CR × Prop
  | [.agg x, .agg y] => (.tup [.agg (hpC.enc (thR (hpC.dec x) (hpC.dec y))), .c (.bool (thOk (hpC.dec x) (hpC.dec y)))], hpC.enc (hpC.dec x) = x ∧ hpC.enc (hpC.dec y) = y)
  | _ => (.one (.c (.bool false)), False)
theorem thn_cal (args : List S1) (h : (thnD args).2) : Cal Try.prog 84 args (thnD args).1 := by
  unfold thnD at h ⊢
  split at h
  · next x0 y0 =>
    obtain ⟨h1, h2⟩ := h
    obtain ⟨x, rfl⟩ : ∃ x, x0 = hpC.enc x := ⟨_, h1.symm⟩
    obtain ⟨y, rfl⟩ : ∃ x, y0 = hpC.enc x := ⟨_, h2.symm⟩
    rw [hpC.de, hpC.de]
    intro A w vs hA hd
    obtain ⟨v0, vs, rfl, e0, hd⟩ := D1L.cons_inv hd
    obtain ⟨v1, vs, rfl, e1, hd⟩ := D1L.cons_inv hd
    obtain rfl := D1L.nil_inv hd
    obtain rfl := hp_val e0
    obtain rfl := hp_val e1
    refine (hopThen_any x y w).mono ?_
    rintro r w' ⟨rfl, hx⟩
    obtain ⟨k1, k2⟩ := newA_ok hA hx
    exact ⟨_, newA A w w', rfl, hx, k1, k2, tup_ab _ (hp_den _)⟩
  · exact h.elim
def appD : List S1 → CR × Prop
  | [.agg x, .agg y] => (.tup [.agg (tiC.enc (apR (hpC.dec x) (tiC.dec y))), .c (.bool (apOk (hpC.dec x) (tiC.dec y)))], hpC.enc (hpC.dec x) = x ∧ tiC.enc (tiC.dec y) = y)
  | _ => (.one (.c (.bool false)), False)
theorem app_cal (args : List S1) (h : (appD args).2) : Cal Try.prog 36 args (appD args).1 := by
  unfold appD at h ⊢
  split at h
  · next x0 y0 =>
    obtain ⟨h1, h2⟩ := h
    obtain ⟨x, rfl⟩ : ∃ x, x0 = hpC.enc x := ⟨_, h1.symm⟩
    obtain ⟨y, rfl⟩ : ∃ x, y0 = tiC.enc x := ⟨_, h2.symm⟩
    rw [hpC.de, tiC.de]
    intro A w vs hA hd
    obtain ⟨v0, vs, rfl, e0, hd⟩ := D1L.cons_inv hd
    obtain ⟨v1, vs, rfl, e1, hd⟩ := D1L.cons_inv hd
    obtain rfl := D1L.nil_inv hd
    obtain rfl := hp_val e0
    obtain rfl := ti_val e1
    refine (hopApply_any x y w).mono ?_
    rintro r w' ⟨rfl, hx⟩
    obtain ⟨k1, k2⟩ := newA_ok hA hx
    exact ⟨_, newA A w w', rfl, hx, k1, k2, tup_ab _ (ti_den _)⟩
  · exact h.elim
def tleD : List S1 → CR × Prop
  | [.agg x, .agg y] => (.one (.c (.bool (leB (tiC.dec x) (tiC.dec y)))), tiC.enc (tiC.dec x) = x ∧ tiC.enc (tiC.dec y) = y)
  | _ => (.one (.c (.bool false)), False)
theorem tle_cal (args : List S1) (h : (tleD args).2) : Cal Try.prog 93 args (tleD args).1 := by
  unfold tleD at h ⊢
  split at h
  · next x0 y0 =>
    obtain ⟨h1, h2⟩ := h
    obtain ⟨x, rfl⟩ : ∃ x, x0 = tiC.enc x := ⟨_, h1.symm⟩
    obtain ⟨y, rfl⟩ : ∃ x, y0 = tiC.enc x := ⟨_, h2.symm⟩
    rw [tiC.de, tiC.de]
    intro A w vs hA hd
    obtain ⟨v0, vs, rfl, e0, hd⟩ := D1L.cons_inv hd
    obtain ⟨v1, vs, rfl, e1, hd⟩ := D1L.cons_inv hd
    obtain rfl := D1L.nil_inv hd
    obtain rfl := ti_val e0
    obtain rfl := ti_val e1
    refine (le_any x.d x.a x.b x.c x.e y.d y.a y.b y.c y.e w).mono ?_
    rintro r w' ⟨rfl, hx⟩
    obtain ⟨k1, k2⟩ := newA_ok hA hx
    exact ⟨_, newA A w w', rfl, hx, k1, k2, Den.bool _⟩
  · exact h.elim
def rwC : Cod (List Hp) where
  K := 1
  enc := fun l => [.sl (encL hpC l)]
  dec := fun l => match l with
    | [.sl l] => decL hpC l
    | _ => []
  de := fun m => by dsimp only; rw [decL_encL]
  len := fun _ => rfl
  lf := fun _ => rfl
theorem rwE (l : List Hp) : rwC.enc l = [.sl (encL hpC l)] := rfl
def tbC : Cod (List (List Hp)) where
  K := 1
  enc := fun l => [.sl (encL rwC l)]
  dec := fun l => match l with
    | [.sl l] => decL rwC l
    | _ => []
  de := fun m => by dsimp only; rw [decL_encL]
  len := fun _ => rfl
  lf := fun _ => rfl
theorem tbE (l : List (List Hp)) : tbC.enc l = [.sl (encL rwC l)] := rfl
def soS (p : List (List (List Hp))) (n m : Int) : List Hp :=
  if (((decide (n < 0) || decide ((p.length : Int) ≤ n)) || decide (m < 0)) || decide ((((p[n.toNat]?).getD []).length : Int) ≤ m)) = true then [] else (((p[n.toNat]?).getD [])[m.toNat]?).getD []
def reS (p : List (List (List Hp))) (n : Int) (t : Tm) (m : Int) (u : Tm) : Bool := (soS p n m).any fun h => apOk h t && leB (apR h t) u
def sofD : List S1 → CR × Prop
  | [.c (.sl p), .c (.int .i64 n), .c (.int .i64 m)] => (.one (.c (.sl (encL hpC (soS (decL tbC p) n m)))), isL tbC p)
  | _ => (.one (.c (.bool false)), False)
set_option maxHeartbeats 4000000 in
theorem sof_cal (args : List S1) (h : (sofD args).2) : Cal Try.prog 92 args (sofD args).1 := by
  unfold sofD at h ⊢
  split at h
  · next p0 n m =>
    refine DV.of (Γ := ⟨[], [], []⟩) (rs := [ResultVar.tmp 6]) [0, 1, 2, 6, 27] ⟨nofun, nofun⟩ (by kernel_rfl) Try.func92 rfl rfl (by kernel_rfl) rfl ?_; (repeat (with_reducible first | apply qa | apply qb | apply qc | apply qd | apply qe))
    obtain ⟨p, rfl⟩ : ∃ v, p0 = encL tbC v := ⟨_, h.symm⟩
    rw [decL_encL]
    clear h
    obtain ⟨R, hR⟩ : ∃ R, soS p n m = R := ⟨_, rfl⟩
    rw [hR]
    unfold soS at hR
    (refine Rg0 ?_; (repeat (with_reducible first | apply qa | apply qb | apply qc | apply qd | apply qe)))
    by_cases hn : 0 ≤ n ∧ n < (p.length : Int)
    rotate_left 1
    · obtain ⟨q, hq⟩ : ∃ q, (decide (n < 0) || decide ((p.length : Int) ≤ n)) = q := ⟨_, rfl⟩
      obtain rfl : q = true := by
        rw [← hq, Bool.or_eq_true, decide_eq_true_iff, decide_eq_true_iff]
        omega
      rw [hq, Bool.true_or, Bool.true_or, if_pos rfl] at hR
      subst hR
      cases hr : p[n.toNat]? with
      | none =>
        have c3 : (encL tbC p)[n.toNat]? = none := by unfold encL; rw [List.getElem?_map, hr]; rfl
        (apply DV.seqreg; kernel_rfl; (simp only [wpS, wpT, go1, evS, cutE_t, cutE_f, cutE_0, ev, Qc, Qd, Qe, Qg, Qo, Qs, QB, nilB, gdS, put1, sv, gs, gb, opd, cst, XW, QK, okS, QL, setAt, bad, dem, QP, QR, QS, QT, QU, QV, QW, QY, QZ, Q2, Q3, Q4, Q5, Q6, lf, lfs, asP, pOk, Xp, Nat.reduceBEq, XA, XB, keep, kp, cand, cor, List.map, List.append, Option.bind, ↓reduceIte, Nat.reduceEqDiff, Nat.reduceAdd, Nat.reduceMul, Nat.reduceLT, Nat.reduceLeDiff, reduceCtorEq, Int.reduceLT, Int.reduceLE, Int.reduceBEq, Int.reduceBNe, Int.reduceAdd, Int.reduceSub, Int.reduceToNat, dq, tya, encL_len, hq, c3, Option.getD_none, undef]; exact rfl); (repeat (with_reducible first | apply qa | apply qb | apply qc | apply qd | apply qe)))
        (refine DV.condT rfl (fun _ => rfl) ?_; (repeat (with_reducible first | apply qa | apply qb | apply qc | apply qd | apply qe)))
        (refine Rg0 ?_; (repeat (with_reducible first | apply qa | apply qb | apply qc | apply qd | apply qe)))
        (refine DV.ret ?_; (repeat (first | (with_reducible refine thenD_ret' ?_) | (with_reducible refine blockD_ret' ?_))); (with_reducible refine retD_ret' ?_); try (have F := @encL_nil; refine Rt1 ?_; clear F; try with_reducible exact True.intro))
      | some r =>
        have c3 := encL_get (C := tbC) hr
        (have F := An4 @encL_len @hq @c3 @tbE; refine Rg1 ?_; clear F; (repeat (with_reducible first | apply qa | apply qb | apply qc | apply qd | apply qe)))
        (refine DV.condT rfl (fun _ => rfl) ?_; (repeat (with_reducible first | apply qa | apply qb | apply qc | apply qd | apply qe)))
        (refine Rg0 ?_; (repeat (with_reducible first | apply qa | apply qb | apply qc | apply qd | apply qe)))
        (refine DV.ret ?_; (repeat (first | (with_reducible refine thenD_ret' ?_) | (with_reducible refine blockD_ret' ?_))); (with_reducible refine retD_ret' ?_); try (have F := @encL_nil; refine Rt1 ?_; clear F; try with_reducible exact True.intro))
    obtain ⟨n0, n1⟩ := hn
    obtain ⟨r, hr⟩ : ∃ r, p[n.toNat]? = some r := ⟨_, List.getElem?_eq_getElem (by omega)⟩
    have c3 := encL_get (C := tbC) hr
    have hq : (decide (n < 0) || decide ((p.length : Int) ≤ n)) = false := by rw [decide_eq_false (by omega), decide_eq_false (by omega)]; rfl
    rw [hq, hr, Option.getD_some, Bool.false_or] at hR
    obtain ⟨q2, hq2⟩ : ∃ q, (decide (m < 0) || decide ((r.length : Int) ≤ m)) = q := ⟨_, rfl⟩
    rw [hq2] at hR
    (have F := An7 @encL_len @hq @n0 @n1 @c3 @tbE @hq2; refine Rg1 ?_; clear F; (repeat (with_reducible first | apply qa | apply qb | apply qc | apply qd | apply qe)))
    cases q2
    rotate_left 1
    · rw [if_pos rfl] at hR
      subst hR
      (refine DV.condT rfl (fun _ => rfl) ?_; (repeat (with_reducible first | apply qa | apply qb | apply qc | apply qd | apply qe)))
      (refine Rg0 ?_; (repeat (with_reducible first | apply qa | apply qb | apply qc | apply qd | apply qe)))
      (refine DV.ret ?_; (repeat (first | (with_reducible refine thenD_ret' ?_) | (with_reducible refine blockD_ret' ?_))); (with_reducible refine retD_ret' ?_); try (have F := @encL_nil; refine Rt1 ?_; clear F; try with_reducible exact True.intro))
    simp only [Bool.or_eq_false_iff, decide_eq_false_iff_not] at hq2
    rw [if_neg (by decide)] at hR
    have m0 : 0 ≤ m := by omega
    have m1 : m < (r.length : Int) := by omega
    obtain ⟨l, hl⟩ : ∃ l, r[m.toNat]? = some l := ⟨_, List.getElem?_eq_getElem (by omega)⟩
    have c4 := encL_get (C := rwC) hl
    rw [hl, Option.getD_some] at hR
    subst hR
    (refine DV.condF rfl (fun _ => rfl) ?_; (repeat (with_reducible first | apply qa | apply qb | apply qc | apply qd | apply qe)))
    (refine DV.skip ?_; (repeat with_reducible refine qn ?_); (with_reducible refine qm ?_); (repeat (with_reducible first | apply qa | apply qb | apply qc | apply qd | apply qe)))
    (have F := An9 @encL_len @n0 @n1 @m0 @m1 @c3 @c4 @tbE @rwE; refine Rg1 ?_; clear F; (repeat (with_reducible first | apply qa | apply qb | apply qc | apply qd | apply qe)))
    (refine DV.ret ?_; (repeat (first | (with_reducible refine thenD_ret' ?_) | (with_reducible refine blockD_ret' ?_))); (with_reducible refine retD_ret' ?_); try (refine Rt0 ?_; try with_reducible exact True.intro))
  · exact h.elim
def reaD : List S1 → CR × Prop
  | [.c (.sl p), .c (.int .i64 n), .agg t, .c (.int .i64 m), .agg u] => (.one (.c (.bool (reS (decL tbC p) n (tiC.dec t) m (tiC.dec u)))), isL tbC p ∧ tiC.enc (tiC.dec t) = t ∧ tiC.enc (tiC.dec u) = u ∧ (soS (decL tbC p) n m).length ≤ 1000000000)
  | _ => (.one (.c (.bool false)), False)
set_option maxHeartbeats 4000000 in
theorem rea_cal (args : List S1) (h : (reaD args).2) : Cal Try.prog 35 args (reaD args).1 := by
  unfold reaD at h ⊢
  split at h
  · next p0 n t0 m u0 =>
    have CT := An3 @sofD.eq_1 @appD.eq_1 @tleD.eq_1; refine DV.of (Γ := ⟨[(92, sofD), (36, appD), (93, tleD)], [], []⟩) (rs := [ResultVar.tmp 10]) [0, 1, 2, 3, 4, 7, 9, 10, 12, 13, 14, 18, 19, 20, 21, 35] ⟨by intro p hp; simp only [List.mem_cons, List.not_mem_nil, or_false] at hp; rcases hp with rfl | rfl | rfl; exact sof_cal; exact app_cal; exact tle_cal, nofun⟩ (by kernel_rfl) Try.func35 rfl rfl (by kernel_rfl) rfl ?_; (repeat (with_reducible first | apply qa | apply qb | apply qc | apply qd | apply qe))
    obtain ⟨h, h1, h2, hlen⟩ := h
    obtain ⟨p, rfl⟩ : ∃ v, p0 = encL tbC v := ⟨_, h.symm⟩
    obtain ⟨t, rfl⟩ : ∃ v, t0 = tiC.enc v := ⟨_, h1.symm⟩
    obtain ⟨u, rfl⟩ : ∃ v, u0 = tiC.enc v := ⟨_, h2.symm⟩
    rw [decL_encL] at hlen ⊢
    rw [tiC.de, tiC.de]
    clear h h1 h2
    obtain ⟨R, hR⟩ : ∃ R, reS p n t m u = R := ⟨_, rfl⟩
    rw [hR]
    unfold reS at hR
    obtain ⟨l, hl⟩ : ∃ l, soS p n m = l := ⟨_, rfl⟩
    rw [hl] at hR
    (have F := @tiE; refine Rg3 ?_; clear F; (repeat (with_reducible first | apply qa | apply qb | apply qc | apply qd | apply qe)))
    (have F := An4 @decL_encL @isL_enc @encL_len @hl; refine Rg3 ?_; clear F; (repeat (with_reducible first | apply qa | apply qb | apply qc | apply qd | apply qe)))
    refine DV.loop (fun j : Nat => ⟨[(7, .v true (.box 7 0)), (9, .v true (.box 9 0)), (18, .v true (.c (.sl (encL hpC l)))), (19, .v true (.c (.int .i64 l.length))), (20, .v true (.c (.int .i64 j)))], [(7, some ⟨0, 0, [[.int .i64 t.d, .int .i64 t.a, .int .i64 t.b, .int .i64 t.c, .int .i64 t.e]]⟩), (9, some ⟨0, 0, [[.int .i64 u.d, .int .i64 u.a, .int .i64 u.b, .int .i64 u.c, .int .i64 u.e]]⟩)], []⟩) (fun j => j ≤ l.length ∧ ∀ (k : Nat) y, k < j → l[k]? = some y → (apOk y t && leB (apR y t) u) = false) (fun j => l.length - j) 0 ⟨Nat.zero_le _, fun k y hk => absurd hk (Nat.not_lt_zero k)⟩ (by (have F := @n0; exact Wk1)) (fun j hj => ?_)
    obtain ⟨hj, hall⟩ := hj
    (repeat (with_reducible first | apply qa | apply qb | apply qc | apply qd | apply qe))
    have ew : IntKind.wrap .i64 ((j : Int) + 1) = ((j + 1 : Nat) : Int) ∨ ¬ j < l.length := by
      by_cases hlt : j < l.length
      · exact .inl (wr1 j (by rw [← hl] at hlt; have := hlen; omega))
      · exact .inr hlt
    by_cases hlt : j < l.length
    · replace ew := ew.resolve_right (fun h => h hlt)
      obtain ⟨x, hx⟩ : ∃ x, l[j]? = some x := ⟨l[j], List.getElem?_eq_getElem _⟩
      have d1 : decide ((j : Int) < (l.length : Int)) = true := decide_eq_true (by omega)
      have c1 : (0 : Int) ≤ j := by omega
      have c2 : (j : Int) < (l.length : Int) := by omega
      have c3 := encL_get (C := hpC) hx
      obtain ⟨q1, hq1⟩ : ∃ q, apOk x t = q := ⟨_, rfl⟩
      obtain ⟨y, hy⟩ : ∃ y, apR x t = y := ⟨_, rfl⟩
      obtain ⟨q2, hq2⟩ : ∃ q, leB y u = q := ⟨_, rfl⟩
      obtain ⟨q, hq⟩ : ∃ q, (q1 && q2) = q := ⟨_, rfl⟩
      (have F := @d1; refine Rg3 ?_; clear F; (repeat (with_reducible first | apply qa | apply qb | apply qc | apply qd | apply qe)))
      (refine DV.condT rfl (fun _ => rfl) ?_; (repeat (with_reducible first | apply qa | apply qb | apply qc | apply qd | apply qe)))
      (refine DV.skip ?_; (repeat with_reducible refine qn ?_); (with_reducible refine qm ?_); (repeat (with_reducible first | apply qa | apply qb | apply qc | apply qd | apply qe)))
      (have F := An6 @i2n @encL_len @c1 @c2 @c3 @hpE; refine Rg3 ?_; clear F; (repeat (with_reducible first | apply qa | apply qb | apply qc | apply qd | apply qe)))
      (have F := An6 @hpE @hpD @tiE @tiD @hq1 @hy; refine Rg3 ?_; clear F; (repeat (with_reducible first | apply qa | apply qb | apply qc | apply qd | apply qe)))
      (have F := An4 @tiE @tiD @hq2 @hq; refine Rg3 ?_; clear F; (repeat (with_reducible first | apply qa | apply qb | apply qc | apply qd | apply qe)))
      cases q
      · (refine DV.condF rfl (fun _ => rfl) ?_; (repeat (with_reducible first | apply qa | apply qb | apply qc | apply qd | apply qe)))
        (refine DV.skip ?_; (repeat with_reducible refine qn ?_); (with_reducible refine qm ?_); (repeat (with_reducible first | apply qa | apply qb | apply qc | apply qd | apply qe)))
        (have F := @ew; refine Re3 ?_; clear F; (repeat with_reducible refine qn ?_); (try with_reducible refine qm ?_); (repeat (with_reducible first | apply qa | apply qb | apply qc | apply qd | apply qe)))
        refine ⟨j + 1, ⟨⟨hlt, fun k z hk hz => ?_⟩, by omega⟩, by exact Wk0⟩
        rcases Nat.lt_or_ge k j with g | g
        · exact hall k z g hz
        · obtain rfl : k = j := by omega
          rw [hx] at hz
          obtain rfl := Option.some.inj hz
          rw [hq1, hy, hq2, hq]
      · have hany : (l.any fun h => apOk h t && leB (apR h t) u) = true := List.any_eq_true.2 ⟨x, List.mem_of_getElem? hx, by rw [hq1, hy, hq2, hq]⟩
        rw [hany] at hR
        subst hR
        (refine DV.condT rfl (fun _ => rfl) ?_; (repeat (with_reducible first | apply qa | apply qb | apply qc | apply qd | apply qe)))
        (refine Rg2 ?_; (repeat (with_reducible first | apply qa | apply qb | apply qc | apply qd | apply qe)))
        (refine DV.ret ?_; (repeat (first | (with_reducible refine thenD_ret' ?_) | (with_reducible refine blockD_ret' ?_))); (with_reducible refine retD_ret' ?_); try (refine Rt0 ?_; try with_reducible exact True.intro))
        try decide
    · obtain rfl : j = l.length := by omega
      have d1 : decide ((l.length : Int) < (l.length : Int)) = false := decide_eq_false (by omega)
      have hno : (l.any fun h => apOk h t && leB (apR h t) u) = false := List.any_eq_false.2 fun y hy => by
        obtain ⟨k, hk⟩ := List.getElem?_of_mem hy
        rw [hall k y (List.getElem?_eq_some_iff.1 hk).1 hk]
        decide
      rw [hno] at hR
      subst hR
      (have F := @d1; refine Rg3 ?_; clear F; (repeat (with_reducible first | apply qa | apply qb | apply qc | apply qd | apply qe)))
      (refine DV.condF rfl (fun _ => rfl) ?_; (repeat (with_reducible first | apply qa | apply qb | apply qc | apply qd | apply qe)))
      (refine DV.exit ?_; (repeat (first | (with_reducible refine thenD_exit' ?_) | (with_reducible refine blockD_other (by decide) ?_))); (with_reducible refine blockD_same ?_); (repeat with_reducible refine qn ?_); (with_reducible refine qm ?_); (repeat (with_reducible first | apply qa | apply qb | apply qc | apply qd | apply qe)))
      (refine Rg2 ?_; (repeat (with_reducible first | apply qa | apply qb | apply qc | apply qd | apply qe)))
      (refine DV.ret ?_; (repeat (first | (with_reducible refine thenD_ret' ?_) | (with_reducible refine blockD_ret' ?_))); (with_reducible refine retD_ret' ?_); try (refine Rt0 ?_; try with_reducible exact True.intro))
      try decide
  · exact h.elim
structure StOk (g : Gr) (e : Eg) : Prop where
  sm : Sm g
  f0 : 0 ≤ e.f
  f1 : e.f < g.n.length
  k : (ndAt g e.f).k < 10 ∨ 12 < (ndAt g e.f).k
end Go.Proofs.Ytkmgdejpdhlleaa.Dq
