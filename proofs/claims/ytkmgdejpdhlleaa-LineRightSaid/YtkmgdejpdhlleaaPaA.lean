/- Paths by deep values: the contracts of hops; put, Least; the reference's Least, Like. -/
import Derived.Test.YtkmgdejpdhlleaaTyp
import Derived.Test.YtkmgdejpdhlleaaDqC
import Derived.Test.YtkmgdejpdhlleaaPaP
import Derived.Test.YtkmgdejpdhlleaaRef2a
namespace Go.Proofs.Ytkmgdejpdhlleaa.Dq
set_option linter.unusedSimpArgs false
set_option linter.unusedVariables false
set_option maxRecDepth 100000
open Go.RowKit
open Pa

theorem D1L.cons_inv {G : Gh} {w : World} {x : S1} {l : List S1} {us : List Value} (h : D1L G w (x :: l) us) : ∃ u us', us = u :: us' ∧ D1 G w x u ∧ D1L G w l us' := by
  cases us with
  | nil => have := h.1; simp at this
  | cons u us => exact ⟨u, us, rfl, h.2 0 x u rfl rfl, by simpa using h.1, fun j y v h1 h2 => h.2 (j + 1) y v (by simpa using h1) (by simpa using h2)⟩
theorem D1L.nil_inv {G : Gh} {w : World} {us : List Value} (h : D1L G w [] us) : us = [] := List.eq_nil_of_length_eq_zero h.1.symm
def newA (A : Pr) (w w' : World) : Pr := fun b i => A b i ∨ (w.heap.size ≤ b ∧ b < w'.heap.size)
theorem newA_ok {A : Pr} {w w' : World} (hA : ∀ b i, A b i → b < w.heap.size) (hx : Ext w w') : (∀ b i, A b i → newA A w w' b i) ∧ ∀ b i, newA A w w' b i → b < w'.heap.size ∧ (b < w.heap.size → A b i) :=
  ⟨fun _ _ h => .inl h, fun b i h => by
    rcases h with h | ⟨h1, h2⟩
    · exact ⟨Nat.lt_of_lt_of_le (hA b i h) hx.below.size, fun _ => h⟩
    · exact ⟨h2, fun h => by omega⟩⟩
def hpC : Cod Hp where
  K := 11
  enc := fun m => [.int .i64 m.f, .int .i64 m.k, .int .i64 m.l, .int .i64 m.a, .int .i64 m.b, .int .i64 m.c, .int .i64 m.e, .int .i64 m.p, .int .i64 m.q, .int .i64 m.r, .int .i64 m.s]
  dec := fun l => match l with
    | [.int _ f, .int _ k, .int _ l, .int _ a, .int _ b, .int _ c, .int _ e, .int _ p, .int _ q, .int _ r, .int _ s] => ⟨f, k, l, a, b, c, e, p, q, r, s⟩
    | _ => ⟨0, 0, 0, 0, 0, 0, 0, 0, 0, 0, 0⟩
  de := fun _ => rfl
  len := fun _ => rfl
  lf := fun _ => rfl
theorem hpE (m : Hp) : hpC.enc m = [.int .i64 m.f, .int .i64 m.k, .int .i64 m.l, .int .i64 m.a, .int .i64 m.b, .int .i64 m.c, .int .i64 m.e, .int .i64 m.p, .int .i64 m.q, .int .i64 m.r, .int .i64 m.s] := rfl
theorem hpD (m : Hp) : hpC.dec [.int .i64 m.f, .int .i64 m.k, .int .i64 m.l, .int .i64 m.a, .int .i64 m.b, .int .i64 m.c, .int .i64 m.e, .int .i64 m.p, .int .i64 m.q, .int .i64 m.r, .int .i64 m.s] = m := rfl
theorem hp_all (l : List Hp) : allK 11 (encL hpC l) := encL_all (C := hpC) l
theorem hp_val {G : Gh} {w : World} {h : Hp} {v : Value} (hd : D1 G w (.agg (hpC.enc h)) v) : v = hv h := by
  obtain ⟨us, rfl, h0⟩ := hd
  obtain rfl := flatXU (vs := [.int .i64 h.f, .int .i64 h.k, .int .i64 h.l, .int .i64 h.a, .int .i64 h.b, .int .i64 h.c, .int .i64 h.e, .int .i64 h.p, .int .i64 h.q, .int .i64 h.r, .int .i64 h.s]) h0 rfl
  rfl
def hrD : List S1 → CR × Prop
  | [.agg h] => (.one (.c (.bool (hopB (hpC.dec h)))), hpC.enc (hpC.dec h) = h)
  | _ => (.one (.c (.bool false)), False)
theorem hr_cal (args : List S1) (h : (hrD args).2) : Cal Try.prog 40 args (hrD args).1 := by
  unfold hrD at h ⊢
  split at h
  · next h0 =>
    obtain ⟨x, rfl⟩ : ∃ x, h0 = hpC.enc x := ⟨_, h.symm⟩
    rw [hpC.de]
    intro A w vs hA hd
    obtain ⟨v0, vs, rfl, e0, hd⟩ := D1L.cons_inv hd
    obtain rfl := D1L.nil_inv hd
    obtain rfl := hp_val e0
    refine (hopRight_any x.f x.k x.l x.a x.b x.c x.e x.p x.q x.r x.s w).mono ?_
    rintro r w' ⟨rfl, hx⟩
    obtain ⟨k1, k2⟩ := newA_ok hA hx
    exact ⟨_, newA A w w', rfl, hx, k1, k2, Den.bool _⟩
  · exact h.elim
def hlD : List S1 → CR × Prop
  | [.agg x, .agg y] => (.one (.c (.bool (leHB (hpC.dec x) (hpC.dec y)))), hpC.enc (hpC.dec x) = x ∧ hpC.enc (hpC.dec y) = y)
  | _ => (.one (.c (.bool false)), False)
theorem hl_cal (args : List S1) (h : (hlD args).2) : Cal Try.prog 41 args (hlD args).1 := by
  unfold hlD at h ⊢
  split at h
  · next x0 y0 =>
    obtain ⟨h1, h2⟩ := h
    obtain ⟨x, rfl⟩ : ∃ x, x0 = hpC.enc x := ⟨_, h1.symm⟩
    obtain ⟨y, rfl⟩ : ∃ x, y0 = hpC.enc x := ⟨_, h2.symm⟩
    rw [hpC.de, hpC.de]
    intro A w vs hA hd
    obtain ⟨v0, vs, rfl, e0, hd⟩ := D1L.cons_inv hd
    obtain ⟨v1, vs, rfl, e1, hd⟩ := D1L.cons_inv hd
    obtain rfl := D1L.nil_inv hd
    obtain rfl := hp_val e0
    obtain rfl := hp_val e1
    refine (hopLe_any x.f x.k x.l x.a x.b x.c x.e x.p x.q x.r x.s y.f y.k y.l y.a y.b y.c y.e y.p y.q y.r y.s w).mono ?_
    rintro r w' ⟨rfl, hx⟩
    obtain ⟨k1, k2⟩ := newA_ok hA hx
    exact ⟨_, newA A w w', rfl, hx, k1, k2, Den.bool _⟩
  · exact h.elim
def puD : List S1 → CR × Prop
  | [.c (.sl l), .agg h] => (.tup [.c (.sl (encL hpC (putS (decL hpC l) (hpC.dec h)).1)), .c (.bool (putS (decL hpC l) (hpC.dec h)).2)], isL hpC l ∧ hpC.enc (hpC.dec h) = h ∧ (decL hpC l).length ≤ 1000000000)
  | _ => (.one (.c (.bool false)), False)
theorem filt_snoc {P : Hp → Bool} {l : List Hp} {j : Nat} {x : Hp} (h : l[j]? = some x) : (l.take (j + 1)).filter P = if P x = true then (l.take j).filter P ++ [x] else (l.take j).filter P := by
  rw [List.take_add_one, h, Option.toList_some, List.filter_append]
  split
  · next hp => rw [List.filter_cons, if_pos hp, List.filter_nil]
  · next hp => rw [List.filter_cons, if_neg hp, List.filter_nil, List.append_nil]
set_option maxHeartbeats 8000000 in
theorem pu_cal (args : List S1) (h : (puD args).2) : Cal Try.prog 85 args (puD args).1 := by
  unfold puD at h ⊢
  split at h
  · next l0 h0 =>
    obtain ⟨hl, hh, hn⟩ := h
    obtain ⟨l, rfl⟩ : ∃ v, l0 = encL hpC v := ⟨_, hl.symm⟩
    obtain ⟨h, rfl⟩ : ∃ v, h0 = hpC.enc v := ⟨_, hh.symm⟩
    rw [decL_encL] at hn ⊢
    rw [hpC.de]
    clear hl hh
    obtain ⟨R, hR⟩ : ∃ R, putS l h = R := ⟨_, rfl⟩
    rw [hR]
    unfold putS at hR
    obtain ⟨b, hb⟩ : ∃ b, hopB h = b := ⟨_, rfl⟩
    rw [hb] at hR
    have CT := An2 @hrD.eq_1 @hlD.eq_1; refine DV.of (Γ := ⟨[(40, hrD), (41, hlD)], [], []⟩) (rs := [ResultVar.tmp 4, ResultVar.tmp 5]) [0, 1, 3, 4, 5, 6, 8, 11, 13, 14, 15, 16, 21, 26] ⟨by intro p hp; simp only [List.mem_cons, List.not_mem_nil, or_false] at hp; rcases hp with rfl | rfl; exact hr_cal; exact hl_cal, nofun⟩ (by kernel_rfl) Try.func85 rfl rfl (by kernel_rfl) rfl ?_; (repeat (with_reducible first | apply qa | apply qb | apply qc | apply qd | apply qe))
    (have F := @hpE; refine Rg3 ?_; clear F; (repeat (with_reducible first | apply qa | apply qb | apply qc | apply qd | apply qe)))
    (have F := An3 @hpE @hpD @hb; refine Rg3 ?_; clear F; (repeat (with_reducible first | apply qa | apply qb | apply qc | apply qd | apply qe)))
    cases b
    · rw [if_pos rfl] at hR
      subst hR
      (refine DV.condT rfl (fun _ => rfl) ?_; (repeat (with_reducible first | apply qa | apply qb | apply qc | apply qd | apply qe)))
      (refine Rg2 ?_; (repeat (with_reducible first | apply qa | apply qb | apply qc | apply qd | apply qe)))
      (refine DV.ret ?_; (repeat (first | (with_reducible refine thenD_ret' ?_) | (with_reducible refine blockD_ret' ?_))); (with_reducible refine retD_ret' ?_); try (refine Rt0 ?_; try with_reducible exact True.intro))
      try decide
    rw [if_neg (by decide)] at hR
    (refine DV.condF rfl (fun _ => rfl) ?_; (repeat (with_reducible first | apply qa | apply qb | apply qc | apply qd | apply qe)))
    (refine DV.skip ?_; (repeat with_reducible refine qn ?_); (with_reducible refine qm ?_); (repeat (with_reducible first | apply qa | apply qb | apply qc | apply qd | apply qe)))
    (refine Rg2 ?_; (repeat (with_reducible first | apply qa | apply qb | apply qc | apply qd | apply qe)))
    (have F := @encL_len; refine Rg3 ?_; clear F; (repeat (with_reducible first | apply qa | apply qb | apply qc | apply qd | apply qe)))
    refine DV.loop (fun j : Nat => ⟨[(0, .v true (.c (.sl (encL hpC l)))), (3, .v true (.box 3 0)), (6, .v true (.own 30 11 (encL hpC ((l.take j).filter fun x => !leHB h x)))), (13, .v true (.c (.sl (encL hpC l)))), (14, .v true (.c (.int .i64 l.length))), (15, .v true (.c (.int .i64 j)))], [(3, some ⟨0, 0, [[.int .i64 h.f, .int .i64 h.k, .int .i64 h.l, .int .i64 h.a, .int .i64 h.b, .int .i64 h.c, .int .i64 h.e, .int .i64 h.p, .int .i64 h.q, .int .i64 h.r, .int .i64 h.s]]⟩)], [(30, ⟨82, 11, ((l.take j).filter fun x => !leHB h x).length⟩)]⟩) (fun j => j ≤ l.length ∧ ∀ (k : Nat) y, k < j → l[k]? = some y → leHB y h = false) (fun j => l.length - j) 0 ⟨Nat.zero_le _, fun k y hk => absurd hk (Nat.not_lt_zero k)⟩ (by
      have e1 : (l.take 0).filter (fun x => !leHB h x) = [] := rfl
      rw [e1]
      (refine wk_of [] ?_ ?_ ?_ ?_ ?_ <;> (simp only [false_and, and_false, and_self, XC, XD, XE, XF, XG, XH, XI, convK, XJ, XK, XL, XM, XN, look, XO, XP, XR, XS, XT, XU, XV, encL_nil, encL_app, encL_cons, List.length_append, gdS, put1, sv, gs, gb, QK, setAt, bad, dem, QP, QR, QS, QT, QU, QV, QW, QY, Q2, Q3, lf, lfs, pOk, Nat.reduceBEq, XA, XB, keep, kp, cand, cor, List.map, List.append, Option.bind, ↓reduceIte, Nat.reduceEqDiff, Nat.reduceAdd, Nat.reduceMul, Nat.reduceLT, Nat.reduceLeDiff, reduceCtorEq, Int.reduceLT, Int.reduceLE, Int.reduceBEq, Int.reduceBNe, Int.reduceAdd, Int.reduceSub, Int.reduceToNat, dq]; try trivial))) (fun j hj => ?_)
    obtain ⟨hj, hall⟩ := hj
    (repeat (with_reducible first | apply qa | apply qb | apply qc | apply qd | apply qe))
    have ew := wr1 j (by omega)
    have hol : ((l.take j).filter fun x => !leHB h x).length ≤ 1000000000 := by
      have := List.length_filter_le (fun x => !leHB h x) (l.take j)
      rw [List.length_take] at this
      omega
    by_cases hlt : j < l.length
    · obtain ⟨x, hx⟩ : ∃ x, l[j]? = some x := ⟨l[j], List.getElem?_eq_getElem _⟩
      have d1 : decide ((j : Int) < (l.length : Int)) = true := decide_eq_true (by omega)
      have c1 : (0 : Int) ≤ j := by omega
      have c2 : (j : Int) < (l.length : Int) := by omega
      have c3 := encL_get (C := hpC) hx
      have hsn := filt_snoc (P := fun x => !leHB h x) hx
      obtain ⟨O, hO⟩ : ∃ O, ((l.take j).filter fun x => !leHB h x) = O := ⟨_, rfl⟩
      rw [hO] at hol hsn ⊢
      obtain ⟨q, hq⟩ : ∃ q, leHB x h = q := ⟨_, rfl⟩
      obtain ⟨q2, hq2⟩ : ∃ q, leHB h x = q := ⟨_, rfl⟩
      rw [hq2] at hsn
      have a1 := hp_all O
      have k1 := Lib.hid (capOk_of (n := O.length + 1) (by omega))
      have k2 := Lib.hid (capB (n := O.length + 1) (k := 88) (by omega) (by decide))
      (have F := @d1; refine Rg3 ?_; clear F; (repeat (with_reducible first | apply qa | apply qb | apply qc | apply qd | apply qe)))
      (refine DV.condT rfl (fun _ => rfl) ?_; (repeat (with_reducible first | apply qa | apply qb | apply qc | apply qd | apply qe)))
      (refine DV.skip ?_; (repeat with_reducible refine qn ?_); (with_reducible refine qm ?_); (repeat (with_reducible first | apply qa | apply qb | apply qc | apply qd | apply qe)))
      (have F := An6 @i2n @encL_len @c1 @c2 @c3 @hpE; refine Rg3 ?_; clear F; (repeat (with_reducible first | apply qa | apply qb | apply qc | apply qd | apply qe)))
      (have F := An3 @hpE @hpD @hq; refine Rg3 ?_; clear F; (repeat (with_reducible first | apply qa | apply qb | apply qc | apply qd | apply qe)))
      cases q
      rotate_left 1
      · have hany : l.any (fun x => leHB x h) = true := List.any_eq_true.2 ⟨x, List.mem_of_getElem? hx, hq⟩
        rw [if_pos hany] at hR
        subst hR
        (refine DV.condT rfl (fun _ => rfl) ?_; (repeat (with_reducible first | apply qa | apply qb | apply qc | apply qd | apply qe)))
        (refine Rg2 ?_; (repeat (with_reducible first | apply qa | apply qb | apply qc | apply qd | apply qe)))
        (refine DV.ret ?_; (repeat (first | (with_reducible refine thenD_ret' ?_) | (with_reducible refine blockD_ret' ?_))); (with_reducible refine retD_ret' ?_); try (refine Rt0 ?_; try with_reducible exact True.intro))
        try decide
      have hall2 : ∀ (k : Nat) y, k < j + 1 → l[k]? = some y → leHB y h = false := fun k y hk hy => by
        rcases Nat.lt_or_ge k j with g | g
        · exact hall k y g hy
        · obtain rfl : k = j := by omega
          rw [hx] at hy
          obtain rfl := Option.some.inj hy
          exact hq
      (refine DV.condF rfl (fun _ => rfl) ?_; (repeat (with_reducible first | apply qa | apply qb | apply qc | apply qd | apply qe)))
      (refine DV.skip ?_; (repeat with_reducible refine qn ?_); (with_reducible refine qm ?_); (repeat (with_reducible first | apply qa | apply qb | apply qc | apply qd | apply qe)))
      (have F := An3 @hpE @hpD @hq2; refine Rg3 ?_; clear F; (repeat (with_reducible first | apply qa | apply qb | apply qc | apply qd | apply qe)))
      cases q2
      · rw [if_pos (show (!false) = true from rfl)] at hsn
        have hrow : encL hpC O ++ [[D.int .i64 x.f, D.int .i64 x.k, D.int .i64 x.l, D.int .i64 x.a, D.int .i64 x.b, D.int .i64 x.c, D.int .i64 x.e, D.int .i64 x.p, D.int .i64 x.q, D.int .i64 x.r, D.int .i64 x.s]] = encL hpC (O ++ [x]) := by rw [encL_app]; rfl
        have hlen : (O ++ [x]).length = O.length + 1 := by rw [List.length_append]; rfl
        (refine DV.condT rfl (fun _ => rfl) ?_; (repeat (with_reducible first | apply qa | apply qb | apply qc | apply qd | apply qe)))
        (have F := An6 @range1 @a1 @encL_len k1.out k2.out @hrow; refine Re3 ?_; clear F; (repeat with_reducible refine qn ?_); (try with_reducible refine qm ?_); (repeat (with_reducible first | apply qa | apply qb | apply qc | apply qd | apply qe)))
        (have F := @ew; refine Re3 ?_; clear F; (repeat with_reducible refine qn ?_); (try with_reducible refine qm ?_); (repeat (with_reducible first | apply qa | apply qb | apply qc | apply qd | apply qe)))
        refine ⟨j + 1, ⟨⟨hlt, hall2⟩, by omega⟩, ?_⟩
        rw [hsn, hlen]
        (refine wk_of [] ?_ ?_ ?_ ?_ ?_ <;> (simp only [false_and, and_false, and_self, XC, XD, XE, XF, XG, XH, XI, convK, XJ, XK, XL, XM, XN, look, XO, XP, XR, XS, XT, XU, XV, encL_nil, encL_app, encL_cons, List.length_append, gdS, put1, sv, gs, gb, QK, setAt, bad, dem, QP, QR, QS, QT, QU, QV, QW, QY, Q2, Q3, lf, lfs, pOk, Nat.reduceBEq, XA, XB, keep, kp, cand, cor, List.map, List.append, Option.bind, ↓reduceIte, Nat.reduceEqDiff, Nat.reduceAdd, Nat.reduceMul, Nat.reduceLT, Nat.reduceLeDiff, reduceCtorEq, Int.reduceLT, Int.reduceLE, Int.reduceBEq, Int.reduceBNe, Int.reduceAdd, Int.reduceSub, Int.reduceToNat, dq]; try trivial))
      · rw [if_neg (show ¬ (!true) = true by decide)] at hsn
        (refine DV.condF rfl (fun _ => rfl) ?_; (repeat (with_reducible first | apply qa | apply qb | apply qc | apply qd | apply qe)))
        (refine DV.skip ?_; (repeat with_reducible refine qn ?_); (with_reducible refine qm ?_); (repeat (with_reducible first | apply qa | apply qb | apply qc | apply qd | apply qe)))
        (have F := @ew; refine Re3 ?_; clear F; (repeat with_reducible refine qn ?_); (try with_reducible refine qm ?_); (repeat (with_reducible first | apply qa | apply qb | apply qc | apply qd | apply qe)))
        refine ⟨j + 1, ⟨⟨hlt, hall2⟩, by omega⟩, ?_⟩
        rw [hsn]
        (refine wk_of [] ?_ ?_ ?_ ?_ ?_ <;> (simp only [false_and, and_false, and_self, XC, XD, XE, XF, XG, XH, XI, convK, XJ, XK, XL, XM, XN, look, XO, XP, XR, XS, XT, XU, XV, encL_nil, encL_app, encL_cons, List.length_append, gdS, put1, sv, gs, gb, QK, setAt, bad, dem, QP, QR, QS, QT, QU, QV, QW, QY, Q2, Q3, lf, lfs, pOk, Nat.reduceBEq, XA, XB, keep, kp, cand, cor, List.map, List.append, Option.bind, ↓reduceIte, Nat.reduceEqDiff, Nat.reduceAdd, Nat.reduceMul, Nat.reduceLT, Nat.reduceLeDiff, reduceCtorEq, Int.reduceLT, Int.reduceLE, Int.reduceBEq, Int.reduceBNe, Int.reduceAdd, Int.reduceSub, Int.reduceToNat, dq]; try trivial))
    · obtain rfl : j = l.length := by omega
      have d1 : decide ((l.length : Int) < (l.length : Int)) = false := decide_eq_false (by omega)
      have hno : ¬ l.any (fun x => leHB x h) = true := fun hany => by
        obtain ⟨y, hy, hyh⟩ := List.any_eq_true.1 hany
        obtain ⟨k, hk⟩ := List.getElem?_of_mem hy
        rw [hall k y (List.getElem?_eq_some_iff.1 hk).1 hk] at hyh
        cases hyh
      rw [if_neg hno] at hR
      subst hR
      rw [List.take_length] at hol ⊢
      obtain ⟨O, hO⟩ : ∃ O, (l.filter fun x => !leHB h x) = O := ⟨_, rfl⟩
      rw [hO] at hol ⊢
      have a1 := hp_all O
      have k1 := Lib.hid (capOk_of (n := O.length + 1) (by omega))
      have k2 := Lib.hid (capB (n := O.length + 1) (k := 88) (by omega) (by decide))
      have hrow : encL hpC O ++ [[D.int .i64 h.f, D.int .i64 h.k, D.int .i64 h.l, D.int .i64 h.a, D.int .i64 h.b, D.int .i64 h.c, D.int .i64 h.e, D.int .i64 h.p, D.int .i64 h.q, D.int .i64 h.r, D.int .i64 h.s]] = encL hpC (O ++ [h]) := by rw [encL_app]; rfl
      (have F := @d1; refine Rg3 ?_; clear F; (repeat (with_reducible first | apply qa | apply qb | apply qc | apply qd | apply qe)))
      (refine DV.condF rfl (fun _ => rfl) ?_; (repeat (with_reducible first | apply qa | apply qb | apply qc | apply qd | apply qe)))
      (refine DV.exit ?_; (repeat (first | (with_reducible refine thenD_exit' ?_) | (with_reducible refine blockD_other (by decide) ?_))); (with_reducible refine blockD_same ?_); (repeat with_reducible refine qn ?_); (with_reducible refine qm ?_); (repeat (with_reducible first | apply qa | apply qb | apply qc | apply qd | apply qe)))
      (have F := An6 @range1 @a1 @encL_len k1.out k2.out @hrow; refine Rg3 ?_; clear F; (repeat (with_reducible first | apply qa | apply qb | apply qc | apply qd | apply qe)))
      (refine DV.ret ?_; (repeat (first | (with_reducible refine thenD_ret' ?_) | (with_reducible refine blockD_ret' ?_))); (with_reducible refine retD_ret' ?_); try (refine Rt0 ?_; try with_reducible exact True.intro))
      try decide
  · exact h.elim
end Go.Proofs.Ytkmgdejpdhlleaa.Dq
