/- Paths by deep values: lowest timestamps; the reference's Apply, Le, Reaches; what may come of many, both. -/
import Derived.Test.YtkmgdejpdhlleaaPaC
import Derived.Test.YtkmgdejpdhlleaaRhL
import Derived.Test.YtkmgdejpdhlleaaRef2d
namespace Go.Proofs.Ytkmgdejpdhlleaa.Dq
set_option linter.unusedSimpArgs false
set_option linter.unusedVariables false
set_option maxRecDepth 100000
open Go.RowKit

open Pa Va

theorem isfA : isFn Try.prog 100 = true := by kernel_rfl
theorem isfB : isFn Try.prog 101 = true := by kernel_rfl
theorem isfE : isFn Try.prog 102 = true := by kernel_rfl
theorem isfG : isFn Try.prog 43 = true := by kernel_rfl
def tlC : Cod (List Tm) where
  K := 1
  enc := fun l => [.sl (encL tiC l)]
  dec := fun l => match l with
    | [.sl m] => decL tiC m
    | _ => []
  de := fun x => by dsimp only; rw [decL_encL]
  len := fun _ => rfl
  lf := fun _ => rfl
theorem tlE (l : List Tm) : tlC.enc l = [.sl (encL tiC l)] := rfl
theorem ti_all (l : List Tm) : allK 5 (encL tiC l) := encL_all (C := tiC) l
theorem tms_plain : ∀ l : List Tm, plainV (encL tiC l).flatten = some (Rc.tms l)
  | [] => rfl
  | x :: l => by
    rw [encL_cons, List.flatten_cons, tiE]
    simp only [List.cons_append, List.nil_append, plainV, tms_plain l, Option.map_some]
    rfl
theorem den_tms {A : Pr} {w : World} {l : List Tm} {v : Value} (h : Den A w (.sl (encL tiC l)) v) : ∃ a c, v = .slice a l.length c ∧ Rd w 5 l.length (.slice a l.length c) (Rc.tms l) := by
  obtain ⟨a, c, us, rfl, hr, hd, -, -⟩ := cells_of_den h (encL_all (C := tiC) l)
  rw [encL_len] at hr ⊢
  rw [flatL hd (tms_plain l)] at hr
  exact ⟨a, c, rfl, hr⟩
theorem tms_den {A : Pr} {w : World} : ∀ l : List Tm, DenL A w (encL tiC l).flatten (Rc.tms l)
  | [] => AL.nil
  | x :: l => by
    rw [encL_cons, List.flatten_cons, tiE]
    exact (((((DenL.single (.int _ _)).append (DenL.single (.int _ _))).append (DenL.single (.int _ _))).append (DenL.single (.int _ _))).append (DenL.single (.int _ _))).append (tms_den l)
theorem row_den {A : Pr} {w w' : World} {l : List Tm} {v : Value} (h : Rc.Row w w.heap.size l v w') : Den (newA A w w') w' (.sl (encL tiC l)) v := by
  obtain ⟨hx, a, c, rfl, ho⟩ := h
  have hcap : l.length ≤ c := by
    rcases ho.2 with ⟨h, h'⟩ | ⟨g, cap, cur, h, -, -, h', -⟩
    · omega
    · obtain ⟨-, -, rfl⟩ := Value.slice.inj h
      exact h'
  have := den_of_cells (A := newA A w w') (c := c) (a := a) (encL_all (C := tiC) l) (by rw [encL_len]; exact hcap) (tms_den l) (fun hne => by
    rcases ho.2 with ⟨h, h'⟩ | ⟨g, cap, cur, h, hb, hg, -⟩
    · exact absurd (List.eq_nil_of_length_eq_zero (by rw [encL_len]; exact h')) hne
    · obtain ⟨rfl, -, -⟩ := Value.slice.inj h
      refine ⟨g, 0, rfl, fun i u hu => ⟨.inr ⟨hb, (Array.getElem?_eq_some_iff.1 hg).1⟩, ?_⟩⟩
      have := ho.cells (g := g) rfl i u hu
      rwa [addr_add'] at this)
  rwa [encL_len] at this
def cofD : List S1 → CR × Prop
  | [.c (.sl l)] => (.one (.c (.sl (encL tiC (Rc.chT (decL tiC l))))), isL tiC l ∧ (decL tiC l).length ≤ 1073741823)
  | _ => (.one (.c (.bool false)), False)
theorem cof_cal (args : List S1) (h : (cofD args).2) : Cal Try.prog 101 args (cofD args).1 := by
  unfold cofD at h ⊢
  split at h
  · next l0 =>
    obtain ⟨hl, hf⟩ := h
    obtain ⟨l, rfl⟩ : ∃ l, l0 = encL tiC l := ⟨_, hl.symm⟩
    rw [decL_encL] at hf ⊢
    intro A w vs hA hd
    obtain ⟨v0, vs, rfl, h0, hd⟩ := hd.cons_inv
    obtain rfl := hd.nil_inv
    obtain ⟨a, c, rfl, hr0⟩ := den_tms h0
    refine (Rc.of_any l a c w hr0 hf).mono ?_
    rintro r w' ⟨v, rfl, hr⟩
    obtain ⟨k1, k2⟩ := newA_ok hA hr.1
    exact ⟨v, newA A w w', rfl, hr.1, k1, k2, row_den hr⟩
  · exact h.elim
def rofD : List S1 → CR × Prop
  | [.c (.sl l)] => (.one (.c (.sl (encL tiC (Rc.chT (decL tiC l))))), isL tiC l ∧ (decL tiC l).length ≤ 1073741823)
  | _ => (.one (.c (.bool false)), False)
theorem rof_cal (args : List S1) (h : (rofD args).2) : Cal Try.prog 102 args (rofD args).1 := by
  unfold rofD at h ⊢
  split at h
  · next l0 =>
    obtain ⟨hl, hf⟩ := h
    obtain ⟨l, rfl⟩ : ∃ l, l0 = encL tiC l := ⟨_, hl.symm⟩
    rw [decL_encL] at hf ⊢
    intro A w vs hA hd
    obtain ⟨v0, vs, rfl, h0, hd⟩ := hd.cons_inv
    obtain rfl := hd.nil_inv
    obtain ⟨a, c, rfl, hr0⟩ := den_tms h0
    refine (Rc.refOf_any l a c w hr0 hf).mono ?_
    rintro r w' ⟨v, rfl, hr⟩
    rw [Rc.ref_is] at hr
    obtain ⟨k1, k2⟩ := newA_ok hA hr.1
    exact ⟨v, newA A w w', rfl, hr.1, k1, k2, row_den hr⟩
  · exact h.elim
noncomputable def rsmD : List S1 → CR × Prop
  | [.c (.sl l), .c (.sl m)] => (.one (.c (.bool (Rc.sameB (decL tiC l) (decL tiC m)))), isL tiC l ∧ isL tiC m ∧ (decL tiC l).length ≤ 1073741823)
  | _ => (.one (.c (.bool false)), False)
theorem rsm_cal (args : List S1) (h : (rsmD args).2) : Cal Try.prog 43 args (rsmD args).1 := by
  unfold rsmD at h ⊢
  split at h
  · next l0 m0 =>
    obtain ⟨hl, hm, hf⟩ := h
    obtain ⟨l, rfl⟩ : ∃ l, l0 = encL tiC l := ⟨_, hl.symm⟩
    obtain ⟨m, rfl⟩ : ∃ l, m0 = encL tiC l := ⟨_, hm.symm⟩
    rw [decL_encL] at hf
    rw [decL_encL, decL_encL]
    intro A w vs hA hd
    obtain ⟨v0, vs, rfl, h0, hd⟩ := hd.cons_inv
    obtain ⟨v1, vs, rfl, h1, hd⟩ := hd.cons_inv
    obtain rfl := hd.nil_inv
    obtain ⟨a, c, rfl, hr0⟩ := den_tms h0
    obtain ⟨a', c', rfl, hr1⟩ := den_tms h1
    refine (Rc.refSame_any l m a a' c c' w hr0 hr1 hf).mono ?_
    rintro r w' ⟨rfl, hx⟩
    obtain ⟨k1, k2⟩ := newA_ok hA hx
    exact ⟨_, newA A w w', rfl, hx, k1, k2, Den.bool _⟩
  · exact h.elim
def rapD : List S1 → CR × Prop
  | [.agg x, .agg y] => (.tup [.agg (tiC.enc (apR (hpC.dec x) (tiC.dec y))), .c (.bool (apOk (hpC.dec x) (tiC.dec y)))], hpC.enc (hpC.dec x) = x ∧ tiC.enc (tiC.dec y) = y)
  | _ => (.one (.c (.bool false)), False)
theorem rap_cal (args : List S1) (h : (rapD args).2) : Cal Try.prog 99 args (rapD args).1 := by
  unfold rapD at h ⊢
  split at h
  · next x0 y0 =>
    obtain ⟨h1, h2⟩ := h
    obtain ⟨x, rfl⟩ : ∃ x, x0 = hpC.enc x := ⟨_, h1.symm⟩
    obtain ⟨y, rfl⟩ : ∃ x, y0 = tiC.enc x := ⟨_, h2.symm⟩
    rw [hpC.de, tiC.de]
    intro A w vs hA hd
    obtain ⟨v0, vs, rfl, e0, hd⟩ := D1L.cons_inv hd
    obtain ⟨v1, vs, rfl, e1, hd⟩ := D1L.cons_inv hd
    obtain rfl := D1L.nil_inv hd
    obtain rfl := hp_val e0
    obtain rfl := ti_val e1
    refine (ref2_ap_any x y w).mono ?_
    rintro r w' ⟨rfl, hx⟩
    obtain ⟨k1, k2⟩ := newA_ok hA hx
    exact ⟨_, newA A w w', rfl, hx, k1, k2, tup_ab _ (ti_den _)⟩
  · exact h.elim
def rtlD : List S1 → CR × Prop
  | [.agg x, .agg y] => (.one (.c (.bool (leB (tiC.dec x) (tiC.dec y)))), tiC.enc (tiC.dec x) = x ∧ tiC.enc (tiC.dec y) = y)
  | _ => (.one (.c (.bool false)), False)
theorem rtl_cal (args : List S1) (h : (rtlD args).2) : Cal Try.prog 100 args (rtlD args).1 := by
  unfold rtlD at h ⊢
  split at h
  · next x0 y0 =>
    obtain ⟨h1, h2⟩ := h
    obtain ⟨x, rfl⟩ : ∃ x, x0 = tiC.enc x := ⟨_, h1.symm⟩
    obtain ⟨y, rfl⟩ : ∃ x, y0 = tiC.enc x := ⟨_, h2.symm⟩
    rw [tiC.de, tiC.de]
    intro A w vs hA hd
    obtain ⟨v0, vs, rfl, e0, hd⟩ := D1L.cons_inv hd
    obtain ⟨v1, vs, rfl, e1, hd⟩ := D1L.cons_inv hd
    obtain rfl := D1L.nil_inv hd
    obtain rfl := ti_val e0
    obtain rfl := ti_val e1
    refine (ref_le_any x.d x.a x.b x.c x.e y.d y.a y.b y.c y.e w).mono ?_
    rintro r w' ⟨rfl, hx⟩
    obtain ⟨k1, k2⟩ := newA_ok hA hx
    exact ⟨_, newA A w w', rfl, hx, k1, k2, Den.bool _⟩
  · exact h.elim
/-- As many rows as lists in each; none is too long. -/
structure TkOk (p : List (List (List Hp))) : Prop where
  sz : p.length ≤ 32
  row : ∀ r ∈ p, r.length = p.length
  ls : ∀ r ∈ p, ∀ l ∈ r, l.length ≤ 5445
def rreD : List S1 → CR × Prop
  | [.c (.sl p), .c (.int .i64 n), .agg t, .c (.int .i64 m), .agg u] => (.one (.c (.bool (reS (decL tbC p) n (tiC.dec t) m (tiC.dec u)))), isL tbC p ∧ tiC.enc (tiC.dec t) = t ∧ tiC.enc (tiC.dec u) = u ∧ TkOk (decL tbC p))
  | _ => (.one (.c (.bool false)), False)
set_option maxHeartbeats 8000000 in
theorem rre_cal (args : List S1) (h : (rreD args).2) : Cal Try.prog 42 args (rreD args).1 := by
  unfold rreD at h ⊢
  split at h
  · next p0 n t0 m u0 =>
    have CT := An2 @rapD.eq_1 @rtlD.eq_1; refine DV.of (Γ := ⟨[(99, rapD), (100, rtlD)], [], []⟩) (rs := [ResultVar.tmp 10]) [0, 1, 2, 3, 4, 7, 9, 10, 11, 12, 13, 31, 41, 64] ⟨by intro p hp; simp only [List.mem_cons, List.not_mem_nil, or_false] at hp; rcases hp with rfl | rfl; exact rap_cal; exact rtl_cal, nofun⟩ (by kernel_rfl) Try.func42 rfl rfl (by kernel_rfl) rfl ?_; (repeat (with_reducible first | apply qa | apply qb | apply qc | apply qd | apply qe))
    obtain ⟨h, h1, h2, hok⟩ := h
    obtain ⟨p, rfl⟩ : ∃ v, p0 = encL tbC v := ⟨_, h.symm⟩
    obtain ⟨t, rfl⟩ : ∃ v, t0 = tiC.enc v := ⟨_, h1.symm⟩
    obtain ⟨u, rfl⟩ : ∃ v, u0 = tiC.enc v := ⟨_, h2.symm⟩
    rw [decL_encL] at hok ⊢
    rw [tiC.de, tiC.de]
    clear h h1 h2
    have htd := tiC.de t
    have hud := tiC.de u
    rw [tiE] at htd hud
    obtain ⟨R, hR⟩ : ∃ R, reS p n t m u = R := ⟨_, rfl⟩
    rw [hR]
    unfold reS at hR
    obtain ⟨q, hq⟩ : ∃ q, (((decide (n < 0) || decide ((p.length : Int) ≤ n)) || decide (m < 0)) || decide ((p.length : Int) ≤ m)) = q := ⟨_, rfl⟩
    (have F := @tiE; refine Rg3 ?_; clear F; (repeat (with_reducible first | apply qa | apply qb | apply qc | apply qd | apply qe)))
    (have F := An2 @encL_len @hq; refine Rg3 ?_; clear F; (repeat (with_reducible first | apply qa | apply qb | apply qc | apply qd | apply qe)))
    by_cases hn : 0 ≤ n ∧ n < (p.length : Int)
    rotate_left 1
    · obtain rfl : q = true := by
        rw [← hq]
        simp only [Bool.or_eq_true, decide_eq_true_iff]
        omega
      have hs : soS p n m = [] := by
        unfold soS
        rw [if_pos]
        simp only [Bool.or_eq_true, decide_eq_true_iff]
        omega
      rw [hs] at hR
      (refine DV.condT rfl (fun _ => rfl) ?_; (repeat (with_reducible first | apply qa | apply qb | apply qc | apply qd | apply qe)))
      (refine Rg2 ?_; (repeat (with_reducible first | apply qa | apply qb | apply qc | apply qd | apply qe)))
      (refine DV.ret ?_; (repeat (first | (with_reducible refine thenD_ret' ?_) | (with_reducible refine blockD_ret' ?_))); (with_reducible refine retD_ret' ?_); try (refine Rt0 ?_; try with_reducible exact True.intro))
      exact hR
    obtain ⟨n0, n1⟩ := hn
    obtain ⟨r, hr⟩ : ∃ r, p[n.toNat]? = some r := ⟨_, List.getElem?_eq_getElem (by omega)⟩
    have hrl := hok.row r (List.mem_of_getElem? hr)
    have hlen := hok.ls r (List.mem_of_getElem? hr)
    have c3 := encL_get (C := tbC) hr
    by_cases hm : 0 ≤ m ∧ m < (p.length : Int)
    rotate_left 1
    · obtain rfl : q = true := by
        rw [← hq]
        simp only [Bool.or_eq_true, decide_eq_true_iff]
        omega
      have hs : soS p n m = [] := by
        unfold soS
        rw [hr, Option.getD_some, hrl, if_pos]
        simp only [Bool.or_eq_true, decide_eq_true_iff]
        omega
      rw [hs] at hR
      (refine DV.condT rfl (fun _ => rfl) ?_; (repeat (with_reducible first | apply qa | apply qb | apply qc | apply qd | apply qe)))
      (refine Rg2 ?_; (repeat (with_reducible first | apply qa | apply qb | apply qc | apply qd | apply qe)))
      (refine DV.ret ?_; (repeat (first | (with_reducible refine thenD_ret' ?_) | (with_reducible refine blockD_ret' ?_))); (with_reducible refine retD_ret' ?_); try (refine Rt0 ?_; try with_reducible exact True.intro))
      exact hR
    obtain ⟨m0, m1⟩ := hm
    obtain rfl : q = false := by
      rw [← hq]
      simp only [Bool.or_eq_false_iff, decide_eq_false_iff_not]
      omega
    obtain ⟨l, hl⟩ : ∃ l, r[m.toNat]? = some l := ⟨_, List.getElem?_eq_getElem (by omega)⟩
    have hll := hlen l (List.mem_of_getElem? hl)
    have c4 := encL_get (C := rwC) hl
    have hs : soS p n m = l := by
      unfold soS
      rw [hr, Option.getD_some, hrl, hl, Option.getD_some, if_neg]
      simp only [Bool.or_eq_true, decide_eq_true_iff]
      omega
    rw [hs] at hR
    have n2 : n.toNat < p.length := by omega
    have m1' : m < (r.length : Int) := by omega
    have m2 : m.toNat < r.length := by omega
    (refine DV.condF rfl (fun _ => rfl) ?_; (repeat (with_reducible first | apply qa | apply qb | apply qc | apply qd | apply qe)))
    (refine DV.skip ?_; (repeat with_reducible refine qn ?_); (with_reducible refine qm ?_); (repeat (with_reducible first | apply qa | apply qb | apply qc | apply qd | apply qe)))
    (refine Rg2 ?_; (repeat (with_reducible first | apply qa | apply qb | apply qc | apply qd | apply qe)))
    refine DV.loop (fun j : Nat => ⟨[(0, .v true (.c (.sl (encL tbC p)))), (1, .v true (.c (.int .i64 n))), (3, .v true (.c (.int .i64 m))), (7, .v true (.box 7 0)), (9, .v true (.box 9 0)), (11, .v true (.c (.int .i64 j)))], [(7, some ⟨0, 0, [[.int .i64 t.d, .int .i64 t.a, .int .i64 t.b, .int .i64 t.c, .int .i64 t.e]]⟩), (9, some ⟨0, 0, [[.int .i64 u.d, .int .i64 u.a, .int .i64 u.b, .int .i64 u.c, .int .i64 u.e]]⟩)], []⟩) (fun j => j ≤ l.length ∧ ∀ (k : Nat) y, k < j → l[k]? = some y → (apOk y t && leB (apR y t) u) = false) (fun j => l.length - j) 0 ⟨Nat.zero_le _, fun k y hk => absurd hk (Nat.not_lt_zero k)⟩ (by (have F := @n0; exact Wk1)) (fun j hj => ?_)
    obtain ⟨hj, hall⟩ := hj
    (repeat (with_reducible first | apply qa | apply qb | apply qc | apply qd | apply qe))
    have ew := wr1 j (by omega)
    by_cases hlt : j < l.length
    · obtain ⟨x, hx⟩ : ∃ x, l[j]? = some x := ⟨l[j], List.getElem?_eq_getElem _⟩
      have d1 : decide ((j : Int) < (l.length : Int)) = true := decide_eq_true (by omega)
      have c1 : (0 : Int) ≤ j := by omega
      have c2 : (j : Int) < (l.length : Int) := by omega
      have c5 := encL_get (C := hpC) hx
      obtain ⟨q1, hq1⟩ : ∃ q, apOk x t = q := ⟨_, rfl⟩
      obtain ⟨y, hy⟩ : ∃ y, apR x t = y := ⟨_, rfl⟩
      obtain ⟨q2, hq2⟩ : ∃ q, leB y u = q := ⟨_, rfl⟩
      obtain ⟨q, hq⟩ : ∃ q, (q1 && q2) = q := ⟨_, rfl⟩
      have hyd := tiC.de y
      rw [tiE] at hyd
      (have F := An13 @i2n @encL_len @n0 @n1 @n2 @c3 @tbE @m0 @m1' @m2 @c4 @rwE @d1; refine Rg3 ?_; clear F; (repeat (with_reducible first | apply qa | apply qb | apply qc | apply qd | apply qe)))
      (refine DV.condT rfl (fun _ => rfl) ?_; (repeat (with_reducible first | apply qa | apply qb | apply qc | apply qd | apply qe)))
      (refine DV.skip ?_; (repeat with_reducible refine qn ?_); (with_reducible refine qm ?_); (repeat (with_reducible first | apply qa | apply qb | apply qc | apply qd | apply qe)))
      (have F := An2 (An20 @i2n @encL_len @n0 @n1 @n2 @c3 @tbE @m0 @m1' @m2 @c4 @rwE @c1 @c2 @hlt @c5 @hpE @hpD @tiE @htd) (An2 @hq1 @hy); refine Rd3 ?_; clear F; (repeat (with_reducible first | apply qa | apply qb | apply qc | apply qd | apply qe)))
      (have F := An6 @tiE @hyd @hud @hq2 @hq @isfA; refine Rg3 ?_; clear F; (repeat (with_reducible first | apply qa | apply qb | apply qc | apply qd | apply qe)))
      cases q
      · (refine DV.condF rfl (fun _ => rfl) ?_; (repeat (with_reducible first | apply qa | apply qb | apply qc | apply qd | apply qe)))
        (refine DV.skip ?_; (repeat with_reducible refine qn ?_); (with_reducible refine qm ?_); (repeat (with_reducible first | apply qa | apply qb | apply qc | apply qd | apply qe)))
        (have F := @ew; refine Re3 ?_; clear F; (repeat with_reducible refine qn ?_); (try with_reducible refine qm ?_); (repeat (with_reducible first | apply qa | apply qb | apply qc | apply qd | apply qe)))
        refine ⟨j + 1, ⟨⟨hlt, fun k z hk hz => ?_⟩, by omega⟩, by exact Wk0⟩
        rcases Nat.lt_or_ge k j with g | g
        · exact hall k z g hz
        · obtain rfl : k = j := by omega
          rw [hx] at hz
          obtain rfl := Option.some.inj hz
          rw [hq1, hy, hq2, hq]
      · have hany : (l.any fun h => apOk h t && leB (apR h t) u) = true := List.any_eq_true.2 ⟨x, List.mem_of_getElem? hx, by rw [hq1, hy, hq2, hq]⟩
        rw [hany] at hR
        subst hR
        (refine DV.condT rfl (fun _ => rfl) ?_; (repeat (with_reducible first | apply qa | apply qb | apply qc | apply qd | apply qe)))
        (refine Rg2 ?_; (repeat (with_reducible first | apply qa | apply qb | apply qc | apply qd | apply qe)))
        (refine DV.ret ?_; (repeat (first | (with_reducible refine thenD_ret' ?_) | (with_reducible refine blockD_ret' ?_))); (with_reducible refine retD_ret' ?_); try (refine Rt0 ?_; try with_reducible exact True.intro))
        try decide
    · obtain rfl : j = l.length := by omega
      have d1 : decide ((l.length : Int) < (l.length : Int)) = false := decide_eq_false (by omega)
      have hno : (l.any fun h => apOk h t && leB (apR h t) u) = false := List.any_eq_false.2 fun y hy => by
        obtain ⟨k, hk⟩ := List.getElem?_of_mem hy
        rw [hall k y (List.getElem?_eq_some_iff.1 hk).1 hk]
        decide
      rw [hno] at hR
      subst hR
      (have F := An13 @i2n @encL_len @n0 @n1 @n2 @c3 @tbE @m0 @m1' @m2 @c4 @rwE @d1; refine Rg3 ?_; clear F; (repeat (with_reducible first | apply qa | apply qb | apply qc | apply qd | apply qe)))
      (refine DV.condF rfl (fun _ => rfl) ?_; (repeat (with_reducible first | apply qa | apply qb | apply qc | apply qd | apply qe)))
      (refine DV.exit ?_; (repeat (first | (with_reducible refine thenD_exit' ?_) | (with_reducible refine blockD_other (by decide) ?_))); (with_reducible refine blockD_same ?_); (repeat with_reducible refine qn ?_); (with_reducible refine qm ?_); (repeat (with_reducible first | apply qa | apply qb | apply qc | apply qd | apply qe)))
      (refine Rg2 ?_; (repeat (with_reducible first | apply qa | apply qb | apply qc | apply qd | apply qe)))
      (refine DV.ret ?_; (repeat (first | (with_reducible refine thenD_ret' ?_) | (with_reducible refine blockD_ret' ?_))); (with_reducible refine retD_ret' ?_); try (refine Rt0 ?_; try with_reducible exact True.intro))
      try decide
  · exact h.elim
open Pa Va

/-- What one step makes of one timestamp. -/
def ap1 (h : Hp) (t : Tm) : Option Tm := if apOk h t = true then some (apR h t) else none
def ahG (ts : List Tm) (l : List Hp) : List Tm := l.flatMap fun h => ts.filterMap fun t => ap1 h t
def ahH (l : List Hp) (ts : List Tm) : List Tm := ts.flatMap fun t => l.filterMap fun h => ap1 h t
def ahF (p : List (List (List Hp))) (pts : List (List Tm)) (m : Int) (n : Nat) : List Tm := ahG ((pts[n]?).getD []) (soS p n m)
def ahE (p : List (List (List Hp))) (pts : List (List Tm)) (m : Int) (n : Nat) : List Tm := ahH (soS p n m) ((pts[n]?).getD [])
/-- All that may come of many. -/
def ahP (p : List (List (List Hp))) (pts : List (List Tm)) (m : Int) : List Tm := (List.range pts.length).flatMap (ahF p pts m)
theorem ah_mem {l : List Hp} {ts : List Tm} {x : Tm} : x ∈ ahH l ts ↔ x ∈ ahG ts l := by
  unfold ahH ahG
  simp only [List.mem_flatMap, List.mem_filterMap]
  constructor
  · rintro ⟨t, ht, h, hh, e⟩
    exact ⟨h, hh, t, ht, e⟩
  · rintro ⟨h, hh, t, ht, e⟩
    exact ⟨t, ht, h, hh, e⟩
theorem range_snoc {α : Type} (F : Nat → List α) (n : Nat) : (List.range (n + 1)).flatMap F = (List.range n).flatMap F ++ F n := by
  rw [List.range_succ, List.flatMap_append]
  simp
theorem fm_snoc {α β : Type} (F : α → List β) {l : List α} {k : Nat} {x : α} (h : l[k]? = some x) : (l.take (k + 1)).flatMap F = (l.take k).flatMap F ++ F x := by
  rw [List.take_add_one, h, Option.toList_some, List.flatMap_append]
  simp
theorem fl_snoc {α β : Type} (F : α → Option β) {l : List α} {k : Nat} {x : α} (h : l[k]? = some x) : (l.take (k + 1)).filterMap F = (l.take k).filterMap F ++ (F x).toList := by
  rw [List.take_add_one, h, Option.toList_some, List.filterMap_append]
  cases e : F x <;> simp [e]
/-- A table, and rows of timestamps, that are short. -/
structure PtOk (p : List (List (List Hp))) (pts : List (List Tm)) : Prop where
  tb : TkOk p
  n : pts.length ≤ 40
  ls : ∀ ts ∈ pts, ts.length ≤ 40
theorem so_short {p : List (List (List Hp))} (h : TkOk p) (n m : Int) : (soS p n m).length ≤ 5445 := by
  unfold soS
  split
  · exact Nat.zero_le _
  cases hr : p[n.toNat]? with
  | none => exact Nat.zero_le _
  | some r =>
    rw [Option.getD_some]
    cases hl : r[m.toNat]? with
    | none => exact Nat.zero_le _
    | some l => exact h.ls r (List.mem_of_getElem? hr) l (List.mem_of_getElem? hl)
theorem so_out {p : List (List (List Hp))} {n m : Int} (h : ¬ (0 ≤ n ∧ n < (p.length : Int) ∧ 0 ≤ m ∧ m < (p.length : Int))) (hr : TkOk p) : soS p n m = [] := by
  unfold soS
  by_cases hn : 0 ≤ n ∧ n < (p.length : Int)
  · obtain ⟨r, hr'⟩ : ∃ r, p[n.toNat]? = some r := ⟨_, List.getElem?_eq_getElem (by omega)⟩
    have := hr.row r (List.mem_of_getElem? hr')
    rw [hr', Option.getD_some, this, if_pos]
    simp only [Bool.or_eq_true, decide_eq_true_iff]
    omega
  · rw [if_pos]
    simp only [Bool.or_eq_true, decide_eq_true_iff]
    omega
theorem so_in {p : List (List (List Hp))} {n m : Int} (n0 : 0 ≤ n) (n1 : n < (p.length : Int)) (m0 : 0 ≤ m) (m1 : m < (p.length : Int)) (hr : TkOk p) : ∃ r, p[n.toNat]? = some r ∧ r.length = p.length ∧ r[m.toNat]? = some (soS p n m) := by
  obtain ⟨r, hr'⟩ : ∃ r, p[n.toNat]? = some r := ⟨_, List.getElem?_eq_getElem (by omega)⟩
  have hl := hr.row r (List.mem_of_getElem? hr')
  obtain ⟨l, hl'⟩ : ∃ l, r[m.toNat]? = some l := ⟨_, List.getElem?_eq_getElem (by omega)⟩
  refine ⟨r, hr', hl, ?_⟩
  unfold soS
  rw [hr', Option.getD_some, hl, hl', Option.getD_some, if_neg]
  simp only [Bool.or_eq_true, decide_eq_true_iff]
  omega
def pahD : List S1 → CR × Prop
  | [.c (.sl p), .c (.sl q), .c (.int .i64 m)] => (.one (.c (.sl (encL tiC (Rc.chT (ahP (decL tbC p) (decL tlC q) m))))), isL tbC p ∧ isL tlC q ∧ PtOk (decL tbC p) (decL tlC q))
  | _ => (.one (.c (.bool false)), False)
set_option maxHeartbeats 32000000 in
theorem pah_cal (args : List S1) (h : (pahD args).2) : Cal Try.prog 44 args (pahD args).1 := by
  unfold pahD at h ⊢
  split at h
  · next p0 q0 m =>
    have CT := An3 @sofD.eq_1 @appD.eq_1 @cofD.eq_1; refine DV.of (Γ := ⟨[(92, sofD), (36, appD), (101, cofD)], [], []⟩) (rs := [ResultVar.tmp 6]) [0, 1, 2, 6, 7, 8, 9, 11, 13, 14, 15, 16, 17, 18, 19, 26, 27, 28, 29, 32, 33, 34, 35, 44] ⟨by intro p hp; simp only [List.mem_cons, List.not_mem_nil, or_false] at hp; rcases hp with rfl | rfl | rfl; exact sof_cal; exact app_cal; exact cof_cal, nofun⟩ (by kernel_rfl) Try.func44 rfl rfl (by kernel_rfl) rfl ?_; (repeat (with_reducible first | apply qa | apply qb | apply qc | apply qd | apply qe))
    obtain ⟨hp, hq, hok⟩ := h
    obtain ⟨p, rfl⟩ : ∃ v, p0 = encL tbC v := ⟨_, hp.symm⟩
    obtain ⟨pts, rfl⟩ : ∃ v, q0 = encL tlC v := ⟨_, hq.symm⟩
    rw [decL_encL, decL_encL] at hok ⊢
    clear hp hq
    obtain ⟨htk, hpn, hpl⟩ := hok
    have hso : ∀ a b : Int, (soS p a b).length ≤ 5445 := so_short htk
    (refine Rg2 ?_; (repeat (with_reducible first | apply qa | apply qb | apply qc | apply qd | apply qe)))
    (refine Rg2 ?_; (repeat (with_reducible first | apply qa | apply qb | apply qc | apply qd | apply qe)))
    (have F := @encL_len; refine Rg3 ?_; clear F; (repeat (with_reducible first | apply qa | apply qb | apply qc | apply qd | apply qe)))
    refine DV.loop (fun x : Nat × List Tm => ⟨[(0, .v true (.c (.sl (encL tbC p)))), (2, .v true (.c (.int .i64 m))), (7, .v true (.own 48 5 (encL tiC x.2))), (16, .v true (.c (.sl (encL tlC pts)))), (17, .v true (.c (.int .i64 pts.length))), (18, .v true (.c (.int .i64 x.1)))], [], [(48, ⟨73, 5, x.2.length⟩)]⟩) (fun x => x.1 ≤ pts.length ∧ x.2 = (List.range x.1).flatMap (ahF p pts m) ∧ x.2.length ≤ 217800 * x.1) (fun x => pts.length - x.1) (0, []) ⟨Nat.zero_le _, rfl, Nat.zero_le _⟩ (by (have F := @n0; exact Wk1)) (fun x hx => ?_)
    obtain ⟨j, L⟩ := x
    dsimp only at hx ⊢
    obtain ⟨hj, hL, hLl⟩ := hx
    (repeat (with_reducible first | apply qa | apply qb | apply qc | apply qd | apply qe))
    have ew := wr1 j (by omega)
    by_cases hlt : j < pts.length
    rotate_left 1
    · obtain rfl : j = pts.length := by omega
      have d1 : decide ((pts.length : Int) < (pts.length : Int)) = false := decide_eq_false (by omega)
      have hL : L = ahP p pts m := hL
      have hb : L.length ≤ 1073741823 := by omega
      (have F := @d1; refine Rg3 ?_; clear F; (repeat (with_reducible first | apply qa | apply qb | apply qc | apply qd | apply qe)))
      (refine DV.condF rfl (fun _ => rfl) ?_; (repeat (with_reducible first | apply qa | apply qb | apply qc | apply qd | apply qe)))
      (refine DV.exit ?_; (repeat (first | (with_reducible refine thenD_exit' ?_) | (with_reducible refine blockD_other (by decide) ?_))); (with_reducible refine blockD_same ?_); (repeat with_reducible refine qn ?_); (with_reducible refine qm ?_); (repeat (with_reducible first | apply qa | apply qb | apply qc | apply qd | apply qe)))
      refine DV.weak (σ' := ⟨[(7, .v true (.c (.sl (encL tiC L))))], [], []⟩) (by exact Wk0) ?_
      (have F := An4 @decL_encL @isL_enc @hb @isfB; refine Rg3 ?_; clear F; (repeat (with_reducible first | apply qa | apply qb | apply qc | apply qd | apply qe)))
      rw [hL]
      (refine DV.ret ?_; (repeat (first | (with_reducible refine thenD_ret' ?_) | (with_reducible refine blockD_ret' ?_))); (with_reducible refine retD_ret' ?_); try (refine Rt0 ?_; try with_reducible exact True.intro))
    obtain ⟨ts, hts⟩ : ∃ y, pts[j]? = some y := ⟨_, List.getElem?_eq_getElem hlt⟩
    have d1 : decide ((j : Int) < (pts.length : Int)) = true := decide_eq_true (by omega)
    have c1 : (0 : Int) ≤ j := by omega
    have c2 : (j : Int) < (pts.length : Int) := by omega
    have c3 := encL_get (C := tlC) hts
    have htl := hpl ts (List.mem_of_getElem? hts)
    have hll := hso j m
    have hnx : (List.range (j + 1)).flatMap (ahF p pts m) = (List.range j).flatMap (ahF p pts m) ++ (soS p j m).flatMap fun h => ts.filterMap fun t => ap1 h t := by
      rw [range_snoc]
      unfold ahF ahG
      rw [hts]
      rfl
    obtain ⟨l, hl⟩ : ∃ l, soS p j m = l := ⟨_, rfl⟩
    rw [hl] at hll hnx
    (have F := @d1; refine Rg3 ?_; clear F; (repeat (with_reducible first | apply qa | apply qb | apply qc | apply qd | apply qe)))
    (refine DV.condT rfl (fun _ => rfl) ?_; (repeat (with_reducible first | apply qa | apply qb | apply qc | apply qd | apply qe)))
    (refine DV.skip ?_; (repeat with_reducible refine qn ?_); (with_reducible refine qm ?_); (repeat (with_reducible first | apply qa | apply qb | apply qc | apply qd | apply qe)))
    (have F := An7 @i2n @encL_len @c1 @c2 @hlt @c3 @tlE; refine Rg3 ?_; clear F; (repeat (with_reducible first | apply qa | apply qb | apply qc | apply qd | apply qe)))
    (have F := An4 @decL_encL @isL_enc @encL_len @hl; refine Rg3 ?_; clear F; (repeat (with_reducible first | apply qa | apply qb | apply qc | apply qd | apply qe)))
    refine DV.loop (fun x : Nat × List Tm => ⟨[(0, .v true (.c (.sl (encL tbC p)))), (2, .v true (.c (.int .i64 m))), (7, .v true (.own 48 5 (encL tiC x.2))), (16, .v true (.c (.sl (encL tlC pts)))), (17, .v true (.c (.int .i64 pts.length))), (18, .v true (.c (.int .i64 j))), (9, .v true (.c (.sl (encL tiC ts)))), (26, .v true (.c (.sl (encL hpC l)))), (27, .v true (.c (.int .i64 l.length))), (28, .v true (.c (.int .i64 x.1)))], [], [(48, ⟨73, 5, x.2.length⟩)]⟩) (fun x => x.1 ≤ l.length ∧ x.2 = (List.range j).flatMap (ahF p pts m) ++ (l.take x.1).flatMap (fun h => ts.filterMap fun t => ap1 h t) ∧ x.2.length ≤ 217800 * j + 40 * x.1) (fun x => l.length - x.1) (0, L) ⟨Nat.zero_le _, by rw [hL]; simp, by dsimp only; omega⟩ (by (have F := @n0; exact Wk1)) (fun x hx => ?_)
    clear hL hLl L
    obtain ⟨k, L⟩ := x
    dsimp only at hx ⊢
    obtain ⟨hk, hL, hLl⟩ := hx
    (repeat (with_reducible first | apply qa | apply qb | apply qc | apply qd | apply qe))
    have ek := wr1 k (by omega)
    by_cases hkl : k < l.length
    rotate_left 1
    · obtain rfl : k = l.length := by omega
      have d2 : decide ((l.length : Int) < (l.length : Int)) = false := decide_eq_false (by omega)
      rw [List.take_length, ← hnx] at hL
      (have F := @d2; refine Rg3 ?_; clear F; (repeat (with_reducible first | apply qa | apply qb | apply qc | apply qd | apply qe)))
      (refine DV.condF rfl (fun _ => rfl) ?_; (repeat (with_reducible first | apply qa | apply qb | apply qc | apply qd | apply qe)))
      (refine DV.exit ?_; (repeat (first | (with_reducible refine thenD_exit' ?_) | (with_reducible refine blockD_other (by decide) ?_))); (with_reducible refine blockD_same ?_); (repeat with_reducible refine qn ?_); (with_reducible refine qm ?_); (repeat (with_reducible first | apply qa | apply qb | apply qc | apply qd | apply qe)))
      (have F := @ew; refine Re3 ?_; clear F; (repeat with_reducible refine qn ?_); (try with_reducible refine qm ?_); (repeat (with_reducible first | apply qa | apply qb | apply qc | apply qd | apply qe)))
      exact ⟨(j + 1, L), ⟨⟨hlt, hL, by dsimp only; omega⟩, by dsimp only; omega⟩, by exact Wk0⟩
    obtain ⟨h, hh⟩ : ∃ y, l[k]? = some y := ⟨_, List.getElem?_eq_getElem hkl⟩
    have d2 : decide ((k : Int) < (l.length : Int)) = true := decide_eq_true (by omega)
    have c4 : (0 : Int) ≤ k := by omega
    have c5 : (k : Int) < (l.length : Int) := by omega
    have c6 := encL_get (C := hpC) hh
    have hnk := fm_snoc (fun h => ts.filterMap fun t => ap1 h t) hh
    (have F := @d2; refine Rg3 ?_; clear F; (repeat (with_reducible first | apply qa | apply qb | apply qc | apply qd | apply qe)))
    (refine DV.condT rfl (fun _ => rfl) ?_; (repeat (with_reducible first | apply qa | apply qb | apply qc | apply qd | apply qe)))
    (refine DV.skip ?_; (repeat with_reducible refine qn ?_); (with_reducible refine qm ?_); (repeat (with_reducible first | apply qa | apply qb | apply qc | apply qd | apply qe)))
    (have F := An7 @i2n @encL_len @c4 @c5 @hkl @c6 @hpE; refine Rg3 ?_; clear F; (repeat (with_reducible first | apply qa | apply qb | apply qc | apply qd | apply qe)))
    (have F := @encL_len; refine Rg3 ?_; clear F; (repeat (with_reducible first | apply qa | apply qb | apply qc | apply qd | apply qe)))
    refine DV.loop (fun x : Nat × List Tm => ⟨[(0, .v true (.c (.sl (encL tbC p)))), (2, .v true (.c (.int .i64 m))), (7, .v true (.own 48 5 (encL tiC x.2))), (16, .v true (.c (.sl (encL tlC pts)))), (17, .v true (.c (.int .i64 pts.length))), (18, .v true (.c (.int .i64 j))), (9, .v true (.c (.sl (encL tiC ts)))), (26, .v true (.c (.sl (encL hpC l)))), (27, .v true (.c (.int .i64 l.length))), (28, .v true (.c (.int .i64 k))), (11, .v true (.box 11 0)), (32, .v true (.c (.sl (encL tiC ts)))), (33, .v true (.c (.int .i64 ts.length))), (34, .v true (.c (.int .i64 x.1)))], [(11, some ⟨0, 0, [[.int .i64 h.f, .int .i64 h.k, .int .i64 h.l, .int .i64 h.a, .int .i64 h.b, .int .i64 h.c, .int .i64 h.e, .int .i64 h.p, .int .i64 h.q, .int .i64 h.r, .int .i64 h.s]]⟩)], [(48, ⟨73, 5, x.2.length⟩)]⟩) (fun x => x.1 ≤ ts.length ∧ x.2 = (List.range j).flatMap (ahF p pts m) ++ (l.take k).flatMap (fun h => ts.filterMap fun t => ap1 h t) ++ (ts.take x.1).filterMap (fun t => ap1 h t) ∧ x.2.length ≤ 217800 * j + 40 * k + x.1) (fun x => ts.length - x.1) (0, L) ⟨Nat.zero_le _, by rw [hL]; simp, by dsimp only; omega⟩ (by (have F := @n0; exact Wk1)) (fun x hx => ?_)
    clear hL hLl L
    obtain ⟨i, L⟩ := x
    dsimp only at hx ⊢
    obtain ⟨hi, hL, hLl⟩ := hx
    (repeat (with_reducible first | apply qa | apply qb | apply qc | apply qd | apply qe))
    have ei := wr1 i (by omega)
    by_cases hil : i < ts.length
    rotate_left 1
    · obtain rfl : i = ts.length := by omega
      have d3 : decide ((ts.length : Int) < (ts.length : Int)) = false := decide_eq_false (by omega)
      rw [List.take_length, List.append_assoc, ← hnk] at hL
      (have F := @d3; refine Rg3 ?_; clear F; (repeat (with_reducible first | apply qa | apply qb | apply qc | apply qd | apply qe)))
      (refine DV.condF rfl (fun _ => rfl) ?_; (repeat (with_reducible first | apply qa | apply qb | apply qc | apply qd | apply qe)))
      (refine DV.exit ?_; (repeat (first | (with_reducible refine thenD_exit' ?_) | (with_reducible refine blockD_other (by decide) ?_))); (with_reducible refine blockD_same ?_); (repeat with_reducible refine qn ?_); (with_reducible refine qm ?_); (repeat (with_reducible first | apply qa | apply qb | apply qc | apply qd | apply qe)))
      (have F := @ek; refine Re3 ?_; clear F; (repeat with_reducible refine qn ?_); (try with_reducible refine qm ?_); (repeat (with_reducible first | apply qa | apply qb | apply qc | apply qd | apply qe)))
      exact ⟨(k + 1, L), ⟨⟨hkl, hL, by dsimp only; omega⟩, by dsimp only; omega⟩, by exact Wk0⟩
    obtain ⟨t, ht⟩ : ∃ y, ts[i]? = some y := ⟨_, List.getElem?_eq_getElem hil⟩
    have d3 : decide ((i : Int) < (ts.length : Int)) = true := decide_eq_true (by omega)
    have c7 : (0 : Int) ≤ i := by omega
    have c8 : (i : Int) < (ts.length : Int) := by omega
    have c9 := encL_get (C := tiC) ht
    have hni := fl_snoc (fun t => ap1 h t) ht
    unfold ap1 at hni
    have htd := tiC.de t
    rw [tiE] at htd
    obtain ⟨y, hy⟩ : ∃ y, apR h t = y := ⟨_, rfl⟩
    obtain ⟨b, hb⟩ : ∃ b, apOk h t = b := ⟨_, rfl⟩
    rw [hy, hb] at hni
    (have F := @d3; refine Rg3 ?_; clear F; (repeat (with_reducible first | apply qa | apply qb | apply qc | apply qd | apply qe)))
    (refine DV.condT rfl (fun _ => rfl) ?_; (repeat (with_reducible first | apply qa | apply qb | apply qc | apply qd | apply qe)))
    (refine DV.skip ?_; (repeat with_reducible refine qn ?_); (with_reducible refine qm ?_); (repeat (with_reducible first | apply qa | apply qb | apply qc | apply qd | apply qe)))
    (have F := An7 @i2n @encL_len @c7 @c8 @hil @c9 @tiE; refine Rg3 ?_; clear F; (repeat (with_reducible first | apply qa | apply qb | apply qc | apply qd | apply qe)))
    (have F := An6 @hpE @hpD @tiE @htd @hy @hb; refine Rg3 ?_; clear F; (repeat (with_reducible first | apply qa | apply qb | apply qc | apply qd | apply qe)))
    (refine Rg2 ?_; (repeat (with_reducible first | apply qa | apply qb | apply qc | apply qd | apply qe)))
    cases b
    · rw [if_neg (by decide), Option.toList_none, List.append_nil] at hni
      (refine DV.condF rfl (fun _ => rfl) ?_; (repeat (with_reducible first | apply qa | apply qb | apply qc | apply qd | apply qe)))
      (refine DV.skip ?_; (repeat with_reducible refine qn ?_); (with_reducible refine qm ?_); (repeat (with_reducible first | apply qa | apply qb | apply qc | apply qd | apply qe)))
      (have F := @ei; refine Re3 ?_; clear F; (repeat with_reducible refine qn ?_); (try with_reducible refine qm ?_); (repeat (with_reducible first | apply qa | apply qb | apply qc | apply qd | apply qe)))
      exact ⟨(i + 1, L), ⟨⟨hil, by rw [hL]; unfold ap1; rw [hni], by dsimp only; omega⟩, by dsimp only; omega⟩, by exact Wk0⟩
    · rw [if_pos rfl, Option.toList_some] at hni
      have hsn : L ++ [y] = (List.range j).flatMap (ahF p pts m) ++ (l.take k).flatMap (fun h => ts.filterMap fun t => ap1 h t) ++ (ts.take (i + 1)).filterMap (fun t => ap1 h t) := by
        rw [hL]
        unfold ap1
        rw [hni, List.append_assoc, List.append_assoc]
      have a1 := ti_all L
      have k1 := Lib.hid (capOk_of (n := L.length + 1) (by omega))
      have k2 := Lib.hid (capB (n := L.length + 1) (k := 40) (by omega) (by decide))
      have hrow : encL tiC L ++ [[D.int .i64 y.d, D.int .i64 y.a, D.int .i64 y.b, D.int .i64 y.c, D.int .i64 y.e]] = encL tiC (L ++ [y]) := by rw [encL_app]; rfl
      have hlen : (L ++ [y]).length = L.length + 1 := by rw [List.length_append]; rfl
      obtain ⟨L2, hL2⟩ : ∃ z, L ++ [y] = z := ⟨_, rfl⟩
      rw [hL2] at hsn hrow hlen
      (refine DV.condT rfl (fun _ => rfl) ?_; (repeat (with_reducible first | apply qa | apply qb | apply qc | apply qd | apply qe)))
      (have F := An7 @range1 @a1 @encL_len k1.out k2.out @hrow @tiE; refine Re3 ?_; clear F; (repeat with_reducible refine qn ?_); (try with_reducible refine qm ?_); (repeat (with_reducible first | apply qa | apply qb | apply qc | apply qd | apply qe)))
      (have F := @ei; refine Re3 ?_; clear F; (repeat with_reducible refine qn ?_); (try with_reducible refine qm ?_); (repeat (with_reducible first | apply qa | apply qb | apply qc | apply qd | apply qe)))
      refine ⟨(i + 1, L2), ⟨⟨hil, hsn, by dsimp only; omega⟩, by dsimp only; omega⟩, ?_⟩
      dsimp only
      rw [hlen]
      (refine wk_of [] ?_ ?_ ?_ ?_ ?_ <;> (simp only [false_and, and_false, and_self, XC, XD, XE, XF, XG, XH, XI, convK, XJ, XK, XL, XM, XN, look, XO, XP, XR, XS, XT, XU, XV, encL_nil, encL_app, encL_cons, List.length_append, gdS, put1, sv, gs, gb, QK, setAt, bad, dem, QP, QR, QS, QT, QU, QV, QW, QY, Q2, Q3, lf, lfs, pOk, Nat.reduceBEq, XA, XB, keep, kp, cand, cor, List.map, List.append, Option.bind, ↓reduceIte, Nat.reduceEqDiff, Nat.reduceAdd, Nat.reduceMul, Nat.reduceLT, Nat.reduceLeDiff, reduceCtorEq, Int.reduceLT, Int.reduceLE, Int.reduceBEq, Int.reduceBNe, Int.reduceAdd, Int.reduceSub, Int.reduceToNat, dq]; try trivial))
  · exact h.elim
open Pa Va

theorem chT_mem {l m : List Tm} (h : ∀ x, x ∈ l ↔ x ∈ m) : Rc.chT l = Rc.chT m := Rc.chT_same (fun x => ⟨fun ⟨a, b, c⟩ => ⟨(h x).1 a, b, fun y hy => c y ((h y).2 hy)⟩, fun ⟨a, b, c⟩ => ⟨(h x).2 a, b, fun y hy => c y ((h y).1 hy)⟩⟩)
theorem ah_fin {p : List (List (List Hp))} {pts : List (List Tm)} {m : Int} (hr : TkOk p) {j : Nat} (hj : j ≤ pts.length) (hq : ¬ ((j : Int) < (p.length : Int) ∧ (j : Int) < (pts.length : Int) ∧ 0 ≤ m ∧ m < (p.length : Int))) : Rc.chT ((List.range j).flatMap (ahE p pts m)) = Rc.chT (ahP p pts m) := by
  refine chT_mem fun x => ?_
  unfold ahP
  rw [List.mem_flatMap, List.mem_flatMap]
  constructor
  · rintro ⟨n, hn, hx⟩
    have hn := List.mem_range.1 hn
    exact ⟨n, List.mem_range.2 (by omega), ah_mem.1 hx⟩
  · rintro ⟨n, hn, hx⟩
    have hn := List.mem_range.1 hn
    by_cases h : n < j
    · exact ⟨n, List.mem_range.2 h, ah_mem.2 hx⟩
    · unfold ahF at hx
      rw [so_out (by omega) hr] at hx
      cases hx
def rahD : List S1 → CR × Prop
  | [.c (.sl p), .c (.sl q), .c (.int .i64 m)] => (.one (.c (.sl (encL tiC (Rc.chT (ahP (decL tbC p) (decL tlC q) m))))), isL tbC p ∧ isL tlC q ∧ PtOk (decL tbC p) (decL tlC q))
  | _ => (.one (.c (.bool false)), False)
set_option maxHeartbeats 32000000 in
theorem rah_cal (args : List S1) (h : (rahD args).2) : Cal Try.prog 45 args (rahD args).1 := by
  unfold rahD at h ⊢
  split at h
  · next p0 q0 m =>
    have CT := An2 @rapD.eq_1 @rofD.eq_1; refine DV.of (Γ := ⟨[(99, rapD), (102, rofD)], [], []⟩) (rs := [ResultVar.tmp 6]) [0, 1, 2, 6, 7, 8, 9, 10, 11, 12, 32, 41, 53, 77] ⟨by intro p hp; simp only [List.mem_cons, List.not_mem_nil, or_false] at hp; rcases hp with rfl | rfl; exact rap_cal; exact rof_cal, nofun⟩ (by kernel_rfl) Try.func45 rfl rfl (by kernel_rfl) rfl ?_; (repeat (with_reducible first | apply qa | apply qb | apply qc | apply qd | apply qe))
    obtain ⟨hp, hq, hok⟩ := h
    obtain ⟨p, rfl⟩ : ∃ v, p0 = encL tbC v := ⟨_, hp.symm⟩
    obtain ⟨pts, rfl⟩ : ∃ v, q0 = encL tlC v := ⟨_, hq.symm⟩
    rw [decL_encL, decL_encL] at hok ⊢
    clear hp hq
    obtain ⟨htk, hpn, hpl⟩ := hok
    (refine Rg2 ?_; (repeat (with_reducible first | apply qa | apply qb | apply qc | apply qd | apply qe)))
    (refine Rg2 ?_; (repeat (with_reducible first | apply qa | apply qb | apply qc | apply qd | apply qe)))
    (refine Rg2 ?_; (repeat (with_reducible first | apply qa | apply qb | apply qc | apply qd | apply qe)))
    refine DV.loop (fun x : Nat × List Tm => ⟨[(0, .v true (.c (.sl (encL tbC p)))), (1, .v true (.c (.sl (encL tlC pts)))), (2, .v true (.c (.int .i64 m))), (7, .v true (.own 81 5 (encL tiC x.2))), (8, .v true (.c (.int .i64 x.1)))], [], [(81, ⟨73, 5, x.2.length⟩)]⟩) (fun x => x.1 ≤ pts.length ∧ x.2 = (List.range x.1).flatMap (ahE p pts m) ∧ x.2.length ≤ 217800 * x.1) (fun x => pts.length - x.1) (0, []) ⟨Nat.zero_le _, rfl, Nat.zero_le _⟩ (by (have F := @n0; exact Wk1)) (fun x hx => ?_)
    obtain ⟨j, L⟩ := x
    dsimp only at hx ⊢
    obtain ⟨hj, hL, hLl⟩ := hx
    (repeat (with_reducible first | apply qa | apply qb | apply qc | apply qd | apply qe))
    have ew := wr1 j (by omega)
    obtain ⟨q, hq⟩ : ∃ q, (((decide ((j : Int) < (p.length : Int)) && decide ((j : Int) < (pts.length : Int))) && decide (0 ≤ m)) && decide (m < (p.length : Int))) = q := ⟨_, rfl⟩
    (have F := An2 @encL_len @hq; refine Rg3 ?_; clear F; (repeat (with_reducible first | apply qa | apply qb | apply qc | apply qd | apply qe)))
    cases q
    · have hno : ¬ ((j : Int) < (p.length : Int) ∧ (j : Int) < (pts.length : Int) ∧ 0 ≤ m ∧ m < (p.length : Int)) := by
        rintro ⟨h1, h2, h3, h4⟩
        rw [decide_eq_true h1, decide_eq_true h2, decide_eq_true h3, decide_eq_true h4] at hq
        cases hq
      have hfin := ah_fin htk hj hno
      rw [← hL] at hfin
      have hb : L.length ≤ 1073741823 := by omega
      (refine DV.condF rfl (fun _ => rfl) ?_; (repeat (with_reducible first | apply qa | apply qb | apply qc | apply qd | apply qe)))
      (refine DV.exit ?_; (repeat (first | (with_reducible refine thenD_exit' ?_) | (with_reducible refine blockD_other (by decide) ?_))); (with_reducible refine blockD_same ?_); (repeat with_reducible refine qn ?_); (with_reducible refine qm ?_); (repeat (with_reducible first | apply qa | apply qb | apply qc | apply qd | apply qe)))
      refine DV.weak (σ' := ⟨[(7, .v true (.c (.sl (encL tiC L))))], [], []⟩) (by exact Wk0) ?_
      (have F := An4 @decL_encL @isL_enc @hb @isfE; refine Rg3 ?_; clear F; (repeat (with_reducible first | apply qa | apply qb | apply qc | apply qd | apply qe)))
      rw [← hfin]
      (refine DV.ret ?_; (repeat (first | (with_reducible refine thenD_ret' ?_) | (with_reducible refine blockD_ret' ?_))); (with_reducible refine retD_ret' ?_); try (refine Rt0 ?_; try with_reducible exact True.intro))
    simp only [Bool.and_eq_true, decide_eq_true_iff] at hq
    obtain ⟨⟨⟨j1, j2⟩, m0⟩, m1⟩ := hq
    have j0 : (0 : Int) ≤ j := by omega
    have hlt : j < pts.length := by omega
    have hlp : j < p.length := by omega
    obtain ⟨ts, hts⟩ : ∃ y, pts[j]? = some y := ⟨_, List.getElem?_eq_getElem hlt⟩
    have htl := hpl ts (List.mem_of_getElem? hts)
    have hll := so_short htk j m
    obtain ⟨r, hr, hrl, hl⟩ := so_in j0 j1 m0 m1 htk
    rw [i2n] at hr
    have hnx : (List.range (j + 1)).flatMap (ahE p pts m) = (List.range j).flatMap (ahE p pts m) ++ ts.flatMap fun t => (soS p j m).filterMap fun h => ap1 h t := by
      rw [range_snoc]
      unfold ahE ahH
      rw [hts]
      rfl
    obtain ⟨l, hsl⟩ : ∃ l, soS p j m = l := ⟨_, rfl⟩
    rw [hsl] at hll hnx hl
    have c1 := encL_get (C := tlC) hts
    have c2 := encL_get (C := tbC) hr
    have c3 := encL_get (C := rwC) hl
    have m1' : m < (r.length : Int) := by omega
    have m2 : m.toNat < r.length := by omega
    (refine DV.condT rfl (fun _ => rfl) ?_; (repeat (with_reducible first | apply qa | apply qb | apply qc | apply qd | apply qe)))
    (refine DV.skip ?_; (repeat with_reducible refine qn ?_); (with_reducible refine qm ?_); (repeat (with_reducible first | apply qa | apply qb | apply qc | apply qd | apply qe)))
    (refine Rg2 ?_; (repeat (with_reducible first | apply qa | apply qb | apply qc | apply qd | apply qe)))
    refine DV.loop (fun x : Nat × List Tm => ⟨[(0, .v true (.c (.sl (encL tbC p)))), (1, .v true (.c (.sl (encL tlC pts)))), (2, .v true (.c (.int .i64 m))), (7, .v true (.own 81 5 (encL tiC x.2))), (8, .v true (.c (.int .i64 j))), (9, .v true (.c (.int .i64 x.1)))], [], [(81, ⟨73, 5, x.2.length⟩)]⟩) (fun x => x.1 ≤ ts.length ∧ x.2 = (List.range j).flatMap (ahE p pts m) ++ (ts.take x.1).flatMap (fun t => l.filterMap fun h => ap1 h t) ∧ x.2.length ≤ 217800 * j + 5445 * x.1) (fun x => ts.length - x.1) (0, L) ⟨Nat.zero_le _, by rw [hL]; simp, by dsimp only; omega⟩ (by (have F := @n0; exact Wk1)) (fun x hx => ?_)
    clear hL hLl L
    obtain ⟨i, L⟩ := x
    dsimp only at hx ⊢
    obtain ⟨hi, hL, hLl⟩ := hx
    (repeat (with_reducible first | apply qa | apply qb | apply qc | apply qd | apply qe))
    have ei := wr1 i (by omega)
    by_cases hil : i < ts.length
    rotate_left 1
    · obtain rfl : i = ts.length := by omega
      have d2 : decide ((ts.length : Int) < (ts.length : Int)) = false := decide_eq_false (by omega)
      rw [List.take_length, ← hnx] at hL
      (have F := An8 @i2n @encL_len @j0 @j2 @hlt @c1 @tlE @d2; refine Rg3 ?_; clear F; (repeat (with_reducible first | apply qa | apply qb | apply qc | apply qd | apply qe)))
      (refine DV.condF rfl (fun _ => rfl) ?_; (repeat (with_reducible first | apply qa | apply qb | apply qc | apply qd | apply qe)))
      (refine DV.exit ?_; (repeat (first | (with_reducible refine thenD_exit' ?_) | (with_reducible refine blockD_other (by decide) ?_))); (with_reducible refine blockD_same ?_); (repeat with_reducible refine qn ?_); (with_reducible refine qm ?_); (repeat (with_reducible first | apply qa | apply qb | apply qc | apply qd | apply qe)))
      (have F := @ew; refine Re3 ?_; clear F; (repeat with_reducible refine qn ?_); (try with_reducible refine qm ?_); (repeat (with_reducible first | apply qa | apply qb | apply qc | apply qd | apply qe)))
      exact ⟨(j + 1, L), ⟨⟨hlt, hL, by dsimp only; omega⟩, by dsimp only; omega⟩, by exact Wk0⟩
    obtain ⟨t, ht⟩ : ∃ y, ts[i]? = some y := ⟨_, List.getElem?_eq_getElem hil⟩
    have d2 : decide ((i : Int) < (ts.length : Int)) = true := decide_eq_true (by omega)
    have i0 : (0 : Int) ≤ i := by omega
    have i1 : (i : Int) < (ts.length : Int) := by omega
    have c4 := encL_get (C := tiC) ht
    have hnk := fm_snoc (fun t => l.filterMap fun h => ap1 h t) ht
    (have F := An8 @i2n @encL_len @j0 @j2 @hlt @c1 @tlE @d2; refine Rg3 ?_; clear F; (repeat (with_reducible first | apply qa | apply qb | apply qc | apply qd | apply qe)))
    (refine DV.condT rfl (fun _ => rfl) ?_; (repeat (with_reducible first | apply qa | apply qb | apply qc | apply qd | apply qe)))
    (refine DV.skip ?_; (repeat with_reducible refine qn ?_); (with_reducible refine qm ?_); (repeat (with_reducible first | apply qa | apply qb | apply qc | apply qd | apply qe)))
    (refine Rg2 ?_; (repeat (with_reducible first | apply qa | apply qb | apply qc | apply qd | apply qe)))
    refine DV.loop (fun x : Nat × List Tm => ⟨[(0, .v true (.c (.sl (encL tbC p)))), (1, .v true (.c (.sl (encL tlC pts)))), (2, .v true (.c (.int .i64 m))), (7, .v true (.own 81 5 (encL tiC x.2))), (8, .v true (.c (.int .i64 j))), (9, .v true (.c (.int .i64 i))), (10, .v true (.c (.int .i64 x.1)))], [], [(81, ⟨73, 5, x.2.length⟩)]⟩) (fun x => x.1 ≤ l.length ∧ x.2 = (List.range j).flatMap (ahE p pts m) ++ (ts.take i).flatMap (fun t => l.filterMap fun h => ap1 h t) ++ (l.take x.1).filterMap (fun h => ap1 h t) ∧ x.2.length ≤ 217800 * j + 5445 * i + x.1) (fun x => l.length - x.1) (0, L) ⟨Nat.zero_le _, by rw [hL]; simp, by dsimp only; omega⟩ (by (have F := @n0; exact Wk1)) (fun x hx => ?_)
    clear hL hLl L
    obtain ⟨k, L⟩ := x
    dsimp only at hx ⊢
    obtain ⟨hk, hL, hLl⟩ := hx
    (repeat (with_reducible first | apply qa | apply qb | apply qc | apply qd | apply qe))
    have ek := wr1 k (by omega)
    by_cases hkl : k < l.length
    rotate_left 1
    · obtain rfl : k = l.length := by omega
      have d3 : decide ((l.length : Int) < (l.length : Int)) = false := decide_eq_false (by omega)
      rw [List.take_length, List.append_assoc, ← hnk] at hL
      (have F := An13 @i2n @encL_len @j0 @j1 @hlp @c2 @tbE @m0 @m1' @m2 @c3 @rwE @d3; refine Rg3 ?_; clear F; (repeat (with_reducible first | apply qa | apply qb | apply qc | apply qd | apply qe)))
      (refine DV.condF rfl (fun _ => rfl) ?_; (repeat (with_reducible first | apply qa | apply qb | apply qc | apply qd | apply qe)))
      (refine DV.exit ?_; (repeat (first | (with_reducible refine thenD_exit' ?_) | (with_reducible refine blockD_other (by decide) ?_))); (with_reducible refine blockD_same ?_); (repeat with_reducible refine qn ?_); (with_reducible refine qm ?_); (repeat (with_reducible first | apply qa | apply qb | apply qc | apply qd | apply qe)))
      (have F := @ei; refine Re3 ?_; clear F; (repeat with_reducible refine qn ?_); (try with_reducible refine qm ?_); (repeat (with_reducible first | apply qa | apply qb | apply qc | apply qd | apply qe)))
      exact ⟨(i + 1, L), ⟨⟨hil, hL, by dsimp only; omega⟩, by dsimp only; omega⟩, by exact Wk0⟩
    obtain ⟨h, hh⟩ : ∃ y, l[k]? = some y := ⟨_, List.getElem?_eq_getElem hkl⟩
    have d3 : decide ((k : Int) < (l.length : Int)) = true := decide_eq_true (by omega)
    have k0 : (0 : Int) ≤ k := by omega
    have k1' : (k : Int) < (l.length : Int) := by omega
    have c5 := encL_get (C := hpC) hh
    have hni := fl_snoc (fun h => ap1 h t) hh
    unfold ap1 at hni
    have htd := tiC.de t
    rw [tiE] at htd
    obtain ⟨y, hy⟩ : ∃ y, apR h t = y := ⟨_, rfl⟩
    obtain ⟨b, hb⟩ : ∃ b, apOk h t = b := ⟨_, rfl⟩
    rw [hy, hb] at hni
    (have F := An13 @i2n @encL_len @j0 @j1 @hlp @c2 @tbE @m0 @m1' @m2 @c3 @rwE @d3; refine Rg3 ?_; clear F; (repeat (with_reducible first | apply qa | apply qb | apply qc | apply qd | apply qe)))
    (refine DV.condT rfl (fun _ => rfl) ?_; (repeat (with_reducible first | apply qa | apply qb | apply qc | apply qd | apply qe)))
    (refine DV.skip ?_; (repeat with_reducible refine qn ?_); (with_reducible refine qm ?_); (repeat (with_reducible first | apply qa | apply qb | apply qc | apply qd | apply qe)))
    (have F := An2 (An20 @i2n @encL_len @j0 @j1 @j2 @hlp @hlt @c2 @tbE @m0 @m1' @m2 @c3 @rwE @k0 @k1' @hkl @c5 @hpE @hpD) (An10 @c1 @tlE @i0 @i1 @hil @c4 @tiE @htd @hy @hb); refine Rd3 ?_; clear F; (repeat (with_reducible first | apply qa | apply qb | apply qc | apply qd | apply qe)))
    (refine Rg2 ?_; (repeat (with_reducible first | apply qa | apply qb | apply qc | apply qd | apply qe)))
    cases b
    · rw [if_neg (by decide), Option.toList_none, List.append_nil] at hni
      (refine DV.condF rfl (fun _ => rfl) ?_; (repeat (with_reducible first | apply qa | apply qb | apply qc | apply qd | apply qe)))
      (refine DV.skip ?_; (repeat with_reducible refine qn ?_); (with_reducible refine qm ?_); (repeat (with_reducible first | apply qa | apply qb | apply qc | apply qd | apply qe)))
      (have F := @ek; refine Re3 ?_; clear F; (repeat with_reducible refine qn ?_); (try with_reducible refine qm ?_); (repeat (with_reducible first | apply qa | apply qb | apply qc | apply qd | apply qe)))
      exact ⟨(k + 1, L), ⟨⟨hkl, by rw [hL]; unfold ap1; rw [hni], by dsimp only; omega⟩, by dsimp only; omega⟩, by exact Wk0⟩
    · rw [if_pos rfl, Option.toList_some] at hni
      have hsn : L ++ [y] = (List.range j).flatMap (ahE p pts m) ++ (ts.take i).flatMap (fun t => l.filterMap fun h => ap1 h t) ++ (l.take (k + 1)).filterMap (fun h => ap1 h t) := by
        rw [hL]
        unfold ap1
        rw [hni, List.append_assoc, List.append_assoc]
      have a1 := ti_all L
      have k1 := Lib.hid (capOk_of (n := L.length + 1) (by omega))
      have k2 := Lib.hid (capB (n := L.length + 1) (k := 40) (by omega) (by decide))
      have hrow : encL tiC L ++ [[D.int .i64 y.d, D.int .i64 y.a, D.int .i64 y.b, D.int .i64 y.c, D.int .i64 y.e]] = encL tiC (L ++ [y]) := by rw [encL_app]; rfl
      have hlen : (L ++ [y]).length = L.length + 1 := by rw [List.length_append]; rfl
      obtain ⟨L2, hL2⟩ : ∃ z, L ++ [y] = z := ⟨_, rfl⟩
      rw [hL2] at hsn hrow hlen
      (refine DV.condT rfl (fun _ => rfl) ?_; (repeat (with_reducible first | apply qa | apply qb | apply qc | apply qd | apply qe)))
      (have F := An7 @range1 @a1 @encL_len k1.out k2.out @hrow @tiE; refine Re3 ?_; clear F; (repeat with_reducible refine qn ?_); (try with_reducible refine qm ?_); (repeat (with_reducible first | apply qa | apply qb | apply qc | apply qd | apply qe)))
      (have F := @ek; refine Re3 ?_; clear F; (repeat with_reducible refine qn ?_); (try with_reducible refine qm ?_); (repeat (with_reducible first | apply qa | apply qb | apply qc | apply qd | apply qe)))
      refine ⟨(k + 1, L2), ⟨⟨hkl, hsn, by dsimp only; omega⟩, by dsimp only; omega⟩, ?_⟩
      dsimp only
      rw [hlen]
      (refine wk_of [] ?_ ?_ ?_ ?_ ?_ <;> (simp only [false_and, and_false, and_self, XC, XD, XE, XF, XG, XH, XI, convK, XJ, XK, XL, XM, XN, look, XO, XP, XR, XS, XT, XU, XV, encL_nil, encL_app, encL_cons, List.length_append, gdS, put1, sv, gs, gb, QK, setAt, bad, dem, QP, QR, QS, QT, QU, QV, QW, QY, Q2, Q3, lf, lfs, pOk, Nat.reduceBEq, XA, XB, keep, kp, cand, cor, List.map, List.append, Option.bind, ↓reduceIte, Nat.reduceEqDiff, Nat.reduceAdd, Nat.reduceMul, Nat.reduceLT, Nat.reduceLeDiff, reduceCtorEq, Int.reduceLT, Int.reduceLE, Int.reduceBEq, Int.reduceBNe, Int.reduceAdd, Int.reduceSub, Int.reduceToNat, dq]; try trivial))
  · exact h.elim
end Go.Proofs.Ytkmgdejpdhlleaa.Dq
