/- The table of least steps, plain: it is closed along edges; what may come. No program in sight. -/
import Derived.Test.YtkmgdejpdhlleaaAwk
import Derived.Test.YtkmgdejpdhlleaaPoQ
namespace Go.Proofs.Ytkmgdejpdhlleaa.Dq
set_option linter.unusedSimpArgs false
set_option linter.unusedVariables false
set_option maxRecDepth 100000
open Go.RowKit
open Pa Va

theorem wi_of {a b c e n : Int} (h : ∀ i, inB i → 0 ≤ cAt a b c e i ∧ cAt a b c e i ≤ 1048576 ∧ (n ≤ i → cAt a b c e i = 0)) : withinB a b c e n = true := by
  have h0 := h 0 ⟨by decide, by decide⟩
  have h1 := h 1 ⟨by decide, by decide⟩
  have h2 := h 2 ⟨by decide, by decide⟩
  have h3 := h 3 ⟨by decide, by decide⟩
  simp only [withinB, wiTo, wiAt, Bool.and_eq_true, decide_eq_true_eq]
  exact ⟨⟨⟨⟨trivial, h0⟩, h1⟩, h2⟩, h3⟩
/-- Two steps put together are right if no coordinate is too great. -/
theorem then_ok {x y : Hp} (hx : hopB x = true) (hy : hopB y = true) (hg : x.k + x.l = y.f) (hv : ∀ i, 0 ≤ i → i < y.k + y.l → atV (thenH x y) i ≤ 1048576) : hopB (thenH x y) = true := by
  have bx := hopB_bd hx
  have b := hopB_bd hy
  obtain ⟨e1, e2, e3⟩ := then_fkl hx hy hg
  have hV : ∀ i, 0 ≤ i → i < y.k + y.l → 0 ≤ atV (thenH x y) i ∧ atV (thenH x y) i ≤ 1048576 := fun i i0 i1 => by
    refine ⟨?_, hv i i0 i1⟩
    rw [then_V hx hy hg i0 i1]
    have h1 := V_pos hy i0 i1
    split
    · have := V_pos hx i0 (show i < x.k + x.l by omega)
      omega
    · omega
  have hl1 := th1_l x y (by omega) y.k.toNat
  obtain ⟨f1, f2, f3⟩ := th2_f y (th1 x y y.k.toNat) y.l.toNat
  have hm : imin x.k y.k = x.k ∧ x.k ≤ y.k ∨ imin x.k y.k = y.k ∧ y.k < x.k := by unfold imin; split <;> omega
  refine (hopB_iff _).2 ⟨by omega, wi_of fun i hi => ?_, wi_of fun j hj => ?_⟩
  · have hA1 := th1_A x y (by omega) hi y.k.toNat (by omega) (by omega)
    have hA2 : hA (thenH x y) i = hA (th1 x y y.k.toNat) i := f3 i
    obtain ⟨i0, i3⟩ := hi
    by_cases h : i < (thenH x y).k
    · have := hV i i0 (by omega)
      rw [atV_def, if_pos h] at this
      exact ⟨this.1, this.2, fun hk => by omega⟩
    · have h0 : hA (thenH x y) i = 0 := by rw [hA2, hA1, if_neg (by omega)]
      unfold hA at h0
      rw [h0]
      exact ⟨by decide, by decide, fun _ => rfl⟩
  · have hj' := hj
    obtain ⟨j0, j3⟩ := hj
    by_cases h : j < (thenH x y).l
    · have := hV ((thenH x y).k + j) (by omega) (by omega)
      rw [atV_def, if_neg (by omega), show (thenH x y).k + j - (thenH x y).k = j by omega] at this
      exact ⟨this.1, this.2, fun hk => by omega⟩
    · have hT1 := th1_T x y (by omega) hj' y.k.toNat (by omega)
      have hT2 := th2_T y (th1 x y y.k.toNat) (by rw [hl1]; split <;> omega) hj' y.l.toNat (by rw [hl1]; split <;> omega)
      have h0 : hT (thenH x y) j = 0 := by
        show hT (th2 y (th1 x y y.k.toNat) y.l.toNat) j = 0
        rw [hT2, hl1, if_neg (by split <;> omega), hT1, if_neg (by omega)]
      unfold hT at h0
      rw [h0]
      exact ⟨by decide, by decide, fun _ => rfl⟩
/-- Nothing new: nothing has changed. -/
theorem set_rg (R : List (List Hp)) (t : Nat) : R.set t (rg R t) = R := by
  unfold rg
  by_cases h : t < R.length
  · rw [List.getElem?_eq_getElem h]
    exact List.set_getElem_self h
  · exact List.set_eq_of_length_le (by omega)
theorem edF_still {s : Hp} {t : Nat} : ∀ {L : List Hp} {R : List (List Hp)} {mo : Bool}, (edF s t L (R, mo)).2 = false → edF s t L (R, mo) = (R, false) ∧ mo = false ∧ ∀ h ∈ L, thOk h s = true → (putS (rg R t) (thR h s)).2 = false
  | [], R, mo, h => by
    have h : mo = false := h
    subst h
    exact ⟨rfl, rfl, nofun⟩
  | h :: L, R, mo, hf => by
    unfold edF at hf ⊢
    by_cases ho : thOk h s = true
    · rw [if_pos ho] at hf ⊢
      obtain ⟨a1, a2, a3⟩ := edF_still hf
      dsimp only at a1 a2 a3 ⊢
      rw [Bool.or_eq_false_iff] at a2
      have hp := put_same a2.2
      rw [a1]
      rw [hp, set_rg] at a3 ⊢
      refine ⟨rfl, a2.1, fun h' hh' ho' => ?_⟩
      rcases List.mem_cons.1 hh' with rfl | hh'
      · exact a2.2
      · exact a3 h' hh' ho'
    · rw [if_neg ho] at hf ⊢
      obtain ⟨a1, a2, a3⟩ := edF_still hf
      refine ⟨a1, a2, fun h' hh' ho' => ?_⟩
      rcases List.mem_cons.1 hh' with rfl | hh'
      · exact absurd ho' ho
      · exact a3 h' hh' ho'
theorem swF_still {st : Nat → Hp} : ∀ {es : List (Nat × Nat)} {R : List (List Hp)} {mo : Bool}, (swF st es (R, mo)).2 = false → swF st es (R, mo) = (R, false) ∧ mo = false ∧ ∀ e ∈ es, ∀ h ∈ rg R e.1, thOk h (st e.1) = true → (putS (rg R e.2) (thR h (st e.1))).2 = false
  | [], R, mo, h => by
    have h : mo = false := h
    subst h
    exact ⟨rfl, rfl, nofun⟩
  | e :: es, R, mo, hf => by
    unfold swF at hf ⊢
    dsimp only at hf ⊢
    obtain ⟨A, hA⟩ : ∃ A, edF (st e.1) e.2 (rg R e.1) (R, mo) = A := ⟨_, rfl⟩
    obtain ⟨R1, m1⟩ := A
    rw [hA] at hf ⊢
    obtain ⟨a1, a2, a3⟩ := swF_still hf
    subst a2
    obtain ⟨b1, b2, b3⟩ := edF_still (s := st e.1) (t := e.2) (L := rg R e.1) (R := R) (mo := mo) (by rw [hA])
    rw [b1] at hA
    obtain rfl : R = R1 := congrArg Prod.fst hA
    refine ⟨a1, b2, fun e' he' => ?_⟩
    rcases List.mem_cons.1 he' with rfl | he'
    · exact b3
    · exact a3 e' he'
theorem itF_end {G : Sg} {d0 : Int} (hG : SgOk G) : ∀ (f : Nat) (R : List (List Hp)), Pa.Ri G d0 R → osum R < f → (swF G.st G.ed (itF G f R, false)).2 = false ∧ Mo R (itF G f R)
  | 0, R, _, h => by omega
  | f + 1, R, hR, h => by
    obtain ⟨a1, a2, -, a4⟩ := swF_ok (G := G) (d0 := d0) G.ed R false hG hR
    unfold itF
    by_cases hs : (swF G.st G.ed (R, false)).2 = true
    · rw [if_pos hs]
      have h2 := a4 hs
      obtain ⟨b1, b2⟩ := itF_end hG f _ a1 (by
        rcases h2 with h2 | h2
        · cases h2
        · omega)
      exact ⟨b1, a2.trans b2⟩
    · rw [if_neg hs]
      have hs' : (swF G.st G.ed (R, false)).2 = false := by simpa using hs
      obtain ⟨c1, -, -⟩ := swF_still hs'
      refine ⟨?_, a2⟩
      rw [c1, c1]
theorem row_end {g : Gr} (h : Chkd g) {fr : Nat} (hf : fr < g.n.length) : (swF (sgOf g).st (sgOf g).ed (rowS g fr, false)).2 = false ∧ Mo (beg0 (sgOf g) fr (smH (depN g fr))) (rowS g fr) := itF_end (sg_ok h) _ _ (beg_ri h hf) (Nat.lt_succ_self _)
/-- A row is closed along the edges. -/
theorem row_clo {g : Gr} (h : Chkd g) {fr : Nat} (hf : fr < g.n.length) {e : Eg} (he : e ∈ g.e) {x : Hp} (hx : x ∈ rg (rowS g fr) e.f.toNat) (ho : thOk x ((sgOf g).st e.f.toNat) = true) : ∃ z ∈ rg (rowS g fr) e.t.toNat, leHB z (thR x ((sgOf g).st e.f.toNat)) = true := by
  obtain ⟨-, -, a3⟩ := swF_still (row_end h hf).1
  have := a3 (e.f.toNat, e.t.toNat) (List.mem_map.2 ⟨e, he, rfl⟩) x hx ho
  have hr : hopB (thR x ((sgOf g).st e.f.toNat)) = true := by
    unfold thR
    rw [if_pos ho]
    unfold thOk at ho
    rw [Bool.and_eq_true] at ho
    exact ho.2
  obtain ⟨z, hz, hzl⟩ := put_below (l := rg (rowS g fr) e.t.toNat) hr
  rw [put_same this] at hz
  exact ⟨z, hz, hzl⟩
/-- From an operator to itself: the step that changes nothing, or one before it. -/
theorem row_self {g : Gr} (h : Chkd g) {fr : Nat} (hf : fr < g.n.length) : ∃ z ∈ rg (rowS g fr) fr, leHB z (smH (depN g fr)) = true := by
  obtain ⟨⟨d1, d4⟩, -, -⟩ := h.dep (m := (fr : Int)) (by omega) (by omega)
  refine (row_end h hf).2 fr (smH (depN g fr)) ?_ (same_r ⟨d1, d4⟩)
  unfold beg0
  rw [rg_set (by rw [List.length_replicate]; exact hf), if_pos rfl]
  exact List.mem_singleton.2 rfl
theorem tb_at {g : Gr} (h : (chkS g).1 = 0) {n m : Int} (n0 : 0 ≤ n) (n1 : n < g.n.length) (m0 : 0 ≤ m) (m1 : m < g.n.length) : soS (tbS g) n m = rg (rowS g n.toNat) m.toNat := by
  have hk := chk_ok h
  have hlen : (tbS g).length = g.n.length := by
    unfold tbS
    rw [h, if_neg (by decide), List.length_map, List.length_range]
  have hat : (tbS g)[n.toNat]? = some (rowS g n.toNat) := by
    unfold tbS
    rw [h, if_neg (by decide), List.getElem?_map, List.getElem?_range (by omega)]
    rfl
  have hrow : (rowS g n.toNat).length = g.n.length := (row_ok hk (fr := n.toNat) (by omega)).ok.len
  unfold soS
  rw [hat, Option.getD_some, hlen, hrow, decide_eq_false (show ¬ n < 0 by omega), decide_eq_false (show ¬ (g.n.length : Int) ≤ n by omega), decide_eq_false (show ¬ m < 0 by omega), decide_eq_false (show ¬ (g.n.length : Int) ≤ m by omega), if_neg (by decide)]
  rfl
end Go.Proofs.Ytkmgdejpdhlleaa.Dq
