/- The table of least steps, plain: it is closed along edges; what may come. No program in sight. -/
import Derived.Test.YtkmgdejpdhlleaaAwk
import Derived.Test.YtkmgdejpdhlleaaPoQ
namespace Go.Proofs.Ytkmgdejpdhlleaa.Dq
set_option linter.unusedSimpArgs false
set_option linter.unusedVariables false
set_option maxRecDepth 100000
open Go.RowKit
open Pa Va

theorem wi_of {a b c e n : Int} (h : ∀ i, inB i → 0 ≤ cAt a b c e i ∧ cAt a b c e i ≤ 1048576 ∧ (n ≤ i → cAt a b c e i = 0)) : withinB a b c e n = true := by
  have h0 := h 0 ⟨by decide, by decide⟩
  have h1 := h 1 ⟨by decide, by decide⟩
  have h2 := h 2 ⟨by decide, by decide⟩
  have h3 := h 3 ⟨by decide, by decide⟩
  simp only [withinB, wiTo, wiAt, Bool.and_eq_true, decide_eq_true_eq]
  exact ⟨⟨⟨⟨trivial, h0⟩, h1⟩, h2⟩, h3⟩
/-- Two steps put together are right if no coordinate is too great. -/
theorem then_ok {x y : Hp} (hx : hopB x = true) (hy : hopB y = true) (hg : x.k + x.l = y.f) (hv : ∀ i, 0 ≤ i → i < y.k + y.l → atV (thenH x y) i ≤ 1048576) : hopB (thenH x y) = true := by
  have bx := hopB_bd hx
  have b := hopB_bd hy
  obtain ⟨e1, e2, e3⟩ := then_fkl hx hy hg
  have hV : ∀ i, 0 ≤ i → i < y.k + y.l → 0 ≤ atV (thenH x y) i ∧ atV (thenH x y) i ≤ 1048576 := fun i i0 i1 => by
    refine ⟨?_, hv i i0 i1⟩
    rw [then_V hx hy hg i0 i1]
    have h1 := V_pos hy i0 i1
    split
    · have := V_pos hx i0 (show i < x.k + x.l by omega)
      omega
    · omega
  have hl1 := th1_l x y (by omega) y.k.toNat
  obtain ⟨f1, f2, f3⟩ := th2_f y (th1 x y y.k.toNat) y.l.toNat
  have hm : imin x.k y.k = x.k ∧ x.k ≤ y.k ∨ imin x.k y.k = y.k ∧ y.k < x.k := by unfold imin; split <;> omega
  refine (hopB_iff _).2 ⟨by omega, wi_of fun i hi => ?_, wi_of fun j hj => ?_⟩
  · have hA1 := th1_A x y (by omega) hi y.k.toNat (by omega) (by omega)
    have hA2 : hA (thenH x y) i = hA (th1 x y y.k.toNat) i := f3 i
    obtain ⟨i0, i3⟩ := hi
    by_cases h : i < (thenH x y).k
    · have := hV i i0 (by omega)
      rw [atV_def, if_pos h] at this
      exact ⟨this.1, this.2, fun hk => by omega⟩
    · have h0 : hA (thenH x y) i = 0 := by rw [hA2, hA1, if_neg (by omega)]
      unfold hA at h0
      rw [h0]
      exact ⟨by decide, by decide, fun _ => rfl⟩
  · have hj' := hj
    obtain ⟨j0, j3⟩ := hj
    by_cases h : j < (thenH x y).l
    · have := hV ((thenH x y).k + j) (by omega) (by omega)
      rw [atV_def, if_neg (by omega), show (thenH x y).k + j - (thenH x y).k = j by omega] at this
      exact ⟨this.1, this.2, fun hk => by omega⟩
    · have hT1 := th1_T x y (by omega) hj' y.k.toNat (by omega)
      have hT2 := th2_T y (th1 x y y.k.toNat) (by rw [hl1]; split <;> omega) hj' y.l.toNat (by rw [hl1]; split <;> omega)
      have h0 : hT (thenH x y) j = 0 := by
        show hT (th2 y (th1 x y y.k.toNat) y.l.toNat) j = 0
        rw [hT2, hl1, if_neg (by split <;> omega), hT1, if_neg (by omega)]
      unfold hT at h0
      rw [h0]
      exact ⟨by decide, by decide, fun _ => rfl⟩
theorem tm_le {t : Tm} (h : rightB t = true) {i : Int} (hi : inB i) : tC t i ≤ 1048576 := (tm_bd (d := t.d) h i (inB_cases hi)).2
theorem thn_of {h s : Hp} {t u : Tm} (hh : hopB h = true) (hs : hopB s = true) (hg : h.k + h.l = s.f) (h1 : apOk h t = true) (h2 : leB (apR h t) u = true) (h3 : apOk s u = true) : thOk h s = true := by
  obtain ⟨-, hu, -, hc⟩ := (leB_C _ _).1 h2
  have e2 : apR h t = apT h t := if_pos h1
  rw [e2] at hc
  simp only [apOk, Bool.and_eq_true, decide_eq_true_eq] at h1 h3
  obtain ⟨⟨⟨-, ht⟩, -⟩, -⟩ := h1
  obtain ⟨⟨⟨-, -⟩, -⟩, hr⟩ := h3
  have bh := hopB_bd hh
  have bs := hopB_bd hs
  have hok := then_ok hh hs hg fun i i0 i1 => by
    have hi : inB i := ⟨i0, by omega⟩
    rw [then_V hh hs hg i0 i1]
    have a1 := tm_le hr hi
    rw [tC_ap _ _ hi, apC_V hs, if_pos i1] at a1
    by_cases hk : i < s.k
    · rw [if_pos hk] at a1 ⊢
      have a2 := hc i hi
      rw [tC_ap _ _ hi, apC_V hh, if_pos (by omega)] at a2
      have a3 := tC_pos ht hi
      unfold tC at a2 a3
      split at a2 <;> omega
    · rw [if_neg hk] at a1 ⊢
      omega
  unfold thOk
  rw [hh, hs, decide_eq_true hg, hok]
  rfl
theorem leT_trans {s t u : Tm} (h : leB s t = true) (k : leB t u = true) : leB s u = true := by
  obtain ⟨a1, a2, a3, a4⟩ := (leB_C _ _).1 h
  obtain ⟨b1, b2, b3, b4⟩ := (leB_C _ _).1 k
  exact (leB_C _ _).2 ⟨a1, b2, a3.trans b3, fun i hi => Int.le_trans (a4 i hi) (b4 i hi)⟩
/-- A step at or before one that may be done may be done, and what it makes is at or before. -/
theorem ap_le {a b : Hp} {t : Tm} (h : leHB a b = true) (h2 : apOk b t = true) : apOk a t = true ∧ leB (apR a t) (apR b t) = true := by
  have h2' := h2
  obtain ⟨ha, -, hf, hg, hv⟩ := (leH_iff a b).1 h
  simp only [apOk, Bool.and_eq_true, decide_eq_true_eq] at h2
  obtain ⟨⟨⟨hb, ht⟩, hd2⟩, hB⟩ := h2
  have hr : rightB (apT a t) = true := rightB_le hB hg fun i hi => by
    rw [tC_ap _ _ hi, tC_ap _ _ hi]
    refine ⟨apC_pos ha ht hi, ?_⟩
    rw [apC_V ha, apC_V hb, ← hg]
    have h0 := tC_pos ht hi
    unfold tC at h0
    by_cases hk : i < a.k + a.l
    · rw [if_pos hk, if_pos hk]
      obtain ⟨v1, v2⟩ := hv i hi.1 hk
      by_cases hka : i < a.k
      · rw [if_pos hka, if_pos (v1 hka)]; omega
      · rw [if_neg hka]
        split <;> omega
    · rw [if_neg hk, if_neg hk]
      omega
  have hok : apOk a t = true := by simp [apOk, ha, ht, hd2, hf, hr]
  exact ⟨hok, ap_order h hok h2'⟩
/-- Nothing new: nothing has changed. -/
theorem set_rg (R : List (List Hp)) (t : Nat) : R.set t (rg R t) = R := by
  unfold rg
  by_cases h : t < R.length
  · rw [List.getElem?_eq_getElem h]
    exact List.set_getElem_self h
  · exact List.set_eq_of_length_le (by omega)
theorem edF_still {s : Hp} {t : Nat} : ∀ {L : List Hp} {R : List (List Hp)} {mo : Bool}, (edF s t L (R, mo)).2 = false → edF s t L (R, mo) = (R, false) ∧ mo = false ∧ ∀ h ∈ L, thOk h s = true → (putS (rg R t) (thR h s)).2 = false
  | [], R, mo, h => by
    have h : mo = false := h
    subst h
    exact ⟨rfl, rfl, nofun⟩
  | h :: L, R, mo, hf => by
    unfold edF at hf ⊢
    by_cases ho : thOk h s = true
    · rw [if_pos ho] at hf ⊢
      obtain ⟨a1, a2, a3⟩ := edF_still hf
      dsimp only at a1 a2 a3 ⊢
      rw [Bool.or_eq_false_iff] at a2
      have hp := put_same a2.2
      rw [a1]
      rw [hp, set_rg] at a3 ⊢
      refine ⟨rfl, a2.1, fun h' hh' ho' => ?_⟩
      rcases List.mem_cons.1 hh' with rfl | hh'
      · exact a2.2
      · exact a3 h' hh' ho'
    · rw [if_neg ho] at hf ⊢
      obtain ⟨a1, a2, a3⟩ := edF_still hf
      refine ⟨a1, a2, fun h' hh' ho' => ?_⟩
      rcases List.mem_cons.1 hh' with rfl | hh'
      · exact absurd ho' ho
      · exact a3 h' hh' ho'
theorem swF_still {st : Nat → Hp} : ∀ {es : List (Nat × Nat)} {R : List (List Hp)} {mo : Bool}, (swF st es (R, mo)).2 = false → swF st es (R, mo) = (R, false) ∧ mo = false ∧ ∀ e ∈ es, ∀ h ∈ rg R e.1, thOk h (st e.1) = true → (putS (rg R e.2) (thR h (st e.1))).2 = false
  | [], R, mo, h => by
    have h : mo = false := h
    subst h
    exact ⟨rfl, rfl, nofun⟩
  | e :: es, R, mo, hf => by
    unfold swF at hf ⊢
    dsimp only at hf ⊢
    obtain ⟨A, hA⟩ : ∃ A, edF (st e.1) e.2 (rg R e.1) (R, mo) = A := ⟨_, rfl⟩
    obtain ⟨R1, m1⟩ := A
    rw [hA] at hf ⊢
    obtain ⟨a1, a2, a3⟩ := swF_still hf
    subst a2
    obtain ⟨b1, b2, b3⟩ := edF_still (s := st e.1) (t := e.2) (L := rg R e.1) (R := R) (mo := mo) (by rw [hA])
    rw [b1] at hA
    obtain rfl : R = R1 := congrArg Prod.fst hA
    refine ⟨a1, b2, fun e' he' => ?_⟩
    rcases List.mem_cons.1 he' with rfl | he'
    · exact b3
    · exact a3 e' he'
theorem itF_end {G : Sg} {d0 : Int} (hG : SgOk G) : ∀ (f : Nat) (R : List (List Hp)), Pa.Ri G d0 R → osum R < f → (swF G.st G.ed (itF G f R, false)).2 = false ∧ Mo R (itF G f R)
  | 0, R, _, h => by omega
  | f + 1, R, hR, h => by
    obtain ⟨a1, a2, -, a4⟩ := swF_ok (G := G) (d0 := d0) G.ed R false hG hR
    unfold itF
    by_cases hs : (swF G.st G.ed (R, false)).2 = true
    · rw [if_pos hs]
      have h2 := a4 hs
      obtain ⟨b1, b2⟩ := itF_end hG f _ a1 (by
        rcases h2 with h2 | h2
        · cases h2
        · omega)
      exact ⟨b1, a2.trans b2⟩
    · rw [if_neg hs]
      have hs' : (swF G.st G.ed (R, false)).2 = false := by simpa using hs
      obtain ⟨c1, -, -⟩ := swF_still hs'
      refine ⟨?_, a2⟩
      rw [c1, c1]
theorem row_end {g : Gr} (h : Chkd g) {fr : Nat} (hf : fr < g.n.length) : (swF (sgOf g).st (sgOf g).ed (rowS g fr, false)).2 = false ∧ Mo (beg0 (sgOf g) fr (smH (depN g fr))) (rowS g fr) := itF_end (sg_ok h) _ _ (beg_ri h hf) (Nat.lt_succ_self _)
/-- A row is closed along the edges. -/
theorem row_clo {g : Gr} (h : Chkd g) {fr : Nat} (hf : fr < g.n.length) {e : Eg} (he : e ∈ g.e) {x : Hp} (hx : x ∈ rg (rowS g fr) e.f.toNat) (ho : thOk x ((sgOf g).st e.f.toNat) = true) : ∃ z ∈ rg (rowS g fr) e.t.toNat, leHB z (thR x ((sgOf g).st e.f.toNat)) = true := by
  obtain ⟨-, -, a3⟩ := swF_still (row_end h hf).1
  have := a3 (e.f.toNat, e.t.toNat) (List.mem_map.2 ⟨e, he, rfl⟩) x hx ho
  have hr : hopB (thR x ((sgOf g).st e.f.toNat)) = true := by
    unfold thR
    rw [if_pos ho]
    unfold thOk at ho
    rw [Bool.and_eq_true] at ho
    exact ho.2
  obtain ⟨z, hz, hzl⟩ := put_below (l := rg (rowS g fr) e.t.toNat) hr
  rw [put_same this] at hz
  exact ⟨z, hz, hzl⟩
/-- From an operator to itself: the step that changes nothing, or one before it. -/
theorem row_self {g : Gr} (h : Chkd g) {fr : Nat} (hf : fr < g.n.length) : ∃ z ∈ rg (rowS g fr) fr, leHB z (smH (depN g fr)) = true := by
  obtain ⟨⟨d1, d4⟩, -, -⟩ := h.dep (m := (fr : Int)) (by omega) (by omega)
  refine (row_end h hf).2 fr (smH (depN g fr)) ?_ (same_r ⟨d1, d4⟩)
  unfold beg0
  rw [rg_set (by rw [List.length_replicate]; exact hf), if_pos rfl]
  exact List.mem_singleton.2 rfl
theorem tb_at {g : Gr} (h : (chkS g).1 = 0) {n m : Int} (n0 : 0 ≤ n) (n1 : n < g.n.length) (m0 : 0 ≤ m) (m1 : m < g.n.length) : soS (tbS g) n m = rg (rowS g n.toNat) m.toNat := by
  have hk := chk_ok h
  have hlen : (tbS g).length = g.n.length := by
    unfold tbS
    rw [h, if_neg (by decide), List.length_map, List.length_range]
  have hat : (tbS g)[n.toNat]? = some (rowS g n.toNat) := by
    unfold tbS
    rw [h, if_neg (by decide), List.getElem?_map, List.getElem?_range (by omega)]
    rfl
  have hrow : (rowS g n.toNat).length = g.n.length := (row_ok hk (fr := n.toNat) (by omega)).ok.len
  unfold soS
  rw [hat, Option.getD_some, hlen, hrow, decide_eq_false (show ¬ n < 0 by omega), decide_eq_false (show ¬ (g.n.length : Int) ≤ n by omega), decide_eq_false (show ¬ m < 0 by omega), decide_eq_false (show ¬ (g.n.length : Int) ≤ m by omega), if_neg (by decide)]
  rfl
/-- What comes of a timestamp where it is, may come. -/
theorem re_self {g : Gr} (h : (chkS g).1 = 0) {n : Int} (n0 : 0 ≤ n) (n1 : n < g.n.length) {t : Tm} (ht : rightB t = true) (hd : t.d = depN g n) : reS (tbS g) n t n t = true := by
  have hk := chk_ok h
  have en : ((n.toNat : Nat) : Int) = n := by omega
  obtain ⟨z, hz, hzl⟩ := row_self hk (fr := n.toNat) (by omega)
  rw [en] at hzl
  obtain ⟨⟨d1, d4⟩, -, -⟩ := hk.dep n0 n1
  obtain ⟨d, hd2⟩ : ∃ d, depN g n = d := ⟨_, rfl⟩
  rw [hd2] at hzl hd d1 d4
  have e1 : apT (smH d) t = t := by
    obtain ⟨td, ta, tb, tc, te⟩ := t
    dsimp only at hd
    subst hd
    have hz := (rightB_C _).1 ht
    have hn : ∀ i, inB i → td ≤ i → cAt ta tb tc te i = 0 := fun i hi hge => by
      have := tm_bd (d := td) ht i (inB_cases hi)
      have h2 := hz.2 i hi
      apply Classical.byContradiction
      intro hne
      have : okAt td (cAt ta tb tc te i) i = false := by rw [okAt_not _ _ _ hne hge]
      rw [show tC ⟨td, ta, tb, tc, te⟩ i = cAt ta tb tc te i from rfl, this] at h2
      cases h2
    have hC : ∀ i, inB i → apC (smH td) ⟨td, ta, tb, tc, te⟩ i = cAt ta tb tc te i := fun i hi => by
      rw [apC_V (show hopB (smH td) = true from same_r ⟨d1, d4⟩)]
      have hv : atV (smH td) i = 0 := by
        show (if i < td then cAt 0 0 0 0 i else cAt 0 0 0 0 (i - td)) = 0
        rw [zero_at, zero_at]
        split <;> rfl
      rw [hv, show (smH td).k + (smH td).l = td from Int.add_zero td]
      by_cases hi2 : i < td
      · rw [if_pos hi2, if_pos (show i < (smH td).k from hi2), Int.add_zero]
      · rw [if_neg hi2, hn i hi (by omega)]
    have c0 := hC 0 ⟨by decide, by decide⟩
    have c1 := hC 1 ⟨by decide, by decide⟩
    have c2 := hC 2 ⟨by decide, by decide⟩
    have c3 := hC 3 ⟨by decide, by decide⟩
    unfold apT
    rw [c0, c1, c2, c3, show (smH td).k + (smH td).l = td from Int.add_zero td]
    rfl
  have hok : apOk (smH d) t = true := by
    unfold apOk
    rw [e1, same_r ⟨d1, d4⟩ |> (show hopB (smH d) = true from ·), ht, decide_eq_true (show t.d = (smH d).f from hd)]
    rfl
  obtain ⟨k1, k2⟩ := ap_le hzl hok
  rw [show apR (smH d) t = t from (if_pos hok).trans e1] at k2
  unfold reS
  rw [tb_at h n0 n1 n0 n1]
  exact List.any_eq_true.2 ⟨z, hz, by rw [k1, k2]; rfl⟩
/-- What comes along an edge of what may come, may come. -/
theorem re_edge {g : Gr} (h : (chkS g).1 = 0) {n : Int} (n0 : 0 ≤ n) (n1 : n < g.n.length) {e : Eg} (he : e ∈ g.e) {t u : Tm} (hr : reS (tbS g) n t e.f u = true) (ho : apOk (stN (depN g e.f) (ndAt g e.f).k) u = true) : reS (tbS g) n t e.t (apR (stN (depN g e.f) (ndAt g e.f).k) u) = true := by
  have hk := chk_ok h
  have hE := sg_ok hk (e.f.toNat, e.t.toNat) (List.mem_map.2 ⟨e, he, rfl⟩)
  obtain ⟨i, hi⟩ := List.getElem?_of_mem he
  obtain ⟨i1, -⟩ := List.getElem?_eq_some_iff.1 hi
  obtain ⟨⟨f0, f1⟩, t0, t1⟩ := edS_ok (hk.ed i (by omega) (by omega))
  rw [show egAt g i = e by unfold egAt; rw [show ((i : Int)).toNat = i from rfl, hi]; rfl] at f0 f1 t0 t1
  have ef : ((e.f.toNat : Nat) : Int) = e.f := by omega
  have hst : (sgOf g).st e.f.toNat = stN (depN g e.f) (ndAt g e.f).k := by
    show stN (depN g ((e.f.toNat : Nat) : Int)) (ndAt g ((e.f.toNat : Nat) : Int)).k = _
    rw [ef]
  have hdp : (sgOf g).dep e.f.toNat = depN g e.f := by
    show depN g ((e.f.toNat : Nat) : Int) = _
    rw [ef]
  unfold reS at hr ⊢
  rw [tb_at h n0 n1 f0 f1] at hr
  rw [tb_at h n0 n1 t0 t1]
  obtain ⟨x, hx, hxo⟩ := List.any_eq_true.1 hr
  rw [Bool.and_eq_true] at hxo
  obtain ⟨x1, x2⟩ := hxo
  have hn : n.toNat < g.n.length := by omega
  have hEl := (row_ok hk hn).ok.el _ _ hx
  obtain ⟨E1, E2, E3, E4, -⟩ := hE
  dsimp only at E3 E4
  rw [← hst] at ho ⊢
  have hth := thn_of hEl.r E3 (hEl.g.trans E4.symm) x1 x2 ho
  obtain ⟨z, hz, hzl⟩ := row_clo hk hn he hx hth
  obtain ⟨q1, q2⟩ := ap_keeps x2 ho
  obtain ⟨w1, w2⟩ := then_apply hth x1
  rw [q1] at w1
  rw [w2] at q2
  obtain ⟨v1, v2⟩ := ap_le hzl w1.symm
  exact List.any_eq_true.2 ⟨z, hz, by rw [v1, leT_trans v2 q2]; rfl⟩
end Go.Proofs.Ytkmgdejpdhlleaa.Dq
