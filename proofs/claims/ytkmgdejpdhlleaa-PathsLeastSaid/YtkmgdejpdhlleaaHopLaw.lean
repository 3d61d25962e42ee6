/- Steps by their places: put together, done, ordered. Plain Lean. -/
import Derived.Test.YtkmgdejpdhlleaaHop9
import Derived.Test.YtkmgdejpdhlleaaHop4
namespace Go.Proofs.Ytkmgdejpdhlleaa
set_option linter.unusedSimpArgs false
set_option linter.unusedVariables false
set_option maxRecDepth 100000

def inB (i : Int) : Prop := 0 ≤ i ∧ i ≤ 3
theorem inB_cases {i : Int} (h : inB i) : i = 0 ∨ i = 1 ∨ i = 2 ∨ i = 3 := by unfold inB at h; omega
def hA (h : Hp) (i : Int) : Int := cAt h.a h.b h.c h.e i
def hT (h : Hp) (i : Int) : Int := cAt h.p h.q h.r h.s i
theorem atV_def (h : Hp) (i : Int) : atV h i = if i < h.k then hA h i else hT h (i - h.k) := rfl
theorem hA_add (h : Hp) (v : Int) {i j : Int} (hi : inB i) (hj : inB j) : hA (addAt h i v) j = if j = i then v else hA h j := by
  rcases inB_cases hi with rfl | rfl | rfl | rfl <;> rcases inB_cases hj with rfl | rfl | rfl | rfl <;> simp [hA, addAt, cAt]
theorem hT_add (h : Hp) (v i j : Int) : hT (addAt h i v) j = hT h j := rfl
theorem hA_lay (h : Hp) (v i j : Int) : hA (layAt h i v) j = hA h j := rfl
theorem hT_lay (h : Hp) (v : Int) {i j : Int} (hi : inB i) (hj : inB j) : hT (layAt h i v) j = if j = i then v else hT h j := by
  rcases inB_cases hi with rfl | rfl | rfl | rfl <;> rcases inB_cases hj with rfl | rfl | rfl | rfl <;> simp [hT, layAt, cAt]
theorem zero_at (i : Int) : cAt 0 0 0 0 i = 0 := by simp [cAt]

theorem th1_f (x y : Hp) : ∀ n, (th1 x y n).f = x.f ∧ (th1 x y n).k = imin x.k y.k
  | 0 => ⟨rfl, rfl⟩
  | n + 1 => by
    have ih := th1_f x y n
    unfold th1
    split
    · exact ih
    · exact ih
theorem th2_f (y h : Hp) : ∀ n, (th2 y h n).f = h.f ∧ (th2 y h n).k = h.k ∧ ∀ i, hA (th2 y h n) i = hA h i
  | 0 => ⟨rfl, rfl, fun _ => rfl⟩
  | n + 1 => th2_f y h n
theorem th1_A (x y : Hp) (hk : 0 ≤ x.k) {i : Int} (hi : inB i) : ∀ n : Nat, n ≤ 4 → (n : Int) - x.k ≤ 4 → hA (th1 x y n) i = if i < n ∧ i < x.k then hA x i + hA y i else 0
  | 0, _, _ => by
    unfold inB at hi
    rw [if_neg (by omega)]
    exact zero_at i
  | n + 1, h4, h5 => by
    have ih := th1_A x y hk hi n (by omega) (by omega)
    by_cases hn : (n : Int) < x.k
    · rw [th1_add x y n hn, hA_add _ _ (show inB (n : Int) from ⟨by omega, by omega⟩) hi, ih]
      by_cases he : i = n
      · subst he
        rw [if_pos rfl, if_pos (by omega)]
        rfl
      · rw [if_neg he]
        by_cases hin : i < n ∧ i < x.k
        · rw [if_pos hin, if_pos (by omega)]
        · rw [if_neg hin, if_neg (by omega)]
    · rw [(th1_lay x y n (n - x.k) hk (by omega) (by omega)).1, hA_lay, ih]
      by_cases hin : i < n ∧ i < x.k
      · rw [if_pos hin, if_pos (by omega)]
      · rw [if_neg hin, if_neg (by omega)]
theorem th1_T (x y : Hp) (hk : 0 ≤ x.k) {j : Int} (hj : inB j) : ∀ n : Nat, n ≤ 4 → hT (th1 x y n) j = if x.k + j < n then hT x j + hA y (x.k + j) else 0
  | 0, _ => by
    unfold inB at hj
    rw [if_neg (by omega)]
    exact zero_at j
  | n + 1, h4 => by
    have ih := th1_T x y hk hj n (by omega)
    by_cases hn : (n : Int) < x.k
    · rw [th1_add x y n hn, hT_add, ih]
      unfold inB at hj
      rw [if_neg (by omega), if_neg (by omega)]
    · rw [(th1_lay x y n (n - x.k) hk (by omega) (by omega)).1, hT_lay _ _ (show inB ((n : Int) - x.k) from ⟨by omega, by omega⟩) hj, ih]
      by_cases he : j = n - x.k
      · rw [if_pos he, if_pos (by omega), he, show x.k + ((n : Int) - x.k) = n by omega]
        rfl
      · rw [if_neg he]
        by_cases hin : x.k + j < n
        · rw [if_pos hin, if_pos (by omega)]
        · rw [if_neg hin, if_neg (by omega)]
theorem th2_T (y h : Hp) (h0 : 0 ≤ h.l) {j : Int} (hj : inB j) : ∀ m : Nat, h.l + m ≤ 4 → hT (th2 y h m) j = if h.l ≤ j ∧ j < h.l + m then hT y (j - h.l) else hT h j
  | 0, _ => by rw [if_neg (by omega)]; rfl
  | m + 1, h4 => by
    have ih := th2_T y h h0 hj m (by omega)
    rw [th2_lay y h m (h.l + m) (th2_l y h m), hT_lay _ _ (show inB (h.l + (m : Int)) from ⟨by omega, by omega⟩) hj, ih]
    by_cases he : j = h.l + m
    · rw [if_pos he, if_pos (by omega), he, show h.l + (m : Int) - h.l = m by omega]
      rfl
    · rw [if_neg he]
      by_cases hin : h.l ≤ j ∧ j < h.l + m
      · rw [if_pos hin, if_pos (by omega)]
      · rw [if_neg hin, if_neg (by omega)]

/-- The bounds of a right step. -/
theorem hopB_bd {h : Hp} (hh : hopB h = true) : 1 ≤ h.f ∧ h.f ≤ 4 ∧ 0 ≤ h.k ∧ h.k ≤ h.f ∧ 0 ≤ h.l ∧ h.l ≤ 4 ∧ 1 ≤ h.k + h.l ∧ h.k + h.l ≤ 4 := ((hopB_iff h).1 hh).1

section
variable {x y : Hp} (hx : hopB x = true) (hy : hopB y = true) (hg : x.k + x.l = y.f)
include hx hy hg
theorem then_fkl : (thenH x y).f = x.f ∧ (thenH x y).k = imin x.k y.k ∧ (thenH x y).k + (thenH x y).l = y.k + y.l := by
  have bx := hopB_bd hx
  have b := hopB_bd hy
  unfold thenH
  obtain ⟨h1, h2, -⟩ := th2_f y (th1 x y y.k.toNat) y.l.toNat
  obtain ⟨h3, h4⟩ := th1_f x y y.k.toNat
  refine ⟨h1.trans h3, h2.trans h4, ?_⟩
  rw [h2, h4, th2_l, th1_l x y (by omega)]
  unfold imin
  split <;> split <;> omega
theorem then_V {i : Int} (h0 : 0 ≤ i) (h1 : i < y.k + y.l) : atV (thenH x y) i = (if i < y.k then atV x i else 0) + atV y i := by
  have bx := hopB_bd hx
  have b := hopB_bd hy
  have hi : inB i := ⟨h0, by omega⟩
  have hl1 := th1_l x y (by omega) y.k.toNat
  obtain ⟨f1, f2, f3⟩ := th2_f y (th1 x y y.k.toNat) y.l.toNat
  obtain ⟨-, f4⟩ := th1_f x y y.k.toNat
  rw [atV_def, then_fkl hx hy hg |>.2.1]
  have hA1 := th1_A x y (by omega) hi y.k.toNat (by omega) (by omega)
  by_cases hm : i < imin x.k y.k
  · rw [if_pos hm]
    have hm' : i < x.k ∧ i < y.k := by unfold imin at hm; split at hm <;> omega
    show hA (th2 y (th1 x y y.k.toNat) y.l.toNat) i = _
    rw [f3, hA1, if_pos (by omega), if_pos hm'.2, atV_def, atV_def, if_pos hm'.1, if_pos hm'.2]
  · rw [if_neg hm]
    have hmin : imin x.k y.k = x.k ∧ x.k ≤ y.k ∨ imin x.k y.k = y.k ∧ y.k < x.k := by unfold imin; split <;> omega
    have hj : inB (i - imin x.k y.k) := ⟨by omega, by omega⟩
    have hT1 := th1_T x y (by omega) hj y.k.toNat (by omega)
    show hT (th2 y (th1 x y y.k.toNat) y.l.toNat) (i - imin x.k y.k) = _
    rw [th2_T y _ (by rw [hl1]; split <;> omega) hj y.l.toNat (by rw [hl1]; split <;> omega), hl1, hT1]
    rcases hmin with ⟨e, hle⟩ | ⟨e, hle⟩
    · rw [e]
      by_cases hiy : i < y.k
      · have c1 : ¬ ((if (y.k.toNat : Int) ≤ x.k then 0 else (y.k.toNat : Int) - x.k) ≤ i - x.k ∧ i - x.k < (if (y.k.toNat : Int) ≤ x.k then 0 else (y.k.toNat : Int) - x.k) + y.l.toNat) := by split <;> omega
        rw [if_neg c1, if_pos (by omega), if_pos hiy, atV_def, atV_def, if_neg (by omega), if_pos hiy, show x.k + (i - x.k) = i by omega]
      · have c1 : (if (y.k.toNat : Int) ≤ x.k then 0 else (y.k.toNat : Int) - x.k) ≤ i - x.k ∧ i - x.k < (if (y.k.toNat : Int) ≤ x.k then 0 else (y.k.toNat : Int) - x.k) + y.l.toNat := by split <;> omega
        have c2 : i - x.k - (if (y.k.toNat : Int) ≤ x.k then 0 else (y.k.toNat : Int) - x.k) = i - y.k := by split <;> omega
        rw [if_pos c1, c2, if_neg hiy, atV_def y, if_neg hiy, Int.zero_add]
    · rw [e]
      have c1 : (if (y.k.toNat : Int) ≤ x.k then 0 else (y.k.toNat : Int) - x.k) ≤ i - y.k ∧ i - y.k < (if (y.k.toNat : Int) ≤ x.k then 0 else (y.k.toNat : Int) - x.k) + y.l.toNat := by split <;> omega
      have c2 : i - y.k - (if (y.k.toNat : Int) ≤ x.k then 0 else (y.k.toNat : Int) - x.k) = i - y.k := by split <;> omega
      rw [if_pos c1, c2, if_neg (by omega), atV_def y, if_neg (by omega), Int.zero_add]
end

/-- What lies beyond a right step's places is 0. -/
theorem wi_zero {n a b c e : Int} (h : withinB a b c e n = true) {i : Int} (hi : inB i) (hn : n ≤ i) : cAt a b c e i = 0 := by
  simp only [withinB, wiTo, wiAt, Bool.and_eq_true, decide_eq_true_eq] at h
  rcases inB_cases hi with rfl | rfl | rfl | rfl
  · exact h.1.1.1.2.2.2 hn
  · exact h.1.1.2.2.2 hn
  · exact h.1.2.2.2 hn
  · exact h.2.2.2 hn
/-- Two right steps that are the same at each place. -/
theorem hop_ext {x y : Hp} (hx : hopB x = true) (hy : hopB y = true) (hf : x.f = y.f) (hk : x.k = y.k) (hl : x.k + x.l = y.k + y.l) (hv : ∀ i, 0 ≤ i → i < x.k + x.l → atV x i = atV y i) : x = y := by
  have bx := hopB_bd hx
  obtain ⟨-, wx1, wx2⟩ := (hopB_iff x).1 hx
  obtain ⟨-, wy1, wy2⟩ := (hopB_iff y).1 hy
  have hl' : x.l = y.l := by omega
  have hA' : ∀ i, inB i → hA x i = hA y i := by
    intro i hi
    by_cases h : i < x.k
    · have := hv i hi.1 (by omega)
      rwa [atV_def, atV_def, if_pos h, if_pos (by omega)] at this
    · rw [show hA x i = 0 from wi_zero wx1 hi (by omega), show hA y i = 0 from wi_zero wy1 hi (by omega)]
  have hT' : ∀ i, inB i → hT x i = hT y i := by
    intro i hi
    by_cases h : i < x.l
    · have := hv (x.k + i) (by have := hi.1; omega) (by omega)
      have h1 := hi.1
      rwa [atV_def, atV_def, if_neg (by omega), if_neg (by omega), show x.k + i - x.k = i by omega, show x.k + i - y.k = i by omega] at this
    · rw [show hT x i = 0 from wi_zero wx2 hi (by omega), show hT y i = 0 from wi_zero wy2 hi (by omega)]
  have a0 := hA' 0 ⟨by decide, by decide⟩
  have a1 := hA' 1 ⟨by decide, by decide⟩
  have a2 := hA' 2 ⟨by decide, by decide⟩
  have a3 := hA' 3 ⟨by decide, by decide⟩
  have t0 := hT' 0 ⟨by decide, by decide⟩
  have t1 := hT' 1 ⟨by decide, by decide⟩
  have t2 := hT' 2 ⟨by decide, by decide⟩
  have t3 := hT' 3 ⟨by decide, by decide⟩
  obtain ⟨f, k, l, a, b, c, e, p, q, r, s⟩ := x
  obtain ⟨f', k', l', a', b', c', e', p', q', r', s'⟩ := y
  simp only at hf hk hl'
  change a = a' at a0
  change b = b' at a1
  change c = c' at a2
  change e = e' at a3
  change p = p' at t0
  change q = q' at t1
  change r = r' at t2
  change s = s' at t3
  subst hf hk hl' a0 a1 a2 a3 t0 t1 t2 t3
  rfl

/-- In what grouping three steps are put together is one. -/
theorem then_assoc {a b c : Hp} (h1 : thOk a b = true) (h2 : thOk b c = true) (h3 : thOk (thR a b) c = true) (h4 : thOk a (thR b c) = true) : thR (thR a b) c = thR a (thR b c) := by
  have e1 : thR a b = thenH a b := if_pos h1
  have e2 : thR b c = thenH b c := if_pos h2
  rw [e1] at h3 ⊢
  rw [e2] at h4 ⊢
  have e3 : thR (thenH a b) c = thenH (thenH a b) c := if_pos h3
  have e4 : thR a (thenH b c) = thenH a (thenH b c) := if_pos h4
  rw [e3, e4]
  simp only [thOk, Bool.and_eq_true, decide_eq_true_eq] at h1 h2 h3 h4
  obtain ⟨⟨⟨ha, hb⟩, hab⟩, hAB⟩ := h1
  obtain ⟨⟨⟨-, hc⟩, hbc⟩, hBC⟩ := h2
  obtain ⟨⟨⟨-, -⟩, hABc⟩, hL⟩ := h3
  obtain ⟨⟨⟨-, -⟩, haBC⟩, hR⟩ := h4
  obtain ⟨f1, k1, l1⟩ := then_fkl ha hb hab
  obtain ⟨f2, k2, l2⟩ := then_fkl hb hc hbc
  obtain ⟨f3, k3, l3⟩ := then_fkl hAB hc hABc
  obtain ⟨f4, k4, l4⟩ := then_fkl ha hBC haBC
  have bc := hopB_bd hc
  have bb := hopB_bd hb
  refine hop_ext hL hR (by rw [f3, f1, f4]) ?_ (by rw [l3, l4, l2]) fun i i0 i1 => ?_
  · rw [k3, k4, k1, k2]
    unfold imin
    repeat' split
    all_goals omega
  · rw [l3] at i1
    rw [then_V hAB hc hABc i0 i1, then_V ha hBC haBC i0 (by omega), then_V hb hc hbc i0 i1, k2]
    by_cases hi : i < c.k
    · rw [if_pos hi, if_pos hi, then_V ha hb hab i0 (by omega)]
      by_cases hj : i < b.k
      · rw [if_pos hj, if_pos (by unfold imin; split <;> omega)]
        omega
      · rw [if_neg hj, if_neg (by unfold imin; split <;> omega)]
        omega
    · rw [if_neg hi, if_neg hi, if_neg (by unfold imin; split <;> omega)]
      omega

theorem apC_V {h : Hp} (hh : hopB h = true) (t : Tm) (i : Int) : apC h t i = if i < h.k + h.l then (if i < h.k then cAt t.a t.b t.c t.e i else 0) + atV h i else 0 := by
  have b := hopB_bd hh
  unfold apC atV
  split
  · rw [if_pos (by omega)]
  · split <;> simp
theorem cAt_apT (h : Hp) (t : Tm) {i : Int} (hi : inB i) : cAt (apT h t).a (apT h t).b (apT h t).c (apT h t).e i = apC h t i := by
  rcases inB_cases hi with rfl | rfl | rfl | rfl <;> rfl
/-- Two steps put together do what they do one behind the other. -/
theorem then_apply {a b : Hp} {t : Tm} (h1 : thOk a b = true) (h2 : apOk a t = true) : apOk b (apR a t) = apOk (thR a b) t ∧ apR b (apR a t) = apR (thR a b) t := by
  have e1 : thR a b = thenH a b := if_pos h1
  have e2 : apR a t = apT a t := if_pos h2
  rw [e1, e2]
  simp only [thOk, Bool.and_eq_true, decide_eq_true_eq] at h1
  simp only [apOk, Bool.and_eq_true, decide_eq_true_eq] at h2
  obtain ⟨⟨⟨ha, hb⟩, hab⟩, hAB⟩ := h1
  obtain ⟨⟨⟨-, ht⟩, hd⟩, hx⟩ := h2
  obtain ⟨f1, k1, l1⟩ := then_fkl ha hb hab
  have ba := hopB_bd ha
  have bb := hopB_bd hb
  have hC : ∀ i, inB i → apC b (apT a t) i = apC (thenH a b) t i := by
    intro i hi
    rw [apC_V hb, apC_V hAB, l1, k1]
    by_cases h : i < b.k + b.l
    · rw [if_pos h, if_pos h, then_V ha hb hab hi.1 h, cAt_apT a t hi, apC_V ha]
      by_cases hk : i < b.k
      · rw [if_pos hk, if_pos hk, if_pos (by omega)]
        have : (i < imin a.k b.k) ↔ i < a.k := by unfold imin; split <;> omega
        simp only [this]
        omega
      · rw [if_neg hk, if_neg hk, if_neg (by unfold imin; split <;> omega)]
        omega
    · rw [if_neg h, if_neg h]
  have hT : apT b (apT a t) = apT (thenH a b) t := by
    unfold apT at hC ⊢
    rw [hC 0 ⟨by decide, by decide⟩, hC 1 ⟨by decide, by decide⟩, hC 2 ⟨by decide, by decide⟩, hC 3 ⟨by decide, by decide⟩, l1]
  have hok : apOk b (apT a t) = apOk (thenH a b) t := by
    unfold apOk
    rw [hT, hb, hx, hAB, ht, f1, hd]
    have : (apT a t).d = b.f := hab
    rw [this]
    simp
  refine ⟨hok, ?_⟩
  unfold apR
  rw [hok, hT]
end Go.Proofs.Ytkmgdejpdhlleaa
