/- Steps by their places: put together, done, ordered. Plain. -/
import Derived.Test.YtkmgdejpdhlleaaHop9
import Derived.Test.YtkmgdejpdhlleaaHop4
import Derived.Test.YtkmgdejpdhlleaaTsLaw
namespace Go.Proofs.Ytkmgdejpdhlleaa
set_option linter.unusedSimpArgs false
set_option linter.unusedVariables false
set_option maxRecDepth 100000
open Go.RowKit

def inB (i : Int) : Prop := 0 ≤ i ∧ i ≤ 3
theorem inB_cases {i : Int} (h : inB i) : i = 0 ∨ i = 1 ∨ i = 2 ∨ i = 3 := by unfold inB at h; omega
def hA (h : Hp) (i : Int) : Int := cAt h.a h.b h.c h.e i
def hT (h : Hp) (i : Int) : Int := cAt h.p h.q h.r h.s i
theorem atV_def (h : Hp) (i : Int) : atV h i = if i < h.k then hA h i else hT h (i - h.k) := rfl
theorem hA_add (h : Hp) (v : Int) {i j : Int} (hi : inB i) (hj : inB j) : hA (addAt h i v) j = if j = i then v else hA h j := by
  rcases inB_cases hi with rfl | rfl | rfl | rfl <;> rcases inB_cases hj with rfl | rfl | rfl | rfl <;> simp [hA, addAt, cAt]
theorem hT_add (h : Hp) (v i j : Int) : hT (addAt h i v) j = hT h j := rfl
theorem hA_lay (h : Hp) (v i j : Int) : hA (layAt h i v) j = hA h j := rfl
theorem hT_lay (h : Hp) (v : Int) {i j : Int} (hi : inB i) (hj : inB j) : hT (layAt h i v) j = if j = i then v else hT h j := by
  rcases inB_cases hi with rfl | rfl | rfl | rfl <;> rcases inB_cases hj with rfl | rfl | rfl | rfl <;> simp [hT, layAt, cAt]
theorem zero_at (i : Int) : cAt 0 0 0 0 i = 0 := by simp [cAt]

theorem th1_f (x y : Hp) : ∀ n, (th1 x y n).f = x.f ∧ (th1 x y n).k = imin x.k y.k
  | 0 => ⟨rfl, rfl⟩
  | n + 1 => by
    have ih := th1_f x y n
    unfold th1
    split
    · exact ih
    · exact ih
theorem th2_f (y h : Hp) : ∀ n, (th2 y h n).f = h.f ∧ (th2 y h n).k = h.k ∧ ∀ i, hA (th2 y h n) i = hA h i
  | 0 => ⟨rfl, rfl, fun _ => rfl⟩
  | n + 1 => th2_f y h n
theorem th1_A (x y : Hp) (hk : 0 ≤ x.k) {i : Int} (hi : inB i) : ∀ n : Nat, n ≤ 4 → (n : Int) - x.k ≤ 4 → hA (th1 x y n) i = if i < n ∧ i < x.k then hA x i + hA y i else 0
  | 0, _, _ => by
    unfold inB at hi
    rw [if_neg (by omega)]
    exact zero_at i
  | n + 1, h4, h5 => by
    have ih := th1_A x y hk hi n (by omega) (by omega)
    by_cases hn : (n : Int) < x.k
    · rw [th1_add x y n hn, hA_add _ _ (show inB (n : Int) from ⟨by omega, by omega⟩) hi, ih]
      by_cases he : i = n
      · subst he
        rw [if_pos rfl, if_pos (by omega)]
        rfl
      · rw [if_neg he]
        by_cases hin : i < n ∧ i < x.k
        · rw [if_pos hin, if_pos (by omega)]
        · rw [if_neg hin, if_neg (by omega)]
    · rw [(th1_lay x y n (n - x.k) hk (by omega) (by omega)).1, hA_lay, ih]
      by_cases hin : i < n ∧ i < x.k
      · rw [if_pos hin, if_pos (by omega)]
      · rw [if_neg hin, if_neg (by omega)]
theorem th1_T (x y : Hp) (hk : 0 ≤ x.k) {j : Int} (hj : inB j) : ∀ n : Nat, n ≤ 4 → hT (th1 x y n) j = if x.k + j < n then hT x j + hA y (x.k + j) else 0
  | 0, _ => by
    unfold inB at hj
    rw [if_neg (by omega)]
    exact zero_at j
  | n + 1, h4 => by
    have ih := th1_T x y hk hj n (by omega)
    by_cases hn : (n : Int) < x.k
    · rw [th1_add x y n hn, hT_add, ih]
      unfold inB at hj
      rw [if_neg (by omega), if_neg (by omega)]
    · rw [(th1_lay x y n (n - x.k) hk (by omega) (by omega)).1, hT_lay _ _ (show inB ((n : Int) - x.k) from ⟨by omega, by omega⟩) hj, ih]
      by_cases he : j = n - x.k
      · rw [if_pos he, if_pos (by omega), he, show x.k + ((n : Int) - x.k) = n by omega]
        rfl
      · rw [if_neg he]
        by_cases hin : x.k + j < n
        · rw [if_pos hin, if_pos (by omega)]
        · rw [if_neg hin, if_neg (by omega)]
theorem th2_T (y h : Hp) (h0 : 0 ≤ h.l) {j : Int} (hj : inB j) : ∀ m : Nat, h.l + m ≤ 4 → hT (th2 y h m) j = if h.l ≤ j ∧ j < h.l + m then hT y (j - h.l) else hT h j
  | 0, _ => by rw [if_neg (by omega)]; rfl
  | m + 1, h4 => by
    have ih := th2_T y h h0 hj m (by omega)
    rw [th2_lay y h m (h.l + m) (th2_l y h m), hT_lay _ _ (show inB (h.l + (m : Int)) from ⟨by omega, by omega⟩) hj, ih]
    by_cases he : j = h.l + m
    · rw [if_pos he, if_pos (by omega), he, show h.l + (m : Int) - h.l = m by omega]
      rfl
    · rw [if_neg he]
      by_cases hin : h.l ≤ j ∧ j < h.l + m
      · rw [if_pos hin, if_pos (by omega)]
      · rw [if_neg hin, if_neg (by omega)]

/-- The bounds of a right step. -/
theorem hopB_bd {h : Hp} (hh : hopB h = true) : 1 ≤ h.f ∧ h.f ≤ 4 ∧ 0 ≤ h.k ∧ h.k ≤ h.f ∧ 0 ≤ h.l ∧ h.l ≤ 4 ∧ 1 ≤ h.k + h.l ∧ h.k + h.l ≤ 4 := ((hopB_iff h).1 hh).1

section
variable {x y : Hp} (hx : hopB x = true) (hy : hopB y = true) (hg : x.k + x.l = y.f)
include hx hy hg
theorem then_fkl : (thenH x y).f = x.f ∧ (thenH x y).k = imin x.k y.k ∧ (thenH x y).k + (thenH x y).l = y.k + y.l := by
  have bx := hopB_bd hx
  have b := hopB_bd hy
  unfold thenH
  obtain ⟨h1, h2, -⟩ := th2_f y (th1 x y y.k.toNat) y.l.toNat
  obtain ⟨h3, h4⟩ := th1_f x y y.k.toNat
  refine ⟨h1.trans h3, h2.trans h4, ?_⟩
  rw [h2, h4, th2_l, th1_l x y (by omega)]
  unfold imin
  split <;> split <;> omega
theorem then_V {i : Int} (h0 : 0 ≤ i) (h1 : i < y.k + y.l) : atV (thenH x y) i = (if i < y.k then atV x i else 0) + atV y i := by
  have bx := hopB_bd hx
  have b := hopB_bd hy
  have hi : inB i := ⟨h0, by omega⟩
  have hl1 := th1_l x y (by omega) y.k.toNat
  obtain ⟨f1, f2, f3⟩ := th2_f y (th1 x y y.k.toNat) y.l.toNat
  obtain ⟨-, f4⟩ := th1_f x y y.k.toNat
  rw [atV_def, then_fkl hx hy hg |>.2.1]
  have hA1 := th1_A x y (by omega) hi y.k.toNat (by omega) (by omega)
  by_cases hm : i < imin x.k y.k
  · rw [if_pos hm]
    have hm' : i < x.k ∧ i < y.k := by unfold imin at hm; split at hm <;> omega
    show hA (th2 y (th1 x y y.k.toNat) y.l.toNat) i = _
    rw [f3, hA1, if_pos (by omega), if_pos hm'.2, atV_def, atV_def, if_pos hm'.1, if_pos hm'.2]
  · rw [if_neg hm]
    have hmin : imin x.k y.k = x.k ∧ x.k ≤ y.k ∨ imin x.k y.k = y.k ∧ y.k < x.k := by unfold imin; split <;> omega
    have hj : inB (i - imin x.k y.k) := ⟨by omega, by omega⟩
    have hT1 := th1_T x y (by omega) hj y.k.toNat (by omega)
    show hT (th2 y (th1 x y y.k.toNat) y.l.toNat) (i - imin x.k y.k) = _
    rw [th2_T y _ (by rw [hl1]; split <;> omega) hj y.l.toNat (by rw [hl1]; split <;> omega), hl1, hT1]
    rcases hmin with ⟨e, hle⟩ | ⟨e, hle⟩
    · rw [e]
      by_cases hiy : i < y.k
      · have c1 : ¬ ((if (y.k.toNat : Int) ≤ x.k then 0 else (y.k.toNat : Int) - x.k) ≤ i - x.k ∧ i - x.k < (if (y.k.toNat : Int) ≤ x.k then 0 else (y.k.toNat : Int) - x.k) + y.l.toNat) := by split <;> omega
        rw [if_neg c1, if_pos (by omega), if_pos hiy, atV_def, atV_def, if_neg (by omega), if_pos hiy, show x.k + (i - x.k) = i by omega]
      · have c1 : (if (y.k.toNat : Int) ≤ x.k then 0 else (y.k.toNat : Int) - x.k) ≤ i - x.k ∧ i - x.k < (if (y.k.toNat : Int) ≤ x.k then 0 else (y.k.toNat : Int) - x.k) + y.l.toNat := by split <;> omega
        have c2 : i - x.k - (if (y.k.toNat : Int) ≤ x.k then 0 else (y.k.toNat : Int) - x.k) = i - y.k := by split <;> omega
        rw [if_pos c1, c2, if_neg hiy, atV_def y, if_neg hiy, Int.zero_add]
    · rw [e]
      have c1 : (if (y.k.toNat : Int) ≤ x.k then 0 else (y.k.toNat : Int) - x.k) ≤ i - y.k ∧ i - y.k < (if (y.k.toNat : Int) ≤ x.k then 0 else (y.k.toNat : Int) - x.k) + y.l.toNat := by split <;> omega
      have c2 : i - y.k - (if (y.k.toNat : Int) ≤ x.k then 0 else (y.k.toNat : Int) - x.k) = i - y.k := by split <;> omega
      rw [if_pos c1, c2, if_neg (by omega), atV_def y, if_neg (by omega), Int.zero_add]
end

/-- What lies beyond a right step's places is 0. -/
theorem wi_zero {n a b c e : Int} (h : withinB a b c e n = true) {i : Int} (hi : inB i) (hn : n ≤ i) : cAt a b c e i = 0 := by
  simp only [withinB, wiTo, wiAt, Bool.and_eq_true, decide_eq_true_eq] at h
  rcases inB_cases hi with rfl | rfl | rfl | rfl
  · exact h.1.1.1.2.2.2 hn
  · exact h.1.1.2.2.2 hn
  · exact h.1.2.2.2 hn
  · exact h.2.2.2 hn
/-- Two right steps that are the same at each place. -/
theorem hop_ext {x y : Hp} (hx : hopB x = true) (hy : hopB y = true) (hf : x.f = y.f) (hk : x.k = y.k) (hl : x.k + x.l = y.k + y.l) (hv : ∀ i, 0 ≤ i → i < x.k + x.l → atV x i = atV y i) : x = y := by
  have bx := hopB_bd hx
  obtain ⟨-, wx1, wx2⟩ := (hopB_iff x).1 hx
  obtain ⟨-, wy1, wy2⟩ := (hopB_iff y).1 hy
  have hl' : x.l = y.l := by omega
  have hA' : ∀ i, inB i → hA x i = hA y i := by
    intro i hi
    by_cases h : i < x.k
    · have := hv i hi.1 (by omega)
      rwa [atV_def, atV_def, if_pos h, if_pos (by omega)] at this
    · rw [show hA x i = 0 from wi_zero wx1 hi (by omega), show hA y i = 0 from wi_zero wy1 hi (by omega)]
  have hT' : ∀ i, inB i → hT x i = hT y i := by
    intro i hi
    by_cases h : i < x.l
    · have := hv (x.k + i) (by have := hi.1; omega) (by omega)
      have h1 := hi.1
      rwa [atV_def, atV_def, if_neg (by omega), if_neg (by omega), show x.k + i - x.k = i by omega, show x.k + i - y.k = i by omega] at this
    · rw [show hT x i = 0 from wi_zero wx2 hi (by omega), show hT y i = 0 from wi_zero wy2 hi (by omega)]
  have a0 := hA' 0 ⟨by decide, by decide⟩
  have a1 := hA' 1 ⟨by decide, by decide⟩
  have a2 := hA' 2 ⟨by decide, by decide⟩
  have a3 := hA' 3 ⟨by decide, by decide⟩
  have t0 := hT' 0 ⟨by decide, by decide⟩
  have t1 := hT' 1 ⟨by decide, by decide⟩
  have t2 := hT' 2 ⟨by decide, by decide⟩
  have t3 := hT' 3 ⟨by decide, by decide⟩
  obtain ⟨f, k, l, a, b, c, e, p, q, r, s⟩ := x
  obtain ⟨f', k', l', a', b', c', e', p', q', r', s'⟩ := y
  simp only at hf hk hl'
  change a = a' at a0
  change b = b' at a1
  change c = c' at a2
  change e = e' at a3
  change p = p' at t0
  change q = q' at t1
  change r = r' at t2
  change s = s' at t3
  subst hf hk hl' a0 a1 a2 a3 t0 t1 t2 t3
  rfl

theorem leTo_iff (x y : Hp) : ∀ n : Nat, leTo x y n = true ↔ ∀ i : Nat, i < n → okH x y i = true
  | 0 => by simp [leTo]
  | n + 1 => by
    rw [leTo, Bool.and_eq_true, leTo_iff x y n]
    constructor
    · rintro ⟨h1, h2⟩ i hi
      by_cases he : i = n
      · exact he ▸ h2
      · exact h1 i (by omega)
    · intro h
      exact ⟨fun i hi => h i (by omega), h n (by omega)⟩
theorem okH_iff (x y : Hp) (i : Int) : okH x y i = true ↔ (i < x.k → i < y.k) ∧ atV x i ≤ atV y i := by
  unfold okH
  by_cases h1 : i < x.k <;> by_cases h2 : i < y.k <;> simp [h1, h2]
theorem leH_iff (x y : Hp) : leHB x y = true ↔ hopB x = true ∧ hopB y = true ∧ x.f = y.f ∧ x.k + x.l = y.k + y.l ∧ ∀ i, 0 ≤ i → i < x.k + x.l → (i < x.k → i < y.k) ∧ atV x i ≤ atV y i := by
  simp only [leHB, Bool.and_eq_true, decide_eq_true_eq]
  constructor
  · rintro ⟨⟨⟨⟨h1, h2⟩, h3⟩, h4⟩, h5⟩
    refine ⟨h1, h2, h3, h4, fun i i0 i1 => ?_⟩
    obtain ⟨n, rfl⟩ := Int.eq_ofNat_of_zero_le i0
    exact (okH_iff x y n).1 ((leTo_iff x y _).1 h5 n (by omega))
  · rintro ⟨h1, h2, h3, h4, h5⟩
    refine ⟨⟨⟨⟨h1, h2⟩, h3⟩, h4⟩, (leTo_iff x y _).2 fun i hi => (okH_iff x y i).2 (h5 i (by omega) (by omega))⟩
theorem leH_refl {x : Hp} (h : hopB x = true) : leHB x x = true := (leH_iff x x).2 ⟨h, h, rfl, rfl, fun _ _ _ => ⟨id, by omega⟩⟩

theorem four {P : Int → Prop} : (∀ i, inB i → P i) ↔ P 0 ∧ P 1 ∧ P 2 ∧ P 3 := by
  constructor
  · intro h
    exact ⟨h 0 ⟨by decide, by decide⟩, h 1 ⟨by decide, by decide⟩, h 2 ⟨by decide, by decide⟩, h 3 ⟨by decide, by decide⟩⟩
  · rintro ⟨h0, h1, h2, h3⟩ i hi
    rcases inB_cases hi with rfl | rfl | rfl | rfl <;> assumption
theorem V_pos {h : Hp} (hh : hopB h = true) {i : Int} (i0 : 0 ≤ i) (i1 : i < h.k + h.l) : 0 ≤ atV h i := by
  have b := hopB_bd hh
  obtain ⟨-, w1, w2⟩ := (hopB_iff h).1 hh
  rw [atV_def]
  split
  · exact (wi_bd w1 i (by omega)).1
  · exact (wi_bd w2 (i - h.k) (by omega)).1
theorem leH_anti {a b : Hp} (h1 : leHB a b = true) (h2 : leHB b a = true) (hk : a.k = b.k) : a = b := by
  obtain ⟨ha, hb, hf, hg, hv⟩ := (leH_iff a b).1 h1
  obtain ⟨-, -, -, -, hv2⟩ := (leH_iff b a).1 h2
  refine hop_ext ha hb hf hk hg fun i i0 i1 => ?_
  have := (hv i i0 i1).2
  have := (hv2 i i0 (by omega)).2
  omega
end Go.Proofs.Ytkmgdejpdhlleaa
