/- The orders of steps and of timestamps. Plain Lean. -/
import Derived.Test.YtkmgdejpdhlleaaHopLaw
import Derived.Test.YtkmgdejpdhlleaaTsLaw
namespace Go.Proofs.Ytkmgdejpdhlleaa
set_option linter.unusedSimpArgs false
set_option linter.unusedVariables false
set_option maxRecDepth 100000

theorem leTo_iff (x y : Hp) : ∀ n : Nat, leTo x y n = true ↔ ∀ i : Nat, i < n → okH x y i = true
  | 0 => by simp [leTo]
  | n + 1 => by
    rw [leTo, Bool.and_eq_true, leTo_iff x y n]
    constructor
    · rintro ⟨h1, h2⟩ i hi
      by_cases he : i = n
      · exact he ▸ h2
      · exact h1 i (by omega)
    · intro h
      exact ⟨fun i hi => h i (by omega), h n (by omega)⟩
theorem okH_iff (x y : Hp) (i : Int) : okH x y i = true ↔ (i < x.k → i < y.k) ∧ atV x i ≤ atV y i := by
  unfold okH
  by_cases h1 : i < x.k <;> by_cases h2 : i < y.k <;> simp [h1, h2]
theorem leH_iff (x y : Hp) : leHB x y = true ↔ hopB x = true ∧ hopB y = true ∧ x.f = y.f ∧ x.k + x.l = y.k + y.l ∧ ∀ i, 0 ≤ i → i < x.k + x.l → (i < x.k → i < y.k) ∧ atV x i ≤ atV y i := by
  simp only [leHB, Bool.and_eq_true, decide_eq_true_eq]
  constructor
  · rintro ⟨⟨⟨⟨h1, h2⟩, h3⟩, h4⟩, h5⟩
    refine ⟨h1, h2, h3, h4, fun i i0 i1 => ?_⟩
    obtain ⟨n, rfl⟩ := Int.eq_ofNat_of_zero_le i0
    exact (okH_iff x y n).1 ((leTo_iff x y _).1 h5 n (by omega))
  · rintro ⟨h1, h2, h3, h4, h5⟩
    refine ⟨⟨⟨⟨h1, h2⟩, h3⟩, h4⟩, (leTo_iff x y _).2 fun i hi => (okH_iff x y i).2 (h5 i (by omega) (by omega))⟩
theorem leH_refl {x : Hp} (h : hopB x = true) : leHB x x = true := (leH_iff x x).2 ⟨h, h, rfl, rfl, fun _ _ _ => ⟨id, by omega⟩⟩

/-- A timestamp's coordinates. -/
def tC (t : Tm) (i : Int) : Int := cAt t.a t.b t.c t.e i
theorem four {P : Int → Prop} : (∀ i, inB i → P i) ↔ P 0 ∧ P 1 ∧ P 2 ∧ P 3 := by
  constructor
  · intro h
    exact ⟨h 0 ⟨by decide, by decide⟩, h 1 ⟨by decide, by decide⟩, h 2 ⟨by decide, by decide⟩, h 3 ⟨by decide, by decide⟩⟩
  · rintro ⟨h0, h1, h2, h3⟩ i hi
    rcases inB_cases hi with rfl | rfl | rfl | rfl <;> assumption
theorem rightB_C (t : Tm) : rightB t = true ↔ (1 ≤ t.d ∧ t.d ≤ 4) ∧ ∀ i, inB i → okAt t.d (tC t i) i = true := by
  rw [four (P := fun i => okAt t.d (tC t i) i = true)]
  simp only [rightB, okTo, Bool.and_eq_true, decide_eq_true_eq]
  constructor
  · rintro ⟨h, ⟨⟨⟨-, h0⟩, h1⟩, h2⟩, h3⟩
    exact ⟨h, h0, h1, h2, h3⟩
  · rintro ⟨h, h0, h1, h2, h3⟩
    exact ⟨h, ⟨⟨⟨trivial, h0⟩, h1⟩, h2⟩, h3⟩
theorem leB_C (s t : Tm) : leB s t = true ↔ rightB s = true ∧ rightB t = true ∧ s.d = t.d ∧ ∀ i, inB i → tC s i ≤ tC t i := by
  rw [leB_iff, four (P := fun i => tC s i ≤ tC t i)]
  rfl
theorem okAt_le {d x y i : Int} (h : okAt d y i = true) (h0 : 0 ≤ x) (h1 : x ≤ y) : okAt d x i = true := by
  simp only [okAt, decide_eq_true_eq] at h ⊢
  obtain ⟨h2, h3, h4⟩ := h
  exact ⟨h0, fun hk => by have := h3 hk; omega, fun hk => by have := h4 hk; omega⟩
theorem rightB_le {s t : Tm} (h : rightB t = true) (hd : s.d = t.d) (hc : ∀ i, inB i → 0 ≤ tC s i ∧ tC s i ≤ tC t i) : rightB s = true := by
  rw [rightB_C] at h ⊢
  rw [hd]
  exact ⟨h.1, fun i hi => okAt_le (h.2 i hi) (hc i hi).1 (hc i hi).2⟩
theorem tC_pos {t : Tm} (h : rightB t = true) {i : Int} (hi : inB i) : 0 ≤ tC t i := (tm_bd (d := t.d) h i (inB_cases hi)).1
theorem tC_ap (h : Hp) (t : Tm) {i : Int} (hi : inB i) : tC (apT h t) i = apC h t i := cAt_apT h t hi
theorem V_pos {h : Hp} (hh : hopB h = true) {i : Int} (i0 : 0 ≤ i) (i1 : i < h.k + h.l) : 0 ≤ atV h i := by
  have b := hopB_bd hh
  obtain ⟨-, w1, w2⟩ := (hopB_iff h).1 hh
  rw [atV_def]
  split
  · exact (wi_bd w1 i (by omega)).1
  · exact (wi_bd w2 (i - h.k) (by omega)).1
theorem apC_pos {h : Hp} (hh : hopB h = true) {t : Tm} (ht : rightB t = true) {i : Int} (hi : inB i) : 0 ≤ apC h t i := by
  rw [apC_V hh]
  split
  · rename_i h1
    have := V_pos hh hi.1 h1
    have h2 := tC_pos ht hi
    unfold tC at h2
    split <;> omega
  · omega
/-- A step keeps the order of timestamps. -/
theorem ap_keeps {a : Hp} {t u : Tm} (h : leB t u = true) (hu : apOk a u = true) : apOk a t = true ∧ leB (apR a t) (apR a u) = true := by
  obtain ⟨ht, -, hd, hc⟩ := (leB_C t u).1 h
  have e2 : apR a u = apT a u := if_pos hu
  simp only [apOk, Bool.and_eq_true, decide_eq_true_eq] at hu
  obtain ⟨⟨⟨ha, hu1⟩, hu2⟩, hu3⟩ := hu
  have hle : ∀ i, inB i → tC (apT a t) i ≤ tC (apT a u) i := by
    intro i hi
    rw [tC_ap _ _ hi, tC_ap _ _ hi, apC_V ha, apC_V ha]
    have := hc i hi
    unfold tC at this
    repeat' split
    all_goals omega
  have hr : rightB (apT a t) = true := rightB_le hu3 rfl fun i hi => ⟨by rw [tC_ap _ _ hi]; exact apC_pos ha ht hi, hle i hi⟩
  have hok : apOk a t = true := by simp [apOk, ha, ht, hd, hu2, hr]
  refine ⟨hok, ?_⟩
  rw [show apR a t = apT a t from if_pos hok, e2]
  exact (leB_C _ _).2 ⟨hr, hu3, rfl, hle⟩
theorem then_keeps_l {a b c : Hp} (h : leHB a b = true) (h1 : thOk a c = true) (h2 : thOk b c = true) : leHB (thR a c) (thR b c) = true := by
  obtain ⟨-, -, hf, hg, hv⟩ := (leH_iff a b).1 h
  rw [show thR a c = thenH a c from if_pos h1, show thR b c = thenH b c from if_pos h2]
  simp only [thOk, Bool.and_eq_true, decide_eq_true_eq] at h1 h2
  obtain ⟨⟨⟨ha, hc⟩, hac⟩, hAC⟩ := h1
  obtain ⟨⟨⟨hb, -⟩, hbc⟩, hBC⟩ := h2
  have bc := hopB_bd hc
  obtain ⟨f1, k1, l1⟩ := then_fkl ha hc hac
  obtain ⟨f2, k2, l2⟩ := then_fkl hb hc hbc
  refine (leH_iff _ _).2 ⟨hAC, hBC, by rw [f1, f2, hf], by rw [l1, l2], fun i i0 i1 => ?_⟩
  rw [l1] at i1
  rw [k1, k2, then_V ha hc hac i0 i1, then_V hb hc hbc i0 i1]
  constructor
  · intro hi
    have hi' : i < a.k ∧ i < c.k := by unfold imin at hi; split at hi <;> omega
    have := (hv i i0 (by omega)).1 hi'.1
    unfold imin
    split <;> omega
  · by_cases hk : i < c.k
    · have := (hv i i0 (by omega)).2
      rw [if_pos hk, if_pos hk]
      omega
    · rw [if_neg hk, if_neg hk]
      omega
theorem then_keeps_r {a b c : Hp} (h : leHB a b = true) (h1 : thOk c a = true) (h2 : thOk c b = true) : leHB (thR c a) (thR c b) = true := by
  obtain ⟨-, -, hf, hg, hv⟩ := (leH_iff a b).1 h
  rw [show thR c a = thenH c a from if_pos h1, show thR c b = thenH c b from if_pos h2]
  simp only [thOk, Bool.and_eq_true, decide_eq_true_eq] at h1 h2
  obtain ⟨⟨⟨hc, ha⟩, hca⟩, hCA⟩ := h1
  obtain ⟨⟨⟨-, hb⟩, hcb⟩, hCB⟩ := h2
  have ba := hopB_bd ha
  have bb := hopB_bd hb
  have bc := hopB_bd hc
  obtain ⟨f1, k1, l1⟩ := then_fkl hc ha hca
  obtain ⟨f2, k2, l2⟩ := then_fkl hc hb hcb
  refine (leH_iff _ _).2 ⟨hCA, hCB, by rw [f1, f2], by rw [l1, l2, hg], fun i i0 i1 => ?_⟩
  rw [l1] at i1
  rw [k1, k2, then_V hc ha hca i0 i1, then_V hc hb hcb i0 (by omega)]
  obtain ⟨v1, v2⟩ := hv i i0 i1
  constructor
  · intro hi
    have hi' : i < c.k ∧ i < a.k := by unfold imin at hi; split at hi <;> omega
    have := v1 hi'.2
    unfold imin
    split <;> omega
  · by_cases hk : i < a.k
    · rw [if_pos hk, if_pos (v1 hk)]
      omega
    · rw [if_neg hk]
      by_cases hk2 : i < b.k
      · rw [if_pos hk2]
        have := V_pos hc i0 (show i < c.k + c.l by omega)
        omega
      · rw [if_neg hk2]
        omega
/-- Of two steps in the order, so are what they make of a timestamp. -/
theorem ap_order {a b : Hp} {t : Tm} (h : leHB a b = true) (h1 : apOk a t = true) (h2 : apOk b t = true) : leB (apR a t) (apR b t) = true := by
  obtain ⟨-, -, hf, hg, hv⟩ := (leH_iff a b).1 h
  rw [show apR a t = apT a t from if_pos h1, show apR b t = apT b t from if_pos h2]
  simp only [apOk, Bool.and_eq_true, decide_eq_true_eq] at h1 h2
  obtain ⟨⟨⟨ha, ht⟩, hd⟩, hA⟩ := h1
  obtain ⟨⟨⟨hb, -⟩, hd2⟩, hB⟩ := h2
  refine (leB_C _ _).2 ⟨hA, hB, hg, fun i hi => ?_⟩
  rw [tC_ap _ _ hi, tC_ap _ _ hi, apC_V ha, apC_V hb, ← hg]
  have h0 := tC_pos ht hi
  unfold tC at h0
  by_cases hk : i < a.k + a.l
  · rw [if_pos hk, if_pos hk]
    obtain ⟨v1, v2⟩ := hv i hi.1 hk
    by_cases hka : i < a.k
    · rw [if_pos hka, if_pos (v1 hka)]; omega
    · rw [if_neg hka]
      split <;> omega
  · rw [if_neg hk, if_neg hk]
    omega
theorem leH_anti {a b : Hp} (h1 : leHB a b = true) (h2 : leHB b a = true) (hk : a.k = b.k) : a = b := by
  obtain ⟨ha, hb, hf, hg, hv⟩ := (leH_iff a b).1 h1
  obtain ⟨-, -, -, -, hv2⟩ := (leH_iff b a).1 h2
  refine hop_ext ha hb hf hk hg fun i i0 i1 => ?_
  have := (hv i i0 i1).2
  have := (hv2 i i0 (by omega)).2
  omega
theorem leH_zero {a b : Hp} (ha : hopB a = true) (hb : hopB b = true) (hf : a.f = b.f) (hk : a.k = b.k) (h1 : apOk a ⟨a.f, 0, 0, 0, 0⟩ = true) (h2 : apOk b ⟨a.f, 0, 0, 0, 0⟩ = true) : leHB a b = leB (apR a ⟨a.f, 0, 0, 0, 0⟩) (apR b ⟨a.f, 0, 0, 0, 0⟩) := by
  rw [show apR a ⟨a.f, 0, 0, 0, 0⟩ = apT a ⟨a.f, 0, 0, 0, 0⟩ from if_pos h1, show apR b ⟨a.f, 0, 0, 0, 0⟩ = apT b ⟨a.f, 0, 0, 0, 0⟩ from if_pos h2]
  simp only [apOk, Bool.and_eq_true, decide_eq_true_eq] at h1 h2
  have hA := h1.2
  have hB := h2.2
  have ba := hopB_bd ha
  rw [Bool.eq_iff_iff, leH_iff, leB_C]
  have hc : ∀ i, inB i → tC (apT a ⟨a.f, 0, 0, 0, 0⟩) i = if i < a.k + a.l then atV a i else 0 := by
    intro i hi
    rw [tC_ap _ _ hi, apC_V ha]
    simp only [zero_at]
    split <;> simp
  have hc2 : ∀ i, inB i → tC (apT b ⟨a.f, 0, 0, 0, 0⟩) i = if i < b.k + b.l then atV b i else 0 := by
    intro i hi
    rw [tC_ap _ _ hi, apC_V hb]
    simp only [zero_at]
    split <;> simp
  constructor
  · rintro ⟨-, -, -, hg, hv⟩
    refine ⟨hA, hB, hg, fun i hi => ?_⟩
    rw [hc i hi, hc2 i hi, ← hg]
    split
    · rename_i h
      exact (hv i hi.1 h).2
    · omega
  · rintro ⟨-, -, hg, hv⟩
    have hg' : a.k + a.l = b.k + b.l := hg
    refine ⟨ha, hb, hf, hg', fun i i0 i1 => ⟨fun h => by omega, ?_⟩⟩
    have hi : inB i := ⟨i0, by omega⟩
    have := hv i hi
    rwa [hc i hi, hc2 i hi, if_pos i1, if_pos (by omega)] at this
end Go.Proofs.Ytkmgdejpdhlleaa
