/- hop.Apply and hop.Then at any steps: each one Lean function. -/
import Derived.Test.YtkmgdejpdhlleaaHop8
import Derived.Test.YtkmgdejpdhlleaaHop6k0
import Derived.Test.YtkmgdejpdhlleaaHop6k1
import Derived.Test.YtkmgdejpdhlleaaHop6k2
import Derived.Test.YtkmgdejpdhlleaaHop6k4
namespace Go.Proofs.Ytkmgdejpdhlleaa
set_option linter.unusedSimpArgs false
set_option linter.unusedVariables false
set_option maxRecDepth 100000
open Go.RowKit

/-- A step done at a timestamp: coordinate i. -/
def apC (h : Hp) (t : Tm) (i : Int) : Int := if i < h.k then cAt t.a t.b t.c t.e i + cAt h.a h.b h.c h.e i else if i < h.k + h.l then cAt h.p h.q h.r h.s (i - h.k) else 0
def apT (h : Hp) (t : Tm) : Tm := ⟨h.k + h.l, apC h t 0, apC h t 1, apC h t 2, apC h t 3⟩
def apOk (h : Hp) (t : Tm) : Bool := hopB h && rightB t && decide (t.d = h.f) && rightB (apT h t)
def apR (h : Hp) (t : Tm) : Tm := if apOk h t then apT h t else tz
def thOk (x y : Hp) : Bool := hopB x && hopB y && decide (x.k + x.l = y.f) && hopB (thenH x y)
def thR (x y : Hp) : Hp := if thOk x y then thenH x y else hz

theorem hopThen_any (x y : Hp) (w : World) : Calls Try.prog 84 #[hv x, hv y] w fun o w' => o = .returned (.tuple #[hv (thR x y), .bool (thOk x y)]) ∧ Ext w w' := by
  obtain ⟨f, k, l, a, b, c, e, p, q, r, s⟩ := x
  obtain ⟨f', k', l', a', b', c', e', p', q', r', s'⟩ := y
  by_cases h : hopB ⟨f, k, l, a, b, c, e, p, q, r, s⟩ = true ∧ hopB ⟨f', k', l', a', b', c', e', p', q', r', s'⟩ = true ∧ k + l = f'
  · obtain ⟨h1, h2, h3⟩ := h
    have hok : thOk ⟨f, k, l, a, b, c, e, p, q, r, s⟩ ⟨f', k', l', a', b', c', e', p', q', r', s'⟩ = hopB (thenH ⟨f, k, l, a, b, c, e, p, q, r, s⟩ ⟨f', k', l', a', b', c', e', p', q', r', s'⟩) := by simp [thOk, h1, h2, h3]
    unfold thR
    rw [hok]
    refine (hopThen_in f k l a b c e p q r s f' k' l' a' b' c' e' p' q' r' s' w _ h1 h2 h3 rfl).mono fun o w' ⟨ho, hx⟩ => ⟨?_, hx⟩
    rw [ho]
    cases hopB (thenH ⟨f, k, l, a, b, c, e, p, q, r, s⟩ ⟨f', k', l', a', b', c', e', p', q', r', s'⟩) <;> rfl
  · have hok : thOk ⟨f, k, l, a, b, c, e, p, q, r, s⟩ ⟨f', k', l', a', b', c', e', p', q', r', s'⟩ = false := by
      cases h1 : hopB ⟨f, k, l, a, b, c, e, p, q, r, s⟩
      · simp [thOk, h1]
      · cases h2 : hopB ⟨f', k', l', a', b', c', e', p', q', r', s'⟩
        · simp [thOk, h2]
        · have : ¬ (k + l = f') := fun h3 => h ⟨h1, h2, h3⟩
          simp [thOk, this]
    unfold thR
    rw [hok]
    exact hopThen_out f k l a b c e p q r s f' k' l' a' b' c' e' p' q' r' s' w h

theorem hopApply_any (x : Hp) (t : Tm) (w : World) : Calls Try.prog 36 #[hv x, tv t] w fun o w' => o = .returned (.tuple #[tv (apR x t), .bool (apOk x t)]) ∧ Ext w w' := by
  obtain ⟨f, k, l, a, b, c, e, p, q, r, s⟩ := x
  obtain ⟨d, t1, t2, t3, t4⟩ := t
  by_cases h : hopB ⟨f, k, l, a, b, c, e, p, q, r, s⟩ = true ∧ rightB ⟨d, t1, t2, t3, t4⟩ = true ∧ d = f
  · obtain ⟨h1, h2, rfl⟩ := h
    obtain ⟨⟨x1, x2, x3, x4, x5, x6, x7, x8⟩, -, -⟩ := (hopB_iff _).1 h1
    simp only at x1 x2 x3 x4 x5 x6 x7 x8
    have fin : ∀ (T : Tm) (v : Bool), apT ⟨d, k, l, a, b, c, e, p, q, r, s⟩ ⟨d, t1, t2, t3, t4⟩ = T → rightB T = v →
        (Calls Try.prog 36 #[hv ⟨d, k, l, a, b, c, e, p, q, r, s⟩, tv ⟨d, t1, t2, t3, t4⟩] w fun o w' => o = .returned (.tuple #[if v then tv T else tv tz, .bool v]) ∧ Ext w w') →
        Calls Try.prog 36 #[hv ⟨d, k, l, a, b, c, e, p, q, r, s⟩, tv ⟨d, t1, t2, t3, t4⟩] w fun o w' => o = .returned (.tuple #[tv (apR ⟨d, k, l, a, b, c, e, p, q, r, s⟩ ⟨d, t1, t2, t3, t4⟩), .bool (apOk ⟨d, k, l, a, b, c, e, p, q, r, s⟩ ⟨d, t1, t2, t3, t4⟩)]) ∧ Ext w w' := by
      intro T v hT hv hc
      have hok : apOk ⟨d, k, l, a, b, c, e, p, q, r, s⟩ ⟨d, t1, t2, t3, t4⟩ = v := by simp [apOk, h1, h2, hT, hv]
      unfold apR
      rw [hok, hT]
      refine hc.mono fun o w' ⟨ho, hx⟩ => ⟨?_, hx⟩
      rw [ho]
      cases v <;> rfl
    have hk : k = 0 ∨ k = 1 ∨ k = 2 ∨ k = 3 ∨ k = 4 := by omega
    have hl : l = 0 ∨ l = 1 ∨ l = 2 ∨ l = 3 ∨ l = 4 := by omega
    rcases hk with rfl | rfl | rfl | rfl | rfl
    · rcases hl with rfl | rfl | rfl | rfl | rfl
      · exfalso; omega
      · exact fin ⟨1, p, 0, 0, 0⟩ _ (by simp [apT, apC, cAt]) rfl (hopApply_01 d a b c e p q r s t1 t2 t3 t4 w _ h1 h2 rfl)
      · exact fin ⟨2, p, q, 0, 0⟩ _ (by simp [apT, apC, cAt]) rfl (hopApply_02 d a b c e p q r s t1 t2 t3 t4 w _ h1 h2 rfl)
      · exact fin ⟨3, p, q, r, 0⟩ _ (by simp [apT, apC, cAt]) rfl (hopApply_03 d a b c e p q r s t1 t2 t3 t4 w _ h1 h2 rfl)
      · exact fin ⟨4, p, q, r, s⟩ _ (by simp [apT, apC, cAt]) rfl (hopApply_04 d a b c e p q r s t1 t2 t3 t4 w _ h1 h2 rfl)
    · rcases hl with rfl | rfl | rfl | rfl | rfl
      · exact fin ⟨1, t1 + a, 0, 0, 0⟩ _ (by simp [apT, apC, cAt]) rfl (hopApply_10 d a b c e p q r s t1 t2 t3 t4 w _ h1 h2 rfl)
      · exact fin ⟨2, t1 + a, p, 0, 0⟩ _ (by simp [apT, apC, cAt]) rfl (hopApply_11 d a b c e p q r s t1 t2 t3 t4 w _ h1 h2 rfl)
      · exact fin ⟨3, t1 + a, p, q, 0⟩ _ (by simp [apT, apC, cAt]) rfl (hopApply_12 d a b c e p q r s t1 t2 t3 t4 w _ h1 h2 rfl)
      · exact fin ⟨4, t1 + a, p, q, r⟩ _ (by simp [apT, apC, cAt]) rfl (hopApply_13 d a b c e p q r s t1 t2 t3 t4 w _ h1 h2 rfl)
      · exfalso; omega
    · rcases hl with rfl | rfl | rfl | rfl | rfl
      · exact fin ⟨2, t1 + a, t2 + b, 0, 0⟩ _ (by simp [apT, apC, cAt]) rfl (hopApply_20 d a b c e p q r s t1 t2 t3 t4 w _ h1 h2 rfl)
      · exact fin ⟨3, t1 + a, t2 + b, p, 0⟩ _ (by simp [apT, apC, cAt]) rfl (hopApply_21 d a b c e p q r s t1 t2 t3 t4 w _ h1 h2 rfl)
      · exact fin ⟨4, t1 + a, t2 + b, p, q⟩ _ (by simp [apT, apC, cAt]) rfl (hopApply_22 d a b c e p q r s t1 t2 t3 t4 w _ h1 h2 rfl)
      · exfalso; omega
      · exfalso; omega
    · rcases hl with rfl | rfl | rfl | rfl | rfl
      · exact fin ⟨3, t1 + a, t2 + b, t3 + c, 0⟩ _ (by simp [apT, apC, cAt]) rfl (hopApply_30 d a b c e p q r s t1 t2 t3 t4 w _ h1 h2 rfl)
      · exact fin ⟨4, t1 + a, t2 + b, t3 + c, p⟩ _ (by simp [apT, apC, cAt]) rfl (hopApply_31 d a b c e p q r s t1 t2 t3 t4 w _ h1 h2 rfl)
      · exfalso; omega
      · exfalso; omega
      · exfalso; omega
    · rcases hl with rfl | rfl | rfl | rfl | rfl
      · exact fin ⟨4, t1 + a, t2 + b, t3 + c, t4 + e⟩ _ (by simp [apT, apC, cAt]) rfl (hopApply_40 d a b c e p q r s t1 t2 t3 t4 w _ h1 h2 rfl)
      · exfalso; omega
      · exfalso; omega
      · exfalso; omega
      · exfalso; omega
  · have hok : apOk ⟨f, k, l, a, b, c, e, p, q, r, s⟩ ⟨d, t1, t2, t3, t4⟩ = false := by
      cases h1 : hopB ⟨f, k, l, a, b, c, e, p, q, r, s⟩
      · simp [apOk, h1]
      · cases h2 : rightB ⟨d, t1, t2, t3, t4⟩
        · simp [apOk, h2]
        · have : ¬ (d = f) := fun h3 => h ⟨h1, h2, h3⟩
          simp [apOk, this]
    unfold apR
    rw [hok]
    exact hopApply_out f k l a b c e p q r s d t1 t2 t3 t4 w h
end Go.Proofs.Ytkmgdejpdhlleaa
