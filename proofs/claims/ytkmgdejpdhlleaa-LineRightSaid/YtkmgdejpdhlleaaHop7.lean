/- What hop.Then computes, and the plain facts of it that its walk needs; hop.Then where it answers no at its first line. -/
import Derived.Test.YtkmgdejpdhlleaaHop6
import Derived.Test.YtkmgdejpdhlleaaMem
namespace Go.Proofs.Ytkmgdejpdhlleaa
set_option linter.unusedSimpArgs false
set_option linter.unusedVariables false
set_option maxRecDepth 100000
open Go.RowKit

def addAt (h : Hp) (i v : Int) : Hp := ⟨h.f, h.k, h.l, if i = 0 then v else h.a, if i = 1 then v else h.b, if i = 2 then v else h.c, if i = 3 then v else h.e, h.p, h.q, h.r, h.s⟩
def layAt (h : Hp) (t v : Int) : Hp := ⟨h.f, h.k, t + 1, h.a, h.b, h.c, h.e, if t = 0 then v else h.p, if t = 1 then v else h.q, if t = 2 then v else h.r, if t = 3 then v else h.s⟩
/-- The first loop's rounds. -/
def th1 (x y : Hp) : Nat → Hp
  | 0 => ⟨x.f, if y.k < x.k then y.k else x.k, 0, 0, 0, 0, 0, 0, 0, 0, 0⟩
  | i + 1 => if (i : Int) < x.k then addAt (th1 x y i) i (cAt x.a x.b x.c x.e i + cAt y.a y.b y.c y.e i) else layAt (th1 x y i) (th1 x y i).l (cAt x.p x.q x.r x.s (i - x.k) + cAt y.a y.b y.c y.e i)
/-- The second one's. -/
def th2 (y h : Hp) : Nat → Hp
  | 0 => h
  | m + 1 => layAt (th2 y h m) (th2 y h m).l (cAt y.p y.q y.r y.s m)
def thenH (x y : Hp) : Hp := th2 y (th1 x y y.k.toNat) y.l.toNat
theorem th1_add (x y : Hp) (i : Nat) (h : (i : Int) < x.k) : th1 x y (i + 1) = addAt (th1 x y i) i (cAt x.a x.b x.c x.e i + cAt y.a y.b y.c y.e i) := if_pos h
theorem th1_l (x y : Hp) (hk : 0 ≤ x.k) : ∀ i : Nat, (th1 x y i).l = if (i : Int) ≤ x.k then 0 else i - x.k
  | 0 => by rw [if_pos (by simpa using hk)]; rfl
  | i + 1 => by
    have ih := th1_l x y hk i
    by_cases h : (i : Int) < x.k
    · rw [th1_add x y i h, if_pos (by omega)]
      rw [if_pos (by omega)] at ih
      exact ih
    · rw [if_neg (by omega)]
      have : th1 x y (i + 1) = layAt (th1 x y i) (th1 x y i).l (cAt x.p x.q x.r x.s (i - x.k) + cAt y.a y.b y.c y.e i) := if_neg h
      rw [this]
      show (th1 x y i).l + 1 = _
      rw [ih]
      split <;> omega
theorem th1_lay (x y : Hp) (i : Nat) (j : Int) (hk : 0 ≤ x.k) (h : (i : Int) = x.k + j) (hj : 0 ≤ j) : th1 x y (i + 1) = layAt (th1 x y i) j (cAt x.p x.q x.r x.s j + cAt y.a y.b y.c y.e i) ∧ (th1 x y i).l = j := by
  have hl := th1_l x y hk i
  have hl' : (th1 x y i).l = j := by rw [hl]; split <;> omega
  refine ⟨?_, hl'⟩
  have : th1 x y (i + 1) = layAt (th1 x y i) (th1 x y i).l (cAt x.p x.q x.r x.s (i - x.k) + cAt y.a y.b y.c y.e i) := if_neg (by omega)
  rw [this, hl', show (i : Int) - x.k = j by omega]
theorem th2_l (y h : Hp) : ∀ m : Nat, (th2 y h m).l = h.l + m
  | 0 => by simp [th2]
  | m + 1 => by
    show (th2 y h m).l + 1 = _
    rw [th2_l y h m]
    omega
theorem th2_lay (y h : Hp) (m : Nat) (t : Int) (ht : (th2 y h m).l = t) : th2 y h (m + 1) = layAt (th2 y h m) t (cAt y.p y.q y.r y.s m) := by
  subst ht
  rfl
theorem two_wrap {a b c e a' b' c' e' n n' : Int} (h : withinB a b c e n = true) (h' : withinB a' b' c' e' n' = true) (i j : Int) (hi : i = 0 ∨ i = 1 ∨ i = 2 ∨ i = 3) (hj : j = 0 ∨ j = 1 ∨ j = 2 ∨ j = 3) : wrap64 (cAt a b c e i + cAt a' b' c' e' j) = cAt a b c e i + cAt a' b' c' e' j := by
  have h1 := wi_bd h i hi
  have h2 := wi_bd h' j hj
  exact IntWalk.wrap64_in _ ⟨by omega, by omega⟩

set_option maxHeartbeats 1000000 in
theorem hopThen_out (f k l a b c e p q r s f' k' l' a' b' c' e' p' q' r' s' : Int) (w : World) (h : ¬ (hopB ⟨f, k, l, a, b, c, e, p, q, r, s⟩ = true ∧ hopB ⟨f', k', l', a', b', c', e', p', q', r', s'⟩ = true ∧ k + l = f')) :
    Calls Try.prog 84 #[.agg #[.int .i64 f, .int .i64 k, .int .i64 l, .int .i64 a, .int .i64 b, .int .i64 c, .int .i64 e, .int .i64 p, .int .i64 q, .int .i64 r, .int .i64 s], .agg #[.int .i64 f', .int .i64 k', .int .i64 l', .int .i64 a', .int .i64 b', .int .i64 c', .int .i64 e', .int .i64 p', .int .i64 q', .int .i64 r', .int .i64 s']] w fun o w' => o = .returned (.tuple #[hv hz, .bool false]) ∧ Ext w w' := by
  have r1 := fun w => hopRight_any f k l a b c e p q r s w
  have r2 := fun w => hopRight_any f' k' l' a' b' c' e' p' q' r' s' w
  cases hx : hopB ⟨f, k, l, a, b, c, e, p, q, r, s⟩
  · rw [hx] at r1
    have R1 := Lib.hid r1
    clear r1 r2 hx h
    go_enter Try.func84, Try.ntmps84
    go_wp2
    refine wp_region_ext (by kernel_rfl) (by kernel_rfl) ?_
    repeat (go_big_quiet_step (first | (go_at_call 40; (apply quiet_of; (with_reducible exact R1.out _); (intro w' hx; obtain ⟨z, rfl⟩ := hx; (try simp only [ext_ext, add_assoc]); exact ⟨_, rfl⟩)))))
    refine wpQuiet_nil ?_
    intro xK
    go_wp2
    go_returns
    exact ⟨rett rfl rfl, by (repeat' (first | with_reducible exact Ext.refl _ | with_reducible refine Ext.ext ?_ _ | with_reducible refine Ext.alloc ?_ _ | with_reducible refine Ext.drew ?_ | with_reducible refine Ext.drewN ?_ _ | with_reducible assumption))⟩
  · cases hy : hopB ⟨f', k', l', a', b', c', e', p', q', r', s'⟩
    · rw [hx] at r1
      rw [hy] at r2
      have R1 := Lib.hid r1
      have R2 := Lib.hid r2
      clear r1 r2 hx hy h
      go_enter Try.func84, Try.ntmps84
      go_wp2
      refine wp_region_ext (by kernel_rfl) (by kernel_rfl) ?_
      repeat (go_big_quiet_step (first | (go_at_call 40; (apply quiet_of; (with_reducible exact R1.out _); (intro w' hx; obtain ⟨z, rfl⟩ := hx; (try simp only [ext_ext, add_assoc]); exact ⟨_, rfl⟩))) | (go_at_call 40; (apply quiet_of; (with_reducible exact R2.out _); (intro w' hx; obtain ⟨z, rfl⟩ := hx; (try simp only [ext_ext, add_assoc]); exact ⟨_, rfl⟩)))))
      refine wpQuiet_nil ?_
      intro xK
      go_wp2
      go_returns
      exact ⟨rett rfl rfl, by (repeat' (first | with_reducible exact Ext.refl _ | with_reducible refine Ext.ext ?_ _ | with_reducible refine Ext.alloc ?_ _ | with_reducible refine Ext.drew ?_ | with_reducible refine Ext.drewN ?_ _ | with_reducible assumption))⟩
    · obtain ⟨⟨x1, x2, x3, x4, x5, x6, x7, x8⟩, -, -⟩ := (hopB_iff _).1 hx
      simp only at x1 x2 x3 x4 x5 x6 x7 x8
      have z3 : k ≤ 4 := by omega
      have hne : k + l ≠ f' := fun he => h ⟨hx, hy, he⟩
      have hb : (k + l == f') = false := by simpa using hne
      have hb2 : (k + l != f') = true := by simpa using hne
      have g1 := fun w => gives_in f k l a b c e p q r s w x3 z3 x5 x6
      rw [hx] at r1
      rw [hy] at r2
      have R1 := Lib.hid r1
      have R2 := Lib.hid r2
      have G1 := Lib.hid g1
      clear r1 r2 g1 hx hy h hne
      go_enter Try.func84, Try.ntmps84
      go_wp2
      refine wp_region_ext (by kernel_rfl) (by kernel_rfl) ?_
      repeat (go_big_quiet_step (first | (go_at_call 40; (apply quiet_of; (with_reducible exact R1.out _); (intro w' hx; obtain ⟨z, rfl⟩ := hx; (try simp only [ext_ext, add_assoc]); exact ⟨_, rfl⟩))) | (go_at_call 40; (apply quiet_of; (with_reducible exact R2.out _); (intro w' hx; obtain ⟨z, rfl⟩ := hx; (try simp only [ext_ext, add_assoc]); exact ⟨_, rfl⟩))) | (go_at_call 94; (apply quiet_of; (with_reducible exact G1.out _); (intro w' hx; obtain ⟨z, rfl⟩ := hx; (try simp only [ext_ext, add_assoc]); exact ⟨_, rfl⟩)))))
      refine wpQuiet_nil ?_
      intro xK
      go_wp2
      go_returns
      exact ⟨rett rfl rfl, by (repeat' (first | with_reducible exact Ext.refl _ | with_reducible refine Ext.ext ?_ _ | with_reducible refine Ext.alloc ?_ _ | with_reducible refine Ext.drew ?_ | with_reducible refine Ext.drewN ?_ _ | with_reducible assumption))⟩
end Go.Proofs.Ytkmgdejpdhlleaa
