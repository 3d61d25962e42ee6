/- hop.Then of two right steps that fit. -/
import Derived.Test.YtkmgdejpdhlleaaHop7
namespace Go.Proofs.Ytkmgdejpdhlleaa
set_option linter.unusedSimpArgs false
set_option linter.unusedVariables false
set_option maxRecDepth 100000
open Go.RowKit

theorem hp_ext {W : World} {h h' : Hp} {t : TypeId} {wr : World} (he : h = h') (hx : Ext (W.alloc (.cells #[.int .i64 h'.f, .int .i64 h'.k, .int .i64 h'.l, .int .i64 h'.a, .int .i64 h'.b, .int .i64 h'.c, .int .i64 h'.e, .int .i64 h'.p, .int .i64 h'.q, .int .i64 h'.r, .int .i64 h'.s] t)) wr) : Ext (W.alloc (.cells #[.int .i64 h.f, .int .i64 h.k, .int .i64 h.l, .int .i64 h.a, .int .i64 h.b, .int .i64 h.c, .int .i64 h.e, .int .i64 h.p, .int .i64 h.q, .int .i64 h.r, .int .i64 h.s] t)) wr := he ▸ hx

set_option maxRecDepth 100000 in
set_option maxHeartbeats 20000000 in
theorem hopThen_in (f k l a b c e p q r s g k' l' a' b' c' e' p' q' r' s' : Int) (w : World) (v : Bool) (hx : hopB ⟨f, k, l, a, b, c, e, p, q, r, s⟩ = true) (hy : hopB ⟨g, k', l', a', b', c', e', p', q', r', s'⟩ = true) (hg : k + l = g) (hz' : hopB (thenH ⟨f, k, l, a, b, c, e, p, q, r, s⟩ ⟨g, k', l', a', b', c', e', p', q', r', s'⟩) = v) :
    Calls Try.prog 84 #[.agg #[.int .i64 f, .int .i64 k, .int .i64 l, .int .i64 a, .int .i64 b, .int .i64 c, .int .i64 e, .int .i64 p, .int .i64 q, .int .i64 r, .int .i64 s], .agg #[.int .i64 g, .int .i64 k', .int .i64 l', .int .i64 a', .int .i64 b', .int .i64 c', .int .i64 e', .int .i64 p', .int .i64 q', .int .i64 r', .int .i64 s']] w fun o w' => o = .returned (.tuple #[if v then hv (thenH ⟨f, k, l, a, b, c, e, p, q, r, s⟩ ⟨g, k', l', a', b', c', e', p', q', r', s'⟩) else hv hz, .bool v]) ∧ Ext w w' := by
  obtain ⟨⟨x1, x2, x3, x4, x5, x6, x7, x8⟩, wx1, wx2⟩ := (hopB_iff _).1 hx
  obtain ⟨⟨y1, y2, y3, y4, y5, y6, y7, y8⟩, wy1, wy2⟩ := (hopB_iff _).1 hy
  simp only at x1 x2 x3 x4 x5 x6 x7 x8 y1 y2 y3 y4 y5 y6 y7 y8 wx1 wx2 wy1 wy2
  have z3 : k ≤ 4 := by omega
  have WX1 := Lib.hid wx1
  have WX2 := Lib.hid wx2
  have WY1 := Lib.hid wy1
  have WY2 := Lib.hid wy2
  have hmn := imin_eq
  have r1 := fun w => hopRight_any f k l a b c e p q r s w
  have r2 := fun w => hopRight_any g k' l' a' b' c' e' p' q' r' s' w
  have g1 := fun w => gives_in f k l a b c e p q r s w x3 z3 x5 x6
  rw [hx] at r1
  rw [hy] at r2
  rw [hg] at g1
  have R1 := Lib.hid r1
  have R2 := Lib.hid r2
  have G1 := Lib.hid g1
  obtain ⟨n, hn⟩ := Int.eq_ofNat_of_zero_le y3
  obtain ⟨m, hm⟩ := Int.eq_ofNat_of_zero_le y5
  have hT : thenH ⟨f, k, l, a, b, c, e, p, q, r, s⟩ ⟨g, k', l', a', b', c', e', p', q', r', s'⟩ = th2 ⟨g, k', l', a', b', c', e', p', q', r', s'⟩ (th1 ⟨f, k, l, a, b, c, e, p, q, r, s⟩ ⟨g, k', l', a', b', c', e', p', q', r', s'⟩ n) m := by
    unfold thenH
    rw [show (k' : Int).toNat = n by omega, show (l' : Int).toNat = m by omega]
  rw [hT] at hz' ⊢
  have HN := Lib.hid hn
  have HM := Lib.hid hm
  have n4 : n ≤ 4 := by omega
  have m4 : m ≤ 4 := by omega
  have nm4 : n + m ≤ 4 := by omega
  have HZ := Lib.hid hz'
  have HG := Lib.hid hg
  clear r1 r2 g1 hx hy hT hn hm wx1 wx2 wy1 wy2 hz' hg
  go_enter Try.func84, Try.ntmps84
  go_wp2
  refine wp_region_ext (by kernel_rfl) (by kernel_rfl) ?_
  repeat (go_big_quiet_step (first | (go_at_call 40; (apply quiet_of; (with_reducible exact R1.out _); (intro w' hx; obtain ⟨z, rfl⟩ := hx; (try simp only [ext_ext, add_assoc]); exact ⟨_, rfl⟩))) | (go_at_call 40; (apply quiet_of; (with_reducible exact R2.out _); (intro w' hx; obtain ⟨z, rfl⟩ := hx; (try simp only [ext_ext, add_assoc]); exact ⟨_, rfl⟩))) | (go_at_call 94; (apply quiet_of; (with_reducible exact G1.out _); (intro w' hx; obtain ⟨z, rfl⟩ := hx; (try simp only [ext_ext, add_assoc]); exact ⟨_, rfl⟩)))))
  refine wpQuiet_nil ?_
  intro xK
  go_wp2
  go_loopw [36] (fun i wr => ∃ j : Nat, j ≤ n ∧ i = .int .i64 j ∧ Ext ((ext (((w.alloc (.cells #[.int .i64 f, .int .i64 k, .int .i64 l, .int .i64 a, .int .i64 b, .int .i64 c, .int .i64 e, .int .i64 p, .int .i64 q, .int .i64 r, .int .i64 s] 82)).alloc (.cells #[.int .i64 g, .int .i64 k', .int .i64 l', .int .i64 a', .int .i64 b', .int .i64 c', .int .i64 e', .int .i64 p', .int .i64 q', .int .i64 r', .int .i64 s'] 82)).alloc (.cells #[.int .i64 0, .int .i64 0, .int .i64 0, .int .i64 0, .int .i64 0, .int .i64 0, .int .i64 0, .int .i64 0, .int .i64 0, .int .i64 0, .int .i64 0] 82)) xK).alloc (.cells #[.int .i64 (th1 ⟨f, k, l, a, b, c, e, p, q, r, s⟩ ⟨g, k', l', a', b', c', e', p', q', r', s'⟩ j).f, .int .i64 (th1 ⟨f, k, l, a, b, c, e, p, q, r, s⟩ ⟨g, k', l', a', b', c', e', p', q', r', s'⟩ j).k, .int .i64 (th1 ⟨f, k, l, a, b, c, e, p, q, r, s⟩ ⟨g, k', l', a', b', c', e', p', q', r', s'⟩ j).l, .int .i64 (th1 ⟨f, k, l, a, b, c, e, p, q, r, s⟩ ⟨g, k', l', a', b', c', e', p', q', r', s'⟩ j).a, .int .i64 (th1 ⟨f, k, l, a, b, c, e, p, q, r, s⟩ ⟨g, k', l', a', b', c', e', p', q', r', s'⟩ j).b, .int .i64 (th1 ⟨f, k, l, a, b, c, e, p, q, r, s⟩ ⟨g, k', l', a', b', c', e', p', q', r', s'⟩ j).c, .int .i64 (th1 ⟨f, k, l, a, b, c, e, p, q, r, s⟩ ⟨g, k', l', a', b', c', e', p', q', r', s'⟩ j).e, .int .i64 (th1 ⟨f, k, l, a, b, c, e, p, q, r, s⟩ ⟨g, k', l', a', b', c', e', p', q', r', s'⟩ j).p, .int .i64 (th1 ⟨f, k, l, a, b, c, e, p, q, r, s⟩ ⟨g, k', l', a', b', c', e', p', q', r', s'⟩ j).q, .int .i64 (th1 ⟨f, k, l, a, b, c, e, p, q, r, s⟩ ⟨g, k', l', a', b', c', e', p', q', r', s'⟩ j).r, .int .i64 (th1 ⟨f, k, l, a, b, c, e, p, q, r, s⟩ ⟨g, k', l', a', b', c', e', p', q', r', s'⟩ j).s] 82)) wr) (fun i _ => n - (intOf i).toNat)
  case atStart => exact ⟨0, by omega, rfl, Ext.refl _⟩
  case round =>
    obtain ⟨j, hj, rfl, z, rfl⟩ := hrel
    by_cases hlt : j < n
    · have hk' : (j : Int) < k' := by have := HN.out; omega
      obtain rfl | rfl | rfl | rfl : j = 0 ∨ j = 1 ∨ j = 2 ∨ j = 3 := by omega
      · by_cases hk : (0 : Int) < k
        · have eq1 := th1_add ⟨f, k, l, a, b, c, e, p, q, r, s⟩ ⟨g, k', l', a', b', c', e', p', q', r', s'⟩ 0 hk
          change th1 ⟨f, k, l, a, b, c, e, p, q, r, s⟩ ⟨g, k', l', a', b', c', e', p', q', r', s'⟩ 1 = addAt (th1 ⟨f, k, l, a, b, c, e, p, q, r, s⟩ ⟨g, k', l', a', b', c', e', p', q', r', s'⟩ 0) 0 (a + a') at eq1
          have hw := two_wrap WX1.out WY1.out 0 0 (by decide) (by decide)
          change wrap64 (a + a') = a + a' at hw
          generalize th1 ⟨f, k, l, a, b, c, e, p, q, r, s⟩ ⟨g, k', l', a', b', c', e', p', q', r', s'⟩ 0 = h at eq1
          have E := Lib.hid eq1
          clear eq1
          go_wp2
          go_region
          go_wp2
          go_roundw
          case rel => exact ⟨1, by omega, by go_num, hp_ext E.out (by simp only [addAt, Int.reduceEq, if_true, if_false, Int.reduceAdd]; (repeat' (first | with_reducible exact Ext.refl _ | with_reducible refine Ext.ext ?_ _ | with_reducible refine Ext.alloc ?_ _ | with_reducible refine Ext.drew ?_ | with_reducible refine Ext.drewN ?_ _ | with_reducible assumption)))⟩
          case measure => simp [intOf]; omega
        · obtain rfl : k = 0 := by omega
          · obtain ⟨eq1, hl⟩ := th1_lay ⟨f, 0, l, a, b, c, e, p, q, r, s⟩ ⟨g, k', l', a', b', c', e', p', q', r', s'⟩ 0 0 (by simp) (by simp) (by decide)
            change th1 ⟨f, 0, l, a, b, c, e, p, q, r, s⟩ ⟨g, k', l', a', b', c', e', p', q', r', s'⟩ 1 = layAt (th1 ⟨f, 0, l, a, b, c, e, p, q, r, s⟩ ⟨g, k', l', a', b', c', e', p', q', r', s'⟩ 0) 0 (p + a') at eq1
            have hw := two_wrap WX2.out WY1.out 0 0 (by decide) (by decide)
            change wrap64 (p + a') = p + a' at hw
            generalize th1 ⟨f, 0, l, a, b, c, e, p, q, r, s⟩ ⟨g, k', l', a', b', c', e', p', q', r', s'⟩ 0 = h at eq1 hl
            have E := Lib.hid eq1
            clear eq1
            go_wp2
            go_region
            go_wp2
            go_roundw
            case rel => exact ⟨1, by omega, by go_num, hp_ext E.out (by simp only [layAt, Int.reduceEq, if_true, if_false, Int.reduceAdd]; (repeat' (first | with_reducible exact Ext.refl _ | with_reducible refine Ext.ext ?_ _ | with_reducible refine Ext.alloc ?_ _ | with_reducible refine Ext.drew ?_ | with_reducible refine Ext.drewN ?_ _ | with_reducible assumption)))⟩
            case measure => simp [intOf]; omega
      · by_cases hk : (1 : Int) < k
        · have eq1 := th1_add ⟨f, k, l, a, b, c, e, p, q, r, s⟩ ⟨g, k', l', a', b', c', e', p', q', r', s'⟩ 1 hk
          change th1 ⟨f, k, l, a, b, c, e, p, q, r, s⟩ ⟨g, k', l', a', b', c', e', p', q', r', s'⟩ 2 = addAt (th1 ⟨f, k, l, a, b, c, e, p, q, r, s⟩ ⟨g, k', l', a', b', c', e', p', q', r', s'⟩ 1) 1 (b + b') at eq1
          have hw := two_wrap WX1.out WY1.out 1 1 (by decide) (by decide)
          change wrap64 (b + b') = b + b' at hw
          generalize th1 ⟨f, k, l, a, b, c, e, p, q, r, s⟩ ⟨g, k', l', a', b', c', e', p', q', r', s'⟩ 1 = h at eq1
          have E := Lib.hid eq1
          clear eq1
          go_wp2
          go_region
          go_wp2
          go_roundw
          case rel => exact ⟨2, by omega, by go_num, hp_ext E.out (by simp only [addAt, Int.reduceEq, if_true, if_false, Int.reduceAdd]; (repeat' (first | with_reducible exact Ext.refl _ | with_reducible refine Ext.ext ?_ _ | with_reducible refine Ext.alloc ?_ _ | with_reducible refine Ext.drew ?_ | with_reducible refine Ext.drewN ?_ _ | with_reducible assumption)))⟩
          case measure => simp [intOf]; omega
        · obtain rfl | rfl : k = 0 ∨ k = 1 := by omega
          · obtain ⟨eq1, hl⟩ := th1_lay ⟨f, 0, l, a, b, c, e, p, q, r, s⟩ ⟨g, k', l', a', b', c', e', p', q', r', s'⟩ 1 1 (by simp) (by simp) (by decide)
            change th1 ⟨f, 0, l, a, b, c, e, p, q, r, s⟩ ⟨g, k', l', a', b', c', e', p', q', r', s'⟩ 2 = layAt (th1 ⟨f, 0, l, a, b, c, e, p, q, r, s⟩ ⟨g, k', l', a', b', c', e', p', q', r', s'⟩ 1) 1 (q + b') at eq1
            have hw := two_wrap WX2.out WY1.out 1 1 (by decide) (by decide)
            change wrap64 (q + b') = q + b' at hw
            generalize th1 ⟨f, 0, l, a, b, c, e, p, q, r, s⟩ ⟨g, k', l', a', b', c', e', p', q', r', s'⟩ 1 = h at eq1 hl
            have E := Lib.hid eq1
            clear eq1
            go_wp2
            go_region
            go_wp2
            go_roundw
            case rel => exact ⟨2, by omega, by go_num, hp_ext E.out (by simp only [layAt, Int.reduceEq, if_true, if_false, Int.reduceAdd]; (repeat' (first | with_reducible exact Ext.refl _ | with_reducible refine Ext.ext ?_ _ | with_reducible refine Ext.alloc ?_ _ | with_reducible refine Ext.drew ?_ | with_reducible refine Ext.drewN ?_ _ | with_reducible assumption)))⟩
            case measure => simp [intOf]; omega
          · obtain ⟨eq1, hl⟩ := th1_lay ⟨f, 1, l, a, b, c, e, p, q, r, s⟩ ⟨g, k', l', a', b', c', e', p', q', r', s'⟩ 1 0 (by simp) (by simp) (by decide)
            change th1 ⟨f, 1, l, a, b, c, e, p, q, r, s⟩ ⟨g, k', l', a', b', c', e', p', q', r', s'⟩ 2 = layAt (th1 ⟨f, 1, l, a, b, c, e, p, q, r, s⟩ ⟨g, k', l', a', b', c', e', p', q', r', s'⟩ 1) 0 (p + b') at eq1
            have hw := two_wrap WX2.out WY1.out 0 1 (by decide) (by decide)
            change wrap64 (p + b') = p + b' at hw
            generalize th1 ⟨f, 1, l, a, b, c, e, p, q, r, s⟩ ⟨g, k', l', a', b', c', e', p', q', r', s'⟩ 1 = h at eq1 hl
            have E := Lib.hid eq1
            clear eq1
            go_wp2
            go_region
            go_wp2
            go_roundw
            case rel => exact ⟨2, by omega, by go_num, hp_ext E.out (by simp only [layAt, Int.reduceEq, if_true, if_false, Int.reduceAdd]; (repeat' (first | with_reducible exact Ext.refl _ | with_reducible refine Ext.ext ?_ _ | with_reducible refine Ext.alloc ?_ _ | with_reducible refine Ext.drew ?_ | with_reducible refine Ext.drewN ?_ _ | with_reducible assumption)))⟩
            case measure => simp [intOf]; omega
      · by_cases hk : (2 : Int) < k
        · have eq1 := th1_add ⟨f, k, l, a, b, c, e, p, q, r, s⟩ ⟨g, k', l', a', b', c', e', p', q', r', s'⟩ 2 hk
          change th1 ⟨f, k, l, a, b, c, e, p, q, r, s⟩ ⟨g, k', l', a', b', c', e', p', q', r', s'⟩ 3 = addAt (th1 ⟨f, k, l, a, b, c, e, p, q, r, s⟩ ⟨g, k', l', a', b', c', e', p', q', r', s'⟩ 2) 2 (c + c') at eq1
          have hw := two_wrap WX1.out WY1.out 2 2 (by decide) (by decide)
          change wrap64 (c + c') = c + c' at hw
          generalize th1 ⟨f, k, l, a, b, c, e, p, q, r, s⟩ ⟨g, k', l', a', b', c', e', p', q', r', s'⟩ 2 = h at eq1
          have E := Lib.hid eq1
          clear eq1
          go_wp2
          go_region
          go_wp2
          go_roundw
          case rel => exact ⟨3, by omega, by go_num, hp_ext E.out (by simp only [addAt, Int.reduceEq, if_true, if_false, Int.reduceAdd]; (repeat' (first | with_reducible exact Ext.refl _ | with_reducible refine Ext.ext ?_ _ | with_reducible refine Ext.alloc ?_ _ | with_reducible refine Ext.drew ?_ | with_reducible refine Ext.drewN ?_ _ | with_reducible assumption)))⟩
          case measure => simp [intOf]; omega
        · obtain rfl | rfl | rfl : k = 0 ∨ k = 1 ∨ k = 2 := by omega
          · obtain ⟨eq1, hl⟩ := th1_lay ⟨f, 0, l, a, b, c, e, p, q, r, s⟩ ⟨g, k', l', a', b', c', e', p', q', r', s'⟩ 2 2 (by simp) (by simp) (by decide)
            change th1 ⟨f, 0, l, a, b, c, e, p, q, r, s⟩ ⟨g, k', l', a', b', c', e', p', q', r', s'⟩ 3 = layAt (th1 ⟨f, 0, l, a, b, c, e, p, q, r, s⟩ ⟨g, k', l', a', b', c', e', p', q', r', s'⟩ 2) 2 (r + c') at eq1
            have hw := two_wrap WX2.out WY1.out 2 2 (by decide) (by decide)
            change wrap64 (r + c') = r + c' at hw
            generalize th1 ⟨f, 0, l, a, b, c, e, p, q, r, s⟩ ⟨g, k', l', a', b', c', e', p', q', r', s'⟩ 2 = h at eq1 hl
            have E := Lib.hid eq1
            clear eq1
            go_wp2
            go_region
            go_wp2
            go_roundw
            case rel => exact ⟨3, by omega, by go_num, hp_ext E.out (by simp only [layAt, Int.reduceEq, if_true, if_false, Int.reduceAdd]; (repeat' (first | with_reducible exact Ext.refl _ | with_reducible refine Ext.ext ?_ _ | with_reducible refine Ext.alloc ?_ _ | with_reducible refine Ext.drew ?_ | with_reducible refine Ext.drewN ?_ _ | with_reducible assumption)))⟩
            case measure => simp [intOf]; omega
          · obtain ⟨eq1, hl⟩ := th1_lay ⟨f, 1, l, a, b, c, e, p, q, r, s⟩ ⟨g, k', l', a', b', c', e', p', q', r', s'⟩ 2 1 (by simp) (by simp) (by decide)
            change th1 ⟨f, 1, l, a, b, c, e, p, q, r, s⟩ ⟨g, k', l', a', b', c', e', p', q', r', s'⟩ 3 = layAt (th1 ⟨f, 1, l, a, b, c, e, p, q, r, s⟩ ⟨g, k', l', a', b', c', e', p', q', r', s'⟩ 2) 1 (q + c') at eq1
            have hw := two_wrap WX2.out WY1.out 1 2 (by decide) (by decide)
            change wrap64 (q + c') = q + c' at hw
            generalize th1 ⟨f, 1, l, a, b, c, e, p, q, r, s⟩ ⟨g, k', l', a', b', c', e', p', q', r', s'⟩ 2 = h at eq1 hl
            have E := Lib.hid eq1
            clear eq1
            go_wp2
            go_region
            go_wp2
            go_roundw
            case rel => exact ⟨3, by omega, by go_num, hp_ext E.out (by simp only [layAt, Int.reduceEq, if_true, if_false, Int.reduceAdd]; (repeat' (first | with_reducible exact Ext.refl _ | with_reducible refine Ext.ext ?_ _ | with_reducible refine Ext.alloc ?_ _ | with_reducible refine Ext.drew ?_ | with_reducible refine Ext.drewN ?_ _ | with_reducible assumption)))⟩
            case measure => simp [intOf]; omega
          · obtain ⟨eq1, hl⟩ := th1_lay ⟨f, 2, l, a, b, c, e, p, q, r, s⟩ ⟨g, k', l', a', b', c', e', p', q', r', s'⟩ 2 0 (by simp) (by simp) (by decide)
            change th1 ⟨f, 2, l, a, b, c, e, p, q, r, s⟩ ⟨g, k', l', a', b', c', e', p', q', r', s'⟩ 3 = layAt (th1 ⟨f, 2, l, a, b, c, e, p, q, r, s⟩ ⟨g, k', l', a', b', c', e', p', q', r', s'⟩ 2) 0 (p + c') at eq1
            have hw := two_wrap WX2.out WY1.out 0 2 (by decide) (by decide)
            change wrap64 (p + c') = p + c' at hw
            generalize th1 ⟨f, 2, l, a, b, c, e, p, q, r, s⟩ ⟨g, k', l', a', b', c', e', p', q', r', s'⟩ 2 = h at eq1 hl
            have E := Lib.hid eq1
            clear eq1
            go_wp2
            go_region
            go_wp2
            go_roundw
            case rel => exact ⟨3, by omega, by go_num, hp_ext E.out (by simp only [layAt, Int.reduceEq, if_true, if_false, Int.reduceAdd]; (repeat' (first | with_reducible exact Ext.refl _ | with_reducible refine Ext.ext ?_ _ | with_reducible refine Ext.alloc ?_ _ | with_reducible refine Ext.drew ?_ | with_reducible refine Ext.drewN ?_ _ | with_reducible assumption)))⟩
            case measure => simp [intOf]; omega
      · by_cases hk : (3 : Int) < k
        · have eq1 := th1_add ⟨f, k, l, a, b, c, e, p, q, r, s⟩ ⟨g, k', l', a', b', c', e', p', q', r', s'⟩ 3 hk
          change th1 ⟨f, k, l, a, b, c, e, p, q, r, s⟩ ⟨g, k', l', a', b', c', e', p', q', r', s'⟩ 4 = addAt (th1 ⟨f, k, l, a, b, c, e, p, q, r, s⟩ ⟨g, k', l', a', b', c', e', p', q', r', s'⟩ 3) 3 (e + e') at eq1
          have hw := two_wrap WX1.out WY1.out 3 3 (by decide) (by decide)
          change wrap64 (e + e') = e + e' at hw
          generalize th1 ⟨f, k, l, a, b, c, e, p, q, r, s⟩ ⟨g, k', l', a', b', c', e', p', q', r', s'⟩ 3 = h at eq1
          have E := Lib.hid eq1
          clear eq1
          go_wp2
          go_region
          go_wp2
          go_roundw
          case rel => exact ⟨4, by omega, by go_num, hp_ext E.out (by simp only [addAt, Int.reduceEq, if_true, if_false, Int.reduceAdd]; (repeat' (first | with_reducible exact Ext.refl _ | with_reducible refine Ext.ext ?_ _ | with_reducible refine Ext.alloc ?_ _ | with_reducible refine Ext.drew ?_ | with_reducible refine Ext.drewN ?_ _ | with_reducible assumption)))⟩
          case measure => simp [intOf]; omega
        · obtain rfl | rfl | rfl | rfl : k = 0 ∨ k = 1 ∨ k = 2 ∨ k = 3 := by omega
          · obtain ⟨eq1, hl⟩ := th1_lay ⟨f, 0, l, a, b, c, e, p, q, r, s⟩ ⟨g, k', l', a', b', c', e', p', q', r', s'⟩ 3 3 (by simp) (by simp) (by decide)
            change th1 ⟨f, 0, l, a, b, c, e, p, q, r, s⟩ ⟨g, k', l', a', b', c', e', p', q', r', s'⟩ 4 = layAt (th1 ⟨f, 0, l, a, b, c, e, p, q, r, s⟩ ⟨g, k', l', a', b', c', e', p', q', r', s'⟩ 3) 3 (s + e') at eq1
            have hw := two_wrap WX2.out WY1.out 3 3 (by decide) (by decide)
            change wrap64 (s + e') = s + e' at hw
            generalize th1 ⟨f, 0, l, a, b, c, e, p, q, r, s⟩ ⟨g, k', l', a', b', c', e', p', q', r', s'⟩ 3 = h at eq1 hl
            have E := Lib.hid eq1
            clear eq1
            go_wp2
            go_region
            go_wp2
            go_roundw
            case rel => exact ⟨4, by omega, by go_num, hp_ext E.out (by simp only [layAt, Int.reduceEq, if_true, if_false, Int.reduceAdd]; (repeat' (first | with_reducible exact Ext.refl _ | with_reducible refine Ext.ext ?_ _ | with_reducible refine Ext.alloc ?_ _ | with_reducible refine Ext.drew ?_ | with_reducible refine Ext.drewN ?_ _ | with_reducible assumption)))⟩
            case measure => simp [intOf]; omega
          · obtain ⟨eq1, hl⟩ := th1_lay ⟨f, 1, l, a, b, c, e, p, q, r, s⟩ ⟨g, k', l', a', b', c', e', p', q', r', s'⟩ 3 2 (by simp) (by simp) (by decide)
            change th1 ⟨f, 1, l, a, b, c, e, p, q, r, s⟩ ⟨g, k', l', a', b', c', e', p', q', r', s'⟩ 4 = layAt (th1 ⟨f, 1, l, a, b, c, e, p, q, r, s⟩ ⟨g, k', l', a', b', c', e', p', q', r', s'⟩ 3) 2 (r + e') at eq1
            have hw := two_wrap WX2.out WY1.out 2 3 (by decide) (by decide)
            change wrap64 (r + e') = r + e' at hw
            generalize th1 ⟨f, 1, l, a, b, c, e, p, q, r, s⟩ ⟨g, k', l', a', b', c', e', p', q', r', s'⟩ 3 = h at eq1 hl
            have E := Lib.hid eq1
            clear eq1
            go_wp2
            go_region
            go_wp2
            go_roundw
            case rel => exact ⟨4, by omega, by go_num, hp_ext E.out (by simp only [layAt, Int.reduceEq, if_true, if_false, Int.reduceAdd]; (repeat' (first | with_reducible exact Ext.refl _ | with_reducible refine Ext.ext ?_ _ | with_reducible refine Ext.alloc ?_ _ | with_reducible refine Ext.drew ?_ | with_reducible refine Ext.drewN ?_ _ | with_reducible assumption)))⟩
            case measure => simp [intOf]; omega
          · obtain ⟨eq1, hl⟩ := th1_lay ⟨f, 2, l, a, b, c, e, p, q, r, s⟩ ⟨g, k', l', a', b', c', e', p', q', r', s'⟩ 3 1 (by simp) (by simp) (by decide)
            change th1 ⟨f, 2, l, a, b, c, e, p, q, r, s⟩ ⟨g, k', l', a', b', c', e', p', q', r', s'⟩ 4 = layAt (th1 ⟨f, 2, l, a, b, c, e, p, q, r, s⟩ ⟨g, k', l', a', b', c', e', p', q', r', s'⟩ 3) 1 (q + e') at eq1
            have hw := two_wrap WX2.out WY1.out 1 3 (by decide) (by decide)
            change wrap64 (q + e') = q + e' at hw
            generalize th1 ⟨f, 2, l, a, b, c, e, p, q, r, s⟩ ⟨g, k', l', a', b', c', e', p', q', r', s'⟩ 3 = h at eq1 hl
            have E := Lib.hid eq1
            clear eq1
            go_wp2
            go_region
            go_wp2
            go_roundw
            case rel => exact ⟨4, by omega, by go_num, hp_ext E.out (by simp only [layAt, Int.reduceEq, if_true, if_false, Int.reduceAdd]; (repeat' (first | with_reducible exact Ext.refl _ | with_reducible refine Ext.ext ?_ _ | with_reducible refine Ext.alloc ?_ _ | with_reducible refine Ext.drew ?_ | with_reducible refine Ext.drewN ?_ _ | with_reducible assumption)))⟩
            case measure => simp [intOf]; omega
          · obtain ⟨eq1, hl⟩ := th1_lay ⟨f, 3, l, a, b, c, e, p, q, r, s⟩ ⟨g, k', l', a', b', c', e', p', q', r', s'⟩ 3 0 (by simp) (by simp) (by decide)
            change th1 ⟨f, 3, l, a, b, c, e, p, q, r, s⟩ ⟨g, k', l', a', b', c', e', p', q', r', s'⟩ 4 = layAt (th1 ⟨f, 3, l, a, b, c, e, p, q, r, s⟩ ⟨g, k', l', a', b', c', e', p', q', r', s'⟩ 3) 0 (p + e') at eq1
            have hw := two_wrap WX2.out WY1.out 0 3 (by decide) (by decide)
            change wrap64 (p + e') = p + e' at hw
            generalize th1 ⟨f, 3, l, a, b, c, e, p, q, r, s⟩ ⟨g, k', l', a', b', c', e', p', q', r', s'⟩ 3 = h at eq1 hl
            have E := Lib.hid eq1
            clear eq1
            go_wp2
            go_region
            go_wp2
            go_roundw
            case rel => exact ⟨4, by omega, by go_num, hp_ext E.out (by simp only [layAt, Int.reduceEq, if_true, if_false, Int.reduceAdd]; (repeat' (first | with_reducible exact Ext.refl _ | with_reducible refine Ext.ext ?_ _ | with_reducible refine Ext.alloc ?_ _ | with_reducible refine Ext.drew ?_ | with_reducible refine Ext.drewN ?_ _ | with_reducible assumption)))⟩
            case measure => simp [intOf]; omega
    · obtain rfl : j = n := by omega
      have hd : decide ((j : Int) < k') = false := by have := HN.out; simp; omega
      have hl1 := th1_l ⟨f, k, l, a, b, c, e, p, q, r, s⟩ ⟨g, k', l', a', b', c', e', p', q', r', s'⟩ x3 j
      have hl2 : 0 ≤ (th1 ⟨f, k, l, a, b, c, e, p, q, r, s⟩ ⟨g, k', l', a', b', c', e', p', q', r', s'⟩ j).l ∧ (th1 ⟨f, k, l, a, b, c, e, p, q, r, s⟩ ⟨g, k', l', a', b', c', e', p', q', r', s'⟩ j).l + m ≤ 4 := by
        rw [hl1]
        have := HN.out
        have := HM.out
        have := HG.out
        simp only
        split <;> omega
      clear hl1 hlt
      generalize hh1 : th1 ⟨f, k, l, a, b, c, e, p, q, r, s⟩ ⟨g, k', l', a', b', c', e', p', q', r', s'⟩ j = h1 at *
      have HH1 := Lib.hid hh1
      clear hh1
      obtain ⟨t0, t1⟩ := hl2
      go_wp2
      go_loopw [81] (fun i wr => ∃ j : Nat, j ≤ m ∧ i = .int .i64 j ∧ Ext ((ext (((w.alloc (.cells #[.int .i64 f, .int .i64 k, .int .i64 l, .int .i64 a, .int .i64 b, .int .i64 c, .int .i64 e, .int .i64 p, .int .i64 q, .int .i64 r, .int .i64 s] 82)).alloc (.cells #[.int .i64 g, .int .i64 k', .int .i64 l', .int .i64 a', .int .i64 b', .int .i64 c', .int .i64 e', .int .i64 p', .int .i64 q', .int .i64 r', .int .i64 s'] 82)).alloc (.cells #[.int .i64 0, .int .i64 0, .int .i64 0, .int .i64 0, .int .i64 0, .int .i64 0, .int .i64 0, .int .i64 0, .int .i64 0, .int .i64 0, .int .i64 0] 82)) xK).alloc (.cells #[.int .i64 (th2 ⟨g, k', l', a', b', c', e', p', q', r', s'⟩ h1 j).f, .int .i64 (th2 ⟨g, k', l', a', b', c', e', p', q', r', s'⟩ h1 j).k, .int .i64 (th2 ⟨g, k', l', a', b', c', e', p', q', r', s'⟩ h1 j).l, .int .i64 (th2 ⟨g, k', l', a', b', c', e', p', q', r', s'⟩ h1 j).a, .int .i64 (th2 ⟨g, k', l', a', b', c', e', p', q', r', s'⟩ h1 j).b, .int .i64 (th2 ⟨g, k', l', a', b', c', e', p', q', r', s'⟩ h1 j).c, .int .i64 (th2 ⟨g, k', l', a', b', c', e', p', q', r', s'⟩ h1 j).e, .int .i64 (th2 ⟨g, k', l', a', b', c', e', p', q', r', s'⟩ h1 j).p, .int .i64 (th2 ⟨g, k', l', a', b', c', e', p', q', r', s'⟩ h1 j).q, .int .i64 (th2 ⟨g, k', l', a', b', c', e', p', q', r', s'⟩ h1 j).r, .int .i64 (th2 ⟨g, k', l', a', b', c', e', p', q', r', s'⟩ h1 j).s] 82)) wr) (fun i _ => m - (intOf i).toNat)
      case atStart => exact ⟨0, by omega, rfl, hp_ext (h' := h1) rfl (by (repeat' (first | with_reducible exact Ext.refl _ | with_reducible refine Ext.ext ?_ _ | with_reducible refine Ext.alloc ?_ _ | with_reducible refine Ext.drew ?_ | with_reducible refine Ext.drewN ?_ _ | with_reducible assumption)))⟩
      case round =>
        obtain ⟨j2, hj2, rfl, z2, rfl⟩ := hrel
        by_cases hlt2 : j2 < m
        · have hm' : (j2 : Int) < l' := by have := HM.out; omega
          have hl := th2_l ⟨g, k', l', a', b', c', e', p', q', r', s'⟩ h1 j2
          obtain rfl | rfl | rfl | rfl : j2 = 0 ∨ j2 = 1 ∨ j2 = 2 ∨ j2 = 3 := by omega
          · have hl' : (th2 ⟨g, k', l', a', b', c', e', p', q', r', s'⟩ h1 0).l = 0 ∨ (th2 ⟨g, k', l', a', b', c', e', p', q', r', s'⟩ h1 0).l = 1 ∨ (th2 ⟨g, k', l', a', b', c', e', p', q', r', s'⟩ h1 0).l = 2 ∨ (th2 ⟨g, k', l', a', b', c', e', p', q', r', s'⟩ h1 0).l = 3 := by rw [hl]; omega
            clear hl
            rcases hl' with hl | hl | hl | hl
            · have eq1 := th2_lay ⟨g, k', l', a', b', c', e', p', q', r', s'⟩ h1 0 0 hl
              change th2 ⟨g, k', l', a', b', c', e', p', q', r', s'⟩ h1 1 = layAt (th2 ⟨g, k', l', a', b', c', e', p', q', r', s'⟩ h1 0) 0 p' at eq1
              generalize th2 ⟨g, k', l', a', b', c', e', p', q', r', s'⟩ h1 0 = h at eq1 hl
              have E := Lib.hid eq1
              clear eq1
              go_wp2
              (try go_region)
              go_wp2
              go_roundw
              case rel => exact ⟨1, by omega, by go_num, hp_ext E.out (by simp only [layAt, Int.reduceEq, if_true, if_false, Int.reduceAdd]; (repeat' (first | with_reducible exact Ext.refl _ | with_reducible refine Ext.ext ?_ _ | with_reducible refine Ext.alloc ?_ _ | with_reducible refine Ext.drew ?_ | with_reducible refine Ext.drewN ?_ _ | with_reducible assumption)))⟩
              case measure => simp [intOf]; omega
            · have eq1 := th2_lay ⟨g, k', l', a', b', c', e', p', q', r', s'⟩ h1 0 1 hl
              change th2 ⟨g, k', l', a', b', c', e', p', q', r', s'⟩ h1 1 = layAt (th2 ⟨g, k', l', a', b', c', e', p', q', r', s'⟩ h1 0) 1 p' at eq1
              generalize th2 ⟨g, k', l', a', b', c', e', p', q', r', s'⟩ h1 0 = h at eq1 hl
              have E := Lib.hid eq1
              clear eq1
              go_wp2
              (try go_region)
              go_wp2
              go_roundw
              case rel => exact ⟨1, by omega, by go_num, hp_ext E.out (by simp only [layAt, Int.reduceEq, if_true, if_false, Int.reduceAdd]; (repeat' (first | with_reducible exact Ext.refl _ | with_reducible refine Ext.ext ?_ _ | with_reducible refine Ext.alloc ?_ _ | with_reducible refine Ext.drew ?_ | with_reducible refine Ext.drewN ?_ _ | with_reducible assumption)))⟩
              case measure => simp [intOf]; omega
            · have eq1 := th2_lay ⟨g, k', l', a', b', c', e', p', q', r', s'⟩ h1 0 2 hl
              change th2 ⟨g, k', l', a', b', c', e', p', q', r', s'⟩ h1 1 = layAt (th2 ⟨g, k', l', a', b', c', e', p', q', r', s'⟩ h1 0) 2 p' at eq1
              generalize th2 ⟨g, k', l', a', b', c', e', p', q', r', s'⟩ h1 0 = h at eq1 hl
              have E := Lib.hid eq1
              clear eq1
              go_wp2
              (try go_region)
              go_wp2
              go_roundw
              case rel => exact ⟨1, by omega, by go_num, hp_ext E.out (by simp only [layAt, Int.reduceEq, if_true, if_false, Int.reduceAdd]; (repeat' (first | with_reducible exact Ext.refl _ | with_reducible refine Ext.ext ?_ _ | with_reducible refine Ext.alloc ?_ _ | with_reducible refine Ext.drew ?_ | with_reducible refine Ext.drewN ?_ _ | with_reducible assumption)))⟩
              case measure => simp [intOf]; omega
            · have eq1 := th2_lay ⟨g, k', l', a', b', c', e', p', q', r', s'⟩ h1 0 3 hl
              change th2 ⟨g, k', l', a', b', c', e', p', q', r', s'⟩ h1 1 = layAt (th2 ⟨g, k', l', a', b', c', e', p', q', r', s'⟩ h1 0) 3 p' at eq1
              generalize th2 ⟨g, k', l', a', b', c', e', p', q', r', s'⟩ h1 0 = h at eq1 hl
              have E := Lib.hid eq1
              clear eq1
              go_wp2
              (try go_region)
              go_wp2
              go_roundw
              case rel => exact ⟨1, by omega, by go_num, hp_ext E.out (by simp only [layAt, Int.reduceEq, if_true, if_false, Int.reduceAdd]; (repeat' (first | with_reducible exact Ext.refl _ | with_reducible refine Ext.ext ?_ _ | with_reducible refine Ext.alloc ?_ _ | with_reducible refine Ext.drew ?_ | with_reducible refine Ext.drewN ?_ _ | with_reducible assumption)))⟩
              case measure => simp [intOf]; omega
          · have hl' : (th2 ⟨g, k', l', a', b', c', e', p', q', r', s'⟩ h1 1).l = 1 ∨ (th2 ⟨g, k', l', a', b', c', e', p', q', r', s'⟩ h1 1).l = 2 ∨ (th2 ⟨g, k', l', a', b', c', e', p', q', r', s'⟩ h1 1).l = 3 := by rw [hl]; omega
            clear hl
            rcases hl' with hl | hl | hl
            · have eq1 := th2_lay ⟨g, k', l', a', b', c', e', p', q', r', s'⟩ h1 1 1 hl
              change th2 ⟨g, k', l', a', b', c', e', p', q', r', s'⟩ h1 2 = layAt (th2 ⟨g, k', l', a', b', c', e', p', q', r', s'⟩ h1 1) 1 q' at eq1
              generalize th2 ⟨g, k', l', a', b', c', e', p', q', r', s'⟩ h1 1 = h at eq1 hl
              have E := Lib.hid eq1
              clear eq1
              go_wp2
              (try go_region)
              go_wp2
              go_roundw
              case rel => exact ⟨2, by omega, by go_num, hp_ext E.out (by simp only [layAt, Int.reduceEq, if_true, if_false, Int.reduceAdd]; (repeat' (first | with_reducible exact Ext.refl _ | with_reducible refine Ext.ext ?_ _ | with_reducible refine Ext.alloc ?_ _ | with_reducible refine Ext.drew ?_ | with_reducible refine Ext.drewN ?_ _ | with_reducible assumption)))⟩
              case measure => simp [intOf]; omega
            · have eq1 := th2_lay ⟨g, k', l', a', b', c', e', p', q', r', s'⟩ h1 1 2 hl
              change th2 ⟨g, k', l', a', b', c', e', p', q', r', s'⟩ h1 2 = layAt (th2 ⟨g, k', l', a', b', c', e', p', q', r', s'⟩ h1 1) 2 q' at eq1
              generalize th2 ⟨g, k', l', a', b', c', e', p', q', r', s'⟩ h1 1 = h at eq1 hl
              have E := Lib.hid eq1
              clear eq1
              go_wp2
              (try go_region)
              go_wp2
              go_roundw
              case rel => exact ⟨2, by omega, by go_num, hp_ext E.out (by simp only [layAt, Int.reduceEq, if_true, if_false, Int.reduceAdd]; (repeat' (first | with_reducible exact Ext.refl _ | with_reducible refine Ext.ext ?_ _ | with_reducible refine Ext.alloc ?_ _ | with_reducible refine Ext.drew ?_ | with_reducible refine Ext.drewN ?_ _ | with_reducible assumption)))⟩
              case measure => simp [intOf]; omega
            · have eq1 := th2_lay ⟨g, k', l', a', b', c', e', p', q', r', s'⟩ h1 1 3 hl
              change th2 ⟨g, k', l', a', b', c', e', p', q', r', s'⟩ h1 2 = layAt (th2 ⟨g, k', l', a', b', c', e', p', q', r', s'⟩ h1 1) 3 q' at eq1
              generalize th2 ⟨g, k', l', a', b', c', e', p', q', r', s'⟩ h1 1 = h at eq1 hl
              have E := Lib.hid eq1
              clear eq1
              go_wp2
              (try go_region)
              go_wp2
              go_roundw
              case rel => exact ⟨2, by omega, by go_num, hp_ext E.out (by simp only [layAt, Int.reduceEq, if_true, if_false, Int.reduceAdd]; (repeat' (first | with_reducible exact Ext.refl _ | with_reducible refine Ext.ext ?_ _ | with_reducible refine Ext.alloc ?_ _ | with_reducible refine Ext.drew ?_ | with_reducible refine Ext.drewN ?_ _ | with_reducible assumption)))⟩
              case measure => simp [intOf]; omega
          · have hl' : (th2 ⟨g, k', l', a', b', c', e', p', q', r', s'⟩ h1 2).l = 2 ∨ (th2 ⟨g, k', l', a', b', c', e', p', q', r', s'⟩ h1 2).l = 3 := by rw [hl]; omega
            clear hl
            rcases hl' with hl | hl
            · have eq1 := th2_lay ⟨g, k', l', a', b', c', e', p', q', r', s'⟩ h1 2 2 hl
              change th2 ⟨g, k', l', a', b', c', e', p', q', r', s'⟩ h1 3 = layAt (th2 ⟨g, k', l', a', b', c', e', p', q', r', s'⟩ h1 2) 2 r' at eq1
              generalize th2 ⟨g, k', l', a', b', c', e', p', q', r', s'⟩ h1 2 = h at eq1 hl
              have E := Lib.hid eq1
              clear eq1
              go_wp2
              (try go_region)
              go_wp2
              go_roundw
              case rel => exact ⟨3, by omega, by go_num, hp_ext E.out (by simp only [layAt, Int.reduceEq, if_true, if_false, Int.reduceAdd]; (repeat' (first | with_reducible exact Ext.refl _ | with_reducible refine Ext.ext ?_ _ | with_reducible refine Ext.alloc ?_ _ | with_reducible refine Ext.drew ?_ | with_reducible refine Ext.drewN ?_ _ | with_reducible assumption)))⟩
              case measure => simp [intOf]; omega
            · have eq1 := th2_lay ⟨g, k', l', a', b', c', e', p', q', r', s'⟩ h1 2 3 hl
              change th2 ⟨g, k', l', a', b', c', e', p', q', r', s'⟩ h1 3 = layAt (th2 ⟨g, k', l', a', b', c', e', p', q', r', s'⟩ h1 2) 3 r' at eq1
              generalize th2 ⟨g, k', l', a', b', c', e', p', q', r', s'⟩ h1 2 = h at eq1 hl
              have E := Lib.hid eq1
              clear eq1
              go_wp2
              (try go_region)
              go_wp2
              go_roundw
              case rel => exact ⟨3, by omega, by go_num, hp_ext E.out (by simp only [layAt, Int.reduceEq, if_true, if_false, Int.reduceAdd]; (repeat' (first | with_reducible exact Ext.refl _ | with_reducible refine Ext.ext ?_ _ | with_reducible refine Ext.alloc ?_ _ | with_reducible refine Ext.drew ?_ | with_reducible refine Ext.drewN ?_ _ | with_reducible assumption)))⟩
              case measure => simp [intOf]; omega
          · have hl' : (th2 ⟨g, k', l', a', b', c', e', p', q', r', s'⟩ h1 3).l = 3 := by rw [hl]; omega
            clear hl
            have hl := hl'
            clear hl'
            · have eq1 := th2_lay ⟨g, k', l', a', b', c', e', p', q', r', s'⟩ h1 3 3 hl
              change th2 ⟨g, k', l', a', b', c', e', p', q', r', s'⟩ h1 4 = layAt (th2 ⟨g, k', l', a', b', c', e', p', q', r', s'⟩ h1 3) 3 s' at eq1
              generalize th2 ⟨g, k', l', a', b', c', e', p', q', r', s'⟩ h1 3 = h at eq1 hl
              have E := Lib.hid eq1
              clear eq1
              go_wp2
              (try go_region)
              go_wp2
              go_roundw
              case rel => exact ⟨4, by omega, by go_num, hp_ext E.out (by simp only [layAt, Int.reduceEq, if_true, if_false, Int.reduceAdd]; (repeat' (first | with_reducible exact Ext.refl _ | with_reducible refine Ext.ext ?_ _ | with_reducible refine Ext.alloc ?_ _ | with_reducible refine Ext.drew ?_ | with_reducible refine Ext.drewN ?_ _ | with_reducible assumption)))⟩
              case measure => simp [intOf]; omega
        · obtain rfl : j2 = m := by omega
          have hd2 : decide ((j2 : Int) < l') = false := by have := HM.out; simp; omega
          have hle : l' ≤ (j2 : Int) := by have := HM.out; omega
          have hd3 : decide ((j2 : Int) < ((l'.toNat : Nat) : Int)) = false := by have := HM.out; simp; omega
          have hd4 : decide (j2 < l'.toNat) = false := by have := HM.out; simp; omega
          have hd5 : decide ((j2 : Int) < max l' 0) = false := by have := HM.out; simp; omega
          clear hlt2
          generalize hh : th2 ⟨g, k', l', a', b', c', e', p', q', r', s'⟩ h1 j2 = h at *
          have HH := Lib.hid hh
          clear hh
          have r3 := fun w => hopRight_any h.f h.k h.l h.a h.b h.c h.e h.p h.q h.r h.s w
          have r4 : ∀ w, Calls Try.prog 40 #[.agg #[.int .i64 h.f, .int .i64 h.k, .int .i64 h.l, .int .i64 h.a, .int .i64 h.b, .int .i64 h.c, .int .i64 h.e, .int .i64 h.p, .int .i64 h.q, .int .i64 h.r, .int .i64 h.s]] w fun o w' => o = .returned (.bool v) ∧ Ext w w' := fun w => by
            have h3 := r3 w
            rw [show hopB ⟨h.f, h.k, h.l, h.a, h.b, h.c, h.e, h.p, h.q, h.r, h.s⟩ = v from HZ.out] at h3
            exact h3
          have R4 := Lib.hid r4
          clear r3 r4
          cases v
          all_goals
            go_wp2_with (go_at_call 40; ((with_reducible refine (R4.out _).mono ?_); rintro o w' ⟨rfl, u, rfl⟩))
            go_returns
            first | exact ⟨rett rfl rfl, by (repeat' (first | with_reducible exact Ext.refl _ | with_reducible refine Ext.ext ?_ _ | with_reducible refine Ext.alloc ?_ _ | with_reducible refine Ext.drew ?_ | with_reducible refine Ext.drewN ?_ _ | with_reducible assumption))⟩ | exact ⟨rett rfl (by rw [HH1.out, HH.out]), by (repeat' (first | with_reducible exact Ext.refl _ | with_reducible refine Ext.ext ?_ _ | with_reducible refine Ext.alloc ?_ _ | with_reducible refine Ext.drew ?_ | with_reducible refine Ext.drewN ?_ _ | with_reducible assumption))⟩
end Go.Proofs.Ytkmgdejpdhlleaa
