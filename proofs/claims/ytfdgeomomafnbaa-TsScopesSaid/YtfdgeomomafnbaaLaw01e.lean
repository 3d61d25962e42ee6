/- The statement TsScopes: its walk. -/
import Derived.Test.YtfdgeomomafnbaaTsLaw2
import Derived.Test.YtfdgeomomafnbaaLaw01a
import Derived.Test.YtfdgeomomafnbaaQuiet
namespace Go.Proofs.Ytfdgeomomafnbaa
set_option linter.unusedSimpArgs false
set_option linter.unusedVariables false
open Go.RowKit

theorem enter_as {d a b c e p1 p2 p3 p4 p5 : Int} {k : Bool} (h : enterR ⟨d, a, b, c, e⟩ = (⟨p1, p2, p3, p4, p5⟩, k)) (w : World) :
    Calls Try.prog 17 #[.agg #[.int .i64 d, .int .i64 a, .int .i64 b, .int .i64 c, .int .i64 e]] w fun r w' => r = .returned (.tuple #[.agg #[.int .i64 p1, .int .i64 p2, .int .i64 p3, .int .i64 p4, .int .i64 p5], .bool k]) ∧ Ext w w' := by
  have := enter_any d a b c e w
  rw [h] at this
  exact this
theorem leave_as {d a b c e p1 p2 p3 p4 p5 : Int} {k : Bool} (h : leaveR ⟨d, a, b, c, e⟩ = (⟨p1, p2, p3, p4, p5⟩, k)) (w : World) :
    Calls Try.prog 19 #[.agg #[.int .i64 d, .int .i64 a, .int .i64 b, .int .i64 c, .int .i64 e]] w fun r w' => r = .returned (.tuple #[.agg #[.int .i64 p1, .int .i64 p2, .int .i64 p3, .int .i64 p4, .int .i64 p5], .bool k]) ∧ Ext w w' := by
  have := leave_any d a b c e w
  rw [h] at this
  exact this
theorem next_as {d a b c e p1 p2 p3 p4 p5 : Int} {k : Bool} (h : nextR ⟨d, a, b, c, e⟩ = (⟨p1, p2, p3, p4, p5⟩, k)) (w : World) :
    Calls Try.prog 20 #[.agg #[.int .i64 d, .int .i64 a, .int .i64 b, .int .i64 c, .int .i64 e]] w fun r w' => r = .returned (.tuple #[.agg #[.int .i64 p1, .int .i64 p2, .int .i64 p3, .int .i64 p4, .int .i64 p5], .bool k]) ∧ Ext w w' := by
  have := next_any d a b c e w
  rw [h] at this
  exact this
theorem mod70 (n : Int) (h : 0 ≤ n) : 0 ≤ n.tmod 70 ∧ n.tmod 70 < 70 := by
  rw [Int.tmod_eq_emod_of_nonneg h]
  omega

/-- What the steps say of two timestamps that stand in the order. -/
structure Keep (d a b c e d' a' b' c' e' p1 p2 p3 p4 p5 q1 q2 q3 q4 q5 l1 l2 l3 l4 l5 m1 m2 m3 m4 m5 n1 n2 n3 n4 n5 o1 o2 o3 o4 o5 : Int) (k1 k2 k3 k4 : Bool) : Prop where
  e1 : enterR ⟨d, a, b, c, e⟩ = (⟨p1, p2, p3, p4, p5⟩, k1)
  e2 : enterR ⟨d', a', b', c', e'⟩ = (⟨q1, q2, q3, q4, q5⟩, k1)
  e3 : leB ⟨p1, p2, p3, p4, p5⟩ ⟨q1, q2, q3, q4, q5⟩ = k1
  f1 : leaveR ⟨d, a, b, c, e⟩ = (⟨l1, l2, l3, l4, l5⟩, k2)
  f2 : leaveR ⟨d', a', b', c', e'⟩ = (⟨m1, m2, m3, m4, m5⟩, k2)
  f3 : leB ⟨l1, l2, l3, l4, l5⟩ ⟨m1, m2, m3, m4, m5⟩ = k2
  g1 : nextR ⟨d, a, b, c, e⟩ = (⟨n1, n2, n3, n4, n5⟩, k3)
  g2 : nextR ⟨d', a', b', c', e'⟩ = (⟨o1, o2, o3, o4, o5⟩, k4)
  g3 : leB ⟨n1, n2, n3, n4, n5⟩ ⟨o1, o2, o3, o4, o5⟩ = k4
  g4 : k4 = true → k3 = true
  g5 : k3 = true → ¬ (n1 = d ∧ n2 = a ∧ n3 = b ∧ n4 = c ∧ n5 = e)
theorem keeps {d a b c e d' a' b' c' e' : Int} (h : leB ⟨d, a, b, c, e⟩ ⟨d', a', b', c', e'⟩ = true) :
    ∃ p1 p2 p3 p4 p5 q1 q2 q3 q4 q5 l1 l2 l3 l4 l5 m1 m2 m3 m4 m5 n1 n2 n3 n4 n5 o1 o2 o3 o4 o5 k1 k2 k3 k4, Keep d a b c e d' a' b' c' e' p1 p2 p3 p4 p5 q1 q2 q3 q4 q5 l1 l2 l3 l4 l5 m1 m2 m3 m4 m5 n1 n2 n3 n4 n5 o1 o2 o3 o4 o5 k1 k2 k3 k4 := by
  have he := enter_le h
  have hl := leave_le h
  have hn := next_le h
  have hd := next_ne (s := ⟨d, a, b, c, e⟩)
  rcases h1 : enterR ⟨d, a, b, c, e⟩ with ⟨⟨p1, p2, p3, p4, p5⟩, k1⟩
  rcases h2 : enterR ⟨d', a', b', c', e'⟩ with ⟨⟨q1, q2, q3, q4, q5⟩, k1'⟩
  rcases h3 : leaveR ⟨d, a, b, c, e⟩ with ⟨⟨l1, l2, l3, l4, l5⟩, k2⟩
  rcases h4 : leaveR ⟨d', a', b', c', e'⟩ with ⟨⟨m1, m2, m3, m4, m5⟩, k2'⟩
  rcases h5 : nextR ⟨d, a, b, c, e⟩ with ⟨⟨n1, n2, n3, n4, n5⟩, k3⟩
  rcases h6 : nextR ⟨d', a', b', c', e'⟩ with ⟨⟨o1, o2, o3, o4, o5⟩, k4⟩
  rw [h1, h2] at he
  rw [h3, h4] at hl
  rw [h5, h6] at hn
  rw [h5] at hd
  obtain ⟨rfl, he⟩ := he
  obtain ⟨rfl, hl⟩ := hl
  obtain ⟨hn, hm⟩ := hn
  exact ⟨_, _, _, _, _, _, _, _, _, _, _, _, _, _, _, _, _, _, _, _, _, _, _, _, _, _, _, _, _, _, _, _, _, _, ⟨h1, h2, he, h3, h4, hl, h5, h6, hn, hm, fun h ⟨x1, x2, x3, x4, x5⟩ => hd h (by subst x1; subst x2; subst x3; subst x4; subst x5; rfl)⟩⟩

set_option maxHeartbeats 4000000 in
theorem walk_TsScopes (d a b c e : Int) (_ : -9223372036854775808 ≤ d ∧ d ≤ 9223372036854775807) (_ : -9223372036854775808 ≤ a ∧ a ≤ 9223372036854775807) (_ : -9223372036854775808 ≤ b ∧ b ≤ 9223372036854775807) (_ : -9223372036854775808 ≤ c ∧ c ≤ 9223372036854775807) (_ : -9223372036854775808 ≤ e ∧ e ≤ 9223372036854775807) (d' a' b' c' e' : Int) (_ : -9223372036854775808 ≤ d' ∧ d' ≤ 9223372036854775807) (_ : -9223372036854775808 ≤ a' ∧ a' ≤ 9223372036854775807) (_ : -9223372036854775808 ≤ b' ∧ b' ≤ 9223372036854775807) (_ : -9223372036854775808 ≤ c' ∧ c' ≤ 9223372036854775807) (_ : -9223372036854775808 ≤ e' ∧ e' ≤ 9223372036854775807) (n : Int) (hn : 0 ≤ n ∧ n ≤ 255) (w : World) :
    Calls Try.prog 6 #[.agg #[.int .i64 d, .int .i64 a, .int .i64 b, .int .i64 c, .int .i64 e], .agg #[.int .i64 d', .int .i64 a', .int .i64 b', .int .i64 c', .int .i64 e'], .int .u8 n] w fun r w' => r = .returned (.bool true) ∧ Ext w w' := by
  obtain ⟨hn1, hn2⟩ := hn
  have hm := mod70 n hn1
  obtain ⟨hm1, hm2⟩ := hm
  cases hl : leB ⟨d, a, b, c, e⟩ ⟨d', a', b', c', e'⟩
  · rcases he : enterR ⟨d, a, b, c, e⟩ with ⟨⟨p1, p2, p3, p4, p5⟩, k1⟩
    have HL := Lib.hid hl
    have HE := Lib.hid he
    clear hl
    cases k1
    · clear he
      go_enter Try.func6, Try.ntmps6
      go_wp2_with (first | (go_at_call 16; refine (awake01 _).mono ?_; rintro r w' ⟨rfl, x, rfl⟩) | (go_at_call 17; refine (enter_as HE.out _).mono ?_; rintro r w' ⟨rfl, x, rfl⟩) | (go_at_call 21; ((with_reducible refine (le_eq HL.out _).mono ?_); rintro r w' ⟨rfl, x, rfl⟩)))
      go_returns
      exact ⟨retb rfl rfl, by (repeat' (first | with_reducible exact Ext.refl _ | with_reducible refine Ext.ext ?_ _ | with_reducible refine Ext.alloc ?_ _ | with_reducible refine Ext.drew ?_ | with_reducible refine Ext.drewN ?_ _ | with_reducible assumption))⟩
    · have hs : Scoped ⟨d, a, b, c, e⟩ ⟨p1, p2, p3, p4, p5⟩ := by have := enter_scoped (a := ⟨d, a, b, c, e⟩) (by rw [he]); rw [he] at this; exact this
      have HR := Lib.hid (enter_right (a := ⟨d, a, b, c, e⟩) (by rw [he]))
      have HS := Lib.hid hs
      clear he hs
      go_enter Try.func6, Try.ntmps6
      go_wp2_with (first | (go_at_call 16; refine (awake01 _).mono ?_; rintro r w' ⟨rfl, x, rfl⟩) | (go_at_call 17; refine (enter_as HE.out _).mono ?_; rintro r w' ⟨rfl, x0, rfl⟩))
      go_loopw [9] (fun i wr => ∃ k : Nat, k ≤ 70 ∧ i = .int .i64 k ∧ ∃ t1 t2 t3 t4 t5 : Int, Scoped ⟨d, a, b, c, e⟩ ⟨t1, t2, t3, t4, t5⟩ ∧ Ext ((ext ((w.alloc (.cells #[.int .i64 d, .int .i64 a, .int .i64 b, .int .i64 c, .int .i64 e] 29)).alloc (.cells #[.int .i64 d', .int .i64 a', .int .i64 b', .int .i64 c', .int .i64 e'] 29)) (x.add x0)).alloc (.cells #[.int .i64 t1, .int .i64 t2, .int .i64 t3, .int .i64 t4, .int .i64 t5] 29)) wr) (fun i _ => 70 - (intOf i).toNat)
      case atStart => exact ⟨0, by omega, rfl, _, _, _, _, _, HS.out, Ext.refl _⟩
      case round =>
        obtain ⟨k, hk, rfl, t1, t2, t3, t4, t5, hs, z, rfl⟩ := hrel
        by_cases hlt : (k : Int) < n % 70
        · rcases hn : nextR ⟨t1, t2, t3, t4, t5⟩ with ⟨⟨u1, u2, u3, u4, u5⟩, v⟩
          have hs2 : v = true → Scoped ⟨d, a, b, c, e⟩ ⟨u1, u2, u3, u4, u5⟩ := fun h => by have := next_scoped hs (by rw [hn]; exact h); rw [hn] at this; exact this
          have HN := Lib.hid hn
          have HT := Lib.hid hs
          have HS2 := Lib.hid hs2
          clear hn hs hs2
          cases v
          · go_wp2_with (first | (go_at_call 16; refine (awake01 _).mono ?_; rintro r w' ⟨rfl, x, rfl⟩) | (go_at_call 20; ((with_reducible refine (next_as HN.out _).mono ?_); rintro r w' ⟨rfl, y, rfl⟩)))
            exact ⟨⟨k + 1, by omega, by go_num, _, _, _, _, _, HT.out, by (repeat' (first | with_reducible exact Ext.refl _ | with_reducible refine Ext.ext ?_ _ | with_reducible refine Ext.alloc ?_ _ | with_reducible refine Ext.drew ?_ | with_reducible refine Ext.drewN ?_ _ | with_reducible assumption))⟩, by simp [intOf]; omega⟩
          · go_wp2_with (first | (go_at_call 16; refine (awake01 _).mono ?_; rintro r w' ⟨rfl, x, rfl⟩) | (go_at_call 20; ((with_reducible refine (next_as HN.out _).mono ?_); rintro r w' ⟨rfl, y, rfl⟩)))
            exact ⟨⟨k + 1, by omega, by go_num, _, _, _, _, _, HS2.out trivial, by (repeat' (first | with_reducible exact Ext.refl _ | with_reducible refine Ext.ext ?_ _ | with_reducible refine Ext.alloc ?_ _ | with_reducible refine Ext.drew ?_ | with_reducible refine Ext.drewN ?_ _ | with_reducible assumption))⟩, by simp [intOf]; omega⟩
        · have hb : leaveR ⟨t1, t2, t3, t4, t5⟩ = (⟨d, a, b, c, e⟩, true) := leave_scoped HR.out hs
          have HB := Lib.hid hb
          clear hb hs
          go_wp2_with (first | (go_at_call 16; refine (awake01 _).mono ?_; rintro r w' ⟨rfl, x, rfl⟩) | (go_at_call 19; ((with_reducible refine (leave_as HB.out _).mono ?_); rintro r w' ⟨rfl, y, rfl⟩)) | (go_at_call 21; ((with_reducible refine (le_eq HL.out _).mono ?_); rintro r w' ⟨rfl, y, rfl⟩)))
          go_returns
          exact ⟨retb rfl rfl, by (repeat' (first | with_reducible exact Ext.refl _ | with_reducible refine Ext.ext ?_ _ | with_reducible refine Ext.alloc ?_ _ | with_reducible refine Ext.drew ?_ | with_reducible refine Ext.drewN ?_ _ | with_reducible assumption))⟩
  · obtain ⟨p1, p2, p3, p4, p5, q1, q2, q3, q4, q5, l1, l2, l3, l4, l5, m1, m2, m3, m4, m5, n1, n2, n3, n4, n5, o1, o2, o3, o4, o5, k1, k2, k3, k4, he, he2, he3, hf1, hf2, hf3, hg1, hg2, hg3, hg4, hg5⟩ := keeps hl
    have HL := Lib.hid hl
    have HE := Lib.hid he
    have HE2 := Lib.hid he2
    have HE3 := Lib.hid he3
    have HF1 := Lib.hid hf1
    have HF2 := Lib.hid hf2
    have HF3 := Lib.hid hf3
    have HG1 := Lib.hid hg1
    have HG2 := Lib.hid hg2
    have HG3 := Lib.hid hg3
    have HG5 := Lib.hid hg5
    clear hl he2 he3 hf1 hf2 hf3 hg1 hg2 hg3 hg5
    cases k1
    · clear he
      cases k2 <;> cases k3 <;> cases k4
      all_goals first | (exact absurd (hg4 rfl) (by decide)) | skip
      all_goals clear hg4
      all_goals
        go_enter Try.func6, Try.ntmps6
        go_wp2_with (first | (go_at_call 16; refine (awake01 _).mono ?_; rintro r w' ⟨rfl, x, rfl⟩) | (go_at_call 17; ((with_reducible refine (enter_as HE.out _).mono ?_); rintro r w' ⟨rfl, y, rfl⟩)) | (go_at_call 17; ((with_reducible refine (enter_as HE2.out _).mono ?_); rintro r w' ⟨rfl, y, rfl⟩)) | (go_at_call 20; ((with_reducible refine (next_as HG1.out _).mono ?_); rintro r w' ⟨rfl, y, rfl⟩)) | (go_at_call 20; ((with_reducible refine (next_as HG2.out _).mono ?_); rintro r w' ⟨rfl, y, rfl⟩)) | (go_at_call 19; ((with_reducible refine (leave_as HF1.out _).mono ?_); rintro r w' ⟨rfl, y, rfl⟩)) | (go_at_call 19; ((with_reducible refine (leave_as HF2.out _).mono ?_); rintro r w' ⟨rfl, y, rfl⟩)) | (go_at_call 21; ((with_reducible refine (le_eq HL.out _).mono ?_); rintro r w' ⟨rfl, y, rfl⟩)) | (go_at_call 21; ((with_reducible refine (le_eq HE3.out _).mono ?_); rintro r w' ⟨rfl, y, rfl⟩)) | (go_at_call 21; ((with_reducible refine (le_eq HF3.out _).mono ?_); rintro r w' ⟨rfl, y, rfl⟩)) | (go_at_call 21; ((with_reducible refine (le_eq HG3.out _).mono ?_); rintro r w' ⟨rfl, y, rfl⟩)))
        repeat
          refine wp_region_ext (by kernel_rfl) (by kernel_rfl) ?_
          repeat (go_big_quiet_step (first | (go_at_call 21; (apply quiet_of; (with_reducible exact le_eq HE3.out _); (intro w' hx; obtain ⟨z, rfl⟩ := hx; (try simp only [ext_ext, add_assoc]); exact ⟨_, rfl⟩))) | (go_at_call 21; (apply quiet_of; (with_reducible exact le_eq HF3.out _); (intro w' hx; obtain ⟨z, rfl⟩ := hx; (try simp only [ext_ext, add_assoc]); exact ⟨_, rfl⟩))) | (go_at_call 21; (apply quiet_of; (with_reducible exact le_eq HG3.out _); (intro w' hx; obtain ⟨z, rfl⟩ := hx; (try simp only [ext_ext, add_assoc]); exact ⟨_, rfl⟩)))))
          refine wpQuiet_nil ?_
          intro xK
          go_wp2_with (first | (go_at_call 16; refine (awake01 _).mono ?_; rintro r w' ⟨rfl, x, rfl⟩) | (go_at_call 17; ((with_reducible refine (enter_as HE.out _).mono ?_); rintro r w' ⟨rfl, y, rfl⟩)) | (go_at_call 17; ((with_reducible refine (enter_as HE2.out _).mono ?_); rintro r w' ⟨rfl, y, rfl⟩)) | (go_at_call 20; ((with_reducible refine (next_as HG1.out _).mono ?_); rintro r w' ⟨rfl, y, rfl⟩)) | (go_at_call 20; ((with_reducible refine (next_as HG2.out _).mono ?_); rintro r w' ⟨rfl, y, rfl⟩)) | (go_at_call 19; ((with_reducible refine (leave_as HF1.out _).mono ?_); rintro r w' ⟨rfl, y, rfl⟩)) | (go_at_call 19; ((with_reducible refine (leave_as HF2.out _).mono ?_); rintro r w' ⟨rfl, y, rfl⟩)) | (go_at_call 21; ((with_reducible refine (le_eq HL.out _).mono ?_); rintro r w' ⟨rfl, y, rfl⟩)) | (go_at_call 21; ((with_reducible refine (le_eq HE3.out _).mono ?_); rintro r w' ⟨rfl, y, rfl⟩)) | (go_at_call 21; ((with_reducible refine (le_eq HF3.out _).mono ?_); rintro r w' ⟨rfl, y, rfl⟩)) | (go_at_call 21; ((with_reducible refine (le_eq HG3.out _).mono ?_); rintro r w' ⟨rfl, y, rfl⟩)))
        all_goals first | (go_returns; exact ⟨retb rfl rfl, by (repeat' (first | with_reducible exact Ext.refl _ | with_reducible refine Ext.ext ?_ _ | with_reducible refine Ext.alloc ?_ _ | with_reducible refine Ext.drew ?_ | with_reducible refine Ext.drewN ?_ _ | with_reducible assumption))⟩) | exact (HG5.out trivial (by omega)).elim
    · have hs : Scoped ⟨d, a, b, c, e⟩ ⟨p1, p2, p3, p4, p5⟩ := by have := enter_scoped (a := ⟨d, a, b, c, e⟩) (by rw [he]); rw [he] at this; exact this
      have HR := Lib.hid (enter_right (a := ⟨d, a, b, c, e⟩) (by rw [he]))
      have HS := Lib.hid hs
      clear he hs
      cases k2 <;> cases k3 <;> cases k4
      all_goals first | (exact absurd (hg4 rfl) (by decide)) | skip
      all_goals clear hg4
      all_goals
        go_enter Try.func6, Try.ntmps6
        go_wp2_with (first | (go_at_call 16; refine (awake01 _).mono ?_; rintro r w' ⟨rfl, x, rfl⟩) | (go_at_call 17; refine (enter_as HE.out _).mono ?_; rintro r w' ⟨rfl, x0, rfl⟩))
        go_loopw [9] (fun i wr => ∃ k : Nat, k ≤ 70 ∧ i = .int .i64 k ∧ ∃ t1 t2 t3 t4 t5 : Int, Scoped ⟨d, a, b, c, e⟩ ⟨t1, t2, t3, t4, t5⟩ ∧ Ext ((ext ((w.alloc (.cells #[.int .i64 d, .int .i64 a, .int .i64 b, .int .i64 c, .int .i64 e] 29)).alloc (.cells #[.int .i64 d', .int .i64 a', .int .i64 b', .int .i64 c', .int .i64 e'] 29)) (x.add x0)).alloc (.cells #[.int .i64 t1, .int .i64 t2, .int .i64 t3, .int .i64 t4, .int .i64 t5] 29)) wr) (fun i _ => 70 - (intOf i).toNat)
        case atStart => exact ⟨0, by omega, rfl, _, _, _, _, _, HS.out, Ext.refl _⟩
        case round =>
          obtain ⟨k, hk, rfl, t1, t2, t3, t4, t5, hs, z, rfl⟩ := hrel
          by_cases hlt : (k : Int) < n % 70
          · rcases hn : nextR ⟨t1, t2, t3, t4, t5⟩ with ⟨⟨u1, u2, u3, u4, u5⟩, v⟩
            have hs2 : v = true → Scoped ⟨d, a, b, c, e⟩ ⟨u1, u2, u3, u4, u5⟩ := fun h => by have := next_scoped hs (by rw [hn]; exact h); rw [hn] at this; exact this
            have HN := Lib.hid hn
            have HT := Lib.hid hs
            have HS2 := Lib.hid hs2
            clear hn hs hs2
            cases v
            · go_wp2_with (first | (go_at_call 16; refine (awake01 _).mono ?_; rintro r w' ⟨rfl, x, rfl⟩) | (go_at_call 20; ((with_reducible refine (next_as HN.out _).mono ?_); rintro r w' ⟨rfl, y, rfl⟩)))
              exact ⟨⟨k + 1, by omega, by go_num, _, _, _, _, _, HT.out, by (repeat' (first | with_reducible exact Ext.refl _ | with_reducible refine Ext.ext ?_ _ | with_reducible refine Ext.alloc ?_ _ | with_reducible refine Ext.drew ?_ | with_reducible refine Ext.drewN ?_ _ | with_reducible assumption))⟩, by simp [intOf]; omega⟩
            · go_wp2_with (first | (go_at_call 16; refine (awake01 _).mono ?_; rintro r w' ⟨rfl, x, rfl⟩) | (go_at_call 20; ((with_reducible refine (next_as HN.out _).mono ?_); rintro r w' ⟨rfl, y, rfl⟩)))
              exact ⟨⟨k + 1, by omega, by go_num, _, _, _, _, _, HS2.out trivial, by (repeat' (first | with_reducible exact Ext.refl _ | with_reducible refine Ext.ext ?_ _ | with_reducible refine Ext.alloc ?_ _ | with_reducible refine Ext.drew ?_ | with_reducible refine Ext.drewN ?_ _ | with_reducible assumption))⟩, by simp [intOf]; omega⟩
          · have hb : leaveR ⟨t1, t2, t3, t4, t5⟩ = (⟨d, a, b, c, e⟩, true) := leave_scoped HR.out hs
            have HB := Lib.hid hb
            clear hb hs
            go_wp2_with (first | (go_at_call 19; ((with_reducible refine (leave_as HB.out _).mono ?_); rintro r w' ⟨rfl, y, rfl⟩)) | (go_at_call 16; refine (awake01 _).mono ?_; rintro r w' ⟨rfl, x, rfl⟩) | (go_at_call 17; ((with_reducible refine (enter_as HE.out _).mono ?_); rintro r w' ⟨rfl, y, rfl⟩)) | (go_at_call 17; ((with_reducible refine (enter_as HE2.out _).mono ?_); rintro r w' ⟨rfl, y, rfl⟩)) | (go_at_call 20; ((with_reducible refine (next_as HG1.out _).mono ?_); rintro r w' ⟨rfl, y, rfl⟩)) | (go_at_call 20; ((with_reducible refine (next_as HG2.out _).mono ?_); rintro r w' ⟨rfl, y, rfl⟩)) | (go_at_call 19; ((with_reducible refine (leave_as HF1.out _).mono ?_); rintro r w' ⟨rfl, y, rfl⟩)) | (go_at_call 19; ((with_reducible refine (leave_as HF2.out _).mono ?_); rintro r w' ⟨rfl, y, rfl⟩)) | (go_at_call 21; ((with_reducible refine (le_eq HL.out _).mono ?_); rintro r w' ⟨rfl, y, rfl⟩)) | (go_at_call 21; ((with_reducible refine (le_eq HE3.out _).mono ?_); rintro r w' ⟨rfl, y, rfl⟩)) | (go_at_call 21; ((with_reducible refine (le_eq HF3.out _).mono ?_); rintro r w' ⟨rfl, y, rfl⟩)) | (go_at_call 21; ((with_reducible refine (le_eq HG3.out _).mono ?_); rintro r w' ⟨rfl, y, rfl⟩)))
            repeat
              refine wp_region_ext (by kernel_rfl) (by kernel_rfl) ?_
              repeat (go_big_quiet_step (first | (go_at_call 21; (apply quiet_of; (with_reducible exact le_eq HE3.out _); (intro w' hx; obtain ⟨z, rfl⟩ := hx; (try simp only [ext_ext, add_assoc]); exact ⟨_, rfl⟩))) | (go_at_call 21; (apply quiet_of; (with_reducible exact le_eq HF3.out _); (intro w' hx; obtain ⟨z, rfl⟩ := hx; (try simp only [ext_ext, add_assoc]); exact ⟨_, rfl⟩))) | (go_at_call 21; (apply quiet_of; (with_reducible exact le_eq HG3.out _); (intro w' hx; obtain ⟨z, rfl⟩ := hx; (try simp only [ext_ext, add_assoc]); exact ⟨_, rfl⟩)))))
              refine wpQuiet_nil ?_
              intro xK
              go_wp2_with (first | (go_at_call 16; refine (awake01 _).mono ?_; rintro r w' ⟨rfl, x, rfl⟩) | (go_at_call 17; ((with_reducible refine (enter_as HE.out _).mono ?_); rintro r w' ⟨rfl, y, rfl⟩)) | (go_at_call 17; ((with_reducible refine (enter_as HE2.out _).mono ?_); rintro r w' ⟨rfl, y, rfl⟩)) | (go_at_call 20; ((with_reducible refine (next_as HG1.out _).mono ?_); rintro r w' ⟨rfl, y, rfl⟩)) | (go_at_call 20; ((with_reducible refine (next_as HG2.out _).mono ?_); rintro r w' ⟨rfl, y, rfl⟩)) | (go_at_call 19; ((with_reducible refine (leave_as HF1.out _).mono ?_); rintro r w' ⟨rfl, y, rfl⟩)) | (go_at_call 19; ((with_reducible refine (leave_as HF2.out _).mono ?_); rintro r w' ⟨rfl, y, rfl⟩)) | (go_at_call 21; ((with_reducible refine (le_eq HL.out _).mono ?_); rintro r w' ⟨rfl, y, rfl⟩)) | (go_at_call 21; ((with_reducible refine (le_eq HE3.out _).mono ?_); rintro r w' ⟨rfl, y, rfl⟩)) | (go_at_call 21; ((with_reducible refine (le_eq HF3.out _).mono ?_); rintro r w' ⟨rfl, y, rfl⟩)) | (go_at_call 21; ((with_reducible refine (le_eq HG3.out _).mono ?_); rintro r w' ⟨rfl, y, rfl⟩)))
            all_goals first | (go_returns; exact ⟨retb rfl rfl, by (repeat' (first | with_reducible exact Ext.refl _ | with_reducible refine Ext.ext ?_ _ | with_reducible refine Ext.alloc ?_ _ | with_reducible refine Ext.drew ?_ | with_reducible refine Ext.drewN ?_ _ | with_reducible assumption))⟩) | exact (HG5.out trivial (by omega)).elim
end Go.Proofs.Ytfdgeomomafnbaa
