/- Chain: the order of timestamps; slices.BinarySearchFunc in a row that stands in order. -/
import Derived.Test.YtmngjifcgfnogaaChC
import Derived.Test.YtmngjifcgfnogaaChB
namespace Go.Proofs.Ytmngjifcgfnogaa
set_option linter.unusedSimpArgs false
set_option linter.unusedVariables false
set_option maxRecDepth 100000
open Go.RowKit

def keyLt (s t : Tm) : Prop := s.a < t.a ∨ (s.a = t.a ∧ (s.b < t.b ∨ (s.b = t.b ∧ (s.c < t.c ∨ (s.c = t.c ∧ (s.e < t.e ∨ (s.e = t.e ∧ s.d < t.d)))))))
theorem getD_iff (s t : Tm) (n p q : Int) (h1 : 1 ≤ n) (h4 : n ≤ 4) : (lessC s t n).getD (decide (p < q)) = true ↔ (s.a < t.a ∨ (s.a = t.a ∧ ((n = 1 ∧ p < q) ∨ (1 < n ∧ (s.b < t.b ∨ (s.b = t.b ∧ ((n = 2 ∧ p < q) ∨ (2 < n ∧ (s.c < t.c ∨ (s.c = t.c ∧ ((n = 3 ∧ p < q) ∨ (3 < n ∧ (s.e < t.e ∨ (s.e = t.e ∧ p < q)))))))))))))) := by
  have d : ∀ y z : Int, (some (decide (y < z))).getD (decide (p < q)) = true ↔ y < z := fun y z => by simp
  have dn : (none : Option Bool).getD (decide (p < q)) = true ↔ p < q := by simp
  unfold lessC
  rw [if_neg (by omega)]
  by_cases ha : s.a = t.a
  · rw [if_neg (by simp [ha])]
    by_cases n1 : n ≤ 1
    · rw [if_pos n1, dn]; constructor <;> intro h <;> omega
    · rw [if_neg n1]
      by_cases hb : s.b = t.b
      · rw [if_neg (by simp [hb])]
        by_cases n2 : n ≤ 2
        · rw [if_pos n2, dn]; constructor <;> intro h <;> omega
        · rw [if_neg n2]
          by_cases hc : s.c = t.c
          · rw [if_neg (by simp [hc])]
            by_cases n3 : n ≤ 3
            · rw [if_pos n3, dn]; constructor <;> intro h <;> omega
            · rw [if_neg n3]
              by_cases he : s.e = t.e
              · rw [if_neg (by simp [he]), dn]; constructor <;> intro h <;> omega
              · rw [if_pos (by simp [he]), d]; constructor <;> intro h <;> omega
          · rw [if_pos (by simp [hc]), d]; constructor <;> intro h <;> omega
      · rw [if_pos (by simp [hb]), d]; constructor <;> intro h <;> omega
  · rw [if_pos (by simp [ha]), d]; constructor <;> intro h <;> omega
theorem lessB_iff (s t : Tm) : lessB s t = true ↔ rightB s = true ∧ rightB t = true ∧ keyLt s t := by
  unfold lessB
  rw [Bool.and_eq_true, Bool.and_eq_true]
  refine and_congr_right fun h1 => and_congr_right fun h2 => ?_
  rw [rightB_iff] at h1 h2
  rw [getD_iff _ _ _ _ _ (by omega) (by omega)]
  unfold keyLt
  obtain ⟨n, hn⟩ : ∃ n, min s.d t.d = n := ⟨_, rfl⟩
  rw [hn]
  by_cases hd : s.d ≤ t.d
  · obtain rfl : s.d = n := by omega
    constructor <;> intro h <;> omega
  · obtain rfl : t.d = n := by omega
    constructor <;> intro h <;> omega
theorem lessB_trans {s t u : Tm} (h : lessB s t = true) (k : lessB t u = true) : lessB s u = true := by
  rw [lessB_iff] at *
  obtain ⟨h1, -, h3⟩ := h
  obtain ⟨-, k2, k3⟩ := k
  refine ⟨h1, k2, ?_⟩
  unfold keyLt at *
  omega
theorem lessB_irrefl (s : Tm) : lessB s s = false := by
  rw [Bool.eq_false_iff, Ne, lessB_iff]
  unfold keyLt
  omega
theorem lessB_total {s t : Tm} (h1 : rightB s = true) (h2 : rightB t = true) (hne : s ≠ t) (h : lessB s t = false) : lessB t s = true := by
  rw [Bool.eq_false_iff, Ne, lessB_iff] at h
  rw [lessB_iff]
  refine ⟨h2, h1, ?_⟩
  have hk : ¬ keyLt s t := fun k => h ⟨h1, h2, k⟩
  obtain ⟨d, a, b, c, e⟩ := s
  obtain ⟨d', a', b', c', e'⟩ := t
  unfold keyLt at *
  dsimp only at *
  by_cases q1 : a = a'
  · by_cases q2 : b = b'
    · by_cases q3 : c = c'
      · by_cases q4 : e = e'
        · by_cases q5 : d = d'
          · subst q1 q2 q3 q4 q5; exact absurd rfl hne
          · omega
        · omega
      · omega
    · omega
  · omega
theorem le_less {s t : Tm} (h : leB s t = true) (hne : s ≠ t) : lessB s t = true := by
  rw [leB_iff] at h
  obtain ⟨h1, h2, h3, h4, h5, h6, h7⟩ := h
  rcases Bool.eq_false_or_eq_true (lessB s t) with h | h
  · exact h
  · have := lessB_total h1 h2 hne h
    rw [lessB_iff] at this
    obtain ⟨-, -, hk⟩ := this
    unfold keyLt at hk
    omega
theorem leB_trans {s t u : Tm} (h : leB s t = true) (k : leB t u = true) : leB s u = true := by
  rw [leB_iff] at *
  obtain ⟨h1, -, h3, h4, h5, h6, h7⟩ := h
  obtain ⟨-, k2, k3, k4, k5, k6, k7⟩ := k
  exact ⟨h1, k2, by omega, by omega, by omega, by omega, by omega⟩
theorem leB_anti {s t : Tm} (h : leB s t = true) (k : leB t s = true) : s = t := by
  rw [leB_iff] at *
  obtain ⟨h1, -, h3, h4, h5, h6, h7⟩ := h
  obtain ⟨-, k2, k3, k4, k5, k6, k7⟩ := k
  obtain ⟨d, a, b, c, e⟩ := s
  obtain ⟨d', a', b', c', e'⟩ := t
  dsimp only at *
  obtain rfl : d = d' := by omega
  obtain rfl : a = a' := by omega
  obtain rfl : b = b' := by omega
  obtain rfl : c = c' := by omega
  obtain rfl : e = e' := by omega
  rfl
/-- Strictly in order. -/
def Srt (l : List Tm) : Prop := l.Pairwise (fun x y => lessB x y = true)
theorem Srt.at {l : List Tm} (h : Srt l) {i j : Nat} {x y : Tm} (hij : i < j) (hx : l[i]? = some x) (hy : l[j]? = some y) : lessB x y = true := by
  obtain ⟨hi, rfl⟩ := List.getElem?_eq_some_iff.1 hx
  obtain ⟨hj, rfl⟩ := List.getElem?_eq_some_iff.1 hy
  exact List.pairwise_iff_getElem.1 h i j hi hj hij
/-- Where a timestamp would stand. -/
def posT : List Tm → Tm → Nat
  | [], _ => 0
  | x :: l, t => if lessB x t then posT l t + 1 else 0
theorem posT_le (t : Tm) : ∀ l : List Tm, posT l t ≤ l.length
  | [] => Nat.le_refl _
  | x :: l => by
    unfold posT
    have := posT_le t l
    split <;> simp <;> omega
theorem posT_at {t : Tm} : ∀ {l : List Tm} {p : Nat}, p ≤ l.length → (∀ i x, i < p → l[i]? = some x → lessB x t = true) → (∀ x, l[p]? = some x → lessB x t = false) → posT l t = p
  | [], p, hp, _, _ => by simp at hp; simp [posT, hp]
  | x :: l, 0, _, _, h2 => by
    unfold posT
    rw [if_neg (by rw [h2 x rfl]; decide)]
  | x :: l, p + 1, hp, h1, h2 => by
    unfold posT
    rw [if_pos (h1 0 x (by omega) rfl)]
    rw [posT_at (p := p) (by simpa using hp) (fun i y hi hy => h1 (i + 1) y (by omega) (by simpa using hy)) (fun y hy => h2 y (by simpa using hy))]
def ord2 (x t : Tm) : Int := if lessB x t then -1 else 1
theorem of2_any (x t : Tm) (w : World) : Calls Try.prog 49 #[.agg #[.int .i64 x.d, .int .i64 x.a, .int .i64 x.b, .int .i64 x.c, .int .i64 x.e], .agg #[.int .i64 t.d, .int .i64 t.a, .int .i64 t.b, .int .i64 t.c, .int .i64 t.e]] w fun e w' => e = .returned (.int .i64 (ord2 x t)) ∧ Ext w w' := by
  have LE := Lib.hid (fun w => less_any x.d x.a x.b x.c x.e t.d t.a t.b t.c t.e w)
  obtain ⟨xd, xa, xb, xc, xe⟩ := x
  obtain ⟨td, ta, tb, tc, te⟩ := t
  dsimp only at LE ⊢
  unfold ord2
  generalize lessB ⟨xd, xa, xb, xc, xe⟩ ⟨td, ta, tb, tc, te⟩ = r at *
  cases r
  all_goals
    go_enter Try.func49, Try.ntmps49
    go_wp2_with (go_at_call 50; (with_reducible refine (LE.out _).mono ?_); rintro e w' ⟨rfl, x1, rfl⟩)
    go_returns
    exact ⟨reti rfl rfl, by (repeat' (first | with_reducible exact Ext.refl _ | with_reducible refine Ext.ext ?_ _ | with_reducible refine Ext.alloc ?_ _ | with_reducible refine Ext.drew ?_ | with_reducible refine Ext.drewN ?_ _ | with_reducible assumption))⟩
set_option maxHeartbeats 4000000 in
theorem bsf_any (l : List Tm) (a : Option Addr) (n c : Nat) (w : World) (h : Rd w 5 n (.slice a n c) (tms l)) (hn : l.length = n) (hl : n ≤ 1073741824) (hc : Srt l) (t : Tm) :
    Calls Try.prog 48 #[.slice a n c, .agg #[.int .i64 t.d, .int .i64 t.a, .int .i64 t.b, .int .i64 t.c, .int .i64 t.e], .func (Fn.func 49) #[] #[]] w fun e w' => e = .returned (.tuple #[.int .i64 (posT l t), .bool false]) ∧ Ext w w' := by
  have H := Lib.hid h
  have HN := Lib.hid hn
  have HL := Lib.hid hl
  have HC := Lib.hid hc
  obtain ⟨R1, hR1⟩ : ∃ R, R = ((posT l t : Nat) : Int) := ⟨_, rfl⟩
  rw [← hR1]
  have HR1 := Lib.hid hR1
  have P1 := Lib.hid (fun x w => of2_any x t w)
  obtain ⟨td, ta, tb, tc, te⟩ := t
  clear h hn hl hc hR1
  dsimp only at P1 ⊢
  obtain ⟨T, hT⟩ : ∃ T : Tm, T = ⟨td, ta, tb, tc, te⟩ := ⟨_, rfl⟩
  rw [← hT] at HR1
  rw [← hT] at P1
  have HT := Lib.hid hT
  clear hT
  go_enter Try.func48, Try.ntmps48
  go_wp2
  go_loopw [9, 10] (fun i k wr => ∃ lo hi : Nat, lo ≤ hi ∧ hi ≤ n ∧ i = .int .i64 lo ∧ k = .int .i64 hi ∧ (∃ z, wr = ext (w.alloc (.cells #[.int .i64 td, .int .i64 ta, .int .i64 tb, .int .i64 tc, .int .i64 te] 47)) z) ∧ (∀ q x, q < lo → l[q]? = some x → lessB x T = true) ∧ (∀ q x, hi ≤ q → l[q]? = some x → lessB x T = false)) (fun i k _ => (intOf k).toNat - (intOf i).toNat)
  case atStart => exact ⟨0, n, Nat.zero_le _, Nat.le_refl _, rfl, rfl, ⟨_, (ext_zero _).symm⟩, fun q x hq => absurd hq (Nat.not_lt_zero q), fun q x hq hx => by have := (List.getElem?_eq_some_iff.1 hx).1; have := HN.out; omega⟩
  case round =>
    obtain ⟨lo, hi, hlh, hhn, rfl, rfl, ⟨z, rfl⟩, h1, h2⟩ := hrel
    have H1 := Lib.hid h1
    have H2 := Lib.hid h2
    clear h1 h2
    by_cases hlt : lo < hi
    · have i0 : (lo : Int) < hi := by omega
      have hx30 := HL.out
      obtain ⟨m, hm⟩ : ∃ m, m = (lo + hi) / 2 := ⟨_, rfl⟩
      have em : ((lo : Int) + hi) / 2 = (m : Int) := by omega
      have hm1 : lo ≤ m := by omega
      have hm2 : m < hi := by omega
      have i1 : (0 : Int) ≤ m := by omega
      have i2 : (m : Int) < n := by omega
      obtain ⟨⟨xd, xa, xb, xc, xe⟩, hx⟩ : ∃ x, l[m]? = some x := ⟨l[m]'(by have := HN.out; omega), List.getElem?_eq_getElem _⟩
      obtain ⟨b, off, rfl, -⟩ := H.out.cells (by omega)
      obtain ⟨c0, c1, c2, c3, c4⟩ := tm_at H.out m _ hx
      haveI : LtSz b w.heap.size := ⟨World.block_lt_of_cell? _ _ c0⟩
      have HX := Lib.hid hx
      have PN := Lib.hid (fun w => P1.out ⟨xd, xa, xb, xc, xe⟩ w)
      dsimp only at PN c0 c1 c2 c3 c4
      clear hx
      unfold ord2 at PN
      cases hq : lessB ⟨xd, xa, xb, xc, xe⟩ T
      · rw [hq, if_neg (by decide)] at PN
        have HGE := Lib.hid hq
        clear hq hm
        go_wp2
        refine wp_region_ext (by kernel_rfl) (by kernel_rfl) ?_
        repeat (go_big_quiet_step (first | (go_at_call 49; (apply quiet_of; (with_reducible exact PN.out _); (intro w' hx; obtain ⟨z, rfl⟩ := hx; (try simp only [ext_ext, add_assoc]); exact ⟨_, rfl⟩)))))
        refine wpQuiet_nil ?_
        intro xK
        go_wp2
        refine ⟨⟨lo, m, by omega, by omega, rfl, rfl, ⟨_, by first | exact ext_ext _ _ _ | rfl⟩, H1.out, fun p x hp hx => ?_⟩, by simp only [intOf]; omega⟩
        rcases Nat.lt_or_ge m p with hlt | hle
        · rw [Bool.eq_false_iff]
          exact fun h => absurd (lessB_trans (HC.out.at hlt HX.out hx) h) (by rw [HGE.out]; decide)
        · obtain rfl : p = m := by omega
          rw [HX.out] at hx
          cases hx
          exact HGE.out
      · rw [hq, if_pos rfl] at PN
        have HLT := Lib.hid hq
        have ew : wrap64 ((m : Int) + 1) = ((m + 1 : Nat) : Int) := (IntWalk.wrap64_in _ ⟨by omega, by omega⟩).trans (by omega)
        clear hq hm
        go_wp2
        refine wp_region_ext (by kernel_rfl) (by kernel_rfl) ?_
        repeat (go_big_quiet_step (first | (go_at_call 49; (apply quiet_of; (with_reducible exact PN.out _); (intro w' hx; obtain ⟨z, rfl⟩ := hx; (try simp only [ext_ext, add_assoc]); exact ⟨_, rfl⟩)))))
        refine wpQuiet_nil ?_
        intro xK
        go_wp2
        refine ⟨⟨m + 1, hi, by omega, by omega, congrArg (Value.int .i64) (by omega), rfl, ⟨_, by first | exact ext_ext _ _ _ | rfl⟩, fun p x hp hx => ?_, H2.out⟩, by simp only [intOf]; omega⟩
        rcases Nat.lt_or_ge p m with hlt | hle
        · exact lessB_trans (HC.out.at hlt hx HX.out) HLT.out
        · obtain rfl : p = m := by omega
          rw [HX.out] at hx
          cases hx
          exact HLT.out
    · obtain rfl : lo = hi := by omega
      have hp : posT l T = lo := posT_at (by have := HN.out; omega) (fun i x hi hx => H1.out i x hi hx) (fun x hx => H2.out lo x (Nat.le_refl _) hx)
      have hr1 : (lo : Int) = R1 := by rw [HR1.out, hp]
      have HR := Lib.hid hr1
      by_cases hn' : lo = n
      · have e1 : ¬ (lo : Int) < n := by omega
        have e2 : decide ((lo : Int) < n) = false := decide_eq_false e1
        clear hr1 hp e1
        subst hn'
        go_wp2
        refine wp_region_ext (by kernel_rfl) (by kernel_rfl) ?_
        repeat (go_big_quiet_step (fail))
        refine wpQuiet_nil ?_
        intro xK
        go_wp2
        go_returns
        exact ⟨rett rfl (by rw [← HR.out]; rfl), by (repeat' (first | with_reducible exact Ext.refl _ | with_reducible refine Ext.ext ?_ _ | with_reducible refine Ext.alloc ?_ _ | with_reducible refine Ext.drew ?_ | with_reducible refine Ext.drewN ?_ _ | with_reducible assumption))⟩
      · obtain ⟨⟨xd, xa, xb, xc, xe⟩, hx⟩ : ∃ x, l[lo]? = some x := ⟨l[lo]'(by have := HN.out; omega), List.getElem?_eq_getElem _⟩
        obtain ⟨b, off, rfl, -⟩ := H.out.cells (by omega)
        obtain ⟨c0, c1, c2, c3, c4⟩ := tm_at H.out lo _ hx
        haveI : LtSz b w.heap.size := ⟨World.block_lt_of_cell? _ _ c0⟩
        have hno := H2.out lo _ (Nat.le_refl _) hx
        have PN := Lib.hid (fun w => P1.out ⟨xd, xa, xb, xc, xe⟩ w)
        have i1 : (0 : Int) ≤ lo := by omega
        have i2 : (lo : Int) < n := by omega
        have e2 : decide ((lo : Int) < n) = true := decide_eq_true i2
        have e3 : decide (lo < n) = true := decide_eq_true (by omega)
        dsimp only at PN c0 c1 c2 c3 c4
        unfold ord2 at PN
        rw [hno, if_neg (by decide)] at PN
        clear hr1 hp hx hno
        go_wp2
        refine wp_region_ext (by kernel_rfl) (by kernel_rfl) ?_
        repeat (go_big_quiet_step (first | (go_at_call 49; (apply quiet_of; (with_reducible exact PN.out _); (intro w' hx; obtain ⟨z, rfl⟩ := hx; (try simp only [ext_ext, add_assoc]); exact ⟨_, rfl⟩)))))
        refine wpQuiet_nil ?_
        intro xK
        go_wp2
        go_returns
        exact ⟨rett rfl (by rw [← HR.out]; rfl), by (repeat' (first | with_reducible exact Ext.refl _ | with_reducible refine Ext.ext ?_ _ | with_reducible refine Ext.alloc ?_ _ | with_reducible refine Ext.drew ?_ | with_reducible refine Ext.drewN ?_ _ | with_reducible assumption))⟩
end Go.Proofs.Ytmngjifcgfnogaa
