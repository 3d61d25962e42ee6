/- Chain, in a namespace of its own: rows of timestamps, their lowest. -/
import Derived.Test.YtkmgdejpdhlleaaRhA
namespace Go.Proofs.Ytkmgdejpdhlleaa.Rc
set_option linter.unusedSimpArgs false
set_option linter.unusedVariables false
set_option maxRecDepth 100000
open Go.RowKit

def keyLt (s t : Tm) : Prop := s.a < t.a ∨ (s.a = t.a ∧ (s.b < t.b ∨ (s.b = t.b ∧ (s.c < t.c ∨ (s.c = t.c ∧ (s.e < t.e ∨ (s.e = t.e ∧ s.d < t.d)))))))
theorem getD_iff (s t : Tm) (n p q : Int) (h1 : 1 ≤ n) (h4 : n ≤ 4) : (lessC s t n).getD (decide (p < q)) = true ↔ (s.a < t.a ∨ (s.a = t.a ∧ ((n = 1 ∧ p < q) ∨ (1 < n ∧ (s.b < t.b ∨ (s.b = t.b ∧ ((n = 2 ∧ p < q) ∨ (2 < n ∧ (s.c < t.c ∨ (s.c = t.c ∧ ((n = 3 ∧ p < q) ∨ (3 < n ∧ (s.e < t.e ∨ (s.e = t.e ∧ p < q)))))))))))))) := by
  have d : ∀ y z : Int, (some (decide (y < z))).getD (decide (p < q)) = true ↔ y < z := fun y z => by simp
  have dn : (none : Option Bool).getD (decide (p < q)) = true ↔ p < q := by simp
  unfold lessC
  rw [if_neg (by omega)]
  by_cases ha : s.a = t.a
  · rw [if_neg (by simp [ha])]
    by_cases n1 : n ≤ 1
    · rw [if_pos n1, dn]; constructor <;> intro h <;> omega
    · rw [if_neg n1]
      by_cases hb : s.b = t.b
      · rw [if_neg (by simp [hb])]
        by_cases n2 : n ≤ 2
        · rw [if_pos n2, dn]; constructor <;> intro h <;> omega
        · rw [if_neg n2]
          by_cases hc : s.c = t.c
          · rw [if_neg (by simp [hc])]
            by_cases n3 : n ≤ 3
            · rw [if_pos n3, dn]; constructor <;> intro h <;> omega
            · rw [if_neg n3]
              by_cases he : s.e = t.e
              · rw [if_neg (by simp [he]), dn]; constructor <;> intro h <;> omega
              · rw [if_pos (by simp [he]), d]; constructor <;> intro h <;> omega
          · rw [if_pos (by simp [hc]), d]; constructor <;> intro h <;> omega
      · rw [if_pos (by simp [hb]), d]; constructor <;> intro h <;> omega
  · rw [if_pos (by simp [ha]), d]; constructor <;> intro h <;> omega
theorem lessB_iff (s t : Tm) : lessB s t = true ↔ rightB s = true ∧ rightB t = true ∧ keyLt s t := by
  unfold lessB
  rw [Bool.and_eq_true, Bool.and_eq_true]
  refine and_congr_right fun h1 => and_congr_right fun h2 => ?_
  rw [rightB_iff] at h1 h2
  rw [getD_iff _ _ _ _ _ (by omega) (by omega)]
  unfold keyLt
  obtain ⟨n, hn⟩ : ∃ n, min s.d t.d = n := ⟨_, rfl⟩
  rw [hn]
  by_cases hd : s.d ≤ t.d
  · obtain rfl : s.d = n := by omega
    constructor <;> intro h <;> omega
  · obtain rfl : t.d = n := by omega
    constructor <;> intro h <;> omega
theorem lessB_trans {s t u : Tm} (h : lessB s t = true) (k : lessB t u = true) : lessB s u = true := by
  rw [lessB_iff] at *
  obtain ⟨h1, -, h3⟩ := h
  obtain ⟨-, k2, k3⟩ := k
  refine ⟨h1, k2, ?_⟩
  unfold keyLt at *
  omega
theorem lessB_irrefl (s : Tm) : lessB s s = false := by
  rw [Bool.eq_false_iff, Ne, lessB_iff]
  unfold keyLt
  omega
theorem lessB_total {s t : Tm} (h1 : rightB s = true) (h2 : rightB t = true) (hne : s ≠ t) (h : lessB s t = false) : lessB t s = true := by
  rw [Bool.eq_false_iff, Ne, lessB_iff] at h
  rw [lessB_iff]
  refine ⟨h2, h1, ?_⟩
  have hk : ¬ keyLt s t := fun k => h ⟨h1, h2, k⟩
  obtain ⟨d, a, b, c, e⟩ := s
  obtain ⟨d', a', b', c', e'⟩ := t
  unfold keyLt at *
  dsimp only at *
  by_cases q1 : a = a'
  · by_cases q2 : b = b'
    · by_cases q3 : c = c'
      · by_cases q4 : e = e'
        · by_cases q5 : d = d'
          · subst q1 q2 q3 q4 q5; exact absurd rfl hne
          · omega
        · omega
      · omega
    · omega
  · omega
theorem leB_trans {s t u : Tm} (h : leB s t = true) (k : leB t u = true) : leB s u = true := by
  rw [leB_iff] at *
  obtain ⟨h1, -, h3, h4, h5, h6, h7⟩ := h
  obtain ⟨-, k2, k3, k4, k5, k6, k7⟩ := k
  exact ⟨h1, k2, by omega, by omega, by omega, by omega, by omega⟩
theorem leB_anti {s t : Tm} (h : leB s t = true) (k : leB t s = true) : s = t := by
  rw [leB_iff] at *
  obtain ⟨h1, -, h3, h4, h5, h6, h7⟩ := h
  obtain ⟨-, k2, k3, k4, k5, k6, k7⟩ := k
  obtain ⟨d, a, b, c, e⟩ := s
  obtain ⟨d', a', b', c', e'⟩ := t
  dsimp only at *
  obtain rfl : d = d' := by omega
  obtain rfl : a = a' := by omega
  obtain rfl : b = b' := by omega
  obtain rfl : c = c' := by omega
  obtain rfl : e = e' := by omega
  rfl
/-- Strictly in order. -/
def Srt (l : List Tm) : Prop := l.Pairwise (fun x y => lessB x y = true)
theorem Srt.at {l : List Tm} (h : Srt l) {i j : Nat} {x y : Tm} (hij : i < j) (hx : l[i]? = some x) (hy : l[j]? = some y) : lessB x y = true := by
  obtain ⟨hi, rfl⟩ := List.getElem?_eq_some_iff.1 hx
  obtain ⟨hj, rfl⟩ := List.getElem?_eq_some_iff.1 hy
  exact List.pairwise_iff_getElem.1 h i j hi hj hij
/-- Where a timestamp would stand. -/
def posT : List Tm → Tm → Nat
  | [], _ => 0
  | x :: l, t => if lessB x t then posT l t + 1 else 0
theorem posT_le (t : Tm) : ∀ l : List Tm, posT l t ≤ l.length
  | [] => Nat.le_refl _
  | x :: l => by
    unfold posT
    have := posT_le t l
    split <;> simp <;> omega
theorem posT_at {t : Tm} : ∀ {l : List Tm} {p : Nat}, p ≤ l.length → (∀ i x, i < p → l[i]? = some x → lessB x t = true) → (∀ x, l[p]? = some x → lessB x t = false) → posT l t = p
  | [], p, hp, _, _ => by simp at hp; simp [posT, hp]
  | x :: l, 0, _, _, h2 => by
    unfold posT
    rw [if_neg (by rw [h2 x rfl]; decide)]
  | x :: l, p + 1, hp, h1, h2 => by
    unfold posT
    rw [if_pos (h1 0 x (by omega) rfl)]
    rw [posT_at (p := p) (by simpa using hp) (fun i y hi hy => h1 (i + 1) y (by omega) (by simpa using hy)) (fun y hy => h2 y (by simpa using hy))]
def ord2 (x t : Tm) : Int := if lessB x t then -1 else 1
theorem of2_any (x t : Tm) (w : World) : Calls Try.prog 148 #[.agg #[.int .i64 x.d, .int .i64 x.a, .int .i64 x.b, .int .i64 x.c, .int .i64 x.e], .agg #[.int .i64 t.d, .int .i64 t.a, .int .i64 t.b, .int .i64 t.c, .int .i64 t.e]] w fun e w' => e = .returned (.int .i64 (ord2 x t)) ∧ Ext w w' := by
  have LE := Lib.hid (fun w => less_any x.d x.a x.b x.c x.e t.d t.a t.b t.c t.e w)
  obtain ⟨xd, xa, xb, xc, xe⟩ := x
  obtain ⟨td, ta, tb, tc, te⟩ := t
  dsimp only at LE ⊢
  unfold ord2
  generalize lessB ⟨xd, xa, xb, xc, xe⟩ ⟨td, ta, tb, tc, te⟩ = r at *
  cases r
  all_goals
    go_enter Try.func148, Try.ntmps148
    go_wp2_with (go_at_call 149; (with_reducible refine (LE.out _).mono ?_); rintro e w' ⟨rfl, x1, rfl⟩)
    go_returns
    exact ⟨reti rfl rfl, by (repeat' (first | with_reducible exact Ext.refl _ | with_reducible refine Ext.ext ?_ _ | with_reducible refine Ext.alloc ?_ _ | with_reducible refine Ext.drew ?_ | with_reducible refine Ext.drewN ?_ _ | with_reducible assumption))⟩
set_option maxHeartbeats 4000000 in
theorem bsf_any (l : List Tm) (a : Option Addr) (n c : Nat) (w : World) (h : Rd w 5 n (.slice a n c) (tms l)) (hn : l.length = n) (hl : n ≤ 1073741824) (hc : Srt l) (t : Tm) :
    Calls Try.prog 147 #[.slice a n c, .agg #[.int .i64 t.d, .int .i64 t.a, .int .i64 t.b, .int .i64 t.c, .int .i64 t.e], .func (Fn.func 148) #[] #[]] w fun e w' => e = .returned (.tuple #[.int .i64 (posT l t), .bool false]) ∧ Ext w w' := by
  have H := Lib.hid h
  have HN := Lib.hid hn
  have HL := Lib.hid hl
  have HC := Lib.hid hc
  obtain ⟨R1, hR1⟩ : ∃ R, R = ((posT l t : Nat) : Int) := ⟨_, rfl⟩
  rw [← hR1]
  have HR1 := Lib.hid hR1
  have P1 := Lib.hid (fun x w => of2_any x t w)
  obtain ⟨td, ta, tb, tc, te⟩ := t
  clear h hn hl hc hR1
  dsimp only at P1 ⊢
  obtain ⟨T, hT⟩ : ∃ T : Tm, T = ⟨td, ta, tb, tc, te⟩ := ⟨_, rfl⟩
  rw [← hT] at HR1
  rw [← hT] at P1
  have HT := Lib.hid hT
  clear hT
  go_enter Try.func147, Try.ntmps147
  go_wp2
  go_loopw [9, 10] (fun i k wr => ∃ lo hi : Nat, lo ≤ hi ∧ hi ≤ n ∧ i = .int .i64 lo ∧ k = .int .i64 hi ∧ (∃ z, wr = ext (w.alloc (.cells #[.int .i64 td, .int .i64 ta, .int .i64 tb, .int .i64 tc, .int .i64 te] 73)) z) ∧ (∀ q x, q < lo → l[q]? = some x → lessB x T = true) ∧ (∀ q x, hi ≤ q → l[q]? = some x → lessB x T = false)) (fun i k _ => (intOf k).toNat - (intOf i).toNat)
  case atStart => exact ⟨0, n, Nat.zero_le _, Nat.le_refl _, rfl, rfl, ⟨_, (ext_zero _).symm⟩, fun q x hq => absurd hq (Nat.not_lt_zero q), fun q x hq hx => by have := (List.getElem?_eq_some_iff.1 hx).1; have := HN.out; omega⟩
  case round =>
    obtain ⟨lo, hi, hlh, hhn, rfl, rfl, ⟨z, rfl⟩, h1, h2⟩ := hrel
    have H1 := Lib.hid h1
    have H2 := Lib.hid h2
    clear h1 h2
    by_cases hlt : lo < hi
    · have i0 : (lo : Int) < hi := by omega
      have hx30 := HL.out
      obtain ⟨m, hm⟩ : ∃ m, m = (lo + hi) / 2 := ⟨_, rfl⟩
      have em : ((lo : Int) + hi) / 2 = (m : Int) := by omega
      have hm1 : lo ≤ m := by omega
      have hm2 : m < hi := by omega
      have i1 : (0 : Int) ≤ m := by omega
      have i2 : (m : Int) < n := by omega
      obtain ⟨⟨xd, xa, xb, xc, xe⟩, hx⟩ : ∃ x, l[m]? = some x := ⟨l[m]'(by have := HN.out; omega), List.getElem?_eq_getElem _⟩
      obtain ⟨b, off, rfl, -⟩ := H.out.cells (by omega)
      obtain ⟨c0, c1, c2, c3, c4⟩ := tm_at H.out m _ hx
      haveI : LtSz b w.heap.size := ⟨World.block_lt_of_cell? _ _ c0⟩
      have HX := Lib.hid hx
      have PN := Lib.hid (fun w => P1.out ⟨xd, xa, xb, xc, xe⟩ w)
      dsimp only at PN c0 c1 c2 c3 c4
      clear hx
      unfold ord2 at PN
      cases hq : lessB ⟨xd, xa, xb, xc, xe⟩ T
      · rw [hq, if_neg (by decide)] at PN
        have HGE := Lib.hid hq
        clear hq hm
        go_wp2
        refine wp_region_ext (by kernel_rfl) (by kernel_rfl) ?_
        repeat (go_big_quiet_step (first | (go_at_call 148; (apply quiet_of; (with_reducible exact PN.out _); (intro w' hx; obtain ⟨z, rfl⟩ := hx; (try simp only [ext_ext, add_assoc]); exact ⟨_, rfl⟩)))))
        refine wpQuiet_nil ?_
        intro xK
        go_wp2
        refine ⟨⟨lo, m, by omega, by omega, rfl, rfl, ⟨_, by first | exact ext_ext _ _ _ | rfl⟩, H1.out, fun p x hp hx => ?_⟩, by simp only [intOf]; omega⟩
        rcases Nat.lt_or_ge m p with hlt | hle
        · rw [Bool.eq_false_iff]
          exact fun h => absurd (lessB_trans (HC.out.at hlt HX.out hx) h) (by rw [HGE.out]; decide)
        · obtain rfl : p = m := by omega
          rw [HX.out] at hx
          cases hx
          exact HGE.out
      · rw [hq, if_pos rfl] at PN
        have HLT := Lib.hid hq
        have ew : wrap64 ((m : Int) + 1) = ((m + 1 : Nat) : Int) := (IntWalk.wrap64_in _ ⟨by omega, by omega⟩).trans (by omega)
        clear hq hm
        go_wp2
        refine wp_region_ext (by kernel_rfl) (by kernel_rfl) ?_
        repeat (go_big_quiet_step (first | (go_at_call 148; (apply quiet_of; (with_reducible exact PN.out _); (intro w' hx; obtain ⟨z, rfl⟩ := hx; (try simp only [ext_ext, add_assoc]); exact ⟨_, rfl⟩)))))
        refine wpQuiet_nil ?_
        intro xK
        go_wp2
        refine ⟨⟨m + 1, hi, by omega, by omega, congrArg (Value.int .i64) (by omega), rfl, ⟨_, by first | exact ext_ext _ _ _ | rfl⟩, fun p x hp hx => ?_, H2.out⟩, by simp only [intOf]; omega⟩
        rcases Nat.lt_or_ge p m with hlt | hle
        · exact lessB_trans (HC.out.at hlt hx HX.out) HLT.out
        · obtain rfl : p = m := by omega
          rw [HX.out] at hx
          cases hx
          exact HLT.out
    · obtain rfl : lo = hi := by omega
      have hp : posT l T = lo := posT_at (by have := HN.out; omega) (fun i x hi hx => H1.out i x hi hx) (fun x hx => H2.out lo x (Nat.le_refl _) hx)
      have hr1 : (lo : Int) = R1 := by rw [HR1.out, hp]
      have HR := Lib.hid hr1
      by_cases hn' : lo = n
      · have e1 : ¬ (lo : Int) < n := by omega
        have e2 : decide ((lo : Int) < n) = false := decide_eq_false e1
        clear hr1 hp e1
        subst hn'
        go_wp2
        refine wp_region_ext (by kernel_rfl) (by kernel_rfl) ?_
        repeat (go_big_quiet_step (fail))
        refine wpQuiet_nil ?_
        intro xK
        go_wp2
        go_returns
        exact ⟨rett rfl (by rw [← HR.out]; rfl), by (repeat' (first | with_reducible exact Ext.refl _ | with_reducible refine Ext.ext ?_ _ | with_reducible refine Ext.alloc ?_ _ | with_reducible refine Ext.drew ?_ | with_reducible refine Ext.drewN ?_ _ | with_reducible assumption))⟩
      · obtain ⟨⟨xd, xa, xb, xc, xe⟩, hx⟩ : ∃ x, l[lo]? = some x := ⟨l[lo]'(by have := HN.out; omega), List.getElem?_eq_getElem _⟩
        obtain ⟨b, off, rfl, -⟩ := H.out.cells (by omega)
        obtain ⟨c0, c1, c2, c3, c4⟩ := tm_at H.out lo _ hx
        haveI : LtSz b w.heap.size := ⟨World.block_lt_of_cell? _ _ c0⟩
        have hno := H2.out lo _ (Nat.le_refl _) hx
        have PN := Lib.hid (fun w => P1.out ⟨xd, xa, xb, xc, xe⟩ w)
        have i1 : (0 : Int) ≤ lo := by omega
        have i2 : (lo : Int) < n := by omega
        have e2 : decide ((lo : Int) < n) = true := decide_eq_true i2
        have e3 : decide (lo < n) = true := decide_eq_true (by omega)
        dsimp only at PN c0 c1 c2 c3 c4
        unfold ord2 at PN
        rw [hno, if_neg (by decide)] at PN
        clear hr1 hp hx hno
        go_wp2
        refine wp_region_ext (by kernel_rfl) (by kernel_rfl) ?_
        repeat (go_big_quiet_step (first | (go_at_call 148; (apply quiet_of; (with_reducible exact PN.out _); (intro w' hx; obtain ⟨z, rfl⟩ := hx; (try simp only [ext_ext, add_assoc]); exact ⟨_, rfl⟩)))))
        refine wpQuiet_nil ?_
        intro xK
        go_wp2
        go_returns
        exact ⟨rett rfl (by rw [← HR.out]; rfl), by (repeat' (first | with_reducible exact Ext.refl _ | with_reducible refine Ext.ext ?_ _ | with_reducible refine Ext.alloc ?_ _ | with_reducible refine Ext.drew ?_ | with_reducible refine Ext.drewN ?_ _ | with_reducible assumption))⟩
theorem own_of_extY {w w' : World} {b : Nat} {e : TypeId} {size n : Nat} {v : Value} {xs : List Value} (h : w.ownsRow b e size v n xs) (hx : Ext w w') : w'.ownsRow b e size v n xs := by
  obtain ⟨z, rfl⟩ := hx
  exact own_ext h z
theorem Ext.grows {w w' : World} (hx : Ext w w') (r : Option Nat) : w.grownBy w' r := by
  obtain ⟨z, rfl⟩ := hx
  exact ⟨rfl, rfl, rfl, by simp, fun k hk _ => ext_get w z k hk⟩
theorem grown_trans {w w1 w' : World} {r : Option Nat} (g1 : w.grownBy w1 r) (g2 : w1.grownBy w' r) : w.grownBy w' r :=
  ⟨g2.os.trans g1.os, g2.tape.trans g1.tape, g2.output.trans g1.output, Nat.le_trans g1.size g2.size, fun k hk hne => (g2.block k (Nat.lt_of_lt_of_le hk g1.size) hne).trans (g1.block k hk hne)⟩
theorem Grows.of_ext {w w1 w' : World} {base : Nat} {v : Value} {l : List Tm} {e : Ending} (h : Grows w1 base v l e w') (hx : Ext w w1) : Grows w base v l e w' := by
  obtain ⟨b, c, he, hg, ho, hat⟩ := h
  have g1 := Ext.grows hx v.ownBlock
  exact ⟨b, c, he, grown_trans g1 hg, ho, hat.imp id (fun h k hk => Nat.le_trans g1.size (h k hk))⟩
theorem grows_same {w w' : World} {base n c : Nat} {a : Option Addr} {l : List Tm} (hl : l.length = n) (h : w.ownsRow base 73 5 (.slice a n c) n (tms l)) (hx : Ext w w') : Grows w base (.slice a n c) l (.returned (.slice a n c)) w' := by
  subst hl
  exact ⟨a, c, rfl, Ext.grows hx _, own_of_extY h hx, .inl rfl⟩
theorem BoxT.grown {w w' : World} {p g : Nat} {t : Tm} (h : BoxT w p t) (hg : w.grownBy w' (some g)) (hne : p ≠ g) : BoxT w' p t := by
  have hb : w'.heap[p]? = w.heap[p]? := hg.block p (World.block_lt_of_cell? _ _ h.1) (by simp; exact hne)
  obtain ⟨h0, h1, h2, h3, h4⟩ := h
  have k : ∀ j, w'.cell? ⟨p, j, none⟩ = w.cell? ⟨p, j, none⟩ := fun j => World.cell?_of_block hb
  exact ⟨(k 0).trans h0, (k 1).trans h1, (k 2).trans h2, (k 3).trans h3, (k 4).trans h4⟩
/-- How far the deletion is. -/
def DelI (w : World) (base g n c : Nat) (l : List Tm) (P : Tm → Bool) (i j : Nat) (wr : World) : Prop :=
  ∃ ys : List Tm, w.grownBy wr (some g) ∧ wr.ownsRow base 73 5 (.slice (some ⟨g, 0, none⟩) n c) n (tms ys) ∧ ys.length = n ∧ ys.take i = (l.take j).filter (fun x => !P x) ∧ ys.drop j = l.drop j
theorem DelI.on {w : World} {base g n c i j : Nat} {l : List Tm} {P : Tm → Bool} {wr wr' : World} (h : DelI w base g n c l P i j wr) (hx : Ext wr wr') : DelI w base g n c l P i j wr' := by
  obtain ⟨ys, h1, h2, h3, h4, h5⟩ := h
  exact ⟨ys, grown_trans h1 (Ext.grows hx _), own_of_extY h2 hx, h3, h4, h5⟩
theorem drop_get {l ys : List Tm} {j : Nat} {x : Tm} (h : ys.drop j = l.drop j) (hx : ys[j]? = some x) : l[j]? = some x := by
  have := congrArg (fun z => z[0]?) h
  simp only [List.getElem?_drop, Nat.add_zero] at this
  rw [← this]
  exact hx
theorem drop_more {l ys : List Tm} {j : Nat} (h : ys.drop j = l.drop j) : ys.drop (j + 1) = l.drop (j + 1) := by
  have := congrArg (List.drop 1) h
  simpa [List.drop_drop, Nat.add_comm] using this
theorem DelI.skip {w : World} {base g n c i j : Nat} {l : List Tm} {P : Tm → Bool} {wr : World} {x : Tm} {ys : List Tm} (h1 : w.grownBy wr (some g)) (h2 : wr.ownsRow base 73 5 (.slice (some ⟨g, 0, none⟩) n c) n (tms ys)) (h3 : ys.length = n) (h4 : ys.take i = (l.take j).filter (fun x => !P x)) (h5 : ys.drop j = l.drop j) (hx : ys[j]? = some x) (hp : P x = true) : DelI w base g n c l P i (j + 1) wr := by
  refine ⟨ys, h1, h2, h3, ?_, drop_more h5⟩
  rw [List.take_add_one, drop_get h5 hx, Option.toList_some, List.filter_append, h4]
  simp [hp]
theorem tms_set : ∀ (l : List Tm) (i : Nat) (x : Tm), i < l.length → ((((((tms l).set (i * 5) (.int .i64 x.d)).set (i * 5 + 1) (.int .i64 x.a)).set (i * 5 + 2) (.int .i64 x.b)).set (i * 5 + 3) (.int .i64 x.c)).set (i * 5 + 4) (.int .i64 x.e)) = tms (l.set i x)
  | [], i, x, h => absurd h (Nat.not_lt_zero i)
  | a :: l, 0, x, h => rfl
  | a :: l, i + 1, x, h => by
    have := tms_set l i x (by simpa using h)
    rw [show (i + 1) * 5 = i * 5 + 1 + 1 + 1 + 1 + 1 by omega, show i * 5 + 1 + 1 + 1 + 1 + 1 + 1 = (i * 5 + 1) + 1 + 1 + 1 + 1 + 1 by omega, show i * 5 + 1 + 1 + 1 + 1 + 1 + 2 = (i * 5 + 2) + 1 + 1 + 1 + 1 + 1 by omega, show i * 5 + 1 + 1 + 1 + 1 + 1 + 3 = (i * 5 + 3) + 1 + 1 + 1 + 1 + 1 by omega, show i * 5 + 1 + 1 + 1 + 1 + 1 + 4 = (i * 5 + 4) + 1 + 1 + 1 + 1 + 1 by omega]
    simp only [tms, List.set_cons_succ, this]
theorem own_put {w : World} {b g k n c off : Nat} {e : TypeId} {xs : List Value} (h : w.ownsRow b e k (.slice (some ⟨g, 0, none⟩) n c) n xs) (u : Value) : (w.setCell ⟨g, off, none⟩ u).ownsRow b e k (.slice (some ⟨g, 0, none⟩) n c) n (xs.set off u) := by
  obtain ⟨-, hb, hnc, hcm, hlen, cur, hg, hcs, htake⟩ := own_parts h
  refine ⟨by rw [List.length_set, hlen], .inr ⟨g, c, cur.setIfInBounds off u, rfl, hb, ?_, hnc, hcm, by rw [Array.size_setIfInBounds, hcs], ?_⟩⟩
  · simp [World.setCell, Array.getElem?_modify, hg]
  · rw [Array.toList_setIfInBounds, List.take_set, htake]
theorem put_grown (w : World) (g off : Nat) (u : Value) : w.grownBy (w.setCell ⟨g, off, none⟩ u) (some g) := by
  refine ⟨rfl, rfl, rfl, by rw [World.size_setCell]; exact Nat.le_refl _, fun k hk hne => ?_⟩
  simp only [World.setCell, Array.getElem?_modify]
  rw [if_neg (fun e => hne (by rw [e]))]
theorem DelI.keep {w : World} {base g n c i j : Nat} {l : List Tm} {P : Tm → Bool} {wr : World} {x : Tm} {ys : List Tm} (hij : i < j) (h1 : w.grownBy wr (some g)) (h2 : wr.ownsRow base 73 5 (.slice (some ⟨g, 0, none⟩) n c) n (tms ys)) (h3 : ys.length = n) (h4 : ys.take i = (l.take j).filter (fun x => !P x)) (h5 : ys.drop j = l.drop j) (hx : ys[j]? = some x) (hp : P x = false) :
    DelI w base g n c l P (i + 1) (j + 1) (((((wr.setCell ⟨g, i * 5, none⟩ (.int .i64 x.d)).setCell ⟨g, i * 5 + 1, none⟩ (.int .i64 x.a)).setCell ⟨g, i * 5 + 2, none⟩ (.int .i64 x.b)).setCell ⟨g, i * 5 + 3, none⟩ (.int .i64 x.c)).setCell ⟨g, i * 5 + 4, none⟩ (.int .i64 x.e)) := by
  have hj := (List.getElem?_eq_some_iff.1 hx).1
  refine ⟨ys.set i x, grown_trans (grown_trans (grown_trans (grown_trans (grown_trans h1 (put_grown _ _ _ _)) (put_grown _ _ _ _)) (put_grown _ _ _ _)) (put_grown _ _ _ _)) (put_grown _ _ _ _), ?_, by rw [List.length_set, h3], ?_, ?_⟩
  · rw [← tms_set _ _ _ (by omega)]
    exact own_put (own_put (own_put (own_put (own_put h2 _) _) _) _) _
  · rw [List.take_add_one, List.take_add_one, drop_get h5 hx, Option.toList_some, List.filter_append, ← h4, List.getElem?_set_self (by omega), List.take_set_of_le (Nat.le_refl _)]
    simp [hp]
  · rw [List.drop_set_of_lt (by omega)]
    exact drop_more h5
theorem idx_some {P : Tm → Bool} : ∀ {l : List Tm}, l.any P = true → ∃ k x, idxI P l = ((k : Nat) : Int) ∧ l[k]? = some x ∧ P x = true ∧ (∀ j y, j < k → l[j]? = some y → P y = false) := by
  intro l h
  unfold idxI
  rw [if_pos h]
  refine ⟨idxN P l, ?_⟩
  have key : ∀ l : List Tm, l.any P = true → ∃ x, l[idxN P l]? = some x ∧ P x = true ∧ (∀ j y, j < idxN P l → l[j]? = some y → P y = false) := by
    intro l
    induction l with
    | nil => intro h; simp at h
    | cons a l ih =>
      intro h
      unfold idxN
      cases ha : P a
      · rw [if_neg (by decide)]
        obtain ⟨x, h1, h2, h3⟩ := ih (by simpa [ha] using h)
        refine ⟨x, by simpa using h1, h2, fun j y hj hy => ?_⟩
        cases j with
        | zero => obtain rfl : a = y := by simpa using hy
                  exact ha
        | succ j => exact h3 j y (by omega) (by simpa using hy)
      · exact ⟨a, rfl, ha, fun j y hj => absurd hj (Nat.not_lt_zero j)⟩
  obtain ⟨x, h1, h2, h3⟩ := key l h
  exact ⟨x, rfl, h1, h2, h3⟩
theorem DelI.start {w : World} {base g n c k : Nat} {l : List Tm} {P : Tm → Bool} {x : Tm} (h2 : w.ownsRow base 73 5 (.slice (some ⟨g, 0, none⟩) n c) n (tms l)) (h3 : l.length = n) (hx : l[k]? = some x) (hp : P x = true) (hb : ∀ j y, j < k → l[j]? = some y → P y = false) : DelI w base g n c l P k (k + 1) w := by
  refine ⟨l, Ext.grows (Ext.refl w) _, h2, h3, ?_, rfl⟩
  rw [List.take_add_one, hx, Option.toList_some, List.filter_append]
  have : (l.take k).filter (fun x => !P x) = l.take k := by
    rw [List.filter_eq_self]
    intro y hy
    obtain ⟨j, hj⟩ := List.getElem?_of_mem hy
    rw [List.getElem?_take] at hj
    split at hj
    · rename_i hjk
      rw [hb j y hjk hj]; rfl
    · cases hj
  rw [this]
  simp [hp]
theorem zero_cells (m : Nat) : (Builtin.zeroCells (Value.agg #[.int .i64 0, .int .i64 0, .int .i64 0, .int .i64 0, .int .i64 0]).cells m).toList = List.replicate (m * 5) (Value.int .i64 0) := by
  apply List.ext_getElem?
  intro q
  simp only [Builtin.zeroCells, Array.toList_map, List.getElem?_map, List.getElem?_replicate]
  have hs : (Value.agg #[.int .i64 0, .int .i64 0, .int .i64 0, .int .i64 0, .int .i64 0]).cells.size = 5 := rfl
  rw [hs, Array.toList_range]
  by_cases hq : q < m * 5
  · rw [if_pos hq, List.getElem?_range hq, Option.map_some]
    have h5 : q % 5 = 0 ∨ q % 5 = 1 ∨ q % 5 = 2 ∨ q % 5 = 3 ∨ q % 5 = 4 := by omega
    rcases h5 with h | h | h | h | h <;> rw [h] <;> rfl
  · rw [if_neg hq, List.getElem?_eq_none (by simp; omega)]
    rfl
theorem time_zero (w : World) : (zeroValue 73).run Try.prog w = .ok (.agg #[.int .i64 0, .int .i64 0, .int .i64 0, .int .i64 0, .int .i64 0]) w := by rfl
theorem run_clear_tms (w : World) (ty : TypeId) (g d m c : Nat) (cur : Array Value) (hg : w.heap[g]? = some (.cells cur 73 (0, 0))) (hm : 0 < m) (hfit : d + m * 5 ≤ cur.size) :
    (Builtin.clear_ #[90] ty #[.slice (some ⟨g, d, none⟩) m c]).run Try.prog w = .ok (.tuple #[]) (w.setRow g (cur.toList.take d ++ List.replicate (m * 5) (Value.int .i64 0) ++ cur.toList.drop (d + m * 5)).toArray) := by
  obtain ⟨m, rfl⟩ : ∃ m', m = m' + 1 := ⟨m - 1, by omega⟩
  have hst := run_storeCells_at Try.prog g d 73 (List.replicate ((m + 1) * 5) (Value.int .i64 0)) 0 cur w hg (by simpa using hfit) (fun v hv => by rw [List.eq_of_mem_replicate hv]; rfl)
  simp only [Nat.add_zero, List.length_replicate] at hst
  simp [Builtin.clear_, run_underlying Try.underlying90, time_zero, zero_cells, hst]
theorem DelI.done {w : World} {base g n c i j : Nat} {l : List Tm} {P : Tm → Bool} {wr : World} (h : DelI w base g n c l P i j wr) (hij : i < j) (hjn : j = n) (hl : l.length = n) (ty : TypeId) (c' : Nat) :
    ∃ W, (Builtin.clear_ #[90] ty #[.slice (some ⟨g, i * 5, none⟩) (n - i) c']).run Try.prog wr = .ok (.tuple #[]) W ∧ Grows w base (.slice (some ⟨g, 0, none⟩) n c) (l.filter (fun x => !P x)) (.returned (.slice (some ⟨g, 0, none⟩) i c)) W := by
  obtain ⟨ys, h1, h2, h3, h4, h5⟩ := h
  obtain ⟨-, hb, hnc, hcm, hlen, cur, hg, hcs, htake⟩ := own_parts h2
  have hfit : i * 5 + (n - i) * 5 ≤ cur.size := by rw [hcs]; omega
  refine ⟨_, run_clear_tms wr ty g (i * 5) (n - i) c' cur hg (by omega) hfit, ?_⟩
  have hf : l.filter (fun x => !P x) = ys.take i := by rw [h4, List.take_of_length_le (by omega)]
  have hfl : (l.filter (fun x => !P x)).length = i := by rw [hf, List.length_take]; omega
  refine ⟨_, c, by rw [hfl], grown_trans h1 (setRow_grown _ _ _), ?_, .inl rfl⟩
  rw [hfl, hf]
  refine ⟨by rw [tms_length, List.length_take]; omega, .inr ⟨g, c, _, rfl, hb, setRow_get wr g cur _ _ hg, by omega, hcm, ?_, ?_⟩⟩
  · simp only [List.size_toArray, List.length_append, List.length_take, List.length_drop, List.length_replicate, Array.length_toList, hcs]
    omega
  · rw [tms_take, ← htake]
    have : (cur.toList.take (i * 5)).length = i * 5 := by rw [List.length_take, Array.length_toList, hcs]; omega
    show List.take (i * 5) (List.take (i * 5) cur.toList ++ List.replicate ((n - i) * 5) (Value.int .i64 0) ++ List.drop (i * 5 + (n - i) * 5) cur.toList) = _
    rw [List.append_assoc, List.take_append_of_le_length (by omega), List.take_take, List.take_take, Nat.min_self, Nat.min_eq_left (by omega)]
set_option maxHeartbeats 4000000 in
theorem del_some (l : List Tm) (g n c base p : Nat) (t : Tm) (w : World) (h : w.ownsRow base 73 5 (.slice (some ⟨g, 0, none⟩) n c) n (tms l)) (hl : l.length = n) (hn : n ≤ 1073741823) (hp : BoxT w p t) (hne : p ≠ g) (hany : l.any (fun x => leB t x) = true) :
    Calls Try.prog 145 #[.slice (some ⟨g, 0, none⟩) n c, .func (Fn.func 146) #[] #[.pointer (some ⟨p, 0, none⟩)]] w (Grows w base (.slice (some ⟨g, 0, none⟩) n c) (l.filter (fun x => !leB t x))) := by
  have IX := Lib.hid (fun W (hx : Ext w W) => index_of l (some ⟨g, 0, none⟩) c p t W (by rw [hl]; exact (own_rd h).of_ext hx) (hp.on hx) (by omega))
  have CF := Lib.hid (fun x W (hb : BoxT W p t) => of1_any x t p W hb)
  obtain ⟨P, hP⟩ : ∃ P : Tm → Bool, P = (fun x => leB t x) := ⟨_, rfl⟩
  have hpx : ∀ x, leB t x = P x := fun x => by rw [hP]
  have hP2 : (fun x => !leB t x) = (fun x => !P x) := by rw [hP]
  rw [← hP] at hany
  rw [hP2]
  rw [← hP] at IX
  simp only [hpx] at CF
  obtain ⟨k, x0, hk, hx0, hPx0, hbefore⟩ := idx_some hany
  have hkn : k < n := by have := (List.getElem?_eq_some_iff.1 hx0).1; omega
  rw [hk, hl] at IX
  have hstart : DelI w base g n c l P k (k + 1) w := DelI.start h hl hx0 hPx0 hbefore
  have H0 := Lib.hid hstart
  have HP := Lib.hid hp
  have HB := Lib.hid hbefore
  have HL := Lib.hid hl
  have e0 : ((k : Int) == -1) = false := by simp
  have ek : wrap64 ((k : Int) + 1) = ((k + 1 : Nat) : Int) := (IntWalk.wrap64_in _ ⟨by omega, by omega⟩).trans (by omega)
  clear h hl hp hP hpx hP2 hany hk hx0 hPx0 hbefore hstart
  go_enter Try.func145, Try.ntmps145
  go_wp2_with (go_at_call 176; refine (IX.out _ (by (repeat' (first | with_reducible exact Ext.refl _ | with_reducible refine Ext.ext ?_ _ | with_reducible refine Ext.alloc ?_ _ | with_reducible refine Ext.drew ?_ | with_reducible refine Ext.drewN ?_ _ | with_reducible assumption)))).mono ?_; rintro e w' ⟨rfl, x1, rfl⟩)
  go_loopw [5, 6] (fun si sj wr => ∃ i j : Nat, i < j ∧ j ≤ n ∧ si = .int .i64 i ∧ sj = .int .i64 j ∧ DelI w base g n c l P i j wr) (fun _ sj _ => n - (intOf sj).toNat)
  case atStart => exact ⟨k, k + 1, by omega, by omega, rfl, congrArg (Value.int .i64) (by omega), H0.out.on (by (repeat' (first | with_reducible exact Ext.refl _ | with_reducible refine Ext.ext ?_ _ | with_reducible refine Ext.alloc ?_ _ | with_reducible refine Ext.drew ?_ | with_reducible refine Ext.drewN ?_ _ | with_reducible assumption)))⟩
  case round =>
    obtain ⟨i, j, hij, hjn, rfl, rfl, hI⟩ := hrel
    have HI := Lib.hid hI
    clear hI
    by_cases hlt : j < n
    · obtain ⟨ys, hgr, hown, hyl, hyt, hyd⟩ := HI.out
      obtain ⟨⟨xd, xa, xb, xc, xe⟩, hx⟩ : ∃ x, ys[j]? = some x := ⟨ys[j]'(by omega), List.getElem?_eq_getElem _⟩
      obtain ⟨c0, c1, c2, c3, c4⟩ := tm_at (own_rd hown) j _ hx
      rw [Nat.zero_add] at c0 c1 c2 c3 c4
      dsimp only at c0 c1 c2 c3 c4
      obtain ⟨⟨yd, ya, yb, yc, ye⟩, hy⟩ : ∃ x, ys[i]? = some x := ⟨ys[i]'(by omega), List.getElem?_eq_getElem _⟩
      obtain ⟨d0, d1, d2, d3, d4⟩ := tm_at (own_rd hown) i _ hy
      rw [Nat.zero_add] at d0 d1 d2 d3 d4
      dsimp only at d0 d1 d2 d3 d4
      clear hy
      have i1 : (0 : Int) ≤ j := by omega
      have i2 : (j : Int) < n := by omega
      haveI : LtSz g wr.heap.size := ⟨World.block_lt_of_cell? _ _ c0⟩
      have i3 : (0 : Int) ≤ i := by omega
      have i4 : (i : Int) < n := by omega
      have ew : wrap64 ((j : Int) + 1) = ((j + 1 : Nat) : Int) := (IntWalk.wrap64_in _ ⟨by omega, by omega⟩).trans (by omega)
      have HPB := Lib.hid (fun W (hx : Ext wr W) => (HP.out.grown hgr hne).on hx)
      have hfz : ∀ q, wr.frozen? ⟨g, q, none⟩ = false := fun q => by
        obtain ⟨-, -, -, -, -, cur, hg, -, -⟩ := own_parts hown
        exact frozen_row hg
      have HH := Lib.hid (And.intro hgr (And.intro hown (And.intro hyl (And.intro hyt hyd))))
      have HX := Lib.hid hx
      clear hgr hown hyl hyt hyd hx
      have CX := Lib.hid (fun W hb => CF.out ⟨xd, xa, xb, xc, xe⟩ W hb)
      dsimp only at CX
      cases hpx : P ⟨xd, xa, xb, xc, xe⟩
      · rw [hpx] at CX
        have ei : wrap64 ((i : Int) + 1) = ((i + 1 : Nat) : Int) := (IntWalk.wrap64_in _ ⟨by omega, by omega⟩).trans (by omega)
        have EI := Lib.hid ei
        clear ei
        have HPX := Lib.hid hpx
        clear hpx
        go_wp2_with (go_at_call 146; (with_reducible refine (CX.out _ (by refine HPB.out _ ?_; (repeat' (first | with_reducible exact Ext.refl _ | with_reducible refine Ext.ext ?_ _ | with_reducible refine Ext.alloc ?_ _ | with_reducible refine Ext.drew ?_ | with_reducible refine Ext.drewN ?_ _ | with_reducible assumption)))).mono ?_); rintro e w' ⟨rfl, x2, rfl⟩)
        obtain ⟨k1, k2, k3, k4, k5⟩ := HH.out
        exact ⟨⟨i + 1, j + 1, by omega, by omega, congrArg (Value.int .i64) (by omega), congrArg (Value.int .i64) (by omega), (DelI.keep hij k1 k2 k3 k4 k5 HX.out HPX.out).on (by (repeat' (first | with_reducible exact Ext.refl _ | with_reducible refine Ext.ext ?_ _ | with_reducible refine Ext.alloc ?_ _ | with_reducible refine Ext.drew ?_ | with_reducible refine Ext.drewN ?_ _ | with_reducible assumption)))⟩, by simp only [intOf]; omega⟩
      · rw [hpx] at CX
        have HPX := Lib.hid hpx
        clear hpx
        go_wp2_with (go_at_call 146; (with_reducible refine (CX.out _ (by refine HPB.out _ ?_; (repeat' (first | with_reducible exact Ext.refl _ | with_reducible refine Ext.ext ?_ _ | with_reducible refine Ext.alloc ?_ _ | with_reducible refine Ext.drew ?_ | with_reducible refine Ext.drewN ?_ _ | with_reducible assumption)))).mono ?_); rintro e w' ⟨rfl, x2, rfl⟩)
        obtain ⟨k1, k2, k3, k4, k5⟩ := HH.out
        exact ⟨⟨i, j + 1, by omega, by omega, rfl, congrArg (Value.int .i64) (by omega), (DelI.skip k1 k2 k3 k4 k5 HX.out HPX.out).on (by (repeat' (first | with_reducible exact Ext.refl _ | with_reducible refine Ext.ext ?_ _ | with_reducible refine Ext.alloc ?_ _ | with_reducible refine Ext.drew ?_ | with_reducible refine Ext.drewN ?_ _ | with_reducible assumption)))⟩, by simp only [intOf]; omega⟩
    · obtain rfl : j = n := by omega
      have CL := Lib.hid (fun ty c' => HI.out.done hij rfl HL.out ty c')
      have i3 : (0 : Int) ≤ i := by omega
      have i4 : (i : Int) ≤ j := by omega
      have hjc : j ≤ c := by
        obtain ⟨ys, h1, h2, -⟩ := HI.out
        exact (own_parts h2).2.2.1
      have i5 : (i : Int) ≤ c := by omega
      have q1 : ¬ c = i := by omega
      obtain ⟨W, hr, hG⟩ := CL.out 0 (c - i)
      have HG := Lib.hid hG
      clear hG CL
      go_wp2
      go_returns
      exact HG.out
theorem del_any (l : List Tm) (a : Option Addr) (n c base p : Nat) (t : Tm) (w : World) (h : w.ownsRow base 73 5 (.slice a n c) n (tms l)) (hl : l.length = n) (hn : n ≤ 1073741823) (hp : BoxT w p t) (hne : (Value.slice a n c).ownBlock ≠ some p) :
    Calls Try.prog 145 #[.slice a n c, .func (Fn.func 146) #[] #[.pointer (some ⟨p, 0, none⟩)]] w (Grows w base (.slice a n c) (l.filter (fun x => !leB t x))) := by
  cases hany : l.any (fun x => leB t x)
  · have hf : l.filter (fun x => !leB t x) = l := by
      rw [List.filter_eq_self]
      intro x hx
      rw [List.any_eq_false] at hany
      simpa using hany x hx
    rw [hf]
    have IX := Lib.hid (fun W (hx : Ext w W) => index_of l a c p t W (by rw [hl]; exact (own_rd h).of_ext hx) (hp.on hx) (by omega))
    have hi : idxI (fun x => leB t x) l = -1 := by unfold idxI; rw [hany]; rfl
    rw [hi, hl] at IX
    have H := Lib.hid h
    have HL := Lib.hid hl
    clear h hl hp hany hf hi
    go_enter Try.func145, Try.ntmps145
    go_wp2_with (go_at_call 176; refine (IX.out _ (by (repeat' (first | with_reducible exact Ext.refl _ | with_reducible refine Ext.ext ?_ _ | with_reducible refine Ext.alloc ?_ _ | with_reducible refine Ext.drew ?_ | with_reducible refine Ext.drewN ?_ _ | with_reducible assumption)))).mono ?_; rintro e w' ⟨rfl, x1, rfl⟩)
    go_returns
    exact grows_same HL.out H.out (by (repeat' (first | with_reducible exact Ext.refl _ | with_reducible refine Ext.ext ?_ _ | with_reducible refine Ext.alloc ?_ _ | with_reducible refine Ext.drew ?_ | with_reducible refine Ext.drewN ?_ _ | with_reducible assumption)))
  · obtain ⟨k, x, -, hx, -, -⟩ := idx_some hany
    have := (List.getElem?_eq_some_iff.1 hx).1
    obtain ⟨g, rfl, -⟩ := own_form h (by omega)
    exact del_some l g n c base p t w h hl hn hp (fun e => hne (by rw [e]; rfl)) hany
def insT (o : List Tm) (t : Tm) : List Tm := o.take (posT o t) ++ t :: o.drop (posT o t)
def stepT (o : List Tm) (t : Tm) : List Tm := if (!rightB t || o.any (fun x => leB x t)) then o else insT (o.filter (fun x => !leB t x)) t
def chT (l : List Tm) : List Tm := l.foldl stepT []
theorem insT_len (o : List Tm) (t : Tm) : (insT o t).length = o.length + 1 := by
  have := posT_le t o
  simp [insT]
  omega
theorem stepT_len (o : List Tm) (t : Tm) : (stepT o t).length ≤ o.length + 1 := by
  unfold stepT
  split
  · omega
  · rw [insT_len]
    have := List.length_filter_le (fun x => !leB t x) o
    omega
theorem chT_take {l : List Tm} {j : Nat} {x : Tm} (h : l[j]? = some x) : chT (l.take (j + 1)) = stepT (chT (l.take j)) x := by
  unfold chT
  rw [List.take_add_one, h, Option.toList_some, List.foldl_append]
  rfl
/-- All right, and in order. -/
def RS (o : List Tm) : Prop := (∀ x ∈ o, rightB x = true) ∧ Srt o
theorem posT_before {o : List Tm} {t : Tm} : ∀ x ∈ o.take (posT o t), lessB x t = true := by
  induction o with
  | nil => intro x hx; simp [posT] at hx
  | cons a o ih =>
    intro x hx
    unfold posT at hx
    cases ha : lessB a t
    · rw [ha] at hx; simp at hx
    · rw [ha] at hx
      simp only [if_true, List.take_succ_cons, List.mem_cons] at hx
      rcases hx with rfl | hx
      · exact ha
      · exact ih x hx
theorem posT_after {o : List Tm} {t : Tm} (h : RS o) (ht : rightB t = true) (hn : t ∉ o) : ∀ x ∈ o.drop (posT o t), lessB t x = true := by
  induction o with
  | nil => intro x hx; simp at hx
  | cons a o ih =>
    intro x hx
    have hs := List.pairwise_cons.1 h.2
    unfold posT at hx
    cases ha : lessB a t
    · rw [ha] at hx
      simp only [Bool.false_eq_true, if_false, List.drop_zero, List.mem_cons] at hx
      have hta : lessB t a = true := lessB_total (h.1 a (List.mem_cons_self)) ht (fun e => hn (by rw [e]; exact List.mem_cons_self)) ha
      rcases hx with rfl | hx
      · exact hta
      · exact lessB_trans hta (hs.1 x hx)
    · rw [ha] at hx
      simp only [if_true, List.drop_succ_cons] at hx
      exact ih ⟨fun y hy => h.1 y (List.mem_cons_of_mem _ hy), hs.2⟩ (fun hm => hn (List.mem_cons_of_mem _ hm)) x hx
theorem mem_ins {o : List Tm} {t x : Tm} : x ∈ insT o t ↔ x ∈ o ∨ x = t := by
  unfold insT
  rw [List.mem_append, List.mem_cons]
  conv => rhs; rw [← List.take_append_drop (posT o t) o, List.mem_append]
  rw [or_assoc]
  exact or_congr_right or_comm
theorem ins_rs {o : List Tm} {t : Tm} (h : RS o) (ht : rightB t = true) (hn : t ∉ o) : RS (insT o t) := by
  refine ⟨fun x hx => ?_, ?_⟩
  · rcases mem_ins.1 hx with hx | rfl
    · exact h.1 x hx
    · exact ht
  · have hd : Srt (o.take (posT o t) ++ o.drop (posT o t)) := by rw [List.take_append_drop]; exact h.2
    have h1 := List.pairwise_append.1 hd
    refine List.pairwise_append.2 ⟨h1.1, List.pairwise_cons.2 ⟨posT_after h ht hn, h1.2.1⟩, fun x hx y hy => ?_⟩
    rcases List.mem_cons.1 hy with rfl | hy
    · exact posT_before x hx
    · exact h1.2.2 x hx y hy
theorem filter_rs {o : List Tm} (h : RS o) (P : Tm → Bool) : RS (o.filter P) := ⟨fun x hx => h.1 x (List.mem_filter.1 hx).1, List.Pairwise.filter P h.2⟩
theorem not_in_filter {o : List Tm} {t : Tm} (ht : rightB t = true) : t ∉ o.filter (fun x => !leB t x) := by
  intro h
  have := (List.mem_filter.1 h).2
  rw [leB_refl ht] at this
  cases this
theorem step_rs {o : List Tm} {t : Tm} (h : RS o) : RS (stepT o t) := by
  unfold stepT
  split
  · exact h
  · rename_i hc
    have ht : rightB t = true := by
      cases hr : rightB t
      · simp [hr] at hc
      · rfl
    exact ins_rs (filter_rs h _) ht (not_in_filter ht)
theorem chT_rs (l : List Tm) : RS (chT l) := by
  have key : ∀ (l o : List Tm), RS o → RS (l.foldl stepT o) := by
    intro l
    induction l with
    | nil => intro o h; exact h
    | cons a l ih => intro o h; exact ih _ (step_rs h)
  exact key l [] ⟨fun x hx => by simp at hx, List.Pairwise.nil⟩
theorem chT_len (l : List Tm) : (chT l).length ≤ l.length := by
  have key : ∀ (l o : List Tm), (l.foldl stepT o).length ≤ o.length + l.length := by
    intro l
    induction l with
    | nil => intro o; exact Nat.le_refl _
    | cons a l ih =>
      intro o
      have h1 := ih (stepT o a)
      have h2 := stepT_len o a
      rw [List.foldl_cons, List.length_cons]
      omega
  have := key l []
  rwa [List.length_nil, Nat.zero_add] at this
/-- An own row of timestamps, new above 'base', in a world that 'w0' has grown into. -/
def Row (w0 : World) (base : Nat) (l : List Tm) (v : Value) (w : World) : Prop :=
  Ext w0 w ∧ ∃ a c, v = .slice a l.length c ∧ w.ownsRow base 73 5 (.slice a l.length c) l.length (tms l)
theorem Row.of_grows {w0 w w' : World} {base : Nat} {v : Value} {l : List Tm} {e : Ending} (hx : Ext w0 w) (hv : ∀ k, v.ownBlock = some k → w0.heap.size ≤ k) (h : Grows w base v l e w') : ∃ v', e = .returned v' ∧ Row w0 base l v' w' := by
  obtain ⟨b, c, rfl, hg, ho, -⟩ := h
  exact ⟨_, rfl, hx.grown hg hv, b, c, rfl, ho⟩
theorem BoxT.grownR {w w' : World} {p : Nat} {r : Option Nat} {t : Tm} (h : BoxT w p t) (hg : w.grownBy w' r) (hne : r ≠ some p) : BoxT w' p t := by
  have hb : w'.heap[p]? = w.heap[p]? := hg.block p (World.block_lt_of_cell? _ _ h.1) (fun e => hne e.symm)
  obtain ⟨h0, h1, h2, h3, h4⟩ := h
  have k : ∀ j, w'.cell? ⟨p, j, none⟩ = w.cell? ⟨p, j, none⟩ := fun j => World.cell?_of_block hb
  exact ⟨(k 0).trans h0, (k 1).trans h1, (k 2).trans h2, (k 3).trans h3, (k 4).trans h4⟩
/-- The deletion, behind it the box and the row. -/
theorem del_row (l : List Tm) (a : Option Addr) (c base p : Nat) (t : Tm) (w0 w : World) (hx : Ext w0 w) (hb0 : w0.heap.size ≤ base) (h : w.ownsRow base 73 5 (.slice a l.length c) l.length (tms l)) (hn : l.length ≤ 1073741823) (hp : BoxT w p t) (hne : (Value.slice a l.length c).ownBlock ≠ some p) :
    Calls Try.prog 145 #[.slice a l.length c, .func (Fn.func 146) #[] #[.pointer (some ⟨p, 0, none⟩)]] w fun e w' => ∃ b c', e = .returned (.slice b (l.filter (fun x => !leB t x)).length c') ∧ Ext w0 w' ∧ w'.ownsRow base 73 5 (.slice b (l.filter (fun x => !leB t x)).length c') (l.filter (fun x => !leB t x)).length (tms (l.filter (fun x => !leB t x))) ∧ BoxT w' p t ∧ w.heap.size ≤ w'.heap.size := by
  refine (del_any l a _ c base p t w h rfl hn hp hne).mono ?_
  rintro e w' ⟨b, c', rfl, hg, ho, -⟩
  exact ⟨b, c', rfl, hx.grown hg (fun k hk => Nat.le_trans hb0 (h.lt k hk).1), ho, hp.grownR hg hne, hg.size⟩
theorem ins_row (l : List Tm) (a : Option Addr) (c base : Nat) (t : Tm) (w0 w : World) (hx : Ext w0 w) (hb0 : w0.heap.size ≤ base) (hb : base ≤ w.heap.size) (h : w.ownsRow base 73 5 (.slice a l.length c) l.length (tms l)) (hn : l.length ≤ 1073741823) (vb : Nat) (hvb : vb = w.heap.size) :
    Calls Try.prog 150 #[.slice a l.length c, .int .i64 (posT l t), .slice (some ⟨vb, 0, none⟩) 1 1] (w.alloc (.cells #[.int .i64 t.d, .int .i64 t.a, .int .i64 t.b, .int .i64 t.c, .int .i64 t.e] 73)) fun e w' => ∃ v', e = .returned v' ∧ Row w0 base (insT l t) v' w' := by
  subst hvb
  refine (ins_any l a _ c base w.heap.size (posT l t) t w0 _ (hx.alloc _) hb0 (by rw [World.size_alloc]; omega) (own_of_extY h ((Ext.refl w).alloc _)) rfl hn (posT_le t l) (fun e => by have := (h.lt _ e).2; omega) (heap_alloc_new w _)).mono ?_
  intro e w' hg
  exact Row.of_grows (hx.alloc _) (fun k hk => Nat.le_trans hb0 (h.lt k hk).1) hg
set_option maxHeartbeats 4000000 in
theorem of_any (l : List Tm) (a : Option Addr) (c : Nat) (w : World) (h : Rd w 5 l.length (.slice a l.length c) (tms l)) (hn : l.length ≤ 1073741823) :
    Calls Try.prog 101 #[.slice a l.length c] w fun e w' => ∃ v', e = .returned v' ∧ Row w w.heap.size (chT l) v' w' := by
  have H := Lib.hid h
  have HN := Lib.hid hn
  clear h hn
  go_enter Try.func101, Try.ntmps101
  go_wp2
  go_loopw [10, 3] (fun si so wr => ∃ j : Nat, j ≤ l.length ∧ si = .int .i64 j ∧ Row w w.heap.size (chT (l.take j)) so wr) (fun si _ _ => l.length - (intOf si).toNat)
  case atStart => exact ⟨0, by omega, rfl, by (repeat' (first | with_reducible exact Ext.refl _ | with_reducible refine Ext.ext ?_ _ | with_reducible refine Ext.alloc ?_ _ | with_reducible refine Ext.drew ?_ | with_reducible refine Ext.drewN ?_ _ | with_reducible assumption)), none, 0, rfl, World.ownsRow_nil _ _ _ _⟩
  case round =>
    obtain ⟨j, hj, rfl, hx, ao, co, rfl, ho⟩ := hrel
    have HX1 := Lib.hid hx
    have HO := Lib.hid ho
    clear hx ho
    by_cases hlt : j < l.length
    · obtain ⟨x, hx⟩ : ∃ x, l[j]? = some x := ⟨l[j], List.getElem?_eq_getElem _⟩
      obtain ⟨b, off, rfl, -⟩ := H.out.cells (by omega)
      obtain ⟨q0, q1, q2, q3, q4⟩ := tm_at (H.out.of_ext HX1.out) j x hx
      have i1 : (0 : Int) ≤ j := by omega
      have i2 : (j : Int) < l.length := by omega
      have ew : wrap64 ((j : Int) + 1) = ((j + 1 : Nat) : Int) := (IntWalk.wrap64_in _ ⟨by omega, by have := HN.out; omega⟩).trans (by omega)
      have HS := Lib.hid (chT_take hx)
      have hrs := chT_rs (l.take j)
      have hln : (chT (l.take j)).length ≤ 1073741822 := by have := chT_len (l.take j); rw [List.length_take] at this; have := HN.out; omega
      generalize chT (l.take j) = o at *
      haveI : LtSz b wr.heap.size := ⟨World.block_lt_of_cell? _ _ q0⟩
      have RT := Lib.hid (fun W => right_any x.d x.a x.b x.c x.e W)
      have CV := Lib.hid (fun W (hW : Ext wr W) => covers_any o ao co x W ((own_rd HO.out).of_ext hW) (by omega))
      have hob : (Value.slice ao o.length co).ownBlock ≠ some wr.heap.size := fun e => by have := (HO.out.lt _ e).2; omega
      have DL := Lib.hid (fun W (hW : Ext (wr.alloc (.cells #[.int .i64 x.d, .int .i64 x.a, .int .i64 x.b, .int .i64 x.c, .int .i64 x.e] 73)) W) => del_row o ao co w.heap.size wr.heap.size x w W ((HX1.out.alloc _).trans hW) (Nat.le_refl _) (own_of_extY HO.out (((Ext.refl wr).alloc _).trans hW)) (by omega) (BoxT.on ⟨cell_lit _ _ _ _ _ _ rfl rfl, cell_lit _ _ _ _ _ _ rfl rfl, cell_lit _ _ _ _ _ _ rfl rfl, cell_lit _ _ _ _ _ _ rfl rfl, cell_lit _ _ _ _ _ _ rfl rfl⟩ hW) hob)
      obtain ⟨xd, xa, xb, xc, xe⟩ := x
      dsimp only at q0 q1 q2 q3 q4 RT CV DL
      clear hx hob
      have fin : ∀ v' W', stepT o ⟨xd, xa, xb, xc, xe⟩ = chT (l.take (j + 1)) → Row w w.heap.size (stepT o ⟨xd, xa, xb, xc, xe⟩) v' W' → (∃ j' : Nat, j' ≤ l.length ∧ Value.int IntKind.i64 (wrap64 ((j : Int) + 1)) = .int .i64 j' ∧ Row w w.heap.size (chT (l.take j')) v' W') ∧ l.length - (intOf (Value.int IntKind.i64 (wrap64 ((j : Int) + 1)))).toNat < l.length - (intOf (Value.int IntKind.i64 (j : Int))).toNat := fun v' W' h1 h2 => ⟨⟨j + 1, by omega, congrArg (Value.int .i64) ew, by rw [← h1]; exact h2⟩, by rw [ew]; simp only [intOf]; omega⟩
      have FIN := Lib.hid fin
      clear fin
      cases hr : rightB ⟨xd, xa, xb, xc, xe⟩
      · rw [hr] at RT
        have E1 := Lib.hid (show stepT o ⟨xd, xa, xb, xc, xe⟩ = o by unfold stepT; rw [hr]; rfl)
        clear hr
        go_wp2_with (go_at_call 33; refine (RT.out _).mono ?_; rintro e w2 ⟨rfl, x1, rfl⟩)
        refine FIN.out _ _ HS.out.symm ?_
        rw [E1.out]
        exact ⟨HX1.out.trans (by (repeat' (first | with_reducible exact Ext.refl _ | with_reducible refine Ext.ext ?_ _ | with_reducible refine Ext.alloc ?_ _ | with_reducible refine Ext.drew ?_ | with_reducible refine Ext.drewN ?_ _ | with_reducible assumption))), ao, co, rfl, own_of_extY HO.out (by (repeat' (first | with_reducible exact Ext.refl _ | with_reducible refine Ext.ext ?_ _ | with_reducible refine Ext.alloc ?_ _ | with_reducible refine Ext.drew ?_ | with_reducible refine Ext.drewN ?_ _ | with_reducible assumption)))⟩
      · rw [hr] at RT
        cases hcv : o.any (fun y => leB y ⟨xd, xa, xb, xc, xe⟩)
        · rw [hcv] at CV
          have E1 := Lib.hid (show stepT o ⟨xd, xa, xb, xc, xe⟩ = insT (o.filter (fun y => !leB ⟨xd, xa, xb, xc, xe⟩ y)) ⟨xd, xa, xb, xc, xe⟩ by unfold stepT; rw [hr, hcv]; rfl)
          have hrs1 := filter_rs hrs (fun y => !leB ⟨xd, xa, xb, xc, xe⟩ y)
          have hl1 := List.length_filter_le (fun y => !leB ⟨xd, xa, xb, xc, xe⟩ y) o
          generalize o.filter (fun y => !leB ⟨xd, xa, xb, xc, xe⟩ y) = o1 at *
          have BS := Lib.hid (fun W b1 c1 (hW : Rd W 5 o1.length (.slice b1 o1.length c1) (tms o1)) => bsf_any o1 b1 _ c1 W hW rfl (by omega) hrs1.2 ⟨xd, xa, xb, xc, xe⟩)
          have INS := Lib.hid (fun W vb b1 c1 hvb hx hW => ins_row o1 b1 c1 w.heap.size ⟨xd, xa, xb, xc, xe⟩ w W hx (Nat.le_refl _) (Ext.grows hx none).size hW (by omega) vb hvb)
          dsimp only at BS INS
          clear hr hcv hrs1 hl1 hrs hln
          go_wp2_with (first | (go_at_call 33; refine (RT.out _).mono ?_; rintro e w2 ⟨rfl, x1, rfl⟩) | (go_at_call 144; refine (CV.out _ (by (repeat' (first | with_reducible exact Ext.refl _ | with_reducible refine Ext.ext ?_ _ | with_reducible refine Ext.alloc ?_ _ | with_reducible refine Ext.drew ?_ | with_reducible refine Ext.drewN ?_ _ | with_reducible assumption)))).mono ?_; rintro e w2 ⟨rfl, x2, rfl⟩) | (go_at_call 145; refine (DL.out _ (by (repeat' (first | with_reducible exact Ext.refl _ | with_reducible refine Ext.ext ?_ _ | with_reducible refine Ext.alloc ?_ _ | with_reducible refine Ext.drew ?_ | with_reducible refine Ext.drewN ?_ _ | with_reducible assumption)))).mono ?_; rintro e w2 ⟨b1, c1, rfl, hx2, hw2, hp2, hs2⟩; have HX2 := Lib.hid hx2; have HW2 := Lib.hid hw2; obtain ⟨g0, g1, g2, g3, g4⟩ := hp2; haveI : LtSz wr.heap.size w2.heap.size := ⟨World.block_lt_of_cell? _ _ g0⟩; clear hx2 hw2 hs2; dsimp only at g0 g1 g2 g3 g4) | (go_at_call 147; refine (BS.out _ _ _ ((own_rd HW2.out).of_ext (by (repeat' (first | with_reducible exact Ext.refl _ | with_reducible refine Ext.ext ?_ _ | with_reducible refine Ext.alloc ?_ _ | with_reducible refine Ext.drew ?_ | with_reducible refine Ext.drewN ?_ _ | with_reducible assumption))))).mono ?_; rintro e w3 ⟨rfl, x3, rfl⟩) | (go_at_call 150; refine (INS.out _ _ _ _ (by first | rfl | (simp; done)) (HX2.out.trans (by (repeat' (first | with_reducible exact Ext.refl _ | with_reducible refine Ext.ext ?_ _ | with_reducible refine Ext.alloc ?_ _ | with_reducible refine Ext.drew ?_ | with_reducible refine Ext.drewN ?_ _ | with_reducible assumption)))) (own_of_extY HW2.out (by (repeat' (first | with_reducible exact Ext.refl _ | with_reducible refine Ext.ext ?_ _ | with_reducible refine Ext.alloc ?_ _ | with_reducible refine Ext.drew ?_ | with_reducible refine Ext.drewN ?_ _ | with_reducible assumption))))).mono ?_; rintro e w4 ⟨v4, rfl, hx4, a4, c4, rfl, ho4⟩; have HX4 := Lib.hid hx4; have HO4 := Lib.hid ho4; clear hx4 ho4))
          refine FIN.out _ _ HS.out.symm ?_
          rw [E1.out]
          exact ⟨HX4.out.trans (by (repeat' (first | with_reducible exact Ext.refl _ | with_reducible refine Ext.ext ?_ _ | with_reducible refine Ext.alloc ?_ _ | with_reducible refine Ext.drew ?_ | with_reducible refine Ext.drewN ?_ _ | with_reducible assumption))), a4, c4, rfl, own_of_extY HO4.out (by (repeat' (first | with_reducible exact Ext.refl _ | with_reducible refine Ext.ext ?_ _ | with_reducible refine Ext.alloc ?_ _ | with_reducible refine Ext.drew ?_ | with_reducible refine Ext.drewN ?_ _ | with_reducible assumption)))⟩
        · rw [hcv] at CV
          have E1 := Lib.hid (show stepT o ⟨xd, xa, xb, xc, xe⟩ = o by unfold stepT; rw [hr, hcv]; rfl)
          clear hr hcv
          go_wp2_with (first | (go_at_call 33; refine (RT.out _).mono ?_; rintro e w2 ⟨rfl, x1, rfl⟩) | (go_at_call 144; refine (CV.out _ (by (repeat' (first | with_reducible exact Ext.refl _ | with_reducible refine Ext.ext ?_ _ | with_reducible refine Ext.alloc ?_ _ | with_reducible refine Ext.drew ?_ | with_reducible refine Ext.drewN ?_ _ | with_reducible assumption)))).mono ?_; rintro e w2 ⟨rfl, x2, rfl⟩))
          refine FIN.out _ _ HS.out.symm ?_
          rw [E1.out]
          exact ⟨HX1.out.trans (by (repeat' (first | with_reducible exact Ext.refl _ | with_reducible refine Ext.ext ?_ _ | with_reducible refine Ext.alloc ?_ _ | with_reducible refine Ext.drew ?_ | with_reducible refine Ext.drewN ?_ _ | with_reducible assumption))), ao, co, rfl, own_of_extY HO.out (by (repeat' (first | with_reducible exact Ext.refl _ | with_reducible refine Ext.ext ?_ _ | with_reducible refine Ext.alloc ?_ _ | with_reducible refine Ext.drew ?_ | with_reducible refine Ext.drewN ?_ _ | with_reducible assumption)))⟩
    · obtain rfl : j = l.length := by omega
      go_wp2
      go_returns
      have hl : l.take l.length = l := List.take_of_length_le (Nat.le_refl _)
      have ho := HO.out
      rw [hl] at ho ⊢
      exact ⟨_, rfl, HX1.out, ao, co, rfl, ho⟩
end Go.Proofs.Ytkmgdejpdhlleaa.Rc
