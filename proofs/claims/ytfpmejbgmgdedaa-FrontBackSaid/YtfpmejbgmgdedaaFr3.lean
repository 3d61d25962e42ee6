/- Front: slices.BinarySearchFunc in counts that stand in order; place. -/
import Derived.Test.YtfpmejbgmgdedaaFr2
namespace Go.Proofs.Ytfpmejbgmgdedaa.Fr
set_option linter.unusedSimpArgs false
set_option linter.unusedVariables false
open Go.RowKit

def ordC (x : Ct) (t : Tm) : Int := if eqT x.t t then 0 else if lessB x.t t then -1 else 1
theorem place1_any (x : Ct) (t : Tm) (w : World) : Calls Try.prog 61 #[.agg #[.int .i64 x.d, .int .i64 x.a, .int .i64 x.b, .int .i64 x.c, .int .i64 x.e, .int .i64 x.n], .agg #[.int .i64 t.d, .int .i64 t.a, .int .i64 t.b, .int .i64 t.c, .int .i64 t.e]] w fun e w' => e = .returned (.int .i64 (ordC x t)) ∧ Ext w w' := by
  have LE := Lib.hid (fun w => less_any x.d x.a x.b x.c x.e t.d t.a t.b t.c t.e w)
  obtain ⟨r, hr⟩ : ∃ r, eqT x.t t = r := ⟨_, rfl⟩
  obtain ⟨s, hs⟩ : ∃ s, lessB x.t t = s := ⟨_, rfl⟩
  unfold ordC
  rw [hr, hs]
  unfold eqT Ct.t at hr
  unfold Ct.t at hs
  obtain ⟨xd, xa, xb, xc, xe, xn⟩ := x
  obtain ⟨td, ta, tb, tc, te⟩ := t
  dsimp only at LE hr hs ⊢
  rw [hs] at LE
  clear hs
  cases r <;> cases s
  all_goals
    go_enter Try.func61, Try.ntmps61
    go_wp2_with (go_at_call 14; (with_reducible refine (LE.out _).mono ?_); rintro e w' ⟨rfl, x1, rfl⟩)
    go_returns
    exact ⟨reti rfl rfl, by (repeat' (first | with_reducible exact Ext.refl _ | with_reducible refine Ext.ext ?_ _ | with_reducible refine Ext.alloc ?_ _ | with_reducible refine Ext.drew ?_ | with_reducible refine Ext.drewN ?_ _ | with_reducible assumption))⟩
theorem ord_lt {x : Ct} {t : Tm} : ordC x t < 0 ↔ lessB x.t t = true := by
  unfold ordC
  cases h : eqT x.t t
  · cases lessB x.t t <;> simp
  · have := (eqT_iff _ _).1 h
    rw [this, lessB_irrefl]
    simp
theorem ord_eq {x : Ct} {t : Tm} : ordC x t = 0 ↔ eqT x.t t = true := by
  unfold ordC
  cases h : eqT x.t t <;> cases lessB x.t t <;> simp
def ts (l : List Ct) : List Tm := l.map Ct.t
theorem ts_at {l : List Ct} {i : Nat} {x : Ct} (h : l[i]? = some x) : (ts l)[i]? = some x.t := by
  unfold ts
  rw [List.getElem?_map, h]; rfl
theorem ts_len (l : List Ct) : (ts l).length = l.length := List.length_map _
def posC (l : List Ct) (t : Tm) : Nat := posT (ts l) t
def hasC (l : List Ct) (t : Tm) : Bool := match l[posC l t]? with
  | some x => eqT x.t t
  | none => false
theorem posC_le (l : List Ct) (t : Tm) : posC l t ≤ l.length := by have := posT_le t (ts l); rwa [ts_len] at this
theorem chain_srt {l : List Ct} (h : chainB l = true) : Srt (ts l) := by
  have key : ∀ (d i : Nat) (x y : Ct), l[i]? = some x → l[i + d + 1]? = some y → lessB x.t y.t = true := by
    intro d
    induction d with
    | zero => intro i x y hx hy; exact (chain_iff l).1 h i x y hx hy
    | succ d ih =>
      intro i x y hx hy
      have hlt := (List.getElem?_eq_some_iff.1 hy).1
      obtain ⟨u, hu⟩ : ∃ u, l[i + d + 1]? = some u := ⟨l[i + d + 1], List.getElem?_eq_getElem (by omega)⟩
      exact lessB_trans (ih i x u hx hu) ((chain_iff l).1 h (i + d + 1) u y hu hy)
  unfold Srt
  rw [List.pairwise_iff_getElem]
  intro i j hi hj hij
  rw [ts_len] at hi hj
  obtain ⟨d, rfl⟩ : ∃ d, j = i + d + 1 := ⟨j - i - 1, by omega⟩
  have := key d i l[i] l[i + d + 1] (List.getElem?_eq_getElem hi) (List.getElem?_eq_getElem hj)
  simpa [ts] using this
theorem right_srt {l : List Ct} (h : rightC l = true) : Srt (ts l) := by
  unfold rightC at h
  rw [Bool.and_eq_true] at h
  exact chain_srt h.2
set_option maxHeartbeats 4000000 in
theorem bsf_any (l : List Ct) (a : Option Addr) (n c : Nat) (w : World) (h : Rd w 6 n (.slice a n c) (cts l)) (hn : l.length = n) (hl : n ≤ 1073741824) (hc : Srt (ts l)) (t : Tm) :
    Calls Try.prog 60 #[.slice a n c, .agg #[.int .i64 t.d, .int .i64 t.a, .int .i64 t.b, .int .i64 t.c, .int .i64 t.e], .func (Fn.func 61) #[] #[]] w fun e w' => e = .returned (.tuple #[.int .i64 (posC l t), .bool (hasC l t)]) ∧ Ext w w' := by
  have H := Lib.hid h
  have HN := Lib.hid hn
  have HL := Lib.hid hl
  have HC := Lib.hid (fun (i j : Nat) (x y : Ct) (hij : i < j) (hx : l[i]? = some x) (hy : l[j]? = some y) => hc.at hij (ts_at hx) (ts_at hy))
  obtain ⟨R1, hR1⟩ : ∃ R, R = ((posC l t : Nat) : Int) := ⟨_, rfl⟩
  obtain ⟨R2, hR2⟩ : ∃ R, R = hasC l t := ⟨_, rfl⟩
  rw [← hR1, ← hR2]
  have HR1 := Lib.hid hR1
  have HR2 := Lib.hid hR2
  have P1 := Lib.hid (fun x w => place1_any x t w)
  obtain ⟨td, ta, tb, tc, te⟩ := t
  clear h hn hl hc hR1 hR2
  dsimp only at P1 ⊢
  obtain ⟨T, hT⟩ : ∃ T : Tm, T = ⟨td, ta, tb, tc, te⟩ := ⟨_, rfl⟩
  rw [← hT] at HR1 HR2
  rw [← hT] at P1
  have HT := Lib.hid hT
  clear hT
  go_enter Try.func60, Try.ntmps60
  go_wp2
  go_loopw [9, 10] (fun i k wr => ∃ lo hi : Nat, lo ≤ hi ∧ hi ≤ n ∧ i = .int .i64 lo ∧ k = .int .i64 hi ∧ (∃ z, wr = ext (w.alloc (.cells #[.int .i64 td, .int .i64 ta, .int .i64 tb, .int .i64 tc, .int .i64 te] 25)) z) ∧ (∀ q x, q < lo → l[q]? = some x → lessB x.t T = true) ∧ (∀ q x, hi ≤ q → l[q]? = some x → lessB x.t T = false)) (fun i k _ => (intOf k).toNat - (intOf i).toNat)
  case atStart => exact ⟨0, n, Nat.zero_le _, Nat.le_refl _, rfl, rfl, ⟨_, (ext_zero _).symm⟩, fun q x hq => absurd hq (Nat.not_lt_zero q), fun q x hq hx => by have := (List.getElem?_eq_some_iff.1 hx).1; have := HN.out; omega⟩
  case round =>
    obtain ⟨lo, hi, hlh, hhn, rfl, rfl, ⟨z, rfl⟩, h1, h2⟩ := hrel
    have H1 := Lib.hid h1
    have H2 := Lib.hid h2
    clear h1 h2
    by_cases hlt : lo < hi
    · have i0 : (lo : Int) < hi := by omega
      have hx30 := HL.out
      obtain ⟨m, hm⟩ : ∃ m, m = (lo + hi) / 2 := ⟨_, rfl⟩
      have em : ((lo : Int) + hi) / 2 = (m : Int) := by omega
      have hm1 : lo ≤ m := by omega
      have hm2 : m < hi := by omega
      have i1 : (0 : Int) ≤ m := by omega
      have i2 : (m : Int) < n := by omega
      obtain ⟨x, hx⟩ : ∃ x, l[m]? = some x := ⟨l[m]'(by have := HN.out; omega), List.getElem?_eq_getElem _⟩
      obtain ⟨b, off, rfl, -⟩ := H.out.cells (by omega)
      obtain ⟨c0, c1, c2, c3, c4, c5⟩ := cts_at H.out m _ hx
      haveI : LtSz b w.heap.size := ⟨World.block_lt_of_cell? _ _ c0⟩
      have HX := Lib.hid hx
      have PN := Lib.hid (fun w => P1.out x w)
      have hol := ord_lt (x := x) (t := T)
      generalize ordC x T = q at *
      have HOL := Lib.hid hol
      clear hx hol
      obtain ⟨X, hX⟩ : ∃ X, X = x := ⟨_, rfl⟩
      rw [← hX] at HX HOL
      have HXX := Lib.hid hX
      clear hX
      obtain ⟨xd, xa, xb, xc, xe, xn⟩ := x
      dsimp only at PN c0 c1 c2 c3 c4 c5
      cases hq : decide (q < 0)
      · have hge : lessB X.t T = false := by
          rw [Bool.eq_false_iff]
          exact fun h => absurd (HOL.out.2 h) (by simpa using hq)
        have HGE := Lib.hid hge
        clear hge hm
        go_wp2
        refine wp_region_ext (by kernel_rfl) (by kernel_rfl) ?_
        repeat (go_big_quiet_step (first | (go_at_call 61; (apply quiet_of; (with_reducible exact PN.out _); (intro w' hx; obtain ⟨z, rfl⟩ := hx; (try simp only [ext_ext, add_assoc]); exact ⟨_, rfl⟩)))))
        refine wpQuiet_nil ?_
        intro xK
        go_wp2
        refine ⟨⟨lo, m, by omega, by omega, rfl, rfl, ⟨_, by first | exact ext_ext _ _ _ | rfl⟩, H1.out, fun p x hp hx => ?_⟩, by simp only [intOf]; omega⟩
        rcases Nat.lt_or_ge m p with hlt | hle
        · rw [Bool.eq_false_iff]
          exact fun h => absurd (lessB_trans (HC.out _ _ _ _ hlt HX.out hx) h) (by rw [HGE.out]; decide)
        · obtain rfl : p = m := by omega
          rw [HX.out] at hx
          cases hx
          exact HGE.out
      · have hlt' : lessB X.t T = true := HOL.out.1 (by simpa using hq)
        have HLT := Lib.hid hlt'
        have ew : wrap64 ((m : Int) + 1) = ((m + 1 : Nat) : Int) := (IntWalk.wrap64_in _ ⟨by omega, by omega⟩).trans (by omega)
        clear hlt' hm
        go_wp2
        refine wp_region_ext (by kernel_rfl) (by kernel_rfl) ?_
        repeat (go_big_quiet_step (first | (go_at_call 61; (apply quiet_of; (with_reducible exact PN.out _); (intro w' hx; obtain ⟨z, rfl⟩ := hx; (try simp only [ext_ext, add_assoc]); exact ⟨_, rfl⟩)))))
        refine wpQuiet_nil ?_
        intro xK
        go_wp2
        refine ⟨⟨m + 1, hi, by omega, by omega, congrArg (Value.int .i64) (by omega), rfl, ⟨_, by first | exact ext_ext _ _ _ | rfl⟩, fun p x hp hx => ?_, H2.out⟩, by simp only [intOf]; omega⟩
        rcases Nat.lt_or_ge p m with hlt | hle
        · exact lessB_trans (HC.out _ _ _ _ hlt hx HX.out) HLT.out
        · obtain rfl : p = m := by omega
          rw [HX.out] at hx
          cases hx
          exact HLT.out
    · obtain rfl : lo = hi := by omega
      have hp : posC l T = lo := posT_at (by rw [ts_len]; have := HN.out; omega) (fun i x hi hx => by
        unfold ts at hx
        rw [List.getElem?_map, Option.map_eq_some_iff] at hx
        obtain ⟨y, hy, rfl⟩ := hx
        exact H1.out i y hi hy) (fun x hx => by
        unfold ts at hx
        rw [List.getElem?_map, Option.map_eq_some_iff] at hx
        obtain ⟨y, hy, rfl⟩ := hx
        exact H2.out lo y (Nat.le_refl _) hy)
      have hr1 : (lo : Int) = R1 := by rw [HR1.out, hp]
      have HR := Lib.hid hr1
      by_cases hn' : lo = n
      · have hr2 : false = R2 := by rw [HR2.out, hasC, hp, List.getElem?_eq_none (by have := HN.out; omega)]
        have HRB := Lib.hid hr2
        have e1 : ¬ (lo : Int) < n := by omega
        have e2 : decide ((lo : Int) < n) = false := decide_eq_false e1
        clear hr1 hr2 hp e1
        subst hn'
        go_wp2
        refine wp_region_ext (by kernel_rfl) (by kernel_rfl) ?_
        repeat (go_big_quiet_step (fail))
        refine wpQuiet_nil ?_
        intro xK
        go_wp2
        go_returns
        exact ⟨rett rfl (by rw [← HR.out, ← HRB.out]; rfl), by (repeat' (first | with_reducible exact Ext.refl _ | with_reducible refine Ext.ext ?_ _ | with_reducible refine Ext.alloc ?_ _ | with_reducible refine Ext.drew ?_ | with_reducible refine Ext.drewN ?_ _ | with_reducible assumption))⟩
      · obtain ⟨x, hx⟩ : ∃ x, l[lo]? = some x := ⟨l[lo]'(by have := HN.out; omega), List.getElem?_eq_getElem _⟩
        obtain ⟨b, off, rfl, -⟩ := H.out.cells (by omega)
        obtain ⟨c0, c1, c2, c3, c4, c5⟩ := cts_at H.out lo _ hx
        haveI : LtSz b w.heap.size := ⟨World.block_lt_of_cell? _ _ c0⟩
        have hr2 : (ordC x T == 0) = R2 := by
          rw [HR2.out, hasC, hp, hx]
          dsimp only
          rw [Bool.eq_iff_iff, beq_iff_eq]
          exact ord_eq
        have HRB := Lib.hid hr2
        have PN := Lib.hid (fun w => P1.out x w)
        have i1 : (0 : Int) ≤ lo := by omega
        have i2 : (lo : Int) < n := by omega
        have e2 : decide ((lo : Int) < n) = true := decide_eq_true i2
        have e3 : decide (lo < n) = true := decide_eq_true (by omega)
        generalize ordC x T = q at *
        obtain ⟨xd, xa, xb, xc, xe, xn⟩ := x
        dsimp only at PN c0 c1 c2 c3 c4 c5
        clear hr1 hr2 hp hx
        go_wp2
        refine wp_region_ext (by kernel_rfl) (by kernel_rfl) ?_
        repeat (go_big_quiet_step (first | (go_at_call 61; (apply quiet_of; (with_reducible exact PN.out _); (intro w' hx; obtain ⟨z, rfl⟩ := hx; (try simp only [ext_ext, add_assoc]); exact ⟨_, rfl⟩)))))
        refine wpQuiet_nil ?_
        intro xK
        go_wp2
        go_returns
        exact ⟨rett rfl (by rw [← HR.out, ← HRB.out]; rfl), by (repeat' (first | with_reducible exact Ext.refl _ | with_reducible refine Ext.ext ?_ _ | with_reducible refine Ext.alloc ?_ _ | with_reducible refine Ext.drew ?_ | with_reducible refine Ext.drewN ?_ _ | with_reducible assumption))⟩
theorem place_any (l : List Ct) (a : Option Addr) (n c : Nat) (w : World) (h : Rd w 6 n (.slice a n c) (cts l)) (hn : l.length = n) (hl : n ≤ 1073741824) (hc : Srt (ts l)) (t : Tm) :
    Calls Try.prog 53 #[.slice a n c, .agg #[.int .i64 t.d, .int .i64 t.a, .int .i64 t.b, .int .i64 t.c, .int .i64 t.e]] w fun e w' => e = .returned (.tuple #[.int .i64 (posC l t), .bool (hasC l t)]) ∧ Ext w w' := by
  have BS := Lib.hid (fun w' (hx : Ext w w') => bsf_any l a n c w' (h.of_ext hx) hn hl hc t)
  generalize posC l t = p at *
  generalize hasC l t = b at *
  obtain ⟨td, ta, tb, tc, te⟩ := t
  dsimp only at BS ⊢
  clear h hn hl hc
  go_enter Try.func53, Try.ntmps53
  go_wp2_with (go_at_call 60; refine (BS.out _ (by (repeat' (first | with_reducible exact Ext.refl _ | with_reducible refine Ext.ext ?_ _ | with_reducible refine Ext.alloc ?_ _ | with_reducible refine Ext.drew ?_ | with_reducible refine Ext.drewN ?_ _ | with_reducible assumption)))).mono ?_; rintro e w' ⟨rfl, x1, rfl⟩)
  go_returns
  exact ⟨rett rfl rfl, by (repeat' (first | with_reducible exact Ext.refl _ | with_reducible refine Ext.ext ?_ _ | with_reducible refine Ext.alloc ?_ _ | with_reducible refine Ext.drew ?_ | with_reducible refine Ext.drewN ?_ _ | with_reducible assumption))⟩
end Go.Proofs.Ytfpmejbgmgdedaa.Fr
