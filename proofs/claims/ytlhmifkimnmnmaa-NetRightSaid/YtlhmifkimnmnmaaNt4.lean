/- Net: find; copied. -/
import Derived.Test.YtlhmifkimnmnmaaNt3
namespace Go.Proofs.Ytlhmifkimnmnmaa
set_option linter.unusedSimpArgs false
set_option linter.unusedVariables false
open Go.RowKit

def lt3 (e f t e' f' t' : Int) : Prop := e < e' ∨ (e = e' ∧ (f < f' ∨ (f = f' ∧ t < t')))
theorem ord3_lt (e f t e' f' t' : Int) : ord3 e f t e' f' t' < 0 ↔ lt3 e f t e' f' t' := by
  unfold ord3 lt3
  have h1 := cmpI_zero e e'
  have h2 := cmpI_zero f f'
  have h3 := cmpI_zero t t'
  have h4 := cmpI_lt e e'
  have h5 := cmpI_lt f f'
  have h6 := cmpI_lt t t'
  simp only [firstN]
  split
  · split
    · split <;> omega
    · omega
  · omega
theorem ord3_zero (e f t e' f' t' : Int) : ord3 e f t e' f' t' = 0 ↔ e = e' ∧ f = f' ∧ t = t' := by
  unfold ord3
  have h1 := cmpI_zero e e'
  have h2 := cmpI_zero f f'
  have h3 := cmpI_zero t t'
  simp only [firstN]
  split
  · split
    · split <;> omega
    · omega
  · omega
def ltX (x : Bx) (e f t : Int) : Prop := lt3 x.e x.f x.t e f t
theorem lt3_trans {e f t e' f' t' e'' f'' t'' : Int} (h : lt3 e f t e' f' t') (k : lt3 e' f' t' e'' f'' t'') : lt3 e f t e'' f'' t'' := by unfold lt3 at *; omega
theorem ltB_lt (x y : Bx) : ltB x y = true ↔ lt3 x.e x.f x.t y.e y.f y.t := by unfold ltB; rw [decide_eq_true_eq]; exact ord3_lt _ _ _ _ _ _
theorem chain_lt {l : List Bx} (h : chainB l = true) : ∀ (d i : Nat) (x y : Bx), l[i]? = some x → l[i + d + 1]? = some y → lt3 x.e x.f x.t y.e y.f y.t
  | 0, i, x, y, hx, hy => (ltB_lt x y).1 ((chain_iff l).1 h i x y hx hy)
  | d + 1, i, x, y, hx, hy => by
    have hlt := (List.getElem?_eq_some_iff.1 hy).1
    obtain ⟨u, hu⟩ : ∃ u, l[i + d + 1]? = some u := ⟨l[i + d + 1], List.getElem?_eq_getElem (by omega)⟩
    exact lt3_trans (chain_lt h d i x u hx hu) ((ltB_lt u y).1 ((chain_iff l).1 h (i + d + 1) u y hu hy))
/-- Where a box stands, or would stand. -/
def posB : List Bx → Int → Int → Int → Nat
  | [], _, _, _ => 0
  | x :: l, e, f, t => if ord3 x.e x.f x.t e f t < 0 then posB l e f t + 1 else 0
theorem posB_le (e f t : Int) : ∀ l : List Bx, posB l e f t ≤ l.length
  | [] => Nat.le_refl _
  | x :: l => by
    unfold posB
    have := posB_le e f t l
    split <;> simp <;> omega
theorem posB_at {e f t : Int} : ∀ {l : List Bx} {p : Nat}, p ≤ l.length → (∀ (i : Nat) x, i < p → l[i]? = some x → ltX x e f t) → (∀ x, l[p]? = some x → ¬ ltX x e f t) → posB l e f t = p
  | [], p, hp, _, _ => by simp at hp; simp [posB, hp]
  | x :: l, 0, _, _, h2 => by
    unfold posB
    rw [if_neg (fun h => h2 x rfl ((ord3_lt _ _ _ _ _ _).1 h))]
  | x :: l, p + 1, hp, h1, h2 => by
    unfold posB
    rw [if_pos ((ord3_lt _ _ _ _ _ _).2 (h1 0 x (by omega) rfl))]
    rw [posB_at (p := p) (by simpa using hp) (fun i y hi hy => h1 (i + 1) y (by omega) (by simpa using hy)) (fun y hy => h2 y (by simpa using hy))]
def hasB (l : List Bx) (e f t : Int) : Bool := match l[posB l e f t]? with
  | some x => decide (ord3 x.e x.f x.t e f t = 0)
  | none => false
set_option maxHeartbeats 4000000 in
theorem bsf_any (l : List Bx) (a : Option Addr) (n c : Nat) (w : World) (h : RdsG shB w l (.slice a n c)) (hl : n ≤ 1073741823) (hc : chainB l = true) (e f t : Int) (v : Value) (hv : v = .slice none 0 0) :
    Calls Try.prog 31 #[.slice a n c, .agg #[.int .i64 e, .int .i64 f, .int .i64 t, v], .func (Fn.func 24) #[] #[]] w fun r w' => r = .returned (.tuple #[.int .i64 (posB l e f t), .bool (hasB l e f t)]) ∧ Ext w w' := by
  subst hv
  have H := Lib.hid h
  have HN := Lib.hid (rds_len h)
  have HL := Lib.hid hl
  have HC := Lib.hid hc
  have P1 := Lib.hid order_any
  obtain ⟨R1, hR1⟩ : ∃ R, R = ((posB l e f t : Nat) : Int) := ⟨_, rfl⟩
  obtain ⟨R2, hR2⟩ : ∃ R, R = hasB l e f t := ⟨_, rfl⟩
  rw [← hR1, ← hR2]
  have HR1 := Lib.hid hR1
  have HR2 := Lib.hid hR2
  clear h hl hc hR1 hR2
  go_enter Try.func31, Try.ntmps31
  go_wp2
  go_loopw [9, 10] (fun i k wr => ∃ lo hi : Nat, lo ≤ hi ∧ hi ≤ n ∧ i = .int .i64 lo ∧ k = .int .i64 hi ∧ (∃ z, wr = ext (w.alloc (.cells #[.int .i64 e, .int .i64 f, .int .i64 t, .slice none 0 0] 34)) z) ∧ (∀ (q : Nat) x, q < lo → l[q]? = some x → ltX x e f t) ∧ (∀ (q : Nat) x, hi ≤ q → l[q]? = some x → ¬ ltX x e f t)) (fun i k _ => (intOf k).toNat - (intOf i).toNat)
  case atStart => exact ⟨0, n, Nat.zero_le _, Nat.le_refl _, rfl, rfl, ⟨_, (ext_zero _).symm⟩, fun q x hq => absurd hq (Nat.not_lt_zero q), fun q x hq hx => by have := (List.getElem?_eq_some_iff.1 hx).1; have := HN.out; omega⟩
  case round =>
    obtain ⟨lo, hi, hlh, hhn, rfl, rfl, ⟨z, rfl⟩, h1, h2⟩ := hrel
    have H1 := Lib.hid h1
    have H2 := Lib.hid h2
    clear h1 h2
    by_cases hlt : lo < hi
    · have i0 : (lo : Int) < hi := by omega
      have hx30 := HL.out
      obtain ⟨m, hm⟩ : ∃ m, m = (lo + hi) / 2 := ⟨_, rfl⟩
      have em : ((lo : Int) + hi) / 2 = (m : Int) := by omega
      have hm1 : lo ≤ m := by omega
      have hm2 : m < hi := by omega
      have i1 : (0 : Int) ≤ m := by omega
      have i2 : (m : Int) < n := by omega
      obtain ⟨⟨xe, xf, xt, xl⟩, hx⟩ : ∃ x, l[m]? = some x := ⟨l[m]'(by have := HN.out; omega), List.getElem?_eq_getElem _⟩
      obtain ⟨b, off, rfl⟩ := rds_some H.out (by omega)
      obtain ⟨u, ⟨ua, uc, rfl, -⟩, c0, c1, c2, c3⟩ := bx_at H.out hx
      haveI : LtSz b w.heap.size := ⟨World.block_lt_of_cell? _ _ c0⟩
      have HX := Lib.hid hx
      have PN := Lib.hid (fun w => P1.out xe xf xt e f t (.slice ua xl.length uc) (.slice none 0 0) w)
      have e0 := ord3_lt xe xf xt e f t
      dsimp only at c0 c1 c2 c3
      generalize ord3 xe xf xt e f t = q at *
      have E0 := Lib.hid e0
      clear e0 hx
      cases hq : decide (q < 0)
      · have hge : ¬ ltX ⟨xe, xf, xt, xl⟩ e f t := fun h => absurd (E0.out.2 h) (by simpa using hq)
        have HGE := Lib.hid hge
        clear hge hm
        go_wp2
        refine wp_region_ext (by kernel_rfl) (by kernel_rfl) ?_
        repeat (go_big_quiet_step (first | (go_at_call 24; (apply quiet_of; (with_reducible exact PN.out _); (intro w' hx; obtain ⟨z, rfl⟩ := hx; (try simp only [ext_ext, add_assoc]); exact ⟨_, rfl⟩)))))
        refine wpQuiet_nil ?_
        intro xK
        go_wp2
        refine ⟨⟨lo, m, by omega, by omega, rfl, rfl, ⟨_, by first | exact ext_ext _ _ _ | rfl⟩, H1.out, fun p x hp hx h => ?_⟩, by simp only [intOf]; omega⟩
        rcases Nat.lt_or_ge m p with hlt | hle
        · obtain ⟨d, rfl⟩ : ∃ d, p = m + d + 1 := ⟨p - m - 1, by omega⟩
          exact HGE.out (lt3_trans (chain_lt HC.out d m _ x HX.out hx) h)
        · obtain rfl : p = m := by omega
          rw [HX.out] at hx
          cases hx
          exact HGE.out h
      · have hlt' : ltX ⟨xe, xf, xt, xl⟩ e f t := E0.out.1 (by simpa using hq)
        have HLT := Lib.hid hlt'
        have ew : wrap64 ((m : Int) + 1) = ((m + 1 : Nat) : Int) := (IntWalk.wrap64_in _ ⟨by omega, by omega⟩).trans (by omega)
        clear hlt' hm
        go_wp2
        refine wp_region_ext (by kernel_rfl) (by kernel_rfl) ?_
        repeat (go_big_quiet_step (first | (go_at_call 24; (apply quiet_of; (with_reducible exact PN.out _); (intro w' hx; obtain ⟨z, rfl⟩ := hx; (try simp only [ext_ext, add_assoc]); exact ⟨_, rfl⟩)))))
        refine wpQuiet_nil ?_
        intro xK
        go_wp2
        refine ⟨⟨m + 1, hi, by omega, by omega, congrArg (Value.int .i64) (by omega), rfl, ⟨_, by first | exact ext_ext _ _ _ | rfl⟩, fun p x hp hx => ?_, H2.out⟩, by simp only [intOf]; omega⟩
        rcases Nat.lt_or_ge p m with hlt | hle
        · obtain ⟨d, rfl⟩ : ∃ d, m = p + d + 1 := ⟨m - p - 1, by omega⟩
          exact lt3_trans (chain_lt HC.out d p x _ hx HX.out) HLT.out
        · obtain rfl : p = m := by omega
          rw [HX.out] at hx
          cases hx
          exact HLT.out
    · obtain rfl : lo = hi := by omega
      have hp : posB l e f t = lo := posB_at (by have := HN.out; omega) (fun i x hi hx => H1.out i x hi hx) (fun x hx => H2.out lo x (Nat.le_refl _) hx)
      have hr1 : (lo : Int) = R1 := by rw [HR1.out, hp]
      have HR := Lib.hid hr1
      by_cases hn' : lo = n
      · have hr2 : false = R2 := by rw [HR2.out, hasB, hp, List.getElem?_eq_none (by have := HN.out; omega)]
        have HRB := Lib.hid hr2
        have e1 : ¬ (lo : Int) < n := by omega
        have e2 : decide ((lo : Int) < n) = false := decide_eq_false e1
        clear hr1 hr2 hp e1
        subst hn'
        go_wp2
        refine wp_region_ext (by kernel_rfl) (by kernel_rfl) ?_
        repeat (go_big_quiet_step (fail))
        refine wpQuiet_nil ?_
        intro xK
        go_wp2
        go_returns
        exact ⟨rett rfl (by rw [← HR.out, ← HRB.out]; rfl), by (repeat' (first | with_reducible exact Ext.refl _ | with_reducible refine Ext.ext ?_ _ | with_reducible refine Ext.alloc ?_ _ | with_reducible refine Ext.drew ?_ | with_reducible refine Ext.drewN ?_ _ | with_reducible assumption))⟩
      · obtain ⟨⟨xe, xf, xt, xl⟩, hx⟩ : ∃ x, l[lo]? = some x := ⟨l[lo]'(by have := HN.out; omega), List.getElem?_eq_getElem _⟩
        obtain ⟨b, off, rfl⟩ := rds_some H.out (by omega)
        obtain ⟨u, ⟨ua, uc, rfl, -⟩, c0, c1, c2, c3⟩ := bx_at H.out hx
        haveI : LtSz b w.heap.size := ⟨World.block_lt_of_cell? _ _ c0⟩
        have hr2 : (ord3 xe xf xt e f t == 0) = R2 := by rw [HR2.out, hasB, hp, hx]; rfl
        have HRB := Lib.hid hr2
        have PN := Lib.hid (fun w => P1.out xe xf xt e f t (.slice ua xl.length uc) (.slice none 0 0) w)
        have i1 : (0 : Int) ≤ lo := by omega
        have i2 : (lo : Int) < n := by omega
        have e2 : decide ((lo : Int) < n) = true := decide_eq_true i2
        have e3 : decide (lo < n) = true := decide_eq_true (by omega)
        dsimp only at c0 c1 c2 c3
        generalize ord3 xe xf xt e f t = q at *
        clear hr1 hr2 hp hx
        go_wp2
        refine wp_region_ext (by kernel_rfl) (by kernel_rfl) ?_
        repeat (go_big_quiet_step (first | (go_at_call 24; (apply quiet_of; (with_reducible exact PN.out _); (intro w' hx; obtain ⟨z, rfl⟩ := hx; (try simp only [ext_ext, add_assoc]); exact ⟨_, rfl⟩)))))
        refine wpQuiet_nil ?_
        intro xK
        go_wp2
        go_returns
        exact ⟨rett rfl (by rw [← HR.out, ← HRB.out]; rfl), by (repeat' (first | with_reducible exact Ext.refl _ | with_reducible refine Ext.ext ?_ _ | with_reducible refine Ext.alloc ?_ _ | with_reducible refine Ext.drew ?_ | with_reducible refine Ext.drewN ?_ _ | with_reducible assumption))⟩
theorem find_any (l : List Bx) (a : Option Addr) (n c : Nat) (w : World) (h : RdsG shB w l (.slice a n c)) (hl : n ≤ 1073741823) (hc : chainB l = true) (e f t : Int) :
    Calls Try.prog 20 #[.slice a n c, .int .i64 e, .int .i64 f, .int .i64 t] w fun r w' => r = .returned (.tuple #[.int .i64 (posB l e f t), .bool (hasB l e f t)]) ∧ Ext w w' := by
  have B := Lib.hid (fun W (hx : Ext w W) => bsf_any l a n c W (h.on hx) hl hc e f t _ rfl)
  generalize ((posB l e f t : Nat) : Int) = R1 at *
  generalize hasB l e f t = R2 at *
  clear h hl hc
  go_enter Try.func20, Try.ntmps20
  go_wp2_with (go_at_call 31; (with_reducible refine (B.out _ (by (repeat' (first | with_reducible exact Ext.refl _ | with_reducible refine Ext.ext ?_ _ | with_reducible refine Ext.alloc ?_ _ | with_reducible refine Ext.drew ?_ | with_reducible refine Ext.drewN ?_ _ | with_reducible assumption)))).mono ?_); rintro r w' ⟨rfl, x1, rfl⟩)
  go_returns
  exact ⟨rett rfl rfl, by (repeat' (first | with_reducible exact Ext.refl _ | with_reducible refine Ext.ext ?_ _ | with_reducible refine Ext.alloc ?_ _ | with_reducible refine Ext.drew ?_ | with_reducible refine Ext.drewN ?_ _ | with_reducible assumption))⟩
end Go.Proofs.Ytlhmifkimnmnmaa
