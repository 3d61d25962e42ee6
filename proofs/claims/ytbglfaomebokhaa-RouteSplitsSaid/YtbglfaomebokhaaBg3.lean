/- Bag: slices.BinarySearchFunc in a bag that stands in order. -/
import Derived.Test.YtbglfaomebokhaaBg2
namespace Go.Proofs.Ytbglfaomebokhaa
set_option linter.unusedSimpArgs false
set_option linter.unusedVariables false
open Go.RowKit

def ltR (a b : Int × Int) : Prop := a.1 < b.1 ∨ (a.1 = b.1 ∧ a.2 < b.2)
theorem cmpI_lt (x y : Int) : cmpI x y < 0 ↔ x < y := by unfold cmpI; split <;> (try split) <;> omega
theorem cmpI_zero (x y : Int) : cmpI x y = 0 ↔ x = y := by unfold cmpI; split <;> (try split) <;> omega
theorem ordR_lt (a b : Int × Int) : ordR a b < 0 ↔ ltR a b := by
  unfold ordR ltR
  have h1 := cmpI_zero a.1 b.1
  have h2 := cmpI_lt a.1 b.1
  have h3 := cmpI_lt a.2 b.2
  split <;> omega
theorem ordR_zero (a b : Int × Int) : ordR a b = 0 ↔ a = b := by
  obtain ⟨x, y⟩ := a
  obtain ⟨x', y'⟩ := b
  unfold ordR
  have h1 := cmpI_zero x x'
  have h3 := cmpI_zero y y'
  simp only [Prod.mk.injEq]
  split <;> omega
theorem ltR_trans {a b c : Int × Int} (h : ltR a b) (k : ltR b c) : ltR a c := by unfold ltR at *; omega
theorem ltR_irrefl (a : Int × Int) : ¬ ltR a a := by unfold ltR; omega
theorem lessI_lt (x y : It) : lessI x y = true ↔ ltR x.r y.r := by unfold lessI; rw [decide_eq_true_eq]; exact ordR_lt _ _
theorem chain_lt {l : List It} (h : chainB l = true) : ∀ (d i : Nat) (x y : It), l[i]? = some x → l[i + d + 1]? = some y → ltR x.r y.r
  | 0, i, x, y, hx, hy => (lessI_lt x y).1 ((chain_iff l).1 h i x y hx hy)
  | d + 1, i, x, y, hx, hy => by
    have hlt := (List.getElem?_eq_some_iff.1 hy).1
    obtain ⟨u, hu⟩ : ∃ u, l[i + d + 1]? = some u := ⟨l[i + d + 1], List.getElem?_eq_getElem (by omega)⟩
    exact ltR_trans (chain_lt h d i x u hx hu) ((lessI_lt u y).1 ((chain_iff l).1 h (i + d + 1) u y hu hy))
/-- Where a record stands, or would stand. -/
def posI : List It → (Int × Int) → Nat
  | [], _ => 0
  | x :: l, r => if ordR x.r r < 0 then posI l r + 1 else 0
theorem posI_le (r : Int × Int) : ∀ l : List It, posI l r ≤ l.length
  | [] => Nat.le_refl _
  | x :: l => by
    unfold posI
    have := posI_le r l
    split <;> simp <;> omega
theorem posI_at {r : Int × Int} : ∀ {l : List It} {p : Nat}, p ≤ l.length → (∀ i x, i < p → l[i]? = some x → ltR x.r r) → (∀ x, l[p]? = some x → ¬ ltR x.r r) → posI l r = p
  | [], p, hp, _, _ => by simp at hp; simp [posI, hp]
  | x :: l, 0, _, _, h2 => by
    unfold posI
    rw [if_neg (fun h => h2 x rfl ((ordR_lt _ _).1 h))]
  | x :: l, p + 1, hp, h1, h2 => by
    unfold posI
    rw [if_pos ((ordR_lt _ _).2 (h1 0 x (by omega) rfl))]
    rw [posI_at (p := p) (by simpa using hp) (fun i y hi hy => h1 (i + 1) y (by omega) (by simpa using hy)) (fun y hy => h2 y (by simpa using hy))]
theorem it_at {w : World} {b off n c : Nat} {l : List It} (h : Rd w 3 n (.slice (some ⟨b, off, none⟩) n c) (its l)) (j : Nat) (x : It) (hj : l[j]? = some x) :
    w.cell? ⟨b, off + j * 3, none⟩ = some (.int .i64 x.k) ∧ w.cell? ⟨b, off + j * 3 + 1, none⟩ = some (.int .i64 x.v) ∧ w.cell? ⟨b, off + j * 3 + 2, none⟩ = some (.int .i64 x.n) := by
  obtain ⟨h1, h2, h3⟩ := it_cells h j x hj ⟨[], w.drawn⟩
  have k1 := keep_add h1
  have k2 := keep_add h2
  have k3 := keep_add h3
  rw [ext_zero] at k1 k2 k3
  exact ⟨k1, k2, k3⟩
def hasI (l : List It) (r : Int × Int) : Bool := match l[posI l r]? with
  | some x => decide (ordR x.r r = 0)
  | none => false
set_option maxHeartbeats 4000000 in
theorem bsf_any (l : List It) (a : Option Addr) (n c : Nat) (w : World) (h : Rd w 3 n (.slice a n c) (its l)) (hn : l.length = n) (hl : n ≤ 1073741824) (hc : chainB l = true) (r : Int × Int) :
    Calls Try.prog 50 #[.slice a n c, .agg #[.int .i64 r.1, .int .i64 r.2], .func (Fn.func 51) #[] #[]] w fun e w' => e = .returned (.tuple #[.int .i64 (posI l r), .bool (hasI l r)]) ∧ Ext w w' := by
  have H := Lib.hid h
  have HN := Lib.hid hn
  have HL := Lib.hid hl
  have HC := Lib.hid hc
  have P1 := Lib.hid put1_any
  obtain ⟨K, V⟩ := r
  obtain ⟨R1, hR1⟩ : ∃ R, R = ((posI l (K, V) : Nat) : Int) := ⟨_, rfl⟩
  obtain ⟨R2, hR2⟩ : ∃ R, R = hasI l (K, V) := ⟨_, rfl⟩
  rw [← hR1, ← hR2]
  have HR1 := Lib.hid hR1
  have HR2 := Lib.hid hR2
  clear h hn hl hc hR1 hR2
  dsimp only
  go_enter Try.func50, Try.ntmps50
  go_wp2
  go_loopw [9, 10] (fun i k wr => ∃ lo hi : Nat, lo ≤ hi ∧ hi ≤ n ∧ i = .int .i64 lo ∧ k = .int .i64 hi ∧ (∃ z, wr = ext (w.alloc (.cells #[.int .i64 K, .int .i64 V] 28)) z) ∧ (∀ q x, q < lo → l[q]? = some x → ltR x.r (K, V)) ∧ (∀ q x, hi ≤ q → l[q]? = some x → ¬ ltR x.r (K, V))) (fun i k _ => (intOf k).toNat - (intOf i).toNat)
  case atStart => exact ⟨0, n, Nat.zero_le _, Nat.le_refl _, rfl, rfl, ⟨_, (ext_zero _).symm⟩, fun q x hq => absurd hq (Nat.not_lt_zero q), fun q x hq hx => by have := (List.getElem?_eq_some_iff.1 hx).1; have := HN.out; omega⟩
  case round =>
    obtain ⟨lo, hi, hlh, hhn, rfl, rfl, ⟨z, rfl⟩, h1, h2⟩ := hrel
    have H1 := Lib.hid h1
    have H2 := Lib.hid h2
    clear h1 h2
    by_cases hlt : lo < hi
    · have i0 : (lo : Int) < hi := by omega
      have hx30 := HL.out
      obtain ⟨m, hm⟩ : ∃ m, m = (lo + hi) / 2 := ⟨_, rfl⟩
      have em : ((lo : Int) + hi) / 2 = (m : Int) := by omega
      have hm1 : lo ≤ m := by omega
      have hm2 : m < hi := by omega
      have i1 : (0 : Int) ≤ m := by omega
      have i2 : (m : Int) < n := by omega
      obtain ⟨⟨xk, xv, xn⟩, hx⟩ : ∃ x, l[m]? = some x := ⟨l[m]'(by have := HN.out; omega), List.getElem?_eq_getElem _⟩
      obtain ⟨b, off, rfl, -⟩ := H.out.cells (by omega)
      obtain ⟨c0, c1, c2⟩ := it_at H.out m _ hx
      haveI : LtSz b w.heap.size := ⟨World.block_lt_of_cell? _ _ c0⟩
      have HX := Lib.hid hx
      have PN := Lib.hid (fun w => P1.out (xk, xv) (K, V) xn w)
      have e0 := ordR_lt (xk, xv) (K, V)
      dsimp only at PN c0 c1 c2
      generalize ordR (xk, xv) (K, V) = q at *
      have E0 := Lib.hid e0
      clear e0 hx
      cases hq : decide (q < 0)
      · have hge : ¬ ltR (xk, xv) (K, V) := fun h => absurd (E0.out.2 h) (by simpa using hq)
        have HGE := Lib.hid hge
        clear hge hm
        go_wp2
        refine wp_region_ext (by kernel_rfl) (by kernel_rfl) ?_
        repeat (go_big_quiet_step (first | (go_at_call 51; (apply quiet_of; (with_reducible exact PN.out _); (intro w' hx; obtain ⟨z, rfl⟩ := hx; (try simp only [ext_ext, add_assoc]); exact ⟨_, rfl⟩)))))
        refine wpQuiet_nil ?_
        intro xK
        go_wp2
        refine ⟨⟨lo, m, by omega, by omega, rfl, rfl, ⟨_, by first | exact ext_ext _ _ _ | rfl⟩, H1.out, fun p x hp hx h => ?_⟩, by simp only [intOf]; omega⟩
        rcases Nat.lt_or_ge m p with hlt | hle
        · obtain ⟨d, rfl⟩ : ∃ d, p = m + d + 1 := ⟨p - m - 1, by omega⟩
          exact HGE.out (ltR_trans (chain_lt HC.out d m _ x HX.out hx) h)
        · obtain rfl : p = m := by omega
          rw [HX.out] at hx
          cases hx
          exact HGE.out h
      · have hlt' : ltR (xk, xv) (K, V) := E0.out.1 (by simpa using hq)
        have HLT := Lib.hid hlt'
        have ew : wrap64 ((m : Int) + 1) = ((m + 1 : Nat) : Int) := (IntWalk.wrap64_in _ ⟨by omega, by omega⟩).trans (by omega)
        clear hlt' hm
        go_wp2
        refine wp_region_ext (by kernel_rfl) (by kernel_rfl) ?_
        repeat (go_big_quiet_step (first | (go_at_call 51; (apply quiet_of; (with_reducible exact PN.out _); (intro w' hx; obtain ⟨z, rfl⟩ := hx; (try simp only [ext_ext, add_assoc]); exact ⟨_, rfl⟩)))))
        refine wpQuiet_nil ?_
        intro xK
        go_wp2
        refine ⟨⟨m + 1, hi, by omega, by omega, congrArg (Value.int .i64) (by omega), rfl, ⟨_, by first | exact ext_ext _ _ _ | rfl⟩, fun p x hp hx => ?_, H2.out⟩, by simp only [intOf]; omega⟩
        rcases Nat.lt_or_ge p m with hlt | hle
        · obtain ⟨d, rfl⟩ : ∃ d, m = p + d + 1 := ⟨m - p - 1, by omega⟩
          exact ltR_trans (chain_lt HC.out d p x _ hx HX.out) HLT.out
        · obtain rfl : p = m := by omega
          rw [HX.out] at hx
          cases hx
          exact HLT.out
    · obtain rfl : lo = hi := by omega
      have hp : posI l (K, V) = lo := posI_at (by have := HN.out; omega) (fun i x hi hx => H1.out i x hi hx) (fun x hx => H2.out lo x (Nat.le_refl _) hx)
      have hr1 : (lo : Int) = R1 := by rw [HR1.out, hp]
      have HR := Lib.hid hr1
      by_cases hn' : lo = n
      · have hr2 : false = R2 := by rw [HR2.out, hasI, hp, List.getElem?_eq_none (by have := HN.out; omega)]
        have HRB := Lib.hid hr2
        have e1 : ¬ (lo : Int) < n := by omega
        have e2 : decide ((lo : Int) < n) = false := decide_eq_false e1
        clear hr1 hr2 hp e1
        subst hn'
        go_wp2
        refine wp_region_ext (by kernel_rfl) (by kernel_rfl) ?_
        repeat (go_big_quiet_step (fail))
        refine wpQuiet_nil ?_
        intro xK
        go_wp2
        go_returns
        exact ⟨rett rfl (by rw [← HR.out, ← HRB.out]; rfl), by (repeat' (first | with_reducible exact Ext.refl _ | with_reducible refine Ext.ext ?_ _ | with_reducible refine Ext.alloc ?_ _ | with_reducible refine Ext.drew ?_ | with_reducible refine Ext.drewN ?_ _ | with_reducible assumption))⟩
      · obtain ⟨⟨xk, xv, xn⟩, hx⟩ : ∃ x, l[lo]? = some x := ⟨l[lo]'(by have := HN.out; omega), List.getElem?_eq_getElem _⟩
        obtain ⟨b, off, rfl, -⟩ := H.out.cells (by omega)
        obtain ⟨c0, c1, c2⟩ := it_at H.out lo _ hx
        haveI : LtSz b w.heap.size := ⟨World.block_lt_of_cell? _ _ c0⟩
        have hr2 : (ordR (xk, xv) (K, V) == 0) = R2 := by rw [HR2.out, hasI, hp, hx]; rfl
        have HRB := Lib.hid hr2
        have PN := Lib.hid (fun w => P1.out (xk, xv) (K, V) xn w)
        have i1 : (0 : Int) ≤ lo := by omega
        have i2 : (lo : Int) < n := by omega
        have e2 : decide ((lo : Int) < n) = true := decide_eq_true i2
        have e3 : decide (lo < n) = true := decide_eq_true (by omega)
        dsimp only at PN c0 c1 c2
        generalize ordR (xk, xv) (K, V) = q at *
        clear hr1 hr2 hp hx
        go_wp2
        refine wp_region_ext (by kernel_rfl) (by kernel_rfl) ?_
        repeat (go_big_quiet_step (first | (go_at_call 51; (apply quiet_of; (with_reducible exact PN.out _); (intro w' hx; obtain ⟨z, rfl⟩ := hx; (try simp only [ext_ext, add_assoc]); exact ⟨_, rfl⟩)))))
        refine wpQuiet_nil ?_
        intro xK
        go_wp2
        go_returns
        exact ⟨rett rfl (by rw [← HR.out, ← HRB.out]; rfl), by (repeat' (first | with_reducible exact Ext.refl _ | with_reducible refine Ext.ext ?_ _ | with_reducible refine Ext.alloc ?_ _ | with_reducible refine Ext.drew ?_ | with_reducible refine Ext.drewN ?_ _ | with_reducible assumption))⟩
end Go.Proofs.Ytbglfaomebokhaa
