/- CreditRight's region 24: four boxes, each a copy of the lane. -/
import Derived.Test.YtgjolablgcnlmaaCrD
namespace Go.Proofs.Ytgjolablgcnlmaa
set_option linter.unusedSimpArgs false
set_option linter.unusedVariables false
open Go.RowKit

noncomputable def ops24 : Array Oper := ((Try.f3.body.bind (regOf 24)).getD #[])
theorem ops24_size : ops24.size = 12 := by kernel_rfl
theorem ops24_ac : acyc .any ops24 = true := by kernel_rfl
theorem ops24_ng : noGuard ops24 = true := by kernel_rfl
theorem Same1.trans {W W' W'' : World} {g : Nat} (h : Same1 W W' g) (k : Same1 W' W'' g) : Same1 W W'' g := fun g' o' h' hne => k g' o' (h g' o' h' hne) hne
theorem set5 {W : World} {g : Nat} {x0 x1 x2 x3 x4 : Value} (y0 y1 y2 y3 y4 : Value) (hh : W.heap[g]? = some (.cells #[x0, x1, x2, x3, x4] 24 (0, 0))) :
    (((((W.setCell ⟨g, 0, none⟩ y0).setCell ⟨g, 1, none⟩ y1).setCell ⟨g, 2, none⟩ y2).setCell ⟨g, 3, none⟩ y3).setCell ⟨g, 4, none⟩ y4).heap[g]? = some (.cells #[y0, y1, y2, y3, y4] 24 (0, 0)) ∧
    Same1 W (((((W.setCell ⟨g, 0, none⟩ y0).setCell ⟨g, 1, none⟩ y1).setCell ⟨g, 2, none⟩ y2).setCell ⟨g, 3, none⟩ y3).setCell ⟨g, 4, none⟩ y4) g ∧
    (((((W.setCell ⟨g, 0, none⟩ y0).setCell ⟨g, 1, none⟩ y1).setCell ⟨g, 2, none⟩ y2).setCell ⟨g, 3, none⟩ y3).setCell ⟨g, 4, none⟩ y4).heap.size = W.heap.size := by
  refine ⟨by simp [World.setCell, Array.getElem?_modify, hh], ((((same1_set _ _ _ _).trans (same1_set _ _ _ _)).trans (same1_set _ _ _ _)).trans (same1_set _ _ _ _)).trans (same1_set _ _ _ _), by simp⟩
theorem Ext.set5 {w W : World} {g : Nat} (h : Ext w W) (hg : w.heap.size ≤ g) (y0 y1 y2 y3 y4 : Value) : Ext w (((((W.setCell ⟨g, 0, none⟩ y0).setCell ⟨g, 1, none⟩ y1).setCell ⟨g, 2, none⟩ y2).setCell ⟨g, 3, none⟩ y3).setCell ⟨g, 4, none⟩ y4) :=
  ((((h.setCell hg _).setCell hg _).setCell hg _).setCell hg _).setCell hg _
/-- A box on its way: not there, there, written. -/
def Bst (base : Nat) (W : World) (lc : Array Value) (l1 l2 : Bool) (v : Value) (k : Option Nat) : Prop :=
  (l1 = true → ∃ g x0 x1 x2 x3 x4, v = .pointer (some ⟨g, 0, none⟩) ∧ base ≤ g ∧ W.heap[g]? = some (.cells #[x0, x1, x2, x3, x4] 24 (0, 0)) ∧ (l2 = true → #[x0, x1, x2, x3, x4] = lc) ∧ k = some g) ∧ (l1 = false → k = none)
theorem Bst.keep {base : Nat} {W W' : World} {lc : Array Value} {l1 l2 : Bool} {v : Value} {k : Option Nat} (h : Bst base W lc l1 l2 v k) (g : Nat) (hs : Same1 W W' g) (hk : k ≠ some g) : Bst base W' lc l1 l2 v k := by
  obtain ⟨h1, h2⟩ := h
  refine ⟨fun e => ?_, h2⟩
  obtain ⟨g', x0, x1, x2, x3, x4, hv, hb, hh, hl, rfl⟩ := h1 e
  exact ⟨g', x0, x1, x2, x3, x4, hv, hb, hs g' _ hh (fun e => hk (by rw [e])), hl, rfl⟩
theorem Bst.lt {base : Nat} {W : World} {lc : Array Value} {l1 l2 : Bool} {v : Value} {k : Option Nat} (h : Bst base W lc l1 l2 v k) : ∀ g, k = some g → base ≤ g ∧ g < W.heap.size := by
  intro g hg
  obtain ⟨h1, h2⟩ := h
  cases l1
  · rw [h2 rfl] at hg; cases hg
  · obtain ⟨g', x0, x1, x2, x3, x4, hv, hb, hh, hl, rfl⟩ := h1 rfl
    cases hg
    exact ⟨hb, (Array.getElem?_eq_some_iff.1 hh).1⟩
def apart4 (k0 k1 k2 k3 : Option Nat) : Prop := (∀ g, k0 = some g → k1 ≠ some g) ∧ (∀ g, k0 = some g → k2 ≠ some g) ∧ (∀ g, k0 = some g → k3 ≠ some g) ∧ (∀ g, k1 = some g → k2 ≠ some g) ∧ (∀ g, k1 = some g → k3 ≠ some g) ∧ (∀ g, k2 = some g → k3 ≠ some g)
structure R24 (w w1 : World) (p : Nat) (lc : Array Value) (L : Nat → Bool) (a : Act) (W : World) : Prop where
  ext : Ext w W
  le : w1.heap.size ≤ W.heap.size
  hp : W.heap[p]? = w1.heap[p]?
  e0 : L 0 = true → V a 148 = .agg lc
  e1 : L 1 = true → V a 149 = .agg lc
  e2 : L 2 = true → V a 150 = .agg lc
  e3 : L 3 = true → V a 151 = .agg lc
  n0 : L 8 = true → L 4 = true
  n1 : L 9 = true → L 5 = true
  n2 : L 10 = true → L 6 = true
  n3 : L 11 = true → L 7 = true
  ch : ∃ k0 k1 k2 k3, Bst w1.heap.size W lc (L 4) (L 8) (V a 19) k0 ∧ Bst w1.heap.size W lc (L 5) (L 9) (V a 20) k1 ∧ Bst w1.heap.size W lc (L 6) (L 10) (V a 21) k2 ∧ Bst w1.heap.size W lc (L 7) (L 11) (V a 22) k3 ∧ apart4 k0 k1 k2 k3
def ts24 : List Nat := [19, 20, 21, 22, 148, 149, 150, 151]
set_option maxRecDepth 100000 in
set_option maxHeartbeats 4000000 in
theorem reg24 (a0 : Act) (w w1 : World) (p : Nat) (s m b : Int) (a1 a2 : Option Addr) (c1 c2 : Nat) (xs ys : List Int) (Q : Exit → Act → World → Prop) (v3 : V a0 3 = .pointer (some ⟨p, 0, none⟩)) (hsz : 151 < a0.tmps.size)
    (hp : Bx w w1 p a1 c1 a2 c2 ⟨s, m, b, xs, ys⟩)
    (hQ : ∀ a W p0 p1 p2 p3, Near ts24 a0 a → W.heap[p]? = w1.heap[p]? → V a 19 = .pointer (some ⟨p0, 0, none⟩) → V a 20 = .pointer (some ⟨p1, 0, none⟩) → V a 21 = .pointer (some ⟨p2, 0, none⟩) → V a 22 = .pointer (some ⟨p3, 0, none⟩) → w1.heap.size ≤ p0 ∧ w1.heap.size ≤ p1 ∧ w1.heap.size ≤ p2 ∧ w1.heap.size ≤ p3 ∧ p0 ≠ p1 ∧ p0 ≠ p2 ∧ p0 ≠ p3 ∧ p1 ≠ p2 ∧ p1 ≠ p3 ∧ p2 ≠ p3 → Ext w1 W →
      Bx w W p0 a1 c1 a2 c2 ⟨s, m, b, xs, ys⟩ → Bx w W p1 a1 c1 a2 c2 ⟨s, m, b, xs, ys⟩ → Bx w W p2 a1 c1 a2 c2 ⟨s, m, b, xs, ys⟩ → Bx w W p3 a1 c1 a2 c2 ⟨s, m, b, xs, ys⟩ → Q .normal a W) : (Code.region 24 ops24 true).wp Try.prog Q a0 w1 := by
  refine wp_region_inv2 12 (fun L a W => Near ts24 a0 a ∧ R24 w1 w1 p #[.int .i64 s, .int .i64 m, .slice a1 xs.length c1, .slice a2 ys.length c2, .int .i64 b] L a W) (by kernel_rfl) ops24_ac ops24_ng ops24_size ?_ ?_ ?_
  · exact ⟨Near.refl _ _, ⟨(Ext.refl w1).drew, Nat.le_refl _, rfl, fun h => absurd h (by decide), fun h => absurd h (by decide), fun h => absurd h (by decide), fun h => absurd h (by decide), fun h => absurd h (by decide), fun h => absurd h (by decide), fun h => absurd h (by decide), fun h => absurd h (by decide), ⟨none, none, none, none, ⟨fun h => absurd h (by decide), fun _ => rfl⟩, ⟨fun h => absurd h (by decide), fun _ => rfl⟩, ⟨fun h => absurd h (by decide), fun _ => rfl⟩, ⟨fun h => absurd h (by decide), fun _ => rfl⟩, by unfold apart4; simp⟩⟩⟩
  · intro i o ho hi L a W hL hd ⟨hn, hR⟩ K hK
    have HS : Hid (151 < a.tmps.size) := Lib.hid (by rw [hn.size]; exact hsz)
    have u3 : V a 3 = .pointer (some ⟨p, 0, none⟩) := by rw [← V_eval, hn.out 3 (by decide), V_eval, v3]
    have hpW : W.heap[p]? = some (.cells #[.int .i64 s, .int .i64 m, .slice a1 xs.length c1, .slice a2 ys.length c2, .int .i64 b] 24 (0, 0)) := hR.hp.trans hp.2.2.1
    have f0 : W.cell? ⟨p, 0, none⟩ = some (.int .i64 s) := by rw [cell_of_row _ _ _ _ _ (0, 0) hpW]; rfl
    have f1 : W.cell? ⟨p, 1, none⟩ = some (.int .i64 m) := by rw [cell_of_row _ _ _ _ _ (0, 0) hpW]; rfl
    have f2 : W.cell? ⟨p, 2, none⟩ = some (.slice a1 xs.length c1) := by rw [cell_of_row _ _ _ _ _ (0, 0) hpW]; rfl
    have f3 : W.cell? ⟨p, 3, none⟩ = some (.slice a2 ys.length c2) := by rw [cell_of_row _ _ _ _ _ (0, 0) hpW]; rfl
    have f4 : W.cell? ⟨p, 4, none⟩ = some (.int .i64 b) := by rw [cell_of_row _ _ _ _ _ (0, 0) hpW]; rfl
    unfold V at u3
    match i, ho, hi, hL, hd with
    | 0, ho, hi, hL, hd =>
      cases ho
      conv => arg 2; whnf
      go_simp
      have hv := V_lit (Nat.lt_of_le_of_lt (by decide : 148 ≤ 151) HS.out)
      exact hK _ _ ⟨hn.put (by decide) _, ⟨hR.ext, hR.le, hR.hp, (by first | (simp [hv, upd]; done) | simpa [hv, upd] using hR.e0), (by first | (simp [hv, upd]; done) | simpa [hv, upd] using hR.e1), (by first | (simp [hv, upd]; done) | simpa [hv, upd] using hR.e2), (by first | (simp [hv, upd]; done) | simpa [hv, upd] using hR.e3), (by first | (simp [upd]; done) | simpa [upd] using hR.n0), (by first | (simp [upd]; done) | simpa [upd] using hR.n1), (by first | (simp [upd]; done) | simpa [upd] using hR.n2), (by first | (simp [upd]; done) | simpa [upd] using hR.n3), (by first | (simp [hv, upd]; done) | simpa [hv, upd] using hR.ch)⟩⟩
    | 1, ho, hi, hL, hd =>
      cases ho
      conv => arg 2; whnf
      go_simp
      have hv := V_lit (Nat.lt_of_le_of_lt (by decide : 149 ≤ 151) HS.out)
      exact hK _ _ ⟨hn.put (by decide) _, ⟨hR.ext, hR.le, hR.hp, (by first | (simp [hv, upd]; done) | simpa [hv, upd] using hR.e0), (by first | (simp [hv, upd]; done) | simpa [hv, upd] using hR.e1), (by first | (simp [hv, upd]; done) | simpa [hv, upd] using hR.e2), (by first | (simp [hv, upd]; done) | simpa [hv, upd] using hR.e3), (by first | (simp [upd]; done) | simpa [upd] using hR.n0), (by first | (simp [upd]; done) | simpa [upd] using hR.n1), (by first | (simp [upd]; done) | simpa [upd] using hR.n2), (by first | (simp [upd]; done) | simpa [upd] using hR.n3), (by first | (simp [hv, upd]; done) | simpa [hv, upd] using hR.ch)⟩⟩
    | 2, ho, hi, hL, hd =>
      cases ho
      conv => arg 2; whnf
      go_simp
      have hv := V_lit (Nat.lt_of_le_of_lt (by decide : 150 ≤ 151) HS.out)
      exact hK _ _ ⟨hn.put (by decide) _, ⟨hR.ext, hR.le, hR.hp, (by first | (simp [hv, upd]; done) | simpa [hv, upd] using hR.e0), (by first | (simp [hv, upd]; done) | simpa [hv, upd] using hR.e1), (by first | (simp [hv, upd]; done) | simpa [hv, upd] using hR.e2), (by first | (simp [hv, upd]; done) | simpa [hv, upd] using hR.e3), (by first | (simp [upd]; done) | simpa [upd] using hR.n0), (by first | (simp [upd]; done) | simpa [upd] using hR.n1), (by first | (simp [upd]; done) | simpa [upd] using hR.n2), (by first | (simp [upd]; done) | simpa [upd] using hR.n3), (by first | (simp [hv, upd]; done) | simpa [hv, upd] using hR.ch)⟩⟩
    | 3, ho, hi, hL, hd =>
      cases ho
      conv => arg 2; whnf
      go_simp
      have hv := V_lit (Nat.lt_of_le_of_lt (by decide : 151 ≤ 151) HS.out)
      exact hK _ _ ⟨hn.put (by decide) _, ⟨hR.ext, hR.le, hR.hp, (by first | (simp [hv, upd]; done) | simpa [hv, upd] using hR.e0), (by first | (simp [hv, upd]; done) | simpa [hv, upd] using hR.e1), (by first | (simp [hv, upd]; done) | simpa [hv, upd] using hR.e2), (by first | (simp [hv, upd]; done) | simpa [hv, upd] using hR.e3), (by first | (simp [upd]; done) | simpa [upd] using hR.n0), (by first | (simp [upd]; done) | simpa [upd] using hR.n1), (by first | (simp [upd]; done) | simpa [upd] using hR.n2), (by first | (simp [upd]; done) | simpa [upd] using hR.n3), (by first | (simp [hv, upd]; done) | simpa [hv, upd] using hR.ch)⟩⟩
    | 4, ho, hi, hL, hd =>
      cases ho
      conv => arg 2; whnf
      go_simp
      have hv := V_lit (Nat.lt_of_le_of_lt (by decide : 19 ≤ 151) HS.out)
      obtain ⟨k0, k1, k2, k3, b0, b1, b2, b3, ap⟩ := hR.ch
      have q0 : k0 ≠ some W.heap.size := fun e => absurd (b0.lt W.heap.size e).2 (Nat.lt_irrefl _)
      have q1 : k1 ≠ some W.heap.size := fun e => absurd (b1.lt W.heap.size e).2 (Nat.lt_irrefl _)
      have q2 : k2 ≠ some W.heap.size := fun e => absurd (b2.lt W.heap.size e).2 (Nat.lt_irrefl _)
      have q3 : k3 ≠ some W.heap.size := fun e => absurd (b3.lt W.heap.size e).2 (Nat.lt_irrefl _)
      exact hK _ _ ⟨hn.put (by decide) _, ⟨hR.ext.alloc _, (by simp; have := hR.le; omega), (by rw [Below.heap_alloc _ _ _ (Array.getElem?_eq_some_iff.1 hpW).1]; exact hR.hp), (by first | (simp [hv, upd]; done) | simpa [hv, upd] using hR.e0), (by first | (simp [hv, upd]; done) | simpa [hv, upd] using hR.e1), (by first | (simp [hv, upd]; done) | simpa [hv, upd] using hR.e2), (by first | (simp [hv, upd]; done) | simpa [hv, upd] using hR.e3), (by first | (simp [upd]; done) | simpa [upd] using hR.n0), (by first | (simp [upd]; done) | simpa [upd] using hR.n1), (by first | (simp [upd]; done) | simpa [upd] using hR.n2), (by first | (simp [upd]; done) | simpa [upd] using hR.n3), ⟨some W.heap.size, k1, k2, k3, (by simpa [hv, upd] using (show Bst w1.heap.size (W.alloc (.cells #[.int .i64 0, .int .i64 0, .slice none 0 0, .slice none 0 0, .int .i64 0] 24)) #[.int .i64 s, .int .i64 m, .slice a1 xs.length c1, .slice a2 ys.length c2, .int .i64 b] true (L 8) (.pointer (some ⟨W.heap.size, 0, none⟩)) (some W.heap.size) from ⟨fun _ => ⟨_, _, _, _, _, _, rfl, hR.le, heap_alloc_new W _, fun e => absurd (hR.n0 e) (by rw [hL]; decide), rfl⟩, fun e => (by cases e)⟩)), (by simpa [hv, upd] using b1.keep W.heap.size (same1_alloc _ _ _) (fun e => absurd (b1.lt _ e).2 (Nat.lt_irrefl _))), (by simpa [hv, upd] using b2.keep W.heap.size (same1_alloc _ _ _) (fun e => absurd (b2.lt _ e).2 (Nat.lt_irrefl _))), (by simpa [hv, upd] using b3.keep W.heap.size (same1_alloc _ _ _) (fun e => absurd (b3.lt _ e).2 (Nat.lt_irrefl _))), ⟨fun g h e => (by cases h; exact q1 e), fun g h e => (by cases h; exact q2 e), fun g h e => (by cases h; exact q3 e), ap.2.2.2.1, ap.2.2.2.2.1, ap.2.2.2.2.2⟩⟩⟩⟩
    | 5, ho, hi, hL, hd =>
      cases ho
      conv => arg 2; whnf
      go_simp
      have hv := V_lit (Nat.lt_of_le_of_lt (by decide : 20 ≤ 151) HS.out)
      obtain ⟨k0, k1, k2, k3, b0, b1, b2, b3, ap⟩ := hR.ch
      have q0 : k0 ≠ some W.heap.size := fun e => absurd (b0.lt W.heap.size e).2 (Nat.lt_irrefl _)
      have q1 : k1 ≠ some W.heap.size := fun e => absurd (b1.lt W.heap.size e).2 (Nat.lt_irrefl _)
      have q2 : k2 ≠ some W.heap.size := fun e => absurd (b2.lt W.heap.size e).2 (Nat.lt_irrefl _)
      have q3 : k3 ≠ some W.heap.size := fun e => absurd (b3.lt W.heap.size e).2 (Nat.lt_irrefl _)
      exact hK _ _ ⟨hn.put (by decide) _, ⟨hR.ext.alloc _, (by simp; have := hR.le; omega), (by rw [Below.heap_alloc _ _ _ (Array.getElem?_eq_some_iff.1 hpW).1]; exact hR.hp), (by first | (simp [hv, upd]; done) | simpa [hv, upd] using hR.e0), (by first | (simp [hv, upd]; done) | simpa [hv, upd] using hR.e1), (by first | (simp [hv, upd]; done) | simpa [hv, upd] using hR.e2), (by first | (simp [hv, upd]; done) | simpa [hv, upd] using hR.e3), (by first | (simp [upd]; done) | simpa [upd] using hR.n0), (by first | (simp [upd]; done) | simpa [upd] using hR.n1), (by first | (simp [upd]; done) | simpa [upd] using hR.n2), (by first | (simp [upd]; done) | simpa [upd] using hR.n3), ⟨k0, some W.heap.size, k2, k3, (by simpa [hv, upd] using b0.keep W.heap.size (same1_alloc _ _ _) (fun e => absurd (b0.lt _ e).2 (Nat.lt_irrefl _))), (by simpa [hv, upd] using (show Bst w1.heap.size (W.alloc (.cells #[.int .i64 0, .int .i64 0, .slice none 0 0, .slice none 0 0, .int .i64 0] 24)) #[.int .i64 s, .int .i64 m, .slice a1 xs.length c1, .slice a2 ys.length c2, .int .i64 b] true (L 9) (.pointer (some ⟨W.heap.size, 0, none⟩)) (some W.heap.size) from ⟨fun _ => ⟨_, _, _, _, _, _, rfl, hR.le, heap_alloc_new W _, fun e => absurd (hR.n1 e) (by rw [hL]; decide), rfl⟩, fun e => (by cases e)⟩)), (by simpa [hv, upd] using b2.keep W.heap.size (same1_alloc _ _ _) (fun e => absurd (b2.lt _ e).2 (Nat.lt_irrefl _))), (by simpa [hv, upd] using b3.keep W.heap.size (same1_alloc _ _ _) (fun e => absurd (b3.lt _ e).2 (Nat.lt_irrefl _))), ⟨fun g h e => (by cases e; exact q0 h), ap.2.1, ap.2.2.1, fun g h e => (by cases h; exact q2 e), fun g h e => (by cases h; exact q3 e), ap.2.2.2.2.2⟩⟩⟩⟩
    | 6, ho, hi, hL, hd =>
      cases ho
      conv => arg 2; whnf
      go_simp
      have hv := V_lit (Nat.lt_of_le_of_lt (by decide : 21 ≤ 151) HS.out)
      obtain ⟨k0, k1, k2, k3, b0, b1, b2, b3, ap⟩ := hR.ch
      have q0 : k0 ≠ some W.heap.size := fun e => absurd (b0.lt W.heap.size e).2 (Nat.lt_irrefl _)
      have q1 : k1 ≠ some W.heap.size := fun e => absurd (b1.lt W.heap.size e).2 (Nat.lt_irrefl _)
      have q2 : k2 ≠ some W.heap.size := fun e => absurd (b2.lt W.heap.size e).2 (Nat.lt_irrefl _)
      have q3 : k3 ≠ some W.heap.size := fun e => absurd (b3.lt W.heap.size e).2 (Nat.lt_irrefl _)
      exact hK _ _ ⟨hn.put (by decide) _, ⟨hR.ext.alloc _, (by simp; have := hR.le; omega), (by rw [Below.heap_alloc _ _ _ (Array.getElem?_eq_some_iff.1 hpW).1]; exact hR.hp), (by first | (simp [hv, upd]; done) | simpa [hv, upd] using hR.e0), (by first | (simp [hv, upd]; done) | simpa [hv, upd] using hR.e1), (by first | (simp [hv, upd]; done) | simpa [hv, upd] using hR.e2), (by first | (simp [hv, upd]; done) | simpa [hv, upd] using hR.e3), (by first | (simp [upd]; done) | simpa [upd] using hR.n0), (by first | (simp [upd]; done) | simpa [upd] using hR.n1), (by first | (simp [upd]; done) | simpa [upd] using hR.n2), (by first | (simp [upd]; done) | simpa [upd] using hR.n3), ⟨k0, k1, some W.heap.size, k3, (by simpa [hv, upd] using b0.keep W.heap.size (same1_alloc _ _ _) (fun e => absurd (b0.lt _ e).2 (Nat.lt_irrefl _))), (by simpa [hv, upd] using b1.keep W.heap.size (same1_alloc _ _ _) (fun e => absurd (b1.lt _ e).2 (Nat.lt_irrefl _))), (by simpa [hv, upd] using (show Bst w1.heap.size (W.alloc (.cells #[.int .i64 0, .int .i64 0, .slice none 0 0, .slice none 0 0, .int .i64 0] 24)) #[.int .i64 s, .int .i64 m, .slice a1 xs.length c1, .slice a2 ys.length c2, .int .i64 b] true (L 10) (.pointer (some ⟨W.heap.size, 0, none⟩)) (some W.heap.size) from ⟨fun _ => ⟨_, _, _, _, _, _, rfl, hR.le, heap_alloc_new W _, fun e => absurd (hR.n2 e) (by rw [hL]; decide), rfl⟩, fun e => (by cases e)⟩)), (by simpa [hv, upd] using b3.keep W.heap.size (same1_alloc _ _ _) (fun e => absurd (b3.lt _ e).2 (Nat.lt_irrefl _))), ⟨ap.1, fun g h e => (by cases e; exact q0 h), ap.2.2.1, fun g h e => (by cases e; exact q1 h), ap.2.2.2.2.1, fun g h e => (by cases h; exact q3 e)⟩⟩⟩⟩
    | 7, ho, hi, hL, hd =>
      cases ho
      conv => arg 2; whnf
      go_simp
      have hv := V_lit (Nat.lt_of_le_of_lt (by decide : 22 ≤ 151) HS.out)
      obtain ⟨k0, k1, k2, k3, b0, b1, b2, b3, ap⟩ := hR.ch
      have q0 : k0 ≠ some W.heap.size := fun e => absurd (b0.lt W.heap.size e).2 (Nat.lt_irrefl _)
      have q1 : k1 ≠ some W.heap.size := fun e => absurd (b1.lt W.heap.size e).2 (Nat.lt_irrefl _)
      have q2 : k2 ≠ some W.heap.size := fun e => absurd (b2.lt W.heap.size e).2 (Nat.lt_irrefl _)
      have q3 : k3 ≠ some W.heap.size := fun e => absurd (b3.lt W.heap.size e).2 (Nat.lt_irrefl _)
      exact hK _ _ ⟨hn.put (by decide) _, ⟨hR.ext.alloc _, (by simp; have := hR.le; omega), (by rw [Below.heap_alloc _ _ _ (Array.getElem?_eq_some_iff.1 hpW).1]; exact hR.hp), (by first | (simp [hv, upd]; done) | simpa [hv, upd] using hR.e0), (by first | (simp [hv, upd]; done) | simpa [hv, upd] using hR.e1), (by first | (simp [hv, upd]; done) | simpa [hv, upd] using hR.e2), (by first | (simp [hv, upd]; done) | simpa [hv, upd] using hR.e3), (by first | (simp [upd]; done) | simpa [upd] using hR.n0), (by first | (simp [upd]; done) | simpa [upd] using hR.n1), (by first | (simp [upd]; done) | simpa [upd] using hR.n2), (by first | (simp [upd]; done) | simpa [upd] using hR.n3), ⟨k0, k1, k2, some W.heap.size, (by simpa [hv, upd] using b0.keep W.heap.size (same1_alloc _ _ _) (fun e => absurd (b0.lt _ e).2 (Nat.lt_irrefl _))), (by simpa [hv, upd] using b1.keep W.heap.size (same1_alloc _ _ _) (fun e => absurd (b1.lt _ e).2 (Nat.lt_irrefl _))), (by simpa [hv, upd] using b2.keep W.heap.size (same1_alloc _ _ _) (fun e => absurd (b2.lt _ e).2 (Nat.lt_irrefl _))), (by simpa [hv, upd] using (show Bst w1.heap.size (W.alloc (.cells #[.int .i64 0, .int .i64 0, .slice none 0 0, .slice none 0 0, .int .i64 0] 24)) #[.int .i64 s, .int .i64 m, .slice a1 xs.length c1, .slice a2 ys.length c2, .int .i64 b] true (L 11) (.pointer (some ⟨W.heap.size, 0, none⟩)) (some W.heap.size) from ⟨fun _ => ⟨_, _, _, _, _, _, rfl, hR.le, heap_alloc_new W _, fun e => absurd (hR.n3 e) (by rw [hL]; decide), rfl⟩, fun e => (by cases e)⟩)), ⟨ap.1, ap.2.1, fun g h e => (by cases e; exact q0 h), ap.2.2.2.1, fun g h e => (by cases e; exact q1 h), fun g h e => (by cases e; exact q2 h)⟩⟩⟩⟩
    | 8, ho, hi, hL, hd =>
      have u := hR.e0 (dep_mem hd 0 (by cases ho; kernel_rfl))
      have d3 := dep_mem hd 4 (by cases ho; kernel_rfl)
      cases ho
      conv => arg 2; whnf
      obtain ⟨k0, k1, k2, k3, b0, b1, b2, b3, ap⟩ := hR.ch
      obtain ⟨g, x0, x1, x2, x3, x4, hg, hbg, hh, -, hk⟩ := b0.1 d3
      have hpl := (Array.getElem?_eq_some_iff.1 hp.2.2.1).1
      have g0 : W.cell? ⟨g, 0, none⟩ = some x0 := by rw [cell_of_row _ _ _ _ _ (0, 0) hh]; rfl
      have g1 : W.cell? ⟨g, 1, none⟩ = some x1 := by rw [cell_of_row _ _ _ _ _ (0, 0) hh]; rfl
      have g2 : W.cell? ⟨g, 2, none⟩ = some x2 := by rw [cell_of_row _ _ _ _ _ (0, 0) hh]; rfl
      have g3 : W.cell? ⟨g, 3, none⟩ = some x3 := by rw [cell_of_row _ _ _ _ _ (0, 0) hh]; rfl
      have g4 : W.cell? ⟨g, 4, none⟩ = some x4 := by rw [cell_of_row _ _ _ _ _ (0, 0) hh]; rfl
      have z0 : W.frozen? ⟨g, 0, none⟩ = false := frozen_of_row _ _ _ _ _ hh
      have z1 : W.frozen? ⟨g, 1, none⟩ = false := frozen_of_row _ _ _ _ _ hh
      have z2 : W.frozen? ⟨g, 2, none⟩ = false := frozen_of_row _ _ _ _ _ hh
      have z3 : W.frozen? ⟨g, 3, none⟩ = false := frozen_of_row _ _ _ _ _ hh
      have z4 : W.frozen? ⟨g, 4, none⟩ = false := frozen_of_row _ _ _ _ _ hh
      have hg2 := hg
      unfold V at u hg
      go_simp
      obtain ⟨r1, r2, r3⟩ := set5 (.int .i64 s) (.int .i64 m) (.slice a1 xs.length c1) (.slice a2 ys.length c2) (.int .i64 b) hh
      exact hK _ _ ⟨hn, ⟨hR.ext.set5 hbg _ _ _ _ _, (by rw [r3]; exact hR.le), (r2 p _ hpW (by omega)).trans hp.2.2.1.symm, (by simpa [upd] using hR.e0), (by simpa [upd] using hR.e1), (by simpa [upd] using hR.e2), (by simpa [upd] using hR.e3), (fun _ => by simpa [upd] using d3), (by simpa [upd] using hR.n1), (by simpa [upd] using hR.n2), (by simpa [upd] using hR.n3), ⟨k0, k1, k2, k3, (by simpa [upd] using (show Bst w1.heap.size _ #[.int .i64 s, .int .i64 m, .slice a1 xs.length c1, .slice a2 ys.length c2, .int .i64 b] (L 4) true (V a 19) k0 from ⟨fun _ => ⟨g, _, _, _, _, _, hg2, hbg, r1, fun _ => rfl, hk⟩, fun e => absurd (d3.symm.trans e) (by decide)⟩)), (by simpa [upd] using b1.keep g r2 (ap.1 g hk)), (by simpa [upd] using b2.keep g r2 (ap.2.1 g hk)), (by simpa [upd] using b3.keep g r2 (ap.2.2.1 g hk)), ap⟩⟩⟩
    | 9, ho, hi, hL, hd =>
      have u := hR.e1 (dep_mem hd 1 (by cases ho; kernel_rfl))
      have d3 := dep_mem hd 5 (by cases ho; kernel_rfl)
      cases ho
      conv => arg 2; whnf
      obtain ⟨k0, k1, k2, k3, b0, b1, b2, b3, ap⟩ := hR.ch
      obtain ⟨g, x0, x1, x2, x3, x4, hg, hbg, hh, -, hk⟩ := b1.1 d3
      have hpl := (Array.getElem?_eq_some_iff.1 hp.2.2.1).1
      have g0 : W.cell? ⟨g, 0, none⟩ = some x0 := by rw [cell_of_row _ _ _ _ _ (0, 0) hh]; rfl
      have g1 : W.cell? ⟨g, 1, none⟩ = some x1 := by rw [cell_of_row _ _ _ _ _ (0, 0) hh]; rfl
      have g2 : W.cell? ⟨g, 2, none⟩ = some x2 := by rw [cell_of_row _ _ _ _ _ (0, 0) hh]; rfl
      have g3 : W.cell? ⟨g, 3, none⟩ = some x3 := by rw [cell_of_row _ _ _ _ _ (0, 0) hh]; rfl
      have g4 : W.cell? ⟨g, 4, none⟩ = some x4 := by rw [cell_of_row _ _ _ _ _ (0, 0) hh]; rfl
      have z0 : W.frozen? ⟨g, 0, none⟩ = false := frozen_of_row _ _ _ _ _ hh
      have z1 : W.frozen? ⟨g, 1, none⟩ = false := frozen_of_row _ _ _ _ _ hh
      have z2 : W.frozen? ⟨g, 2, none⟩ = false := frozen_of_row _ _ _ _ _ hh
      have z3 : W.frozen? ⟨g, 3, none⟩ = false := frozen_of_row _ _ _ _ _ hh
      have z4 : W.frozen? ⟨g, 4, none⟩ = false := frozen_of_row _ _ _ _ _ hh
      have hg2 := hg
      unfold V at u hg
      go_simp
      obtain ⟨r1, r2, r3⟩ := set5 (.int .i64 s) (.int .i64 m) (.slice a1 xs.length c1) (.slice a2 ys.length c2) (.int .i64 b) hh
      exact hK _ _ ⟨hn, ⟨hR.ext.set5 hbg _ _ _ _ _, (by rw [r3]; exact hR.le), (r2 p _ hpW (by omega)).trans hp.2.2.1.symm, (by simpa [upd] using hR.e0), (by simpa [upd] using hR.e1), (by simpa [upd] using hR.e2), (by simpa [upd] using hR.e3), (by simpa [upd] using hR.n0), (fun _ => by simpa [upd] using d3), (by simpa [upd] using hR.n2), (by simpa [upd] using hR.n3), ⟨k0, k1, k2, k3, (by simpa [upd] using b0.keep g r2 ((fun e => ap.1 g e hk))), (by simpa [upd] using (show Bst w1.heap.size _ #[.int .i64 s, .int .i64 m, .slice a1 xs.length c1, .slice a2 ys.length c2, .int .i64 b] (L 5) true (V a 20) k1 from ⟨fun _ => ⟨g, _, _, _, _, _, hg2, hbg, r1, fun _ => rfl, hk⟩, fun e => absurd (d3.symm.trans e) (by decide)⟩)), (by simpa [upd] using b2.keep g r2 (ap.2.2.2.1 g hk)), (by simpa [upd] using b3.keep g r2 (ap.2.2.2.2.1 g hk)), ap⟩⟩⟩
    | 10, ho, hi, hL, hd =>
      have u := hR.e2 (dep_mem hd 2 (by cases ho; kernel_rfl))
      have d3 := dep_mem hd 6 (by cases ho; kernel_rfl)
      cases ho
      conv => arg 2; whnf
      obtain ⟨k0, k1, k2, k3, b0, b1, b2, b3, ap⟩ := hR.ch
      obtain ⟨g, x0, x1, x2, x3, x4, hg, hbg, hh, -, hk⟩ := b2.1 d3
      have hpl := (Array.getElem?_eq_some_iff.1 hp.2.2.1).1
      have g0 : W.cell? ⟨g, 0, none⟩ = some x0 := by rw [cell_of_row _ _ _ _ _ (0, 0) hh]; rfl
      have g1 : W.cell? ⟨g, 1, none⟩ = some x1 := by rw [cell_of_row _ _ _ _ _ (0, 0) hh]; rfl
      have g2 : W.cell? ⟨g, 2, none⟩ = some x2 := by rw [cell_of_row _ _ _ _ _ (0, 0) hh]; rfl
      have g3 : W.cell? ⟨g, 3, none⟩ = some x3 := by rw [cell_of_row _ _ _ _ _ (0, 0) hh]; rfl
      have g4 : W.cell? ⟨g, 4, none⟩ = some x4 := by rw [cell_of_row _ _ _ _ _ (0, 0) hh]; rfl
      have z0 : W.frozen? ⟨g, 0, none⟩ = false := frozen_of_row _ _ _ _ _ hh
      have z1 : W.frozen? ⟨g, 1, none⟩ = false := frozen_of_row _ _ _ _ _ hh
      have z2 : W.frozen? ⟨g, 2, none⟩ = false := frozen_of_row _ _ _ _ _ hh
      have z3 : W.frozen? ⟨g, 3, none⟩ = false := frozen_of_row _ _ _ _ _ hh
      have z4 : W.frozen? ⟨g, 4, none⟩ = false := frozen_of_row _ _ _ _ _ hh
      have hg2 := hg
      unfold V at u hg
      go_simp
      obtain ⟨r1, r2, r3⟩ := set5 (.int .i64 s) (.int .i64 m) (.slice a1 xs.length c1) (.slice a2 ys.length c2) (.int .i64 b) hh
      exact hK _ _ ⟨hn, ⟨hR.ext.set5 hbg _ _ _ _ _, (by rw [r3]; exact hR.le), (r2 p _ hpW (by omega)).trans hp.2.2.1.symm, (by simpa [upd] using hR.e0), (by simpa [upd] using hR.e1), (by simpa [upd] using hR.e2), (by simpa [upd] using hR.e3), (by simpa [upd] using hR.n0), (by simpa [upd] using hR.n1), (fun _ => by simpa [upd] using d3), (by simpa [upd] using hR.n3), ⟨k0, k1, k2, k3, (by simpa [upd] using b0.keep g r2 ((fun e => ap.2.1 g e hk))), (by simpa [upd] using b1.keep g r2 ((fun e => ap.2.2.2.1 g e hk))), (by simpa [upd] using (show Bst w1.heap.size _ #[.int .i64 s, .int .i64 m, .slice a1 xs.length c1, .slice a2 ys.length c2, .int .i64 b] (L 6) true (V a 21) k2 from ⟨fun _ => ⟨g, _, _, _, _, _, hg2, hbg, r1, fun _ => rfl, hk⟩, fun e => absurd (d3.symm.trans e) (by decide)⟩)), (by simpa [upd] using b3.keep g r2 (ap.2.2.2.2.2 g hk)), ap⟩⟩⟩
    | 11, ho, hi, hL, hd =>
      have u := hR.e3 (dep_mem hd 3 (by cases ho; kernel_rfl))
      have d3 := dep_mem hd 7 (by cases ho; kernel_rfl)
      cases ho
      conv => arg 2; whnf
      obtain ⟨k0, k1, k2, k3, b0, b1, b2, b3, ap⟩ := hR.ch
      obtain ⟨g, x0, x1, x2, x3, x4, hg, hbg, hh, -, hk⟩ := b3.1 d3
      have hpl := (Array.getElem?_eq_some_iff.1 hp.2.2.1).1
      have g0 : W.cell? ⟨g, 0, none⟩ = some x0 := by rw [cell_of_row _ _ _ _ _ (0, 0) hh]; rfl
      have g1 : W.cell? ⟨g, 1, none⟩ = some x1 := by rw [cell_of_row _ _ _ _ _ (0, 0) hh]; rfl
      have g2 : W.cell? ⟨g, 2, none⟩ = some x2 := by rw [cell_of_row _ _ _ _ _ (0, 0) hh]; rfl
      have g3 : W.cell? ⟨g, 3, none⟩ = some x3 := by rw [cell_of_row _ _ _ _ _ (0, 0) hh]; rfl
      have g4 : W.cell? ⟨g, 4, none⟩ = some x4 := by rw [cell_of_row _ _ _ _ _ (0, 0) hh]; rfl
      have z0 : W.frozen? ⟨g, 0, none⟩ = false := frozen_of_row _ _ _ _ _ hh
      have z1 : W.frozen? ⟨g, 1, none⟩ = false := frozen_of_row _ _ _ _ _ hh
      have z2 : W.frozen? ⟨g, 2, none⟩ = false := frozen_of_row _ _ _ _ _ hh
      have z3 : W.frozen? ⟨g, 3, none⟩ = false := frozen_of_row _ _ _ _ _ hh
      have z4 : W.frozen? ⟨g, 4, none⟩ = false := frozen_of_row _ _ _ _ _ hh
      have hg2 := hg
      unfold V at u hg
      go_simp
      obtain ⟨r1, r2, r3⟩ := set5 (.int .i64 s) (.int .i64 m) (.slice a1 xs.length c1) (.slice a2 ys.length c2) (.int .i64 b) hh
      exact hK _ _ ⟨hn, ⟨hR.ext.set5 hbg _ _ _ _ _, (by rw [r3]; exact hR.le), (r2 p _ hpW (by omega)).trans hp.2.2.1.symm, (by simpa [upd] using hR.e0), (by simpa [upd] using hR.e1), (by simpa [upd] using hR.e2), (by simpa [upd] using hR.e3), (by simpa [upd] using hR.n0), (by simpa [upd] using hR.n1), (by simpa [upd] using hR.n2), (fun _ => by simpa [upd] using d3), ⟨k0, k1, k2, k3, (by simpa [upd] using b0.keep g r2 ((fun e => ap.2.2.1 g e hk))), (by simpa [upd] using b1.keep g r2 ((fun e => ap.2.2.2.2.1 g e hk))), (by simpa [upd] using b2.keep g r2 ((fun e => ap.2.2.2.2.2 g e hk))), (by simpa [upd] using (show Bst w1.heap.size _ #[.int .i64 s, .int .i64 m, .slice a1 xs.length c1, .slice a2 ys.length c2, .int .i64 b] (L 7) true (V a 22) k3 from ⟨fun _ => ⟨g, _, _, _, _, _, hg2, hbg, r1, fun _ => rfl, hk⟩, fun e => absurd (d3.symm.trans e) (by decide)⟩)), ap⟩⟩⟩
    | i + 12, ho, hi, hL, hd => omega
  · intro L a W hL ⟨hn, hR⟩
    obtain ⟨k0, k1, k2, k3, b0, b1, b2, b3, a01, a02, a03, a12, a13, a23⟩ := hR.ch
    obtain ⟨p0, _, _, _, _, _, v0, l0, h0, q0, rfl⟩ := b0.1 (hL 4 (by decide))
    obtain ⟨p1, _, _, _, _, _, v1, l1, h1, q1, rfl⟩ := b1.1 (hL 5 (by decide))
    obtain ⟨p2, _, _, _, _, _, v2, l2, h2, q2, rfl⟩ := b2.1 (hL 6 (by decide))
    obtain ⟨p3, _, _, _, _, _, v3', l3, h3, q3, rfl⟩ := b3.1 (hL 7 (by decide))
    rw [q0 (hL 8 (by decide))] at h0
    rw [q1 (hL 9 (by decide))] at h1
    rw [q2 (hL 10 (by decide))] at h2
    rw [q3 (hL 11 (by decide))] at h3
    have hx := hp.1.trans hR.ext
    have hle := ext_le hp.1
    have hl := hp.2.2.2.of_ext hR.ext
    exact hQ a W p0 p1 p2 p3 hn hR.hp v0 v1 v2 v3' ⟨l0, l1, l2, l3, fun e => a01 _ rfl (by rw [e]), fun e => a02 _ rfl (by rw [e]), fun e => a03 _ rfl (by rw [e]), fun e => a12 _ rfl (by rw [e]), fun e => a13 _ rfl (by rw [e]), fun e => a23 _ rfl (by rw [e])⟩ hR.ext ⟨hx, Nat.le_trans hle l0, h0, hl⟩ ⟨hx, Nat.le_trans hle l1, h1, hl⟩ ⟨hx, Nat.le_trans hle l2, h2, hl⟩ ⟨hx, Nat.le_trans hle l3, h3, hl⟩
end Go.Proofs.Ytgjolablgcnlmaa
