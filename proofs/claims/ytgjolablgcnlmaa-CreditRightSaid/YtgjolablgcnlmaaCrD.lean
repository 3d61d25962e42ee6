/- CreditRight's region 12. -/
import Derived.Test.YtgjolablgcnlmaaCrC
import Derived.Test.YtgjolablgcnlmaaInv2
namespace Go.Proofs.Ytgjolablgcnlmaa
set_option linter.unusedSimpArgs false
set_option linter.unusedVariables false
open Go.RowKit

noncomputable def ops12 : Array Oper := ((Try.f3.body.bind (regOf 12)).getD #[])
theorem ext_le {w w' : World} (h : Ext w w') : w.heap.size ≤ w'.heap.size := by
  obtain ⟨z, rfl⟩ := h
  simp
def Emp (W : World) (g : Nat) : Prop := W.heap[g]? = some (.cells #[] 2 (0, 0))
theorem ops12_size : ops12.size = 12 := by kernel_rfl
theorem ops12_ac : acyc .any ops12 = true := by kernel_rfl
theorem ops12_ng : noGuard ops12 = true := by kernel_rfl
/-- A chain: nothing yet, the empty literal, the row. -/
def Chn (base : Nat) (W : World) (l0 l3 : Bool) (v0 v3 : Value) (xs : List Int) (k : Option Nat) : Prop :=
  (l3 = true → (∃ b c, v3 = .slice b xs.length c) ∧ W.ownsRow base 2 1 v3 xs.length (i64s xs) ∧ k = v3.ownBlock) ∧
  (l3 = false → l0 = true → ∃ g, v0 = .slice (some ⟨g, 0, none⟩) 0 0 ∧ Emp W g ∧ base ≤ g ∧ k = some g) ∧
  (l3 = false → l0 = false → k = none)
theorem Chn.keep {base : Nat} {W W' : World} {l0 l3 : Bool} {v0 v3 : Value} {xs : List Int} {k : Option Nat} (h : Chn base W l0 l3 v0 v3 xs k) (g : Nat) (hs : Same1 W W' g) (hk : k ≠ some g) : Chn base W' l0 l3 v0 v3 xs k := by
  obtain ⟨h1, h2, h3⟩ := h
  refine ⟨fun e => ?_, fun e1 e2 => ?_, h3⟩
  · obtain ⟨f, ho, rfl⟩ := h1 e
    exact ⟨f, own_same1 ho hs hk, rfl⟩
  · obtain ⟨g', f, he, hb, rfl⟩ := h2 e1 e2
    exact ⟨g', f, hs g' _ he (fun e => hk (by rw [e])), hb, rfl⟩
theorem Chn.lt {base : Nat} {W : World} {l0 l3 : Bool} {v0 v3 : Value} {xs : List Int} {k : Option Nat} (h : Chn base W l0 l3 v0 v3 xs k) : ∀ g, k = some g → base ≤ g ∧ g < W.heap.size := by
  intro g hg
  obtain ⟨h1, h2, h3⟩ := h
  cases l3
  · cases l0
    · rw [h3 rfl rfl] at hg; cases hg
    · obtain ⟨g', f, he, hb, rfl⟩ := h2 rfl rfl
      cases hg
      exact ⟨hb, (Array.getElem?_eq_some_iff.1 he).1⟩
  · obtain ⟨f, ho, rfl⟩ := h1 rfl
    exact ho.lt g hg
theorem same1_alloc (W : World) (o : Obj) (g : Nat) : Same1 W (W.alloc o) g := fun g' o' h _ => by
  rw [Below.heap_alloc _ _ _ (Array.getElem?_eq_some_iff.1 h).1, h]
theorem same1_set (W : World) (q i : Nat) (u : Value) : Same1 W (W.setCell ⟨q, i, none⟩ u) q := fun g' o' h hne => by
  simp only [World.setCell, Array.getElem?_modify]
  rw [if_neg (fun e => hne e.symm), h]
theorem same1_grown {W W' : World} {g : Nat} (h : W.grownBy W' (some g)) : Same1 W W' g := fun g' o' h' hne => by
  rw [h.block g' (Array.getElem?_eq_some_iff.1 h').1 (fun e => hne (Option.some.inj e)), h']
/-- The row of a slice is copied by append onto an empty literal. -/
theorem wp_copy {o : Oper} {a : Act} {K : Act → World → Prop} {Q : Exit → Act → World → Prop} (s x : Operand) (ho : o.op = .call { callee := .builtin .append, args := #[s, x], argTypes := #[22, 22] })
    (w0 W : World) (hx0 : Ext w0 W) (N : Nat) (h0 : w0.heap.size ≤ N) (hN : N ≤ W.heap.size) (g : Nat) (hg : Emp W g) (hgl : N ≤ g) (l : List Int) (ad : Option Addr) (c : Nat)
    (hs : a.eval s = .slice (some ⟨g, 0, none⟩) 0 0) (hxv : a.eval x = .slice ad l.length c) (hr : Ri W .i64 (.slice ad l.length c) l) (hl : l.length ≤ 100)
    (k : ∀ b c' y, (ext w0 y).ownsRow N 2 1 (.slice b l.length c') l.length (i64s l) → Same1 W (ext w0 y) g → ((Value.slice b l.length c').ownBlock = some g ∨ (Value.slice b l.length c').ownBlock = some W.heap.size) → W.heap.size ≤ (ext w0 y).heap.size → K (a.put o.dst (.slice b l.length c')) (ext w0 y)) :
    o.wp Try.prog a W K Q := by
  refine wp_app s x 22 ho 2 (.int .i64 0) 1 8 Try.underlying22 info_i64e rfl (by decide) w0 hx0 N _ 0 [] (own_zero hg hgl) l.length _ (i64s l) hs hxv hr (by unfold i64s; simp [Value.oneCell']) (by unfold maxLen; omega) (by omega) hN h0 ?_
  intro b c' y hown hgr hat
  rw [Nat.zero_add] at *
  exact k b c' y (by simpa using hown) (same1_grown hgr) (by rcases hat with h | h; exact .inl h.symm; exact .inr h) hgr.size
theorem Chn.lit {base : Nat} {W : World} {l0 l3 : Bool} {v0 v3 : Value} {xs : List Int} {k : Option Nat} (h : Chn base W l0 l3 v0 v3 xs k) (hb : base ≤ W.heap.size) : ∃ k', Chn base (W.alloc (.cells #[] 2)) true l3 (.slice (some ⟨W.heap.size, 0, none⟩) 0 0) v3 xs k' ∧ (k' = k ∨ k' = some W.heap.size) := by
  cases l3
  · exact ⟨some W.heap.size, ⟨fun e => (by cases e), fun _ _ => ⟨_, rfl, heap_alloc_new W _, hb, rfl⟩, fun _ e => (by cases e)⟩, .inr rfl⟩
  · obtain ⟨h1, h2, h3⟩ := h
    obtain ⟨f, ho, rfl⟩ := h1 rfl
    exact ⟨_, ⟨fun _ => ⟨f, ho.alloc _, rfl⟩, fun e => (by cases e), fun e => (by cases e)⟩, .inl rfl⟩
theorem apart_new {kA kB kA' : Option Nat} {n : Nat} (h : ∀ g, kA = some g → kB ≠ some g) (hB : ∀ g, kB = some g → g < n) (hA : kA' = kA ∨ kA' = some n) : ∀ g, kA' = some g → kB ≠ some g := fun g hg e => by
  rcases hA with rfl | rfl
  · exact h g hg e
  · cases hg
    exact absurd (hB _ e) (Nat.lt_irrefl _)
theorem apart_swap {kA kB : Option Nat} (h : ∀ g, kA = some g → kB ≠ some g) : ∀ g, kB = some g → kA ≠ some g := fun g h1 h2 => h g h2 h1
theorem dep_mem {o : Oper} {L : Nat → Bool} (hd : ∀ k ∈ depsOf o, L k = true) (k : Nat) (h : (depsOf o).contains k = true) : L k = true := hd k (by simpa using h)
structure R12 (w w1 : World) (p q : Nat) (s m b : Int) (a1 a2 : Option Addr) (c1 c2 : Nat) (xs ys : List Int) (L : Nat → Bool) (a : Act) (W : World) : Prop where
  ext : Ext w W
  le : w1.heap.size ≤ W.heap.size
  hp : W.heap[p]? = w1.heap[p]?
  hq : ∃ x2 x3, W.heap[q]? = some (.cells #[.int .i64 s, .int .i64 m, x2, x3, .int .i64 b] 24 (0, 0)) ∧ (L 9 = true → x2 = V a 69) ∧ (L 11 = true → x3 = V a 73)
  e1 : L 1 = true → V a 67 = .pointer (some ⟨p, 2, none⟩)
  e2 : L 2 = true → V a 68 = .slice a1 xs.length c1
  e5 : L 5 = true → V a 71 = .pointer (some ⟨p, 3, none⟩)
  e6 : L 6 = true → V a 72 = .slice a2 ys.length c2
  e8 : L 8 = true → V a 74 = .pointer (some ⟨q, 2, none⟩)
  e10 : L 10 = true → V a 75 = .pointer (some ⟨q, 3, none⟩)
  n9 : L 9 = true → L 3 = true
  n11 : L 11 = true → L 7 = true
  ch : ∃ kA kB, Chn w1.heap.size W (L 0) (L 3) (V a 66) (V a 69) xs kA ∧ Chn w1.heap.size W (L 4) (L 7) (V a 70) (V a 73) ys kB ∧ ∀ g, kA = some g → kB ≠ some g
def ts12 : List Nat := [66, 67, 68, 69, 70, 71, 72, 73, 74, 75]
set_option maxRecDepth 100000 in
set_option maxHeartbeats 4000000 in
theorem reg12 (a0 : Act) (w w1 : World) (p q : Nat) (s m b : Int) (a1 a2 : Option Addr) (c1 c2 : Nat) (xs ys : List Int) (Q : Exit → Act → World → Prop) (v3 : V a0 3 = .pointer (some ⟨p, 0, none⟩)) (v9 : V a0 9 = .pointer (some ⟨q, 0, none⟩)) (hsz : 75 < a0.tmps.size)
    (hV : LaneV w a1 c1 a2 c2 ⟨s, m, b, xs, ys⟩) (hp : Bx w w1 p a1 c1 a2 c2 ⟨s, m, b, xs, ys⟩) (hq : Bx w w1 q a1 c1 a2 c2 ⟨s, m, b, xs, ys⟩) (hpq : p ≠ q) (l1 : xs.length ≤ 100) (l2 : ys.length ≤ 100)
    (hQ : ∀ a W a3 c3 a4 c4, Near ts12 a0 a → Bx w W p a1 c1 a2 c2 ⟨s, m, b, xs, ys⟩ → Bx w W q a3 c3 a4 c4 ⟨s, m, b, xs, ys⟩ → Q .normal a W) : (Code.region 12 ops12 true).wp Try.prog Q a0 w1 := by
  refine wp_region_inv2 12 (fun L a W => Near ts12 a0 a ∧ R12 w w1 p q s m b a1 a2 c1 c2 xs ys L a W) (by kernel_rfl) ops12_ac ops12_ng ops12_size ?_ ?_ ?_
  · exact ⟨Near.refl _ _, ⟨hp.1.drew, Nat.le_refl _, rfl, ⟨_, _, hq.2.2.1, fun h => absurd h (by decide), fun h => absurd h (by decide)⟩, fun h => absurd h (by decide), fun h => absurd h (by decide), fun h => absurd h (by decide), fun h => absurd h (by decide), fun h => absurd h (by decide), fun h => absurd h (by decide), fun h => absurd h (by decide), fun h => absurd h (by decide), ⟨none, none, ⟨fun h => absurd h (by decide), fun _ h => absurd h (by decide), fun _ _ => rfl⟩, ⟨fun h => absurd h (by decide), fun _ h => absurd h (by decide), fun _ _ => rfl⟩, fun g h => by cases h⟩⟩⟩
  · intro i o ho hi L a W hL hd ⟨hn, hR⟩ K hK
    have HS : Hid (75 < a.tmps.size) := Lib.hid (by rw [hn.size]; exact hsz)
    have u3 : V a 3 = .pointer (some ⟨p, 0, none⟩) := by rw [← V_eval, hn.out 3 (by decide), V_eval, v3]
    have u9 : V a 9 = .pointer (some ⟨q, 0, none⟩) := by rw [← V_eval, hn.out 9 (by decide), V_eval, v9]
    have hpW : W.heap[p]? = some (.cells #[.int .i64 s, .int .i64 m, .slice a1 xs.length c1, .slice a2 ys.length c2, .int .i64 b] 24 (0, 0)) := hR.hp.trans hp.2.2.1
    have f2 : W.cell? ⟨p, 2, none⟩ = some (.slice a1 xs.length c1) := by rw [cell_of_row _ _ _ _ _ (0, 0) hpW]; rfl
    have f3 : W.cell? ⟨p, 3, none⟩ = some (.slice a2 ys.length c2) := by rw [cell_of_row _ _ _ _ _ (0, 0) hpW]; rfl
    unfold V at u3 u9
    match i, ho, hi, hL, hd with
    | 0, ho, hi, hL, hd =>
      cases ho
      conv => arg 2; whnf
      go_simp
      have hv := V_lit (Nat.lt_of_le_of_lt (by decide : 66 ≤ 75) HS.out)
      obtain ⟨x2, x3, hq1, hq2, hq3⟩ := hR.hq
      obtain ⟨kA, kB, cA, cB, ap⟩ := hR.ch
      obtain ⟨k', c', hk'⟩ := cA.lit hR.le
      exact hK _ _ ⟨hn.put (by decide) _, ⟨hR.ext.alloc _, (by simp; have := hR.le; omega), (by rw [Below.heap_alloc _ _ _ (Array.getElem?_eq_some_iff.1 hpW).1]; exact hR.hp), ⟨x2, x3, (by rw [Below.heap_alloc _ _ _ (Array.getElem?_eq_some_iff.1 hq1).1]; exact hq1), (by simpa [hv, upd] using hq2), (by simpa [hv, upd] using hq3)⟩, (by first | (simp [hv, upd]; done) | simpa [hv, upd] using hR.e1), (by first | (simp [hv, upd]; done) | simpa [hv, upd] using hR.e2), (by first | (simp [hv, upd]; done) | simpa [hv, upd] using hR.e5), (by first | (simp [hv, upd]; done) | simpa [hv, upd] using hR.e6), (by first | (simp [hv, upd]; done) | simpa [hv, upd] using hR.e8), (by first | (simp [hv, upd]; done) | simpa [hv, upd] using hR.e10), (by first | (simp [upd]; done) | simpa [upd] using hR.n9), (by first | (simp [upd]; done) | simpa [upd] using hR.n11), ⟨k', kB, (by simpa [hv, upd] using c'), (by simpa [hv, upd] using cB.keep W.heap.size (same1_alloc _ _ _) (fun e => absurd (cB.lt _ e).2 (Nat.lt_irrefl _))), apart_new ap (fun g hg => (cB.lt g hg).2) hk'⟩⟩⟩
    | 1, ho, hi, hL, hd =>
      cases ho
      conv => arg 2; whnf
      go_simp
      have hv := V_lit (Nat.lt_of_le_of_lt (by decide : 67 ≤ 75) HS.out)
      refine hK _ _ ⟨hn.put (by decide) _, ⟨hR.ext, hR.le, hR.hp, (by first | (simp [hv, upd]; done) | simpa [hv, upd] using hR.hq), (by first | (simp [hv, upd]; done) | simpa [hv, upd] using hR.e1), (by first | (simp [hv, upd]; done) | simpa [hv, upd] using hR.e2), (by first | (simp [hv, upd]; done) | simpa [hv, upd] using hR.e5), (by first | (simp [hv, upd]; done) | simpa [hv, upd] using hR.e6), (by first | (simp [hv, upd]; done) | simpa [hv, upd] using hR.e8), (by first | (simp [hv, upd]; done) | simpa [hv, upd] using hR.e10), (by first | (simp [upd]; done) | simpa [upd] using hR.n9), (by first | (simp [upd]; done) | simpa [upd] using hR.n11), (by first | (simp [hv, upd]; done) | simpa [hv, upd] using hR.ch)⟩⟩
    | 2, ho, hi, hL, hd =>
      have u := hR.e1 (dep_mem hd 1 (by cases ho; kernel_rfl))
      unfold V at u
      cases ho
      conv => arg 2; whnf
      go_simp
      have hv := V_lit (Nat.lt_of_le_of_lt (by decide : 68 ≤ 75) HS.out)
      refine hK _ _ ⟨hn.put (by decide) _, ⟨hR.ext, hR.le, hR.hp, (by first | (simp [hv, upd]; done) | simpa [hv, upd] using hR.hq), (by first | (simp [hv, upd]; done) | simpa [hv, upd] using hR.e1), (by first | (simp [hv, upd]; done) | simpa [hv, upd] using hR.e2), (by first | (simp [hv, upd]; done) | simpa [hv, upd] using hR.e5), (by first | (simp [hv, upd]; done) | simpa [hv, upd] using hR.e6), (by first | (simp [hv, upd]; done) | simpa [hv, upd] using hR.e8), (by first | (simp [hv, upd]; done) | simpa [hv, upd] using hR.e10), (by first | (simp [upd]; done) | simpa [upd] using hR.n9), (by first | (simp [upd]; done) | simpa [upd] using hR.n11), (by first | (simp [hv, upd]; done) | simpa [hv, upd] using hR.ch)⟩⟩
    | 3, ho, hi, hL, hd =>
      have d0 := dep_mem hd 0 (by cases ho; kernel_rfl)
      have u := hR.e2 (dep_mem hd 2 (by cases ho; kernel_rfl))
      cases ho
      conv => arg 2; whnf
      obtain ⟨x2, x3, hq1, hq2, hq3⟩ := hR.hq
      obtain ⟨kA, kB, cA, cB, ap⟩ := hR.ch
      obtain ⟨g, hg, hem, hbg, rfl⟩ := cA.2.1 hL d0
      have hpl := (Array.getElem?_eq_some_iff.1 hp.2.2.1).1
      have hql := (Array.getElem?_eq_some_iff.1 hq.2.2.1).1
      refine wp_copy (.tmp 66) (.tmp 68) rfl w W hR.ext w1.heap.size (ext_le hp.1) hR.le g hem hbg xs a1 c1 ((V_eval _ _).trans hg) ((V_eval _ _).trans u) (hV.1.of_ext hR.ext) l1 ?_
      intro b' k' y ho1 hs1 ha1 hle
      have hv := fun t => V_put (a := a) (d := 69) (t := t) (v := .slice b' xs.length k') (Nat.lt_of_le_of_lt (by decide : 69 ≤ 75) HS.out)
      exact hK _ _ ⟨hn.put (by decide) _, ⟨⟨y, rfl⟩, Nat.le_trans hR.le hle, (hs1 p _ hpW (by omega)).trans hp.2.2.1.symm, ⟨x2, x3, hs1 q _ hq1 (by omega), (fun h => absurd (hR.n9 (by simpa [upd] using h)) (by rw [hL]; decide)), (by simpa [hv, upd] using hq3)⟩, (by first | (simp [hv, upd]; done) | simpa [hv, upd] using hR.e1), (by first | (simp [hv, upd]; done) | simpa [hv, upd] using hR.e2), (by first | (simp [hv, upd]; done) | simpa [hv, upd] using hR.e5), (by first | (simp [hv, upd]; done) | simpa [hv, upd] using hR.e6), (by first | (simp [hv, upd]; done) | simpa [hv, upd] using hR.e8), (by first | (simp [hv, upd]; done) | simpa [hv, upd] using hR.e10), (by first | (simp [upd]; done) | simpa [upd] using hR.n9), (by first | (simp [upd]; done) | simpa [upd] using hR.n11), ⟨(Value.slice b' xs.length k').ownBlock, kB, (by simpa [hv, upd] using (show Chn w1.heap.size (ext w y) (L 0) true (V a 66) (.slice b' xs.length k') xs _ from ⟨fun _ => ⟨⟨b', k', rfl⟩, ho1, rfl⟩, fun e => (by cases e), fun e => (by cases e)⟩)), (by simpa [hv, upd] using cB.keep g hs1 (fun e => ap g rfl e)), apart_new ap (fun g hg => (cB.lt g hg).2) ha1⟩⟩⟩
    | 4, ho, hi, hL, hd =>
      cases ho
      conv => arg 2; whnf
      go_simp
      have hv := V_lit (Nat.lt_of_le_of_lt (by decide : 70 ≤ 75) HS.out)
      obtain ⟨x2, x3, hq1, hq2, hq3⟩ := hR.hq
      obtain ⟨kA, kB, cA, cB, ap⟩ := hR.ch
      obtain ⟨k', c', hk'⟩ := cB.lit hR.le
      exact hK _ _ ⟨hn.put (by decide) _, ⟨hR.ext.alloc _, (by simp; have := hR.le; omega), (by rw [Below.heap_alloc _ _ _ (Array.getElem?_eq_some_iff.1 hpW).1]; exact hR.hp), ⟨x2, x3, (by rw [Below.heap_alloc _ _ _ (Array.getElem?_eq_some_iff.1 hq1).1]; exact hq1), (by simpa [hv, upd] using hq2), (by simpa [hv, upd] using hq3)⟩, (by first | (simp [hv, upd]; done) | simpa [hv, upd] using hR.e1), (by first | (simp [hv, upd]; done) | simpa [hv, upd] using hR.e2), (by first | (simp [hv, upd]; done) | simpa [hv, upd] using hR.e5), (by first | (simp [hv, upd]; done) | simpa [hv, upd] using hR.e6), (by first | (simp [hv, upd]; done) | simpa [hv, upd] using hR.e8), (by first | (simp [hv, upd]; done) | simpa [hv, upd] using hR.e10), (by first | (simp [upd]; done) | simpa [upd] using hR.n9), (by first | (simp [upd]; done) | simpa [upd] using hR.n11), ⟨kA, k', (by simpa [hv, upd] using cA.keep W.heap.size (same1_alloc _ _ _) (fun e => absurd (cA.lt _ e).2 (Nat.lt_irrefl _))), (by simpa [hv, upd] using c'), apart_swap (apart_new (apart_swap ap) (fun g hg => (cA.lt g hg).2) hk')⟩⟩⟩
    | 5, ho, hi, hL, hd =>
      cases ho
      conv => arg 2; whnf
      go_simp
      have hv := V_lit (Nat.lt_of_le_of_lt (by decide : 71 ≤ 75) HS.out)
      refine hK _ _ ⟨hn.put (by decide) _, ⟨hR.ext, hR.le, hR.hp, (by first | (simp [hv, upd]; done) | simpa [hv, upd] using hR.hq), (by first | (simp [hv, upd]; done) | simpa [hv, upd] using hR.e1), (by first | (simp [hv, upd]; done) | simpa [hv, upd] using hR.e2), (by first | (simp [hv, upd]; done) | simpa [hv, upd] using hR.e5), (by first | (simp [hv, upd]; done) | simpa [hv, upd] using hR.e6), (by first | (simp [hv, upd]; done) | simpa [hv, upd] using hR.e8), (by first | (simp [hv, upd]; done) | simpa [hv, upd] using hR.e10), (by first | (simp [upd]; done) | simpa [upd] using hR.n9), (by first | (simp [upd]; done) | simpa [upd] using hR.n11), (by first | (simp [hv, upd]; done) | simpa [hv, upd] using hR.ch)⟩⟩
    | 6, ho, hi, hL, hd =>
      have u := hR.e5 (dep_mem hd 5 (by cases ho; kernel_rfl))
      unfold V at u
      cases ho
      conv => arg 2; whnf
      go_simp
      have hv := V_lit (Nat.lt_of_le_of_lt (by decide : 72 ≤ 75) HS.out)
      refine hK _ _ ⟨hn.put (by decide) _, ⟨hR.ext, hR.le, hR.hp, (by first | (simp [hv, upd]; done) | simpa [hv, upd] using hR.hq), (by first | (simp [hv, upd]; done) | simpa [hv, upd] using hR.e1), (by first | (simp [hv, upd]; done) | simpa [hv, upd] using hR.e2), (by first | (simp [hv, upd]; done) | simpa [hv, upd] using hR.e5), (by first | (simp [hv, upd]; done) | simpa [hv, upd] using hR.e6), (by first | (simp [hv, upd]; done) | simpa [hv, upd] using hR.e8), (by first | (simp [hv, upd]; done) | simpa [hv, upd] using hR.e10), (by first | (simp [upd]; done) | simpa [upd] using hR.n9), (by first | (simp [upd]; done) | simpa [upd] using hR.n11), (by first | (simp [hv, upd]; done) | simpa [hv, upd] using hR.ch)⟩⟩
    | 7, ho, hi, hL, hd =>
      have d0 := dep_mem hd 4 (by cases ho; kernel_rfl)
      have u := hR.e6 (dep_mem hd 6 (by cases ho; kernel_rfl))
      cases ho
      conv => arg 2; whnf
      obtain ⟨x2, x3, hq1, hq2, hq3⟩ := hR.hq
      obtain ⟨kA, kB, cA, cB, ap⟩ := hR.ch
      obtain ⟨g, hg, hem, hbg, rfl⟩ := cB.2.1 hL d0
      have hpl := (Array.getElem?_eq_some_iff.1 hp.2.2.1).1
      have hql := (Array.getElem?_eq_some_iff.1 hq.2.2.1).1
      refine wp_copy (.tmp 70) (.tmp 72) rfl w W hR.ext w1.heap.size (ext_le hp.1) hR.le g hem hbg ys a2 c2 ((V_eval _ _).trans hg) ((V_eval _ _).trans u) (hV.2.of_ext hR.ext) l2 ?_
      intro b' k' y ho1 hs1 ha1 hle
      have hv := fun t => V_put (a := a) (d := 73) (t := t) (v := .slice b' ys.length k') (Nat.lt_of_le_of_lt (by decide : 73 ≤ 75) HS.out)
      exact hK _ _ ⟨hn.put (by decide) _, ⟨⟨y, rfl⟩, Nat.le_trans hR.le hle, (hs1 p _ hpW (by omega)).trans hp.2.2.1.symm, ⟨x2, x3, hs1 q _ hq1 (by omega), (by simpa [hv, upd] using hq2), (fun h => absurd (hR.n11 (by simpa [upd] using h)) (by rw [hL]; decide))⟩, (by first | (simp [hv, upd]; done) | simpa [hv, upd] using hR.e1), (by first | (simp [hv, upd]; done) | simpa [hv, upd] using hR.e2), (by first | (simp [hv, upd]; done) | simpa [hv, upd] using hR.e5), (by first | (simp [hv, upd]; done) | simpa [hv, upd] using hR.e6), (by first | (simp [hv, upd]; done) | simpa [hv, upd] using hR.e8), (by first | (simp [hv, upd]; done) | simpa [hv, upd] using hR.e10), (by first | (simp [upd]; done) | simpa [upd] using hR.n9), (by first | (simp [upd]; done) | simpa [upd] using hR.n11), ⟨kA, (Value.slice b' ys.length k').ownBlock, (by simpa [hv, upd] using cA.keep g hs1 (fun e => ap g e rfl)), (by simpa [hv, upd] using (show Chn w1.heap.size (ext w y) (L 4) true (V a 70) (.slice b' ys.length k') ys _ from ⟨fun _ => ⟨⟨b', k', rfl⟩, ho1, rfl⟩, fun e => (by cases e), fun e => (by cases e)⟩)), apart_swap (apart_new (apart_swap ap) (fun g hg => (cA.lt g hg).2) ha1)⟩⟩⟩
    | 8, ho, hi, hL, hd =>
      cases ho
      conv => arg 2; whnf
      go_simp
      have hv := V_lit (Nat.lt_of_le_of_lt (by decide : 74 ≤ 75) HS.out)
      refine hK _ _ ⟨hn.put (by decide) _, ⟨hR.ext, hR.le, hR.hp, (by first | (simp [hv, upd]; done) | simpa [hv, upd] using hR.hq), (by first | (simp [hv, upd]; done) | simpa [hv, upd] using hR.e1), (by first | (simp [hv, upd]; done) | simpa [hv, upd] using hR.e2), (by first | (simp [hv, upd]; done) | simpa [hv, upd] using hR.e5), (by first | (simp [hv, upd]; done) | simpa [hv, upd] using hR.e6), (by first | (simp [hv, upd]; done) | simpa [hv, upd] using hR.e8), (by first | (simp [hv, upd]; done) | simpa [hv, upd] using hR.e10), (by first | (simp [upd]; done) | simpa [upd] using hR.n9), (by first | (simp [upd]; done) | simpa [upd] using hR.n11), (by first | (simp [hv, upd]; done) | simpa [hv, upd] using hR.ch)⟩⟩
    | 9, ho, hi, hL, hd =>
      have u := hR.e8 (dep_mem hd 8 (by cases ho; kernel_rfl))
      have d3 := dep_mem hd 3 (by cases ho; kernel_rfl)
      cases ho
      conv => arg 2; whnf
      obtain ⟨x2, x3, hq1, hq2, hq3⟩ := hR.hq
      obtain ⟨kA, kB, cA, cB, ap⟩ := hR.ch
      obtain ⟨⟨b', c', hv3⟩, -, -⟩ := cA.1 d3
      have hql := (Array.getElem?_eq_some_iff.1 hq.2.2.1).1
      have g2 : W.cell? ⟨q, 2, none⟩ = some x2 := by rw [cell_of_row _ _ _ _ _ (0, 0) hq1]; rfl
      have g3 : W.frozen? ⟨q, 2, none⟩ = false := frozen_of_row _ _ _ _ _ hq1
      have hv4 := hv3
      unfold V at u hv3
      go_simp
      refine hK _ _ ⟨hn, ⟨hR.ext.setCell hq.2.1 _, (by simp; exact hR.le), (by rw [same1_set W q 2 _ p _ hpW hpq]; exact hp.2.2.1.symm), ⟨.slice b' xs.length c', x3, (by simp [World.setCell, Array.getElem?_modify, hq1]), (fun _ => hv4.symm), (by simpa [upd] using hq3)⟩, (by simpa [upd] using hR.e1), (by simpa [upd] using hR.e2), (by simpa [upd] using hR.e5), (by simpa [upd] using hR.e6), (by simpa [upd] using hR.e8), (by simpa [upd] using hR.e10), (fun _ => by simpa [upd] using d3), (by simpa [upd] using hR.n11), ⟨kA, kB, (by simpa [upd] using cA.keep q (same1_set W q 2 _) (fun e => by have := (cA.lt _ e).1; omega)), (by simpa [upd] using cB.keep q (same1_set W q 2 _) (fun e => by have := (cB.lt _ e).1; omega)), ap⟩⟩⟩
    | 10, ho, hi, hL, hd =>
      cases ho
      conv => arg 2; whnf
      go_simp
      have hv := V_lit (Nat.lt_of_le_of_lt (by decide : 75 ≤ 75) HS.out)
      refine hK _ _ ⟨hn.put (by decide) _, ⟨hR.ext, hR.le, hR.hp, (by first | (simp [hv, upd]; done) | simpa [hv, upd] using hR.hq), (by first | (simp [hv, upd]; done) | simpa [hv, upd] using hR.e1), (by first | (simp [hv, upd]; done) | simpa [hv, upd] using hR.e2), (by first | (simp [hv, upd]; done) | simpa [hv, upd] using hR.e5), (by first | (simp [hv, upd]; done) | simpa [hv, upd] using hR.e6), (by first | (simp [hv, upd]; done) | simpa [hv, upd] using hR.e8), (by first | (simp [hv, upd]; done) | simpa [hv, upd] using hR.e10), (by first | (simp [upd]; done) | simpa [upd] using hR.n9), (by first | (simp [upd]; done) | simpa [upd] using hR.n11), (by first | (simp [hv, upd]; done) | simpa [hv, upd] using hR.ch)⟩⟩
    | 11, ho, hi, hL, hd =>
      have u := hR.e10 (dep_mem hd 10 (by cases ho; kernel_rfl))
      have d3 := dep_mem hd 7 (by cases ho; kernel_rfl)
      cases ho
      conv => arg 2; whnf
      obtain ⟨x2, x3, hq1, hq2, hq3⟩ := hR.hq
      obtain ⟨kA, kB, cA, cB, ap⟩ := hR.ch
      obtain ⟨⟨b', c', hv3⟩, -, -⟩ := cB.1 d3
      have hql := (Array.getElem?_eq_some_iff.1 hq.2.2.1).1
      have g2 : W.cell? ⟨q, 3, none⟩ = some x3 := by rw [cell_of_row _ _ _ _ _ (0, 0) hq1]; rfl
      have g3 : W.frozen? ⟨q, 3, none⟩ = false := frozen_of_row _ _ _ _ _ hq1
      have hv4 := hv3
      unfold V at u hv3
      go_simp
      refine hK _ _ ⟨hn, ⟨hR.ext.setCell hq.2.1 _, (by simp; exact hR.le), (by rw [same1_set W q 3 _ p _ hpW hpq]; exact hp.2.2.1.symm), ⟨x2, .slice b' ys.length c', (by simp [World.setCell, Array.getElem?_modify, hq1]), (by simpa [upd] using hq2), (fun _ => hv4.symm)⟩, (by simpa [upd] using hR.e1), (by simpa [upd] using hR.e2), (by simpa [upd] using hR.e5), (by simpa [upd] using hR.e6), (by simpa [upd] using hR.e8), (by simpa [upd] using hR.e10), (by simpa [upd] using hR.n9), (fun _ => by simpa [upd] using d3), ⟨kA, kB, (by simpa [upd] using cA.keep q (same1_set W q 3 _) (fun e => by have := (cA.lt _ e).1; omega)), (by simpa [upd] using cB.keep q (same1_set W q 3 _) (fun e => by have := (cB.lt _ e).1; omega)), ap⟩⟩⟩
    | i + 12, ho, hi, hL, hd => omega
  · intro L a W hL ⟨hn, hR⟩
    obtain ⟨x2, x3, hq1, hq2, hq3⟩ := hR.hq
    obtain ⟨kA, kB, cA, cB, ap⟩ := hR.ch
    obtain ⟨⟨b3, c3, h3⟩, o3, -⟩ := cA.1 (hL 3 (by decide))
    obtain ⟨⟨b4, c4, h4⟩, o4, -⟩ := cB.1 (hL 7 (by decide))
    have e3 := hq2 (hL 9 (by decide))
    have e4 := hq3 (hL 11 (by decide))
    rw [h3] at e3 o3
    rw [h4] at e4 o4
    subst e3 e4
    refine hQ a W b3 c3 b4 c4 hn ⟨hR.ext, hp.2.1, hR.hp.trans hp.2.2.1, hV.of_ext hR.ext⟩ ⟨hR.ext, hq.2.1, hq1, own_rd o3, own_rd o4⟩
end Go.Proofs.Ytgjolablgcnlmaa
