/- CreditRight: a finished box; region 30 by an invariant. -/
import Derived.Test.YtgjolablgcnlmaaCrF
namespace Go.Proofs.Ytgjolablgcnlmaa
set_option linter.unusedSimpArgs false
set_option linter.unusedVariables false
open Go.RowKit

/-- All blocks but the four boxes are as they were, and the box q too. -/
def But4 (q b0 b1 b2 b3 : Nat) (W W' : World) : Prop := ∀ g o, W.heap[g]? = some o → (g = q ∨ (g ≠ b0 ∧ g ≠ b1 ∧ g ≠ b2 ∧ g ≠ b3)) → W'.heap[g]? = some o
/-- A box that stays whatever is done to the others. -/
def Fin4 (w0 w : World) (b0 b1 b2 b3 q : Nat) (L : Ln) (W : World) : Prop := ∃ a1 c1 a2 c2, ∀ W', Ext w W' → But4 q b0 b1 b2 b3 W W' → Bx w0 W' q a1 c1 a2 c2 L
theorem Fin4.on {w0 w : World} {b0 b1 b2 b3 q : Nat} {L : Ln} {W W' : World} (h : Fin4 w0 w b0 b1 b2 b3 q L W) (hk : But4 q b0 b1 b2 b3 W W') : Fin4 w0 w b0 b1 b2 b3 q L W' := by
  obtain ⟨a1, c1, a2, c2, h⟩ := h
  exact ⟨a1, c1, a2, c2, fun W2 hx2 hk2 => h W2 hx2 (fun g o ho hg => hk2 g o (hk g o ho hg) hg)⟩
theorem Fin4.get {w0 w : World} {b0 b1 b2 b3 q : Nat} {L : Ln} {W : World} (h : Fin4 w0 w b0 b1 b2 b3 q L W) (hx : Ext w W) : ∃ a1 c1 a2 c2, Bx w0 W q a1 c1 a2 c2 L := by
  obtain ⟨a1, c1, a2, c2, h⟩ := h
  exact ⟨a1, c1, a2, c2, h W hx (fun g o ho _ => ho)⟩
/-- A row reads whatever became of blocks that it does not lie in. -/
theorem own_but {W W' : World} {N n : Nat} {t : TypeId} {v : Value} {xs : List Value} (h : W.ownsRow N t 1 v n xs) (hk : ∀ g o, W.heap[g]? = some o → N ≤ g → W'.heap[g]? = some o) : W'.ownsRow N t 1 v n xs := by
  refine ⟨h.1, ?_⟩
  rcases h.2 with hn | ⟨g', cap, cur, rfl, hb, hgg, rest⟩
  · exact .inl hn
  · exact .inr ⟨g', cap, cur, rfl, hb, hk g' _ hgg hb, rest⟩
theorem But4.of_same {q b0 b1 b2 b3 g : Nat} {W W' : World} (h : Same1 W W' g) (hg : g = b0 ∨ g = b1 ∨ g = b2 ∨ g = b3) (hq : q ≠ g) : But4 q b0 b1 b2 b3 W W' := fun g' o ho hc => h g' o ho (by
  rcases hc with rfl | ⟨h0, h1, h2, h3⟩
  · exact hq
  · rcases hg with rfl | rfl | rfl | rfl <;> assumption)
/-- The box as it was first. -/
theorem fin_same {w0 w W : World} {b0 b1 b2 b3 q : Nat} {L : Ln} {a1 a2 : Option Addr} {c1 c2 : Nat} (h0 : Ext w0 w) (hv : LaneV w a1 c1 a2 c2 L) (hq : w0.heap.size ≤ q) (hh : W.heap[q]? = some (.cells #[.int .i64 L.s, .int .i64 L.m, .slice a1 L.way.length c1, .slice a2 L.waits.length c2, .int .i64 L.b] 24 (0, 0))) : Fin4 w0 w b0 b1 b2 b3 q L W :=
  ⟨a1, c1, a2, c2, fun _ hx hk => ⟨h0.trans hx, hq, hk q _ hh (.inl rfl), hv.of_ext hx⟩⟩
/-- A new row in the first place, an old one in the second. -/
theorem fin_l {w0 w W : World} {b0 b1 b2 b3 q N : Nat} {L : Ln} {a1 a2 : Option Addr} {c1 c2 : Nat} (h0 : Ext w0 w) (ho : W.ownsRow N 2 1 (.slice a1 L.way.length c1) L.way.length (i64s L.way)) (hN : b0 < N ∧ b1 < N ∧ b2 < N ∧ b3 < N) (hv : Ri w .i64 (.slice a2 L.waits.length c2) L.waits) (hq : w0.heap.size ≤ q) (hh : W.heap[q]? = some (.cells #[.int .i64 L.s, .int .i64 L.m, .slice a1 L.way.length c1, .slice a2 L.waits.length c2, .int .i64 L.b] 24 (0, 0))) : Fin4 w0 w b0 b1 b2 b3 q L W :=
  ⟨a1, c1, a2, c2, fun _ hx hk => ⟨h0.trans hx, hq, hk q _ hh (.inl rfl), own_rd (own_but ho (fun g o hg hl => hk g o hg (.inr ⟨by omega, by omega, by omega, by omega⟩))), hv.of_ext hx⟩⟩
theorem fin_r {w0 w W : World} {b0 b1 b2 b3 q N : Nat} {L : Ln} {a1 a2 : Option Addr} {c1 c2 : Nat} (h0 : Ext w0 w) (ho : W.ownsRow N 2 1 (.slice a2 L.waits.length c2) L.waits.length (i64s L.waits)) (hN : b0 < N ∧ b1 < N ∧ b2 < N ∧ b3 < N) (hv : Ri w .i64 (.slice a1 L.way.length c1) L.way) (hq : w0.heap.size ≤ q) (hh : W.heap[q]? = some (.cells #[.int .i64 L.s, .int .i64 L.m, .slice a1 L.way.length c1, .slice a2 L.waits.length c2, .int .i64 L.b] 24 (0, 0))) : Fin4 w0 w b0 b1 b2 b3 q L W :=
  ⟨a1, c1, a2, c2, fun _ hx hk => ⟨h0.trans hx, hq, hk q _ hh (.inl rfl), hv.of_ext hx, own_rd (own_but ho (fun g o hg hl => hk g o hg (.inr ⟨by omega, by omega, by omega, by omega⟩)))⟩⟩
theorem setc {W : World} {g : Nat} {x0 x1 x2 x3 x4 : Value} (hh : W.heap[g]? = some (.cells #[x0, x1, x2, x3, x4] 24 (0, 0))) (y : Value) :
    (W.setCell ⟨g, 1, none⟩ y).heap[g]? = some (.cells #[x0, y, x2, x3, x4] 24 (0, 0)) ∧ (W.setCell ⟨g, 2, none⟩ y).heap[g]? = some (.cells #[x0, x1, y, x3, x4] 24 (0, 0)) ∧ (W.setCell ⟨g, 3, none⟩ y).heap[g]? = some (.cells #[x0, x1, x2, y, x4] 24 (0, 0)) ∧ (W.setCell ⟨g, 4, none⟩ y).heap[g]? = some (.cells #[x0, x1, x2, x3, y] 24 (0, 0)) := by
  refine ⟨?_, ?_, ?_, ?_⟩ <;> simp [World.setCell, Array.getElem?_modify, hh]
theorem lane_cells {W : World} {g : Nat} {x0 x1 x2 x3 x4 : Value} (hh : W.heap[g]? = some (.cells #[x0, x1, x2, x3, x4] 24 (0, 0))) :
    W.cell? ⟨g, 0, none⟩ = some x0 ∧ W.cell? ⟨g, 1, none⟩ = some x1 ∧ W.cell? ⟨g, 2, none⟩ = some x2 ∧ W.cell? ⟨g, 3, none⟩ = some x3 ∧ W.cell? ⟨g, 4, none⟩ = some x4 ∧ g < W.heap.size ∧ ∀ i, W.frozen? ⟨g, i, none⟩ = false := by
  refine ⟨?_, ?_, ?_, ?_, ?_, (Array.getElem?_eq_some_iff.1 hh).1, fun i => frozen_of_row _ _ _ _ _ hh⟩ <;> (rw [cell_of_row _ _ _ _ _ (0, 0) hh]; rfl)

noncomputable def ops30 : Array Oper := ((Try.f3.body.bind (regOf 30)).getD #[])
theorem ops30_size : ops30.size = 12 := by kernel_rfl
theorem ops30_ac : acyc .any ops30 = true := by kernel_rfl
theorem ops30_ng : noGuard ops30 = true := by kernel_rfl
structure R30 (w0 W0 : World) (N p q : Nat) (s m b : Int) (a1 a2 : Option Addr) (c1 c2 : Nat) (bb off : Nat) (x0 : Int) (xs ys : List Int) (L : Nat → Bool) (a : Act) (W : World) : Prop where
  ext : Ext w0 W
  le : N ≤ W.heap.size
  keep : Same1 W0 W q
  hq : ∃ x3, W.heap[q]? = some (.cells #[.int .i64 s, .int .i64 m, .slice a1 xs.length c1, x3, .int .i64 b] 24 (0, 0)) ∧ (L 11 = true → x3 = V a 180)
  e1 : L 1 = true → V a 172 = .pointer (some ⟨p, 3, none⟩)
  e2 : L 2 = true → V a 173 = .slice a2 ys.length c2
  e4 : L 4 = true → V a 175 = .pointer (some ⟨p, 2, none⟩)
  e5 : L 5 = true → V a 176 = .slice a1 xs.length c1
  e6 : L 6 = true → V a 177 = .pointer (some ⟨bb, off, none⟩)
  e7 : L 7 = true → V a 178 = .int .i64 x0
  e10 : L 10 = true → V a 181 = .pointer (some ⟨q, 3, none⟩)
  n9 : L 9 = true → L 3 = true ∧ L 8 = true
  n11 : L 11 = true → L 9 = true
  ch : L 9 = false → ∃ kA, Chn N W (L 0) (L 3) (V a 171) (V a 174) ys kA ∧ (L 8 = true → ∃ g, V a 179 = .slice (some ⟨g, 0, none⟩) 1 1 ∧ W.heap[g]? = some (.cells #[.int .i64 x0] 2 (0, 0)) ∧ N ≤ g ∧ kA ≠ some g)
  dn : L 9 = true → (∃ b' c', V a 180 = .slice b' (ys.length + 1) c') ∧ W.ownsRow N 2 1 (V a 180) (ys.length + 1) (i64s (ys ++ [x0]))
def ts30 : List Nat := [171, 172, 173, 174, 175, 176, 177, 178, 179, 180, 181]
set_option maxRecDepth 100000 in
set_option maxHeartbeats 4000000 in
theorem reg30 (a0 : Act) (w0 W0 : World) (p q : Nat) (s m b : Int) (bb off : Nat) (a2 : Option Addr) (c1 c2 : Nat) (x0 : Int) (xt ys : List Int) (Q : Exit → Act → World → Prop) (v3 : V a0 3 = .pointer (some ⟨p, 0, none⟩)) (v20 : V a0 20 = .pointer (some ⟨q, 0, none⟩)) (hsz : 181 < a0.tmps.size)
    (hV : LaneV w0 (some ⟨bb, off, none⟩) c1 a2 c2 ⟨s, m, b, x0 :: xt, ys⟩) (hx0 : Ext w0 W0)
    (hp : W0.heap[p]? = some (.cells #[.int .i64 s, .int .i64 m, .slice (some ⟨bb, off, none⟩) (x0 :: xt).length c1, .slice a2 ys.length c2, .int .i64 b] 24 (0, 0)))
    (hq : W0.heap[q]? = some (.cells #[.int .i64 s, .int .i64 m, .slice (some ⟨bb, off, none⟩) (x0 :: xt).length c1, .slice a2 ys.length c2, .int .i64 b] 24 (0, 0)))
    (hq0 : w0.heap.size ≤ q) (hpq : p ≠ q) (l1 : (x0 :: xt).length ≤ 100) (l2 : ys.length ≤ 100)
    (hQ : ∀ a W a4 c4, Near ts30 a0 a → Ext w0 W → W0.heap.size ≤ W.heap.size → Same1 W0 W q → W.heap[q]? = some (.cells #[.int .i64 s, .int .i64 m, .slice (some ⟨bb, off, none⟩) (x0 :: xt).length c1, .slice a4 (ys.length + 1) c4, .int .i64 b] 24 (0, 0)) → W.ownsRow W0.heap.size 2 1 (.slice a4 (ys.length + 1) c4) (ys.length + 1) (i64s (ys ++ [x0])) → Q .normal a W) : (Code.region 30 ops30 true).wp Try.prog Q a0 W0 := by
  have hbb := hV.1.cell (i := 0) (by simp)
  simp only [Nat.add_zero, List.getElem_cons_zero] at hbb
  have hql := (Array.getElem?_eq_some_iff.1 hq).1
  have hle0 := ext_le hx0
  generalize hxs : x0 :: xt = xs at *
  have hpos : 0 < xs.length := by rw [← hxs]; simp
  clear hxs
  refine wp_region_inv2 12 (fun L a W => Near ts30 a0 a ∧ R30 w0 W0 W0.heap.size p q s m b (some ⟨bb, off, none⟩) a2 c1 c2 bb off x0 xs ys L a W) (by kernel_rfl) ops30_ac ops30_ng ops30_size ?_ ?_ ?_
  · exact ⟨Near.refl _ _, ⟨hx0.drew, Nat.le_refl _, fun g o h _ => h, ⟨_, hq, fun h => absurd h (by decide)⟩, fun h => absurd h (by decide), fun h => absurd h (by decide), fun h => absurd h (by decide), fun h => absurd h (by decide), fun h => absurd h (by decide), fun h => absurd h (by decide), fun h => absurd h (by decide), fun h => absurd h (by decide), fun h => absurd h (by decide), fun _ => ⟨none, ⟨fun h => absurd h (by decide), fun _ h => absurd h (by decide), fun _ _ => rfl⟩, fun h => absurd h (by decide)⟩, fun h => absurd h (by decide)⟩⟩
  · intro i o ho hi L a W hL hd ⟨hn, hR⟩ K hK
    have HS : Hid (181 < a.tmps.size) := Lib.hid (by rw [hn.size]; exact hsz)
    have u3 : V a 3 = .pointer (some ⟨p, 0, none⟩) := by rw [← V_eval, hn.out 3 (by decide), V_eval, v3]
    have u20 : V a 20 = .pointer (some ⟨q, 0, none⟩) := by rw [← V_eval, hn.out 20 (by decide), V_eval, v20]
    have hpW := hR.keep p _ hp hpq
    have f2 : W.cell? ⟨p, 2, none⟩ = some (.slice (some ⟨bb, off, none⟩) xs.length c1) := by rw [cell_of_row _ _ _ _ _ (0, 0) hpW]; rfl
    have f3 : W.cell? ⟨p, 3, none⟩ = some (.slice a2 ys.length c2) := by rw [cell_of_row _ _ _ _ _ (0, 0) hpW]; rfl
    have fb : W.cell? ⟨bb, off, none⟩ = some (.int .i64 x0) := by
      obtain ⟨z, hz⟩ := hR.ext
      rw [hz, cell_ext_a _ _ _ (World.block_lt_of_cell? _ _ hbb), hbb]
    have hp0 : (0 : Int) < xs.length := by omega
    unfold V at u3 u20
    match i, ho, hi, hL, hd with
    | 0, ho, hi, hL, hd =>
      cases ho
      conv => arg 2; whnf
      go_simp
      have hv := V_lit (Nat.lt_of_le_of_lt (by decide : 171 ≤ 181) HS.out)
      obtain ⟨x3, hq1, hq2⟩ := hR.hq
      exact hK _ _ ⟨hn.put (by decide) _, ⟨hR.ext.alloc _, (by simp; have := hR.le; omega), (fun g o h hne => by have := hR.keep g o h hne; rw [Below.heap_alloc _ _ _ (Array.getElem?_eq_some_iff.1 this).1]; exact this), ⟨x3, (by rw [Below.heap_alloc _ _ _ (Array.getElem?_eq_some_iff.1 hq1).1]; exact hq1), (by simpa [hv, upd] using hq2)⟩, (by first | (simp [hv, upd]; done) | simpa [hv, upd] using hR.e1), (by first | (simp [hv, upd]; done) | simpa [hv, upd] using hR.e2), (by first | (simp [hv, upd]; done) | simpa [hv, upd] using hR.e4), (by first | (simp [hv, upd]; done) | simpa [hv, upd] using hR.e5), (by first | (simp [hv, upd]; done) | simpa [hv, upd] using hR.e6), (by first | (simp [hv, upd]; done) | simpa [hv, upd] using hR.e7), (by first | (simp [hv, upd]; done) | simpa [hv, upd] using hR.e10), (by first | (simp [upd]; done) | simpa [upd] using hR.n9), (by first | (simp [upd]; done) | simpa [upd] using hR.n11), (fun h => by
        have h9 : L 9 = false := by simpa [upd] using h
        obtain ⟨kA, cA, c8⟩ := hR.ch h9
        obtain ⟨k', c', hk'⟩ := cA.lit hR.le
        refine ⟨k', by simpa [hv, upd] using c', fun h8 => ?_⟩
        obtain ⟨g, hg1, hg2, hg3, hg4⟩ := c8 (by simpa [upd] using h8)
        have hgl := (Array.getElem?_eq_some_iff.1 hg2).1
        refine ⟨g, by simpa [hv] using hg1, by rw [Below.heap_alloc _ _ _ hgl]; exact hg2, hg3, fun e => ?_⟩
        rcases hk' with rfl | rfl
        · exact hg4 e
        · cases e; exact absurd hgl (Nat.lt_irrefl _)), (fun h => by
        obtain ⟨d1, d2⟩ := hR.dn (by simpa [upd] using h)
        exact ⟨by simpa [hv] using d1, by simpa [hv] using d2.alloc _⟩)⟩⟩
    | 1, ho, hi, hL, hd =>
      cases ho
      conv => arg 2; whnf
      go_simp
      have hv := V_lit (Nat.lt_of_le_of_lt (by decide : 172 ≤ 181) HS.out)
      exact hK _ _ ⟨hn.put (by decide) _, ⟨hR.ext, hR.le, hR.keep, (by simpa [hv, upd] using hR.hq), (by first | (simp [hv, upd]; done) | simpa [hv, upd] using hR.e1), (by first | (simp [hv, upd]; done) | simpa [hv, upd] using hR.e2), (by first | (simp [hv, upd]; done) | simpa [hv, upd] using hR.e4), (by first | (simp [hv, upd]; done) | simpa [hv, upd] using hR.e5), (by first | (simp [hv, upd]; done) | simpa [hv, upd] using hR.e6), (by first | (simp [hv, upd]; done) | simpa [hv, upd] using hR.e7), (by first | (simp [hv, upd]; done) | simpa [hv, upd] using hR.e10), (by first | (simp [upd]; done) | simpa [upd] using hR.n9), (by first | (simp [upd]; done) | simpa [upd] using hR.n11), (by simpa [hv, upd] using hR.ch), (by simpa [hv, upd] using hR.dn)⟩⟩
    | 2, ho, hi, hL, hd =>
      have u := hR.e1 (dep_mem hd 1 (by cases ho; kernel_rfl))
      unfold V at u
      cases ho
      conv => arg 2; whnf
      go_simp
      have hv := V_lit (Nat.lt_of_le_of_lt (by decide : 173 ≤ 181) HS.out)
      exact hK _ _ ⟨hn.put (by decide) _, ⟨hR.ext, hR.le, hR.keep, (by simpa [hv, upd] using hR.hq), (by first | (simp [hv, upd]; done) | simpa [hv, upd] using hR.e1), (by first | (simp [hv, upd]; done) | simpa [hv, upd] using hR.e2), (by first | (simp [hv, upd]; done) | simpa [hv, upd] using hR.e4), (by first | (simp [hv, upd]; done) | simpa [hv, upd] using hR.e5), (by first | (simp [hv, upd]; done) | simpa [hv, upd] using hR.e6), (by first | (simp [hv, upd]; done) | simpa [hv, upd] using hR.e7), (by first | (simp [hv, upd]; done) | simpa [hv, upd] using hR.e10), (by first | (simp [upd]; done) | simpa [upd] using hR.n9), (by first | (simp [upd]; done) | simpa [upd] using hR.n11), (by simpa [hv, upd] using hR.ch), (by simpa [hv, upd] using hR.dn)⟩⟩
    | 3, ho, hi, hL, hd =>
      have d0 := dep_mem hd 0 (by cases ho; kernel_rfl)
      have u := hR.e2 (dep_mem hd 2 (by cases ho; kernel_rfl))
      have h9 : L 9 = false := by
        cases h9 : L 9
        · rfl
        · have := (hR.n9 h9).1; rw [hL] at this; cases this
      cases ho
      conv => arg 2; whnf
      obtain ⟨x3, hq1, hq2⟩ := hR.hq
      obtain ⟨kA, cA, c8⟩ := hR.ch h9
      obtain ⟨g, hg, hem, hbg, rfl⟩ := cA.2.1 hL d0
      refine wp_copy (.tmp 171) (.tmp 173) rfl w0 W hR.ext W0.heap.size hle0 hR.le g hem hbg ys a2 c2 ((V_eval _ _).trans hg) ((V_eval _ _).trans u) (hV.2.of_ext hR.ext) l2 ?_
      intro b' k' y ho1 hs1 ha1 hle
      have hv := fun t => V_put (a := a) (d := 174) (t := t) (v := .slice b' ys.length k') (Nat.lt_of_le_of_lt (by decide : 174 ≤ 181) HS.out)
      exact hK _ _ ⟨hn.put (by decide) _, ⟨⟨y, rfl⟩, Nat.le_trans hR.le hle, (fun g2 o h hne => hs1 g2 _ (hR.keep g2 o h hne) (by have := (Array.getElem?_eq_some_iff.1 h).1; omega)), ⟨x3, hs1 q _ hq1 (by omega), (by simpa [hv, upd] using hq2)⟩, (by first | (simp [hv, upd]; done) | simpa [hv, upd] using hR.e1), (by first | (simp [hv, upd]; done) | simpa [hv, upd] using hR.e2), (by first | (simp [hv, upd]; done) | simpa [hv, upd] using hR.e4), (by first | (simp [hv, upd]; done) | simpa [hv, upd] using hR.e5), (by first | (simp [hv, upd]; done) | simpa [hv, upd] using hR.e6), (by first | (simp [hv, upd]; done) | simpa [hv, upd] using hR.e7), (by first | (simp [hv, upd]; done) | simpa [hv, upd] using hR.e10), (fun h => by rw [show upd L 3 9 = L 9 by simp [upd], h9] at h; cases h), (by first | (simp [upd]; done) | simpa [upd] using hR.n11), (fun _ => ⟨(Value.slice b' ys.length k').ownBlock, (by simpa [hv, upd] using (show Chn W0.heap.size (Go.Proofs.Ytgjolablgcnlmaa.ext w0 y) (L 0) true (V a 171) (.slice b' ys.length k') ys _ from ⟨fun _ => ⟨⟨b', k', rfl⟩, ho1, rfl⟩, fun e => (by cases e), fun e => (by cases e)⟩)), fun h8 => by
        obtain ⟨g8, hg1, hg2, hg3, hg4⟩ := c8 (by simpa [upd] using h8)
        have hgl := (Array.getElem?_eq_some_iff.1 hg2).1
        refine ⟨g8, by simpa [hv] using hg1, hs1 g8 _ hg2 (fun e => hg4 (by rw [e])), hg3, fun e => ?_⟩
        rcases ha1 with h | h
        · rw [h] at e; exact hg4 e
        · rw [h] at e; cases e; exact absurd hgl (Nat.lt_irrefl _)⟩), (fun h => by rw [show upd L 3 9 = L 9 by simp [upd], h9] at h; cases h)⟩⟩
    | 4, ho, hi, hL, hd =>
      cases ho
      conv => arg 2; whnf
      go_simp
      have hv := V_lit (Nat.lt_of_le_of_lt (by decide : 175 ≤ 181) HS.out)
      exact hK _ _ ⟨hn.put (by decide) _, ⟨hR.ext, hR.le, hR.keep, (by simpa [hv, upd] using hR.hq), (by first | (simp [hv, upd]; done) | simpa [hv, upd] using hR.e1), (by first | (simp [hv, upd]; done) | simpa [hv, upd] using hR.e2), (by first | (simp [hv, upd]; done) | simpa [hv, upd] using hR.e4), (by first | (simp [hv, upd]; done) | simpa [hv, upd] using hR.e5), (by first | (simp [hv, upd]; done) | simpa [hv, upd] using hR.e6), (by first | (simp [hv, upd]; done) | simpa [hv, upd] using hR.e7), (by first | (simp [hv, upd]; done) | simpa [hv, upd] using hR.e10), (by first | (simp [upd]; done) | simpa [upd] using hR.n9), (by first | (simp [upd]; done) | simpa [upd] using hR.n11), (by simpa [hv, upd] using hR.ch), (by simpa [hv, upd] using hR.dn)⟩⟩
    | 5, ho, hi, hL, hd =>
      have u := hR.e4 (dep_mem hd 4 (by cases ho; kernel_rfl))
      unfold V at u
      cases ho
      conv => arg 2; whnf
      go_simp
      have hv := V_lit (Nat.lt_of_le_of_lt (by decide : 176 ≤ 181) HS.out)
      exact hK _ _ ⟨hn.put (by decide) _, ⟨hR.ext, hR.le, hR.keep, (by simpa [hv, upd] using hR.hq), (by first | (simp [hv, upd]; done) | simpa [hv, upd] using hR.e1), (by first | (simp [hv, upd]; done) | simpa [hv, upd] using hR.e2), (by first | (simp [hv, upd]; done) | simpa [hv, upd] using hR.e4), (by first | (simp [hv, upd]; done) | simpa [hv, upd] using hR.e5), (by first | (simp [hv, upd]; done) | simpa [hv, upd] using hR.e6), (by first | (simp [hv, upd]; done) | simpa [hv, upd] using hR.e7), (by first | (simp [hv, upd]; done) | simpa [hv, upd] using hR.e10), (by first | (simp [upd]; done) | simpa [upd] using hR.n9), (by first | (simp [upd]; done) | simpa [upd] using hR.n11), (by simpa [hv, upd] using hR.ch), (by simpa [hv, upd] using hR.dn)⟩⟩
    | 6, ho, hi, hL, hd =>
      have u := hR.e5 (dep_mem hd 5 (by cases ho; kernel_rfl))
      unfold V at u
      cases ho
      conv => arg 2; whnf
      go_simp
      have hv := V_lit (Nat.lt_of_le_of_lt (by decide : 177 ≤ 181) HS.out)
      exact hK _ _ ⟨hn.put (by decide) _, ⟨hR.ext, hR.le, hR.keep, (by simpa [hv, upd] using hR.hq), (by first | (simp [hv, upd]; done) | simpa [hv, upd] using hR.e1), (by first | (simp [hv, upd]; done) | simpa [hv, upd] using hR.e2), (by first | (simp [hv, upd]; done) | simpa [hv, upd] using hR.e4), (by first | (simp [hv, upd]; done) | simpa [hv, upd] using hR.e5), (by first | (simp [hv, upd]; done) | simpa [hv, upd] using hR.e6), (by first | (simp [hv, upd]; done) | simpa [hv, upd] using hR.e7), (by first | (simp [hv, upd]; done) | simpa [hv, upd] using hR.e10), (by first | (simp [upd]; done) | simpa [upd] using hR.n9), (by first | (simp [upd]; done) | simpa [upd] using hR.n11), (by simpa [hv, upd] using hR.ch), (by simpa [hv, upd] using hR.dn)⟩⟩
    | 7, ho, hi, hL, hd =>
      have u := hR.e6 (dep_mem hd 6 (by cases ho; kernel_rfl))
      unfold V at u
      cases ho
      conv => arg 2; whnf
      go_simp
      have hv := V_lit (Nat.lt_of_le_of_lt (by decide : 178 ≤ 181) HS.out)
      exact hK _ _ ⟨hn.put (by decide) _, ⟨hR.ext, hR.le, hR.keep, (by simpa [hv, upd] using hR.hq), (by first | (simp [hv, upd]; done) | simpa [hv, upd] using hR.e1), (by first | (simp [hv, upd]; done) | simpa [hv, upd] using hR.e2), (by first | (simp [hv, upd]; done) | simpa [hv, upd] using hR.e4), (by first | (simp [hv, upd]; done) | simpa [hv, upd] using hR.e5), (by first | (simp [hv, upd]; done) | simpa [hv, upd] using hR.e6), (by first | (simp [hv, upd]; done) | simpa [hv, upd] using hR.e7), (by first | (simp [hv, upd]; done) | simpa [hv, upd] using hR.e10), (by first | (simp [upd]; done) | simpa [upd] using hR.n9), (by first | (simp [upd]; done) | simpa [upd] using hR.n11), (by simpa [hv, upd] using hR.ch), (by simpa [hv, upd] using hR.dn)⟩⟩
    | 8, ho, hi, hL, hd =>
      have u := hR.e7 (dep_mem hd 7 (by cases ho; kernel_rfl))
      unfold V at u
      have h9 : L 9 = false := by
        cases h9 : L 9
        · rfl
        · have := (hR.n9 h9).2; rw [hL] at this; cases this
      cases ho
      conv => arg 2; whnf
      go_simp
      have hv := V_lit (Nat.lt_of_le_of_lt (by decide : 179 ≤ 181) HS.out)
      obtain ⟨x3, hq1, hq2⟩ := hR.hq
      obtain ⟨kA, cA, c8⟩ := hR.ch h9
      exact hK _ _ ⟨hn.put (by decide) _, ⟨hR.ext.alloc _, (by simp; have := hR.le; omega), (fun g o h hne => by have := hR.keep g o h hne; rw [Below.heap_alloc _ _ _ (Array.getElem?_eq_some_iff.1 this).1]; exact this), ⟨x3, (by rw [Below.heap_alloc _ _ _ (Array.getElem?_eq_some_iff.1 hq1).1]; exact hq1), (by simpa [hv, upd] using hq2)⟩, (by first | (simp [hv, upd]; done) | simpa [hv, upd] using hR.e1), (by first | (simp [hv, upd]; done) | simpa [hv, upd] using hR.e2), (by first | (simp [hv, upd]; done) | simpa [hv, upd] using hR.e4), (by first | (simp [hv, upd]; done) | simpa [hv, upd] using hR.e5), (by first | (simp [hv, upd]; done) | simpa [hv, upd] using hR.e6), (by first | (simp [hv, upd]; done) | simpa [hv, upd] using hR.e7), (by first | (simp [hv, upd]; done) | simpa [hv, upd] using hR.e10), (fun h => by rw [show upd L 8 9 = L 9 by simp [upd], h9] at h; cases h), (by first | (simp [upd]; done) | simpa [upd] using hR.n11), (fun _ => ⟨kA, (by simpa [hv, upd] using cA.keep W.heap.size (same1_alloc _ _ _) (fun e => absurd (cA.lt _ e).2 (Nat.lt_irrefl _))), fun _ => ⟨W.heap.size, by simp [hv], heap_alloc_new W _, hR.le, fun e => absurd (cA.lt _ e).2 (Nat.lt_irrefl _)⟩⟩), (fun h => by rw [show upd L 8 9 = L 9 by simp [upd], h9] at h; cases h)⟩⟩
    | 9, ho, hi, hL, hd =>
      have d3 := dep_mem hd 3 (by cases ho; kernel_rfl)
      have d8 := dep_mem hd 8 (by cases ho; kernel_rfl)
      cases ho
      conv => arg 2; whnf
      obtain ⟨x3, hq1, hq2⟩ := hR.hq
      obtain ⟨kA, cA, c8⟩ := hR.ch hL
      obtain ⟨-, hown, -⟩ := cA.1 d3
      obtain ⟨g, hg1, hg2, hg3, hg4⟩ := c8 d8
      refine wp_app (.tmp 174) (.tmp 179) 22 rfl 2 (.int .i64 0) 1 8 Try.underlying22 info_i64e rfl (by decide) w0 hR.ext W0.heap.size _ ys.length (i64s ys) hown 1 _ [.int .i64 x0] (V_eval _ _) ((V_eval _ _).trans hg1) ⟨rfl, _, _, rfl, fun _ => ⟨g, 0, rfl, fun j u hu => by rw [Nat.zero_add, cell_of_row _ _ _ _ _ (0, 0) hg2]; simpa using hu⟩⟩ (by simp [Value.oneCell']) (by unfold maxLen; omega) (by omega) hR.le hle0 ?_
      intro b' c' y ho1 hgr hat
      have kp : ∀ g2 o, W.heap[g2]? = some o → g2 < W0.heap.size → (Go.Proofs.Ytgjolablgcnlmaa.ext w0 y).heap[g2]? = some o := fun g2 o h hlt => (hgr.block g2 (Array.getElem?_eq_some_iff.1 h).1 (fun e => by have := (hown.lt g2 e.symm).1; omega)).trans h
      have hv := fun t => V_put (a := a) (d := 180) (t := t) (v := .slice b' (ys.length + 1) c') (Nat.lt_of_le_of_lt (by decide : 180 ≤ 181) HS.out)
      exact hK _ _ ⟨hn.put (by decide) _, ⟨⟨y, rfl⟩, Nat.le_trans hR.le hgr.size, (fun g2 o h hne => kp g2 _ (hR.keep g2 o h hne) (Array.getElem?_eq_some_iff.1 h).1), ⟨x3, kp q _ hq1 hql, (fun h => by have := hR.n11 (by simpa [upd] using h); rw [hL] at this; cases this)⟩, (by first | (simp [hv, upd]; done) | simpa [hv, upd] using hR.e1), (by first | (simp [hv, upd]; done) | simpa [hv, upd] using hR.e2), (by first | (simp [hv, upd]; done) | simpa [hv, upd] using hR.e4), (by first | (simp [hv, upd]; done) | simpa [hv, upd] using hR.e5), (by first | (simp [hv, upd]; done) | simpa [hv, upd] using hR.e6), (by first | (simp [hv, upd]; done) | simpa [hv, upd] using hR.e7), (by first | (simp [hv, upd]; done) | simpa [hv, upd] using hR.e10), (fun _ => by simpa [upd] using And.intro d3 d8), (fun _ => by simp [upd]), (fun h => by simp [upd] at h), (fun _ => ⟨⟨b', c', by simp [hv]⟩, by simpa [hv, i64s] using ho1⟩)⟩⟩
    | 10, ho, hi, hL, hd =>
      cases ho
      conv => arg 2; whnf
      go_simp
      have hv := V_lit (Nat.lt_of_le_of_lt (by decide : 181 ≤ 181) HS.out)
      exact hK _ _ ⟨hn.put (by decide) _, ⟨hR.ext, hR.le, hR.keep, (by simpa [hv, upd] using hR.hq), (by first | (simp [hv, upd]; done) | simpa [hv, upd] using hR.e1), (by first | (simp [hv, upd]; done) | simpa [hv, upd] using hR.e2), (by first | (simp [hv, upd]; done) | simpa [hv, upd] using hR.e4), (by first | (simp [hv, upd]; done) | simpa [hv, upd] using hR.e5), (by first | (simp [hv, upd]; done) | simpa [hv, upd] using hR.e6), (by first | (simp [hv, upd]; done) | simpa [hv, upd] using hR.e7), (by first | (simp [hv, upd]; done) | simpa [hv, upd] using hR.e10), (by first | (simp [upd]; done) | simpa [upd] using hR.n9), (by first | (simp [upd]; done) | simpa [upd] using hR.n11), (by simpa [hv, upd] using hR.ch), (by simpa [hv, upd] using hR.dn)⟩⟩
    | 11, ho, hi, hL, hd =>
      have u := hR.e10 (dep_mem hd 10 (by cases ho; kernel_rfl))
      have d9 := dep_mem hd 9 (by cases ho; kernel_rfl)
      cases ho
      conv => arg 2; whnf
      obtain ⟨x3, hq1, hq2⟩ := hR.hq
      obtain ⟨⟨b', c', hv3⟩, hown⟩ := hR.dn d9
      have g2 : W.cell? ⟨q, 3, none⟩ = some x3 := by rw [cell_of_row _ _ _ _ _ (0, 0) hq1]; rfl
      have g3 : W.frozen? ⟨q, 3, none⟩ = false := frozen_of_row _ _ _ _ _ hq1
      have hv4 := hv3
      unfold V at u hv3
      go_simp
      exact hK _ _ ⟨hn, ⟨hR.ext.setCell hq0 _, (by simp; exact hR.le), (fun g o h hne => same1_set W q 3 _ g _ (hR.keep g o h hne) hne), ⟨_, (setc hq1 _).2.2.1, fun _ => hv4.symm⟩, (by simpa [upd] using hR.e1), (by simpa [upd] using hR.e2), (by simpa [upd] using hR.e4), (by simpa [upd] using hR.e5), (by simpa [upd] using hR.e6), (by simpa [upd] using hR.e7), (by simpa [upd] using hR.e10), (by simpa [upd] using hR.n9), (fun _ => by simpa [upd] using d9), (fun h => by rw [show upd L 11 9 = L 9 by simp [upd], d9] at h; cases h), (fun _ => ⟨⟨b', c', hv4⟩, own_same1 hown (same1_set W q 3 _) (fun e => by have := (hown.lt q e).1; omega)⟩)⟩⟩
    | i + 12, ho, hi, hL, hd => omega
  · intro L a W hL ⟨hn, hR⟩
    obtain ⟨x3, hq1, hq2⟩ := hR.hq
    obtain ⟨⟨b', c', h3⟩, ho⟩ := hR.dn (hL 9 (by decide))
    have e3 := hq2 (hL 11 (by decide))
    rw [h3] at e3 ho
    subst e3
    exact hQ a W b' c' hn hR.ext hR.le hR.keep hq1 ho
end Go.Proofs.Ytgjolablgcnlmaa
