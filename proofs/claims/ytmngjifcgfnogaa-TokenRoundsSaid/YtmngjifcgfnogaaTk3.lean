/- law 17: counted. -/
import Derived.Test.YtmngjifcgfnogaaTk2
namespace Go.Proofs.Ytmngjifcgfnogaa
set_option linter.unusedSimpArgs false
set_option linter.unusedVariables false
set_option maxRecDepth 100000
open Go.RowKit

theorem Ext.le {w w' : World} (h : Ext w w') : w.heap.size ≤ w'.heap.size := (Ext.grows h none).size
theorem box_at {w W : World} {o : Obj} (h : Ext (w.alloc o) W) : W.heap[w.heap.size]? = some o := Keeps.ext (A := noB) h _ _ id (alloc_at _ _ _ rfl)
theorem box_at2 {w W : World} {o o' : Obj} (h : Ext ((w.alloc o).alloc o') W) : W.heap[w.heap.size + 1]? = some o' := Keeps.ext (A := noB) h _ _ id (alloc_at _ _ _ (by simp))
theorem box_at3 {w W : World} {o o' o'' : Obj} (h : Ext (((w.alloc o).alloc o').alloc o'') W) : W.heap[w.heap.size + 2]? = some o'' := Keeps.ext (A := noB) h _ _ id (alloc_at _ _ _ (by simp))
theorem box5 {W : World} {g : Nat} {x0 x1 x2 x3 x4 : Value} {T : TypeId} (hh : W.heap[g]? = some (.cells #[x0, x1, x2, x3, x4] T (0, 0))) :
    W.cell? ⟨g, 0, none⟩ = some x0 ∧ W.cell? ⟨g, 1, none⟩ = some x1 ∧ W.cell? ⟨g, 2, none⟩ = some x2 ∧ W.cell? ⟨g, 3, none⟩ = some x3 ∧ W.cell? ⟨g, 4, none⟩ = some x4 ∧ g < W.heap.size ∧ ∀ i, W.frozen? ⟨g, i, none⟩ = false := by
  refine ⟨?_, ?_, ?_, ?_, ?_, (Array.getElem?_eq_some_iff.1 hh).1, fun i => frozen_of_row _ _ _ _ _ hh⟩ <;> (rw [cell_of_row _ _ _ _ _ (0, 0) hh]; rfl)
theorem box5_set4 {W : World} {g : Nat} {x0 x1 x2 x3 x4 : Value} {T : TypeId} (hh : W.heap[g]? = some (.cells #[x0, x1, x2, x3, x4] T (0, 0))) (y : Value) : (W.setCell ⟨g, 4, none⟩ y).heap[g]? = some (.cells #[x0, x1, x2, x3, y] T (0, 0)) := by
  simp [World.setCell, Array.getElem?_modify, hh]
theorem box5_set {W W' : World} {g : Nat} {x0 x1 x2 x3 x4 y0 y1 y2 y3 y4 : Value} {T : TypeId} (hh : W.heap[g]? = some (.cells #[x0, x1, x2, x3, x4] T (0, 0))) (hW : W' = ((((W.setCell ⟨g, 0, none⟩ y0).setCell ⟨g, 1, none⟩ y1).setCell ⟨g, 2, none⟩ y2).setCell ⟨g, 3, none⟩ y3).setCell ⟨g, 4, none⟩ y4) :
    W'.heap[g]? = some (.cells #[y0, y1, y2, y3, y4] T (0, 0)) ∧ Keeps (fun b => b = g) W W' := by
  subst hW
  exact ⟨by simp [World.setCell, Array.getElem?_modify, hh], ((((Keeps.set (A := fun b => b = g) rfl _).trans (Keeps.set (A := fun b => b = g) rfl _)).trans (Keeps.set (A := fun b => b = g) rfl _)).trans (Keeps.set (A := fun b => b = g) rfl _)).trans (Keeps.set (A := fun b => b = g) rfl _)⟩
theorem name_post {P : Program} {fn : Func} {R : Ending → World → Prop} {x : Exit} {a : Act} {w0 : World} (h : ∀ W, W = w0 → bodyPost P fn R x a W) : bodyPost P fn R x a w0 := h _ rfl
theorem name_world {P : Program} {c : Code} {Q : Exit → Act → World → Prop} {a : Act} {w0 : World} (h : ∀ W, W = w0 → c.wp P Q a W) : c.wp P Q a w0 := h _ rfl
theorem Ow.lt {α : Type} {E : En α} {T : TypeId} {base : Nat} {A : Nat → Prop} {w : World} {l : List α} {v : Value} (h : Ow E T base A w l v) (b : Nat) (hb : v.ownBlock = some b) : base ≤ b ∧ b < w.heap.size := by
  obtain ⟨a, c, cs, rfl, ho, -⟩ := h
  exact ho.lt b hb
noncomputable def ops_rgC : Array Oper := ((Try.f41.body.bind (regOf 6)).getD #[])
theorem rgC_size : ops_rgC.size = 22 := by kernel_rfl
theorem rgC_ac : acyc .any ops_rgC = true := by kernel_rfl
theorem rgC_once : once ops_rgC = true := by kernel_rfl
theorem rgC_fits : fits ops_rgC 56 = true := by kernel_rfl
def ts_rgC : List Nat := [33, 34, 35, 36, 37, 38, 39, 40, 41, 42, 43, 44, 45, 46, 47, 48, 49, 50, 51, 52, 53]
theorem rgC_ts : ops_rgC.toList.filterMap (·.dst) = ts_rgC := by kernel_rfl
def F_rgC (w w0 : World) (A : Nat → Prop) (T : TypeId) (base b3 b4 g i n c bl ol nl cl br or nr cr : Nat) (M : List (List Tm)) (l m r s : List Tm) (ul um ur : Value) : Nat → (Nat → Bool) → Value → World → Prop
  | 0, L, v, W => v = .pointer (some ⟨b3, 4, none⟩)
  | 1, L, v, W => v = .slice (some ⟨g, 0, none⟩) n c
  | 2, L, v, W => v = .int .i64 i
  | 3, L, v, W => v = .pointer (some ⟨b3, 4, none⟩)
  | 4, L, v, W => v = .slice (some ⟨g, 0, none⟩) n c
  | 5, L, v, W => v = .int .i64 i
  | 6, L, v, W => v = .pointer (some ⟨g, i, none⟩)
  | 7, L, v, W => v = ul
  | 8, L, v, W => v = .slice (some ⟨bl, ol, none⟩) nl cl
  | 9, L, v, W => v = .int .i64 i
  | 10, L, v, W => v = .pointer (some ⟨bl, ol + i, none⟩)
  | 11, L, v, W => v = um
  | 12, L, v, W => v = .pointer (some ⟨b4, 7, none⟩)
  | 13, L, v, W => v = .slice (some ⟨br, or, none⟩) nr cr
  | 14, L, v, W => v = .int .i64 i
  | 15, L, v, W => v = .pointer (some ⟨br, or + i, none⟩)
  | 16, L, v, W => v = ur
  | 17, L, v, W => L 21 = false → ∃ q, v = .slice (some ⟨q, 0, none⟩) 3 3 ∧ W.cell? ⟨q, 0, none⟩ = some ul ∧ W.cell? ⟨q, 1, none⟩ = some um ∧ W.cell? ⟨q, 2, none⟩ = some ur
  | 18, L, v, W => L 21 = false → Rb W s v
  | 19, L, v, W => L 21 = false → Rs tmE (fun b => A b ∨ b = g) W (chT s) v
  | 20, L, v, W => v = .pointer (some ⟨g, i, none⟩)
  | 21, L, v, W => Ow tml T base A W (M.set i (chT s)) (.slice (some ⟨g, 0, none⟩) n c)
  | _, _, _, _ => True
theorem rgC_stays (w w0 : World) (A : Nat → Prop) (T : TypeId) (base b3 b4 g i n c bl ol nl cl br or nr cr : Nat) (M : List (List Tm)) (l m r s : List Tm) (ul um ur : Value) : StaysF (F_rgC w w0 A T base b3 b4 g i n c bl ol nl cl br or nr cr M l m r s ul um ur) 22 := by
  intro k hk L i v W W' hi hx h
  match k, h with
  | 0, h => exact h
  | 1, h => exact h
  | 2, h => exact h
  | 3, h => exact h
  | 4, h => exact h
  | 5, h => exact h
  | 6, h => exact h
  | 7, h => exact h
  | 8, h => exact h
  | 9, h => exact h
  | 10, h => exact h
  | 11, h => exact h
  | 12, h => exact h
  | 13, h => exact h
  | 14, h => exact h
  | 15, h => exact h
  | 16, h => exact h
  | 17, h => exact fun e => (by obtain ⟨q, h0, h1, h2, h3⟩ := h (upd_false e); exact ⟨q, h0, (Keeps.ext (A := noB) hx).cell id h1, (Keeps.ext (A := noB) hx).cell id h2, (Keeps.ext (A := noB) hx).cell id h3⟩)
  | 18, h => exact fun e => (h (upd_false e)).on hx
  | 19, h => exact fun e => (h (upd_false e)).on hx
  | 20, h => exact h
  | 21, h => exact Ow.on h hx
  | _ + 22, _ => exact trivial
set_option maxRecDepth 100000 in
set_option maxHeartbeats 4000000 in
theorem rgC_op0 (a0 : Act) (Q : Exit → Act → World → Prop) (w w0 : World) (A : Nat → Prop) (T : TypeId) (base b3 b4 g i n c bl ol nl cl br or nr cr : Nat) (M : List (List Tm)) (l m r s : List Tm) (ul um ur : Value) (v3 : V a0 3 = .pointer (some ⟨b3, 0, none⟩)) (v4 : V a0 4 = .pointer (some ⟨b4, 0, none⟩)) (v7 : V a0 7 = .int .i64 i) (v2 : V a0 2 = .slice (some ⟨bl, ol, none⟩) nl cl) (hw : Ext w w0) (hwg : w.heap.size ≤ g) (hA : ∀ b, A b → b < w0.heap.size) (h3 : w0.cell? ⟨b3, 4, none⟩ = some (.slice (some ⟨g, 0, none⟩) n c)) (h4 : w0.cell? ⟨b4, 7, none⟩ = some (.slice (some ⟨br, or, none⟩) nr cr)) (hb : b3 ≠ g ∧ b4 ≠ g) (hM : Ow tml T base A w0 M (.slice (some ⟨g, 0, none⟩) n c)) (hg : w0.cell? ⟨g, i, none⟩ = some ul) (hl : Rs tmE noB w0 l ul) (hcm : w0.cell? ⟨bl, ol + i, none⟩ = some um) (hm : Rs tmE noB w0 m um) (hcr : w0.cell? ⟨br, or + i, none⟩ = some ur) (hr : Rs tmE noB w0 r ur) (hi1 : i < n) (hi2 : i < nl) (hi3 : i < nr) (hn : Hid (n = M.length)) (hsm : Hid (l.length + m.length + r.length ≤ 1073741823)) (hs : Hid (l ++ m ++ r = s)) : StepF Try.prog Q ops_rgC a0 (fun (L : Nat → Bool) (W : World) => Ext w W ∧ Keeps (fun b => b = g) w0 W ∧ (L 21 = false → Ext w0 W)) (F_rgC w w0 A T base b3 b4 g i n c bl ol nl cl br or nr cr M l m r s ul um ur) 0 := by
  have ST : StaysF (F_rgC w w0 A T base b3 b4 g i n c bl ol nl cl br or nr cr M l m r s ul um ur) ops_rgC.size := by rw [rgC_size]; exact rgC_stays w w0 A T base b3 b4 g i n c bl ol nl cl br or nr cr M l m r s ul um ur
  have HI : ∀ (L : Nat → Bool) (i : Nat) (W W' : World), (Ext w W ∧ Keeps (fun b => b = g) w0 W ∧ (L 21 = false → Ext w0 W)) → Ext W W' → (Ext w W' ∧ Keeps (fun b => b = g) w0 W' ∧ (upd L i 21 = false → Ext w0 W')) := fun L i W W' h hx => ⟨h.1.trans hx, h.2.1.trans (Keeps.ext hx), fun e => (h.2.2 (upd_false e)).trans hx⟩
  have hgs : g < w0.heap.size := World.block_lt_of_cell? _ _ hg
  have j0 : (0 : Int) ≤ i := by omega
  have j1 : (i : Int) < n := by omega
  have j2 : (i : Int) < nl := by omega
  have j3 : (i : Int) < nr := by omega
  refine step_free fun o ho => ?_
  have ho' := ho
  cases ho'
  refine ⟨rfl, fun L a W hL hd hJ K hK => ?_⟩
  have f3 := hJ.old (t := 3) hL (by kernel_rfl) v3
  conv => arg 2; whnf
  go_simp
  exact hK _ _ (HI _ _ _ _ hJ.inv (Ext.refl _)) (hJ.frame ST hL (Ext.refl _)) rfl
set_option maxRecDepth 100000 in
set_option maxHeartbeats 4000000 in
theorem rgC_op1 (a0 : Act) (Q : Exit → Act → World → Prop) (w w0 : World) (A : Nat → Prop) (T : TypeId) (base b3 b4 g i n c bl ol nl cl br or nr cr : Nat) (M : List (List Tm)) (l m r s : List Tm) (ul um ur : Value) (v3 : V a0 3 = .pointer (some ⟨b3, 0, none⟩)) (v4 : V a0 4 = .pointer (some ⟨b4, 0, none⟩)) (v7 : V a0 7 = .int .i64 i) (v2 : V a0 2 = .slice (some ⟨bl, ol, none⟩) nl cl) (hw : Ext w w0) (hwg : w.heap.size ≤ g) (hA : ∀ b, A b → b < w0.heap.size) (h3 : w0.cell? ⟨b3, 4, none⟩ = some (.slice (some ⟨g, 0, none⟩) n c)) (h4 : w0.cell? ⟨b4, 7, none⟩ = some (.slice (some ⟨br, or, none⟩) nr cr)) (hb : b3 ≠ g ∧ b4 ≠ g) (hM : Ow tml T base A w0 M (.slice (some ⟨g, 0, none⟩) n c)) (hg : w0.cell? ⟨g, i, none⟩ = some ul) (hl : Rs tmE noB w0 l ul) (hcm : w0.cell? ⟨bl, ol + i, none⟩ = some um) (hm : Rs tmE noB w0 m um) (hcr : w0.cell? ⟨br, or + i, none⟩ = some ur) (hr : Rs tmE noB w0 r ur) (hi1 : i < n) (hi2 : i < nl) (hi3 : i < nr) (hn : Hid (n = M.length)) (hsm : Hid (l.length + m.length + r.length ≤ 1073741823)) (hs : Hid (l ++ m ++ r = s)) : StepF Try.prog Q ops_rgC a0 (fun (L : Nat → Bool) (W : World) => Ext w W ∧ Keeps (fun b => b = g) w0 W ∧ (L 21 = false → Ext w0 W)) (F_rgC w w0 A T base b3 b4 g i n c bl ol nl cl br or nr cr M l m r s ul um ur) 1 := by
  have ST : StaysF (F_rgC w w0 A T base b3 b4 g i n c bl ol nl cl br or nr cr M l m r s ul um ur) ops_rgC.size := by rw [rgC_size]; exact rgC_stays w w0 A T base b3 b4 g i n c bl ol nl cl br or nr cr M l m r s ul um ur
  have HI : ∀ (L : Nat → Bool) (i : Nat) (W W' : World), (Ext w W ∧ Keeps (fun b => b = g) w0 W ∧ (L 21 = false → Ext w0 W)) → Ext W W' → (Ext w W' ∧ Keeps (fun b => b = g) w0 W' ∧ (upd L i 21 = false → Ext w0 W')) := fun L i W W' h hx => ⟨h.1.trans hx, h.2.1.trans (Keeps.ext hx), fun e => (h.2.2 (upd_false e)).trans hx⟩
  have hgs : g < w0.heap.size := World.block_lt_of_cell? _ _ hg
  have j0 : (0 : Int) ≤ i := by omega
  have j1 : (i : Int) < n := by omega
  have j2 : (i : Int) < nl := by omega
  have j3 : (i : Int) < nr := by omega
  refine step_free fun o ho => ?_
  have ho' := ho
  cases ho'
  refine ⟨rfl, fun L a W hL hd hJ K hK => ?_⟩
  have f33 : a.tmps[33]?.getD undef = _ := hJ.dep ho hd (k := 0) (t := 33) (by kernel_rfl) (by kernel_rfl)
  have e := hJ.inv.2.1.cell (fun e => hb.1 e) h3
  conv => arg 2; whnf
  go_simp
  exact hK _ _ (HI _ _ _ _ hJ.inv (Ext.refl _)) (hJ.frame ST hL (Ext.refl _)) rfl
set_option maxRecDepth 100000 in
set_option maxHeartbeats 4000000 in
theorem rgC_op2 (a0 : Act) (Q : Exit → Act → World → Prop) (w w0 : World) (A : Nat → Prop) (T : TypeId) (base b3 b4 g i n c bl ol nl cl br or nr cr : Nat) (M : List (List Tm)) (l m r s : List Tm) (ul um ur : Value) (v3 : V a0 3 = .pointer (some ⟨b3, 0, none⟩)) (v4 : V a0 4 = .pointer (some ⟨b4, 0, none⟩)) (v7 : V a0 7 = .int .i64 i) (v2 : V a0 2 = .slice (some ⟨bl, ol, none⟩) nl cl) (hw : Ext w w0) (hwg : w.heap.size ≤ g) (hA : ∀ b, A b → b < w0.heap.size) (h3 : w0.cell? ⟨b3, 4, none⟩ = some (.slice (some ⟨g, 0, none⟩) n c)) (h4 : w0.cell? ⟨b4, 7, none⟩ = some (.slice (some ⟨br, or, none⟩) nr cr)) (hb : b3 ≠ g ∧ b4 ≠ g) (hM : Ow tml T base A w0 M (.slice (some ⟨g, 0, none⟩) n c)) (hg : w0.cell? ⟨g, i, none⟩ = some ul) (hl : Rs tmE noB w0 l ul) (hcm : w0.cell? ⟨bl, ol + i, none⟩ = some um) (hm : Rs tmE noB w0 m um) (hcr : w0.cell? ⟨br, or + i, none⟩ = some ur) (hr : Rs tmE noB w0 r ur) (hi1 : i < n) (hi2 : i < nl) (hi3 : i < nr) (hn : Hid (n = M.length)) (hsm : Hid (l.length + m.length + r.length ≤ 1073741823)) (hs : Hid (l ++ m ++ r = s)) : StepF Try.prog Q ops_rgC a0 (fun (L : Nat → Bool) (W : World) => Ext w W ∧ Keeps (fun b => b = g) w0 W ∧ (L 21 = false → Ext w0 W)) (F_rgC w w0 A T base b3 b4 g i n c bl ol nl cl br or nr cr M l m r s ul um ur) 2 := by
  have ST : StaysF (F_rgC w w0 A T base b3 b4 g i n c bl ol nl cl br or nr cr M l m r s ul um ur) ops_rgC.size := by rw [rgC_size]; exact rgC_stays w w0 A T base b3 b4 g i n c bl ol nl cl br or nr cr M l m r s ul um ur
  have HI : ∀ (L : Nat → Bool) (i : Nat) (W W' : World), (Ext w W ∧ Keeps (fun b => b = g) w0 W ∧ (L 21 = false → Ext w0 W)) → Ext W W' → (Ext w W' ∧ Keeps (fun b => b = g) w0 W' ∧ (upd L i 21 = false → Ext w0 W')) := fun L i W W' h hx => ⟨h.1.trans hx, h.2.1.trans (Keeps.ext hx), fun e => (h.2.2 (upd_false e)).trans hx⟩
  have hgs : g < w0.heap.size := World.block_lt_of_cell? _ _ hg
  have j0 : (0 : Int) ≤ i := by omega
  have j1 : (i : Int) < n := by omega
  have j2 : (i : Int) < nl := by omega
  have j3 : (i : Int) < nr := by omega
  refine step_free fun o ho => ?_
  have ho' := ho
  cases ho'
  refine ⟨rfl, fun L a W hL hd hJ K hK => ?_⟩
  have f7 := hJ.old (t := 7) hL (by kernel_rfl) v7
  conv => arg 2; whnf
  go_simp
  exact hK _ _ (HI _ _ _ _ hJ.inv (Ext.refl _)) (hJ.frame ST hL (Ext.refl _)) rfl
set_option maxRecDepth 100000 in
set_option maxHeartbeats 4000000 in
theorem rgC_op3 (a0 : Act) (Q : Exit → Act → World → Prop) (w w0 : World) (A : Nat → Prop) (T : TypeId) (base b3 b4 g i n c bl ol nl cl br or nr cr : Nat) (M : List (List Tm)) (l m r s : List Tm) (ul um ur : Value) (v3 : V a0 3 = .pointer (some ⟨b3, 0, none⟩)) (v4 : V a0 4 = .pointer (some ⟨b4, 0, none⟩)) (v7 : V a0 7 = .int .i64 i) (v2 : V a0 2 = .slice (some ⟨bl, ol, none⟩) nl cl) (hw : Ext w w0) (hwg : w.heap.size ≤ g) (hA : ∀ b, A b → b < w0.heap.size) (h3 : w0.cell? ⟨b3, 4, none⟩ = some (.slice (some ⟨g, 0, none⟩) n c)) (h4 : w0.cell? ⟨b4, 7, none⟩ = some (.slice (some ⟨br, or, none⟩) nr cr)) (hb : b3 ≠ g ∧ b4 ≠ g) (hM : Ow tml T base A w0 M (.slice (some ⟨g, 0, none⟩) n c)) (hg : w0.cell? ⟨g, i, none⟩ = some ul) (hl : Rs tmE noB w0 l ul) (hcm : w0.cell? ⟨bl, ol + i, none⟩ = some um) (hm : Rs tmE noB w0 m um) (hcr : w0.cell? ⟨br, or + i, none⟩ = some ur) (hr : Rs tmE noB w0 r ur) (hi1 : i < n) (hi2 : i < nl) (hi3 : i < nr) (hn : Hid (n = M.length)) (hsm : Hid (l.length + m.length + r.length ≤ 1073741823)) (hs : Hid (l ++ m ++ r = s)) : StepF Try.prog Q ops_rgC a0 (fun (L : Nat → Bool) (W : World) => Ext w W ∧ Keeps (fun b => b = g) w0 W ∧ (L 21 = false → Ext w0 W)) (F_rgC w w0 A T base b3 b4 g i n c bl ol nl cl br or nr cr M l m r s ul um ur) 3 := by
  have ST : StaysF (F_rgC w w0 A T base b3 b4 g i n c bl ol nl cl br or nr cr M l m r s ul um ur) ops_rgC.size := by rw [rgC_size]; exact rgC_stays w w0 A T base b3 b4 g i n c bl ol nl cl br or nr cr M l m r s ul um ur
  have HI : ∀ (L : Nat → Bool) (i : Nat) (W W' : World), (Ext w W ∧ Keeps (fun b => b = g) w0 W ∧ (L 21 = false → Ext w0 W)) → Ext W W' → (Ext w W' ∧ Keeps (fun b => b = g) w0 W' ∧ (upd L i 21 = false → Ext w0 W')) := fun L i W W' h hx => ⟨h.1.trans hx, h.2.1.trans (Keeps.ext hx), fun e => (h.2.2 (upd_false e)).trans hx⟩
  have hgs : g < w0.heap.size := World.block_lt_of_cell? _ _ hg
  have j0 : (0 : Int) ≤ i := by omega
  have j1 : (i : Int) < n := by omega
  have j2 : (i : Int) < nl := by omega
  have j3 : (i : Int) < nr := by omega
  refine step_free fun o ho => ?_
  have ho' := ho
  cases ho'
  refine ⟨rfl, fun L a W hL hd hJ K hK => ?_⟩
  have f3 := hJ.old (t := 3) hL (by kernel_rfl) v3
  conv => arg 2; whnf
  go_simp
  exact hK _ _ (HI _ _ _ _ hJ.inv (Ext.refl _)) (hJ.frame ST hL (Ext.refl _)) rfl
set_option maxRecDepth 100000 in
set_option maxHeartbeats 4000000 in
theorem rgC_op4 (a0 : Act) (Q : Exit → Act → World → Prop) (w w0 : World) (A : Nat → Prop) (T : TypeId) (base b3 b4 g i n c bl ol nl cl br or nr cr : Nat) (M : List (List Tm)) (l m r s : List Tm) (ul um ur : Value) (v3 : V a0 3 = .pointer (some ⟨b3, 0, none⟩)) (v4 : V a0 4 = .pointer (some ⟨b4, 0, none⟩)) (v7 : V a0 7 = .int .i64 i) (v2 : V a0 2 = .slice (some ⟨bl, ol, none⟩) nl cl) (hw : Ext w w0) (hwg : w.heap.size ≤ g) (hA : ∀ b, A b → b < w0.heap.size) (h3 : w0.cell? ⟨b3, 4, none⟩ = some (.slice (some ⟨g, 0, none⟩) n c)) (h4 : w0.cell? ⟨b4, 7, none⟩ = some (.slice (some ⟨br, or, none⟩) nr cr)) (hb : b3 ≠ g ∧ b4 ≠ g) (hM : Ow tml T base A w0 M (.slice (some ⟨g, 0, none⟩) n c)) (hg : w0.cell? ⟨g, i, none⟩ = some ul) (hl : Rs tmE noB w0 l ul) (hcm : w0.cell? ⟨bl, ol + i, none⟩ = some um) (hm : Rs tmE noB w0 m um) (hcr : w0.cell? ⟨br, or + i, none⟩ = some ur) (hr : Rs tmE noB w0 r ur) (hi1 : i < n) (hi2 : i < nl) (hi3 : i < nr) (hn : Hid (n = M.length)) (hsm : Hid (l.length + m.length + r.length ≤ 1073741823)) (hs : Hid (l ++ m ++ r = s)) : StepF Try.prog Q ops_rgC a0 (fun (L : Nat → Bool) (W : World) => Ext w W ∧ Keeps (fun b => b = g) w0 W ∧ (L 21 = false → Ext w0 W)) (F_rgC w w0 A T base b3 b4 g i n c bl ol nl cl br or nr cr M l m r s ul um ur) 4 := by
  have ST : StaysF (F_rgC w w0 A T base b3 b4 g i n c bl ol nl cl br or nr cr M l m r s ul um ur) ops_rgC.size := by rw [rgC_size]; exact rgC_stays w w0 A T base b3 b4 g i n c bl ol nl cl br or nr cr M l m r s ul um ur
  have HI : ∀ (L : Nat → Bool) (i : Nat) (W W' : World), (Ext w W ∧ Keeps (fun b => b = g) w0 W ∧ (L 21 = false → Ext w0 W)) → Ext W W' → (Ext w W' ∧ Keeps (fun b => b = g) w0 W' ∧ (upd L i 21 = false → Ext w0 W')) := fun L i W W' h hx => ⟨h.1.trans hx, h.2.1.trans (Keeps.ext hx), fun e => (h.2.2 (upd_false e)).trans hx⟩
  have hgs : g < w0.heap.size := World.block_lt_of_cell? _ _ hg
  have j0 : (0 : Int) ≤ i := by omega
  have j1 : (i : Int) < n := by omega
  have j2 : (i : Int) < nl := by omega
  have j3 : (i : Int) < nr := by omega
  refine step_free fun o ho => ?_
  have ho' := ho
  cases ho'
  refine ⟨rfl, fun L a W hL hd hJ K hK => ?_⟩
  have f36 : a.tmps[36]?.getD undef = _ := hJ.dep ho hd (k := 3) (t := 36) (by kernel_rfl) (by kernel_rfl)
  have e := hJ.inv.2.1.cell (fun e => hb.1 e) h3
  conv => arg 2; whnf
  go_simp
  exact hK _ _ (HI _ _ _ _ hJ.inv (Ext.refl _)) (hJ.frame ST hL (Ext.refl _)) rfl
set_option maxRecDepth 100000 in
set_option maxHeartbeats 4000000 in
theorem rgC_op5 (a0 : Act) (Q : Exit → Act → World → Prop) (w w0 : World) (A : Nat → Prop) (T : TypeId) (base b3 b4 g i n c bl ol nl cl br or nr cr : Nat) (M : List (List Tm)) (l m r s : List Tm) (ul um ur : Value) (v3 : V a0 3 = .pointer (some ⟨b3, 0, none⟩)) (v4 : V a0 4 = .pointer (some ⟨b4, 0, none⟩)) (v7 : V a0 7 = .int .i64 i) (v2 : V a0 2 = .slice (some ⟨bl, ol, none⟩) nl cl) (hw : Ext w w0) (hwg : w.heap.size ≤ g) (hA : ∀ b, A b → b < w0.heap.size) (h3 : w0.cell? ⟨b3, 4, none⟩ = some (.slice (some ⟨g, 0, none⟩) n c)) (h4 : w0.cell? ⟨b4, 7, none⟩ = some (.slice (some ⟨br, or, none⟩) nr cr)) (hb : b3 ≠ g ∧ b4 ≠ g) (hM : Ow tml T base A w0 M (.slice (some ⟨g, 0, none⟩) n c)) (hg : w0.cell? ⟨g, i, none⟩ = some ul) (hl : Rs tmE noB w0 l ul) (hcm : w0.cell? ⟨bl, ol + i, none⟩ = some um) (hm : Rs tmE noB w0 m um) (hcr : w0.cell? ⟨br, or + i, none⟩ = some ur) (hr : Rs tmE noB w0 r ur) (hi1 : i < n) (hi2 : i < nl) (hi3 : i < nr) (hn : Hid (n = M.length)) (hsm : Hid (l.length + m.length + r.length ≤ 1073741823)) (hs : Hid (l ++ m ++ r = s)) : StepF Try.prog Q ops_rgC a0 (fun (L : Nat → Bool) (W : World) => Ext w W ∧ Keeps (fun b => b = g) w0 W ∧ (L 21 = false → Ext w0 W)) (F_rgC w w0 A T base b3 b4 g i n c bl ol nl cl br or nr cr M l m r s ul um ur) 5 := by
  have ST : StaysF (F_rgC w w0 A T base b3 b4 g i n c bl ol nl cl br or nr cr M l m r s ul um ur) ops_rgC.size := by rw [rgC_size]; exact rgC_stays w w0 A T base b3 b4 g i n c bl ol nl cl br or nr cr M l m r s ul um ur
  have HI : ∀ (L : Nat → Bool) (i : Nat) (W W' : World), (Ext w W ∧ Keeps (fun b => b = g) w0 W ∧ (L 21 = false → Ext w0 W)) → Ext W W' → (Ext w W' ∧ Keeps (fun b => b = g) w0 W' ∧ (upd L i 21 = false → Ext w0 W')) := fun L i W W' h hx => ⟨h.1.trans hx, h.2.1.trans (Keeps.ext hx), fun e => (h.2.2 (upd_false e)).trans hx⟩
  have hgs : g < w0.heap.size := World.block_lt_of_cell? _ _ hg
  have j0 : (0 : Int) ≤ i := by omega
  have j1 : (i : Int) < n := by omega
  have j2 : (i : Int) < nl := by omega
  have j3 : (i : Int) < nr := by omega
  refine step_free fun o ho => ?_
  have ho' := ho
  cases ho'
  refine ⟨rfl, fun L a W hL hd hJ K hK => ?_⟩
  have f7 := hJ.old (t := 7) hL (by kernel_rfl) v7
  conv => arg 2; whnf
  go_simp
  exact hK _ _ (HI _ _ _ _ hJ.inv (Ext.refl _)) (hJ.frame ST hL (Ext.refl _)) rfl
set_option maxRecDepth 100000 in
set_option maxHeartbeats 4000000 in
theorem rgC_op6 (a0 : Act) (Q : Exit → Act → World → Prop) (w w0 : World) (A : Nat → Prop) (T : TypeId) (base b3 b4 g i n c bl ol nl cl br or nr cr : Nat) (M : List (List Tm)) (l m r s : List Tm) (ul um ur : Value) (v3 : V a0 3 = .pointer (some ⟨b3, 0, none⟩)) (v4 : V a0 4 = .pointer (some ⟨b4, 0, none⟩)) (v7 : V a0 7 = .int .i64 i) (v2 : V a0 2 = .slice (some ⟨bl, ol, none⟩) nl cl) (hw : Ext w w0) (hwg : w.heap.size ≤ g) (hA : ∀ b, A b → b < w0.heap.size) (h3 : w0.cell? ⟨b3, 4, none⟩ = some (.slice (some ⟨g, 0, none⟩) n c)) (h4 : w0.cell? ⟨b4, 7, none⟩ = some (.slice (some ⟨br, or, none⟩) nr cr)) (hb : b3 ≠ g ∧ b4 ≠ g) (hM : Ow tml T base A w0 M (.slice (some ⟨g, 0, none⟩) n c)) (hg : w0.cell? ⟨g, i, none⟩ = some ul) (hl : Rs tmE noB w0 l ul) (hcm : w0.cell? ⟨bl, ol + i, none⟩ = some um) (hm : Rs tmE noB w0 m um) (hcr : w0.cell? ⟨br, or + i, none⟩ = some ur) (hr : Rs tmE noB w0 r ur) (hi1 : i < n) (hi2 : i < nl) (hi3 : i < nr) (hn : Hid (n = M.length)) (hsm : Hid (l.length + m.length + r.length ≤ 1073741823)) (hs : Hid (l ++ m ++ r = s)) : StepF Try.prog Q ops_rgC a0 (fun (L : Nat → Bool) (W : World) => Ext w W ∧ Keeps (fun b => b = g) w0 W ∧ (L 21 = false → Ext w0 W)) (F_rgC w w0 A T base b3 b4 g i n c bl ol nl cl br or nr cr M l m r s ul um ur) 6 := by
  have ST : StaysF (F_rgC w w0 A T base b3 b4 g i n c bl ol nl cl br or nr cr M l m r s ul um ur) ops_rgC.size := by rw [rgC_size]; exact rgC_stays w w0 A T base b3 b4 g i n c bl ol nl cl br or nr cr M l m r s ul um ur
  have HI : ∀ (L : Nat → Bool) (i : Nat) (W W' : World), (Ext w W ∧ Keeps (fun b => b = g) w0 W ∧ (L 21 = false → Ext w0 W)) → Ext W W' → (Ext w W' ∧ Keeps (fun b => b = g) w0 W' ∧ (upd L i 21 = false → Ext w0 W')) := fun L i W W' h hx => ⟨h.1.trans hx, h.2.1.trans (Keeps.ext hx), fun e => (h.2.2 (upd_false e)).trans hx⟩
  have hgs : g < w0.heap.size := World.block_lt_of_cell? _ _ hg
  have j0 : (0 : Int) ≤ i := by omega
  have j1 : (i : Int) < n := by omega
  have j2 : (i : Int) < nl := by omega
  have j3 : (i : Int) < nr := by omega
  refine step_free fun o ho => ?_
  have ho' := ho
  cases ho'
  refine ⟨rfl, fun L a W hL hd hJ K hK => ?_⟩
  have f37 : a.tmps[37]?.getD undef = _ := hJ.dep ho hd (k := 4) (t := 37) (by kernel_rfl) (by kernel_rfl)
  have f38 : a.tmps[38]?.getD undef = _ := hJ.dep ho hd (k := 5) (t := 38) (by kernel_rfl) (by kernel_rfl)
  conv => arg 2; whnf
  go_simp
  exact hK _ _ (HI _ _ _ _ hJ.inv (Ext.refl _)) (hJ.frame ST hL (Ext.refl _)) rfl
set_option maxRecDepth 100000 in
set_option maxHeartbeats 4000000 in
theorem rgC_op7 (a0 : Act) (Q : Exit → Act → World → Prop) (w w0 : World) (A : Nat → Prop) (T : TypeId) (base b3 b4 g i n c bl ol nl cl br or nr cr : Nat) (M : List (List Tm)) (l m r s : List Tm) (ul um ur : Value) (v3 : V a0 3 = .pointer (some ⟨b3, 0, none⟩)) (v4 : V a0 4 = .pointer (some ⟨b4, 0, none⟩)) (v7 : V a0 7 = .int .i64 i) (v2 : V a0 2 = .slice (some ⟨bl, ol, none⟩) nl cl) (hw : Ext w w0) (hwg : w.heap.size ≤ g) (hA : ∀ b, A b → b < w0.heap.size) (h3 : w0.cell? ⟨b3, 4, none⟩ = some (.slice (some ⟨g, 0, none⟩) n c)) (h4 : w0.cell? ⟨b4, 7, none⟩ = some (.slice (some ⟨br, or, none⟩) nr cr)) (hb : b3 ≠ g ∧ b4 ≠ g) (hM : Ow tml T base A w0 M (.slice (some ⟨g, 0, none⟩) n c)) (hg : w0.cell? ⟨g, i, none⟩ = some ul) (hl : Rs tmE noB w0 l ul) (hcm : w0.cell? ⟨bl, ol + i, none⟩ = some um) (hm : Rs tmE noB w0 m um) (hcr : w0.cell? ⟨br, or + i, none⟩ = some ur) (hr : Rs tmE noB w0 r ur) (hi1 : i < n) (hi2 : i < nl) (hi3 : i < nr) (hn : Hid (n = M.length)) (hsm : Hid (l.length + m.length + r.length ≤ 1073741823)) (hs : Hid (l ++ m ++ r = s)) : StepF Try.prog Q ops_rgC a0 (fun (L : Nat → Bool) (W : World) => Ext w W ∧ Keeps (fun b => b = g) w0 W ∧ (L 21 = false → Ext w0 W)) (F_rgC w w0 A T base b3 b4 g i n c bl ol nl cl br or nr cr M l m r s ul um ur) 7 := by
  have ST : StaysF (F_rgC w w0 A T base b3 b4 g i n c bl ol nl cl br or nr cr M l m r s ul um ur) ops_rgC.size := by rw [rgC_size]; exact rgC_stays w w0 A T base b3 b4 g i n c bl ol nl cl br or nr cr M l m r s ul um ur
  have HI : ∀ (L : Nat → Bool) (i : Nat) (W W' : World), (Ext w W ∧ Keeps (fun b => b = g) w0 W ∧ (L 21 = false → Ext w0 W)) → Ext W W' → (Ext w W' ∧ Keeps (fun b => b = g) w0 W' ∧ (upd L i 21 = false → Ext w0 W')) := fun L i W W' h hx => ⟨h.1.trans hx, h.2.1.trans (Keeps.ext hx), fun e => (h.2.2 (upd_false e)).trans hx⟩
  have hgs : g < w0.heap.size := World.block_lt_of_cell? _ _ hg
  have j0 : (0 : Int) ≤ i := by omega
  have j1 : (i : Int) < n := by omega
  have j2 : (i : Int) < nl := by omega
  have j3 : (i : Int) < nr := by omega
  refine step_free fun o ho => ?_
  have ho' := ho
  cases ho'
  refine ⟨rfl, fun L a W hL hd hJ K hK => ?_⟩
  have f39 : a.tmps[39]?.getD undef = _ := hJ.dep ho hd (k := 6) (t := 39) (by kernel_rfl) (by kernel_rfl)
  have h21 : L 21 = false := Bool.eq_false_iff.2 (fun h => by rw [hJ.anc 12 7 21 (by kernel_rfl) h] at hL; cases hL)
  have e := (Keeps.ext (A := noB) (hJ.inv.2.2 h21)).cell id hg
  conv => arg 2; whnf
  go_simp
  exact hK _ _ (HI _ _ _ _ hJ.inv (Ext.refl _)) (hJ.frame ST hL (Ext.refl _)) rfl
set_option maxRecDepth 100000 in
set_option maxHeartbeats 4000000 in
theorem rgC_op8 (a0 : Act) (Q : Exit → Act → World → Prop) (w w0 : World) (A : Nat → Prop) (T : TypeId) (base b3 b4 g i n c bl ol nl cl br or nr cr : Nat) (M : List (List Tm)) (l m r s : List Tm) (ul um ur : Value) (v3 : V a0 3 = .pointer (some ⟨b3, 0, none⟩)) (v4 : V a0 4 = .pointer (some ⟨b4, 0, none⟩)) (v7 : V a0 7 = .int .i64 i) (v2 : V a0 2 = .slice (some ⟨bl, ol, none⟩) nl cl) (hw : Ext w w0) (hwg : w.heap.size ≤ g) (hA : ∀ b, A b → b < w0.heap.size) (h3 : w0.cell? ⟨b3, 4, none⟩ = some (.slice (some ⟨g, 0, none⟩) n c)) (h4 : w0.cell? ⟨b4, 7, none⟩ = some (.slice (some ⟨br, or, none⟩) nr cr)) (hb : b3 ≠ g ∧ b4 ≠ g) (hM : Ow tml T base A w0 M (.slice (some ⟨g, 0, none⟩) n c)) (hg : w0.cell? ⟨g, i, none⟩ = some ul) (hl : Rs tmE noB w0 l ul) (hcm : w0.cell? ⟨bl, ol + i, none⟩ = some um) (hm : Rs tmE noB w0 m um) (hcr : w0.cell? ⟨br, or + i, none⟩ = some ur) (hr : Rs tmE noB w0 r ur) (hi1 : i < n) (hi2 : i < nl) (hi3 : i < nr) (hn : Hid (n = M.length)) (hsm : Hid (l.length + m.length + r.length ≤ 1073741823)) (hs : Hid (l ++ m ++ r = s)) : StepF Try.prog Q ops_rgC a0 (fun (L : Nat → Bool) (W : World) => Ext w W ∧ Keeps (fun b => b = g) w0 W ∧ (L 21 = false → Ext w0 W)) (F_rgC w w0 A T base b3 b4 g i n c bl ol nl cl br or nr cr M l m r s ul um ur) 8 := by
  have ST : StaysF (F_rgC w w0 A T base b3 b4 g i n c bl ol nl cl br or nr cr M l m r s ul um ur) ops_rgC.size := by rw [rgC_size]; exact rgC_stays w w0 A T base b3 b4 g i n c bl ol nl cl br or nr cr M l m r s ul um ur
  have HI : ∀ (L : Nat → Bool) (i : Nat) (W W' : World), (Ext w W ∧ Keeps (fun b => b = g) w0 W ∧ (L 21 = false → Ext w0 W)) → Ext W W' → (Ext w W' ∧ Keeps (fun b => b = g) w0 W' ∧ (upd L i 21 = false → Ext w0 W')) := fun L i W W' h hx => ⟨h.1.trans hx, h.2.1.trans (Keeps.ext hx), fun e => (h.2.2 (upd_false e)).trans hx⟩
  have hgs : g < w0.heap.size := World.block_lt_of_cell? _ _ hg
  have j0 : (0 : Int) ≤ i := by omega
  have j1 : (i : Int) < n := by omega
  have j2 : (i : Int) < nl := by omega
  have j3 : (i : Int) < nr := by omega
  refine step_free fun o ho => ?_
  have ho' := ho
  cases ho'
  refine ⟨rfl, fun L a W hL hd hJ K hK => ?_⟩
  have f2 := hJ.old (t := 2) hL (by kernel_rfl) v2
  conv => arg 2; whnf
  go_simp
  exact hK _ _ (HI _ _ _ _ hJ.inv (Ext.refl _)) (hJ.frame ST hL (Ext.refl _)) rfl
set_option maxRecDepth 100000 in
set_option maxHeartbeats 4000000 in
theorem rgC_op9 (a0 : Act) (Q : Exit → Act → World → Prop) (w w0 : World) (A : Nat → Prop) (T : TypeId) (base b3 b4 g i n c bl ol nl cl br or nr cr : Nat) (M : List (List Tm)) (l m r s : List Tm) (ul um ur : Value) (v3 : V a0 3 = .pointer (some ⟨b3, 0, none⟩)) (v4 : V a0 4 = .pointer (some ⟨b4, 0, none⟩)) (v7 : V a0 7 = .int .i64 i) (v2 : V a0 2 = .slice (some ⟨bl, ol, none⟩) nl cl) (hw : Ext w w0) (hwg : w.heap.size ≤ g) (hA : ∀ b, A b → b < w0.heap.size) (h3 : w0.cell? ⟨b3, 4, none⟩ = some (.slice (some ⟨g, 0, none⟩) n c)) (h4 : w0.cell? ⟨b4, 7, none⟩ = some (.slice (some ⟨br, or, none⟩) nr cr)) (hb : b3 ≠ g ∧ b4 ≠ g) (hM : Ow tml T base A w0 M (.slice (some ⟨g, 0, none⟩) n c)) (hg : w0.cell? ⟨g, i, none⟩ = some ul) (hl : Rs tmE noB w0 l ul) (hcm : w0.cell? ⟨bl, ol + i, none⟩ = some um) (hm : Rs tmE noB w0 m um) (hcr : w0.cell? ⟨br, or + i, none⟩ = some ur) (hr : Rs tmE noB w0 r ur) (hi1 : i < n) (hi2 : i < nl) (hi3 : i < nr) (hn : Hid (n = M.length)) (hsm : Hid (l.length + m.length + r.length ≤ 1073741823)) (hs : Hid (l ++ m ++ r = s)) : StepF Try.prog Q ops_rgC a0 (fun (L : Nat → Bool) (W : World) => Ext w W ∧ Keeps (fun b => b = g) w0 W ∧ (L 21 = false → Ext w0 W)) (F_rgC w w0 A T base b3 b4 g i n c bl ol nl cl br or nr cr M l m r s ul um ur) 9 := by
  have ST : StaysF (F_rgC w w0 A T base b3 b4 g i n c bl ol nl cl br or nr cr M l m r s ul um ur) ops_rgC.size := by rw [rgC_size]; exact rgC_stays w w0 A T base b3 b4 g i n c bl ol nl cl br or nr cr M l m r s ul um ur
  have HI : ∀ (L : Nat → Bool) (i : Nat) (W W' : World), (Ext w W ∧ Keeps (fun b => b = g) w0 W ∧ (L 21 = false → Ext w0 W)) → Ext W W' → (Ext w W' ∧ Keeps (fun b => b = g) w0 W' ∧ (upd L i 21 = false → Ext w0 W')) := fun L i W W' h hx => ⟨h.1.trans hx, h.2.1.trans (Keeps.ext hx), fun e => (h.2.2 (upd_false e)).trans hx⟩
  have hgs : g < w0.heap.size := World.block_lt_of_cell? _ _ hg
  have j0 : (0 : Int) ≤ i := by omega
  have j1 : (i : Int) < n := by omega
  have j2 : (i : Int) < nl := by omega
  have j3 : (i : Int) < nr := by omega
  refine step_free fun o ho => ?_
  have ho' := ho
  cases ho'
  refine ⟨rfl, fun L a W hL hd hJ K hK => ?_⟩
  have f7 := hJ.old (t := 7) hL (by kernel_rfl) v7
  conv => arg 2; whnf
  go_simp
  exact hK _ _ (HI _ _ _ _ hJ.inv (Ext.refl _)) (hJ.frame ST hL (Ext.refl _)) rfl
set_option maxRecDepth 100000 in
set_option maxHeartbeats 4000000 in
theorem rgC_op10 (a0 : Act) (Q : Exit → Act → World → Prop) (w w0 : World) (A : Nat → Prop) (T : TypeId) (base b3 b4 g i n c bl ol nl cl br or nr cr : Nat) (M : List (List Tm)) (l m r s : List Tm) (ul um ur : Value) (v3 : V a0 3 = .pointer (some ⟨b3, 0, none⟩)) (v4 : V a0 4 = .pointer (some ⟨b4, 0, none⟩)) (v7 : V a0 7 = .int .i64 i) (v2 : V a0 2 = .slice (some ⟨bl, ol, none⟩) nl cl) (hw : Ext w w0) (hwg : w.heap.size ≤ g) (hA : ∀ b, A b → b < w0.heap.size) (h3 : w0.cell? ⟨b3, 4, none⟩ = some (.slice (some ⟨g, 0, none⟩) n c)) (h4 : w0.cell? ⟨b4, 7, none⟩ = some (.slice (some ⟨br, or, none⟩) nr cr)) (hb : b3 ≠ g ∧ b4 ≠ g) (hM : Ow tml T base A w0 M (.slice (some ⟨g, 0, none⟩) n c)) (hg : w0.cell? ⟨g, i, none⟩ = some ul) (hl : Rs tmE noB w0 l ul) (hcm : w0.cell? ⟨bl, ol + i, none⟩ = some um) (hm : Rs tmE noB w0 m um) (hcr : w0.cell? ⟨br, or + i, none⟩ = some ur) (hr : Rs tmE noB w0 r ur) (hi1 : i < n) (hi2 : i < nl) (hi3 : i < nr) (hn : Hid (n = M.length)) (hsm : Hid (l.length + m.length + r.length ≤ 1073741823)) (hs : Hid (l ++ m ++ r = s)) : StepF Try.prog Q ops_rgC a0 (fun (L : Nat → Bool) (W : World) => Ext w W ∧ Keeps (fun b => b = g) w0 W ∧ (L 21 = false → Ext w0 W)) (F_rgC w w0 A T base b3 b4 g i n c bl ol nl cl br or nr cr M l m r s ul um ur) 10 := by
  have ST : StaysF (F_rgC w w0 A T base b3 b4 g i n c bl ol nl cl br or nr cr M l m r s ul um ur) ops_rgC.size := by rw [rgC_size]; exact rgC_stays w w0 A T base b3 b4 g i n c bl ol nl cl br or nr cr M l m r s ul um ur
  have HI : ∀ (L : Nat → Bool) (i : Nat) (W W' : World), (Ext w W ∧ Keeps (fun b => b = g) w0 W ∧ (L 21 = false → Ext w0 W)) → Ext W W' → (Ext w W' ∧ Keeps (fun b => b = g) w0 W' ∧ (upd L i 21 = false → Ext w0 W')) := fun L i W W' h hx => ⟨h.1.trans hx, h.2.1.trans (Keeps.ext hx), fun e => (h.2.2 (upd_false e)).trans hx⟩
  have hgs : g < w0.heap.size := World.block_lt_of_cell? _ _ hg
  have j0 : (0 : Int) ≤ i := by omega
  have j1 : (i : Int) < n := by omega
  have j2 : (i : Int) < nl := by omega
  have j3 : (i : Int) < nr := by omega
  refine step_free fun o ho => ?_
  have ho' := ho
  cases ho'
  refine ⟨rfl, fun L a W hL hd hJ K hK => ?_⟩
  have f41 : a.tmps[41]?.getD undef = _ := hJ.dep ho hd (k := 8) (t := 41) (by kernel_rfl) (by kernel_rfl)
  have f42 : a.tmps[42]?.getD undef = _ := hJ.dep ho hd (k := 9) (t := 42) (by kernel_rfl) (by kernel_rfl)
  conv => arg 2; whnf
  go_simp
  exact hK _ _ (HI _ _ _ _ hJ.inv (Ext.refl _)) (hJ.frame ST hL (Ext.refl _)) rfl
set_option maxRecDepth 100000 in
set_option maxHeartbeats 4000000 in
theorem rgC_op11 (a0 : Act) (Q : Exit → Act → World → Prop) (w w0 : World) (A : Nat → Prop) (T : TypeId) (base b3 b4 g i n c bl ol nl cl br or nr cr : Nat) (M : List (List Tm)) (l m r s : List Tm) (ul um ur : Value) (v3 : V a0 3 = .pointer (some ⟨b3, 0, none⟩)) (v4 : V a0 4 = .pointer (some ⟨b4, 0, none⟩)) (v7 : V a0 7 = .int .i64 i) (v2 : V a0 2 = .slice (some ⟨bl, ol, none⟩) nl cl) (hw : Ext w w0) (hwg : w.heap.size ≤ g) (hA : ∀ b, A b → b < w0.heap.size) (h3 : w0.cell? ⟨b3, 4, none⟩ = some (.slice (some ⟨g, 0, none⟩) n c)) (h4 : w0.cell? ⟨b4, 7, none⟩ = some (.slice (some ⟨br, or, none⟩) nr cr)) (hb : b3 ≠ g ∧ b4 ≠ g) (hM : Ow tml T base A w0 M (.slice (some ⟨g, 0, none⟩) n c)) (hg : w0.cell? ⟨g, i, none⟩ = some ul) (hl : Rs tmE noB w0 l ul) (hcm : w0.cell? ⟨bl, ol + i, none⟩ = some um) (hm : Rs tmE noB w0 m um) (hcr : w0.cell? ⟨br, or + i, none⟩ = some ur) (hr : Rs tmE noB w0 r ur) (hi1 : i < n) (hi2 : i < nl) (hi3 : i < nr) (hn : Hid (n = M.length)) (hsm : Hid (l.length + m.length + r.length ≤ 1073741823)) (hs : Hid (l ++ m ++ r = s)) : StepF Try.prog Q ops_rgC a0 (fun (L : Nat → Bool) (W : World) => Ext w W ∧ Keeps (fun b => b = g) w0 W ∧ (L 21 = false → Ext w0 W)) (F_rgC w w0 A T base b3 b4 g i n c bl ol nl cl br or nr cr M l m r s ul um ur) 11 := by
  have ST : StaysF (F_rgC w w0 A T base b3 b4 g i n c bl ol nl cl br or nr cr M l m r s ul um ur) ops_rgC.size := by rw [rgC_size]; exact rgC_stays w w0 A T base b3 b4 g i n c bl ol nl cl br or nr cr M l m r s ul um ur
  have HI : ∀ (L : Nat → Bool) (i : Nat) (W W' : World), (Ext w W ∧ Keeps (fun b => b = g) w0 W ∧ (L 21 = false → Ext w0 W)) → Ext W W' → (Ext w W' ∧ Keeps (fun b => b = g) w0 W' ∧ (upd L i 21 = false → Ext w0 W')) := fun L i W W' h hx => ⟨h.1.trans hx, h.2.1.trans (Keeps.ext hx), fun e => (h.2.2 (upd_false e)).trans hx⟩
  have hgs : g < w0.heap.size := World.block_lt_of_cell? _ _ hg
  have j0 : (0 : Int) ≤ i := by omega
  have j1 : (i : Int) < n := by omega
  have j2 : (i : Int) < nl := by omega
  have j3 : (i : Int) < nr := by omega
  refine step_free fun o ho => ?_
  have ho' := ho
  cases ho'
  refine ⟨rfl, fun L a W hL hd hJ K hK => ?_⟩
  have f43 : a.tmps[43]?.getD undef = _ := hJ.dep ho hd (k := 10) (t := 43) (by kernel_rfl) (by kernel_rfl)
  have h21 : L 21 = false := Bool.eq_false_iff.2 (fun h => by rw [hJ.anc 12 11 21 (by kernel_rfl) h] at hL; cases hL)
  have e := (Keeps.ext (A := noB) (hJ.inv.2.2 h21)).cell id hcm
  conv => arg 2; whnf
  go_simp
  exact hK _ _ (HI _ _ _ _ hJ.inv (Ext.refl _)) (hJ.frame ST hL (Ext.refl _)) rfl
set_option maxRecDepth 100000 in
set_option maxHeartbeats 4000000 in
theorem rgC_op12 (a0 : Act) (Q : Exit → Act → World → Prop) (w w0 : World) (A : Nat → Prop) (T : TypeId) (base b3 b4 g i n c bl ol nl cl br or nr cr : Nat) (M : List (List Tm)) (l m r s : List Tm) (ul um ur : Value) (v3 : V a0 3 = .pointer (some ⟨b3, 0, none⟩)) (v4 : V a0 4 = .pointer (some ⟨b4, 0, none⟩)) (v7 : V a0 7 = .int .i64 i) (v2 : V a0 2 = .slice (some ⟨bl, ol, none⟩) nl cl) (hw : Ext w w0) (hwg : w.heap.size ≤ g) (hA : ∀ b, A b → b < w0.heap.size) (h3 : w0.cell? ⟨b3, 4, none⟩ = some (.slice (some ⟨g, 0, none⟩) n c)) (h4 : w0.cell? ⟨b4, 7, none⟩ = some (.slice (some ⟨br, or, none⟩) nr cr)) (hb : b3 ≠ g ∧ b4 ≠ g) (hM : Ow tml T base A w0 M (.slice (some ⟨g, 0, none⟩) n c)) (hg : w0.cell? ⟨g, i, none⟩ = some ul) (hl : Rs tmE noB w0 l ul) (hcm : w0.cell? ⟨bl, ol + i, none⟩ = some um) (hm : Rs tmE noB w0 m um) (hcr : w0.cell? ⟨br, or + i, none⟩ = some ur) (hr : Rs tmE noB w0 r ur) (hi1 : i < n) (hi2 : i < nl) (hi3 : i < nr) (hn : Hid (n = M.length)) (hsm : Hid (l.length + m.length + r.length ≤ 1073741823)) (hs : Hid (l ++ m ++ r = s)) : StepF Try.prog Q ops_rgC a0 (fun (L : Nat → Bool) (W : World) => Ext w W ∧ Keeps (fun b => b = g) w0 W ∧ (L 21 = false → Ext w0 W)) (F_rgC w w0 A T base b3 b4 g i n c bl ol nl cl br or nr cr M l m r s ul um ur) 12 := by
  have ST : StaysF (F_rgC w w0 A T base b3 b4 g i n c bl ol nl cl br or nr cr M l m r s ul um ur) ops_rgC.size := by rw [rgC_size]; exact rgC_stays w w0 A T base b3 b4 g i n c bl ol nl cl br or nr cr M l m r s ul um ur
  have HI : ∀ (L : Nat → Bool) (i : Nat) (W W' : World), (Ext w W ∧ Keeps (fun b => b = g) w0 W ∧ (L 21 = false → Ext w0 W)) → Ext W W' → (Ext w W' ∧ Keeps (fun b => b = g) w0 W' ∧ (upd L i 21 = false → Ext w0 W')) := fun L i W W' h hx => ⟨h.1.trans hx, h.2.1.trans (Keeps.ext hx), fun e => (h.2.2 (upd_false e)).trans hx⟩
  have hgs : g < w0.heap.size := World.block_lt_of_cell? _ _ hg
  have j0 : (0 : Int) ≤ i := by omega
  have j1 : (i : Int) < n := by omega
  have j2 : (i : Int) < nl := by omega
  have j3 : (i : Int) < nr := by omega
  refine step_free fun o ho => ?_
  have ho' := ho
  cases ho'
  refine ⟨rfl, fun L a W hL hd hJ K hK => ?_⟩
  have f4 := hJ.old (t := 4) hL (by kernel_rfl) v4
  conv => arg 2; whnf
  go_simp
  exact hK _ _ (HI _ _ _ _ hJ.inv (Ext.refl _)) (hJ.frame ST hL (Ext.refl _)) rfl
set_option maxRecDepth 100000 in
set_option maxHeartbeats 4000000 in
theorem rgC_op13 (a0 : Act) (Q : Exit → Act → World → Prop) (w w0 : World) (A : Nat → Prop) (T : TypeId) (base b3 b4 g i n c bl ol nl cl br or nr cr : Nat) (M : List (List Tm)) (l m r s : List Tm) (ul um ur : Value) (v3 : V a0 3 = .pointer (some ⟨b3, 0, none⟩)) (v4 : V a0 4 = .pointer (some ⟨b4, 0, none⟩)) (v7 : V a0 7 = .int .i64 i) (v2 : V a0 2 = .slice (some ⟨bl, ol, none⟩) nl cl) (hw : Ext w w0) (hwg : w.heap.size ≤ g) (hA : ∀ b, A b → b < w0.heap.size) (h3 : w0.cell? ⟨b3, 4, none⟩ = some (.slice (some ⟨g, 0, none⟩) n c)) (h4 : w0.cell? ⟨b4, 7, none⟩ = some (.slice (some ⟨br, or, none⟩) nr cr)) (hb : b3 ≠ g ∧ b4 ≠ g) (hM : Ow tml T base A w0 M (.slice (some ⟨g, 0, none⟩) n c)) (hg : w0.cell? ⟨g, i, none⟩ = some ul) (hl : Rs tmE noB w0 l ul) (hcm : w0.cell? ⟨bl, ol + i, none⟩ = some um) (hm : Rs tmE noB w0 m um) (hcr : w0.cell? ⟨br, or + i, none⟩ = some ur) (hr : Rs tmE noB w0 r ur) (hi1 : i < n) (hi2 : i < nl) (hi3 : i < nr) (hn : Hid (n = M.length)) (hsm : Hid (l.length + m.length + r.length ≤ 1073741823)) (hs : Hid (l ++ m ++ r = s)) : StepF Try.prog Q ops_rgC a0 (fun (L : Nat → Bool) (W : World) => Ext w W ∧ Keeps (fun b => b = g) w0 W ∧ (L 21 = false → Ext w0 W)) (F_rgC w w0 A T base b3 b4 g i n c bl ol nl cl br or nr cr M l m r s ul um ur) 13 := by
  have ST : StaysF (F_rgC w w0 A T base b3 b4 g i n c bl ol nl cl br or nr cr M l m r s ul um ur) ops_rgC.size := by rw [rgC_size]; exact rgC_stays w w0 A T base b3 b4 g i n c bl ol nl cl br or nr cr M l m r s ul um ur
  have HI : ∀ (L : Nat → Bool) (i : Nat) (W W' : World), (Ext w W ∧ Keeps (fun b => b = g) w0 W ∧ (L 21 = false → Ext w0 W)) → Ext W W' → (Ext w W' ∧ Keeps (fun b => b = g) w0 W' ∧ (upd L i 21 = false → Ext w0 W')) := fun L i W W' h hx => ⟨h.1.trans hx, h.2.1.trans (Keeps.ext hx), fun e => (h.2.2 (upd_false e)).trans hx⟩
  have hgs : g < w0.heap.size := World.block_lt_of_cell? _ _ hg
  have j0 : (0 : Int) ≤ i := by omega
  have j1 : (i : Int) < n := by omega
  have j2 : (i : Int) < nl := by omega
  have j3 : (i : Int) < nr := by omega
  refine step_free fun o ho => ?_
  have ho' := ho
  cases ho'
  refine ⟨rfl, fun L a W hL hd hJ K hK => ?_⟩
  have f45 : a.tmps[45]?.getD undef = _ := hJ.dep ho hd (k := 12) (t := 45) (by kernel_rfl) (by kernel_rfl)
  have e := hJ.inv.2.1.cell (fun e => hb.2 e) h4
  conv => arg 2; whnf
  go_simp
  exact hK _ _ (HI _ _ _ _ hJ.inv (Ext.refl _)) (hJ.frame ST hL (Ext.refl _)) rfl
set_option maxRecDepth 100000 in
set_option maxHeartbeats 4000000 in
theorem rgC_op14 (a0 : Act) (Q : Exit → Act → World → Prop) (w w0 : World) (A : Nat → Prop) (T : TypeId) (base b3 b4 g i n c bl ol nl cl br or nr cr : Nat) (M : List (List Tm)) (l m r s : List Tm) (ul um ur : Value) (v3 : V a0 3 = .pointer (some ⟨b3, 0, none⟩)) (v4 : V a0 4 = .pointer (some ⟨b4, 0, none⟩)) (v7 : V a0 7 = .int .i64 i) (v2 : V a0 2 = .slice (some ⟨bl, ol, none⟩) nl cl) (hw : Ext w w0) (hwg : w.heap.size ≤ g) (hA : ∀ b, A b → b < w0.heap.size) (h3 : w0.cell? ⟨b3, 4, none⟩ = some (.slice (some ⟨g, 0, none⟩) n c)) (h4 : w0.cell? ⟨b4, 7, none⟩ = some (.slice (some ⟨br, or, none⟩) nr cr)) (hb : b3 ≠ g ∧ b4 ≠ g) (hM : Ow tml T base A w0 M (.slice (some ⟨g, 0, none⟩) n c)) (hg : w0.cell? ⟨g, i, none⟩ = some ul) (hl : Rs tmE noB w0 l ul) (hcm : w0.cell? ⟨bl, ol + i, none⟩ = some um) (hm : Rs tmE noB w0 m um) (hcr : w0.cell? ⟨br, or + i, none⟩ = some ur) (hr : Rs tmE noB w0 r ur) (hi1 : i < n) (hi2 : i < nl) (hi3 : i < nr) (hn : Hid (n = M.length)) (hsm : Hid (l.length + m.length + r.length ≤ 1073741823)) (hs : Hid (l ++ m ++ r = s)) : StepF Try.prog Q ops_rgC a0 (fun (L : Nat → Bool) (W : World) => Ext w W ∧ Keeps (fun b => b = g) w0 W ∧ (L 21 = false → Ext w0 W)) (F_rgC w w0 A T base b3 b4 g i n c bl ol nl cl br or nr cr M l m r s ul um ur) 14 := by
  have ST : StaysF (F_rgC w w0 A T base b3 b4 g i n c bl ol nl cl br or nr cr M l m r s ul um ur) ops_rgC.size := by rw [rgC_size]; exact rgC_stays w w0 A T base b3 b4 g i n c bl ol nl cl br or nr cr M l m r s ul um ur
  have HI : ∀ (L : Nat → Bool) (i : Nat) (W W' : World), (Ext w W ∧ Keeps (fun b => b = g) w0 W ∧ (L 21 = false → Ext w0 W)) → Ext W W' → (Ext w W' ∧ Keeps (fun b => b = g) w0 W' ∧ (upd L i 21 = false → Ext w0 W')) := fun L i W W' h hx => ⟨h.1.trans hx, h.2.1.trans (Keeps.ext hx), fun e => (h.2.2 (upd_false e)).trans hx⟩
  have hgs : g < w0.heap.size := World.block_lt_of_cell? _ _ hg
  have j0 : (0 : Int) ≤ i := by omega
  have j1 : (i : Int) < n := by omega
  have j2 : (i : Int) < nl := by omega
  have j3 : (i : Int) < nr := by omega
  refine step_free fun o ho => ?_
  have ho' := ho
  cases ho'
  refine ⟨rfl, fun L a W hL hd hJ K hK => ?_⟩
  have f7 := hJ.old (t := 7) hL (by kernel_rfl) v7
  conv => arg 2; whnf
  go_simp
  exact hK _ _ (HI _ _ _ _ hJ.inv (Ext.refl _)) (hJ.frame ST hL (Ext.refl _)) rfl
set_option maxRecDepth 100000 in
set_option maxHeartbeats 4000000 in
theorem rgC_op15 (a0 : Act) (Q : Exit → Act → World → Prop) (w w0 : World) (A : Nat → Prop) (T : TypeId) (base b3 b4 g i n c bl ol nl cl br or nr cr : Nat) (M : List (List Tm)) (l m r s : List Tm) (ul um ur : Value) (v3 : V a0 3 = .pointer (some ⟨b3, 0, none⟩)) (v4 : V a0 4 = .pointer (some ⟨b4, 0, none⟩)) (v7 : V a0 7 = .int .i64 i) (v2 : V a0 2 = .slice (some ⟨bl, ol, none⟩) nl cl) (hw : Ext w w0) (hwg : w.heap.size ≤ g) (hA : ∀ b, A b → b < w0.heap.size) (h3 : w0.cell? ⟨b3, 4, none⟩ = some (.slice (some ⟨g, 0, none⟩) n c)) (h4 : w0.cell? ⟨b4, 7, none⟩ = some (.slice (some ⟨br, or, none⟩) nr cr)) (hb : b3 ≠ g ∧ b4 ≠ g) (hM : Ow tml T base A w0 M (.slice (some ⟨g, 0, none⟩) n c)) (hg : w0.cell? ⟨g, i, none⟩ = some ul) (hl : Rs tmE noB w0 l ul) (hcm : w0.cell? ⟨bl, ol + i, none⟩ = some um) (hm : Rs tmE noB w0 m um) (hcr : w0.cell? ⟨br, or + i, none⟩ = some ur) (hr : Rs tmE noB w0 r ur) (hi1 : i < n) (hi2 : i < nl) (hi3 : i < nr) (hn : Hid (n = M.length)) (hsm : Hid (l.length + m.length + r.length ≤ 1073741823)) (hs : Hid (l ++ m ++ r = s)) : StepF Try.prog Q ops_rgC a0 (fun (L : Nat → Bool) (W : World) => Ext w W ∧ Keeps (fun b => b = g) w0 W ∧ (L 21 = false → Ext w0 W)) (F_rgC w w0 A T base b3 b4 g i n c bl ol nl cl br or nr cr M l m r s ul um ur) 15 := by
  have ST : StaysF (F_rgC w w0 A T base b3 b4 g i n c bl ol nl cl br or nr cr M l m r s ul um ur) ops_rgC.size := by rw [rgC_size]; exact rgC_stays w w0 A T base b3 b4 g i n c bl ol nl cl br or nr cr M l m r s ul um ur
  have HI : ∀ (L : Nat → Bool) (i : Nat) (W W' : World), (Ext w W ∧ Keeps (fun b => b = g) w0 W ∧ (L 21 = false → Ext w0 W)) → Ext W W' → (Ext w W' ∧ Keeps (fun b => b = g) w0 W' ∧ (upd L i 21 = false → Ext w0 W')) := fun L i W W' h hx => ⟨h.1.trans hx, h.2.1.trans (Keeps.ext hx), fun e => (h.2.2 (upd_false e)).trans hx⟩
  have hgs : g < w0.heap.size := World.block_lt_of_cell? _ _ hg
  have j0 : (0 : Int) ≤ i := by omega
  have j1 : (i : Int) < n := by omega
  have j2 : (i : Int) < nl := by omega
  have j3 : (i : Int) < nr := by omega
  refine step_free fun o ho => ?_
  have ho' := ho
  cases ho'
  refine ⟨rfl, fun L a W hL hd hJ K hK => ?_⟩
  have f46 : a.tmps[46]?.getD undef = _ := hJ.dep ho hd (k := 13) (t := 46) (by kernel_rfl) (by kernel_rfl)
  have f47 : a.tmps[47]?.getD undef = _ := hJ.dep ho hd (k := 14) (t := 47) (by kernel_rfl) (by kernel_rfl)
  conv => arg 2; whnf
  go_simp
  exact hK _ _ (HI _ _ _ _ hJ.inv (Ext.refl _)) (hJ.frame ST hL (Ext.refl _)) rfl
set_option maxRecDepth 100000 in
set_option maxHeartbeats 4000000 in
theorem rgC_op16 (a0 : Act) (Q : Exit → Act → World → Prop) (w w0 : World) (A : Nat → Prop) (T : TypeId) (base b3 b4 g i n c bl ol nl cl br or nr cr : Nat) (M : List (List Tm)) (l m r s : List Tm) (ul um ur : Value) (v3 : V a0 3 = .pointer (some ⟨b3, 0, none⟩)) (v4 : V a0 4 = .pointer (some ⟨b4, 0, none⟩)) (v7 : V a0 7 = .int .i64 i) (v2 : V a0 2 = .slice (some ⟨bl, ol, none⟩) nl cl) (hw : Ext w w0) (hwg : w.heap.size ≤ g) (hA : ∀ b, A b → b < w0.heap.size) (h3 : w0.cell? ⟨b3, 4, none⟩ = some (.slice (some ⟨g, 0, none⟩) n c)) (h4 : w0.cell? ⟨b4, 7, none⟩ = some (.slice (some ⟨br, or, none⟩) nr cr)) (hb : b3 ≠ g ∧ b4 ≠ g) (hM : Ow tml T base A w0 M (.slice (some ⟨g, 0, none⟩) n c)) (hg : w0.cell? ⟨g, i, none⟩ = some ul) (hl : Rs tmE noB w0 l ul) (hcm : w0.cell? ⟨bl, ol + i, none⟩ = some um) (hm : Rs tmE noB w0 m um) (hcr : w0.cell? ⟨br, or + i, none⟩ = some ur) (hr : Rs tmE noB w0 r ur) (hi1 : i < n) (hi2 : i < nl) (hi3 : i < nr) (hn : Hid (n = M.length)) (hsm : Hid (l.length + m.length + r.length ≤ 1073741823)) (hs : Hid (l ++ m ++ r = s)) : StepF Try.prog Q ops_rgC a0 (fun (L : Nat → Bool) (W : World) => Ext w W ∧ Keeps (fun b => b = g) w0 W ∧ (L 21 = false → Ext w0 W)) (F_rgC w w0 A T base b3 b4 g i n c bl ol nl cl br or nr cr M l m r s ul um ur) 16 := by
  have ST : StaysF (F_rgC w w0 A T base b3 b4 g i n c bl ol nl cl br or nr cr M l m r s ul um ur) ops_rgC.size := by rw [rgC_size]; exact rgC_stays w w0 A T base b3 b4 g i n c bl ol nl cl br or nr cr M l m r s ul um ur
  have HI : ∀ (L : Nat → Bool) (i : Nat) (W W' : World), (Ext w W ∧ Keeps (fun b => b = g) w0 W ∧ (L 21 = false → Ext w0 W)) → Ext W W' → (Ext w W' ∧ Keeps (fun b => b = g) w0 W' ∧ (upd L i 21 = false → Ext w0 W')) := fun L i W W' h hx => ⟨h.1.trans hx, h.2.1.trans (Keeps.ext hx), fun e => (h.2.2 (upd_false e)).trans hx⟩
  have hgs : g < w0.heap.size := World.block_lt_of_cell? _ _ hg
  have j0 : (0 : Int) ≤ i := by omega
  have j1 : (i : Int) < n := by omega
  have j2 : (i : Int) < nl := by omega
  have j3 : (i : Int) < nr := by omega
  refine step_free fun o ho => ?_
  have ho' := ho
  cases ho'
  refine ⟨rfl, fun L a W hL hd hJ K hK => ?_⟩
  have f48 : a.tmps[48]?.getD undef = _ := hJ.dep ho hd (k := 15) (t := 48) (by kernel_rfl) (by kernel_rfl)
  have h21 : L 21 = false := Bool.eq_false_iff.2 (fun h => by rw [hJ.anc 12 16 21 (by kernel_rfl) h] at hL; cases hL)
  have e := (Keeps.ext (A := noB) (hJ.inv.2.2 h21)).cell id hcr
  conv => arg 2; whnf
  go_simp
  exact hK _ _ (HI _ _ _ _ hJ.inv (Ext.refl _)) (hJ.frame ST hL (Ext.refl _)) rfl
set_option maxRecDepth 100000 in
set_option maxHeartbeats 4000000 in
theorem rgC_op17 (a0 : Act) (Q : Exit → Act → World → Prop) (w w0 : World) (A : Nat → Prop) (T : TypeId) (base b3 b4 g i n c bl ol nl cl br or nr cr : Nat) (M : List (List Tm)) (l m r s : List Tm) (ul um ur : Value) (v3 : V a0 3 = .pointer (some ⟨b3, 0, none⟩)) (v4 : V a0 4 = .pointer (some ⟨b4, 0, none⟩)) (v7 : V a0 7 = .int .i64 i) (v2 : V a0 2 = .slice (some ⟨bl, ol, none⟩) nl cl) (hw : Ext w w0) (hwg : w.heap.size ≤ g) (hA : ∀ b, A b → b < w0.heap.size) (h3 : w0.cell? ⟨b3, 4, none⟩ = some (.slice (some ⟨g, 0, none⟩) n c)) (h4 : w0.cell? ⟨b4, 7, none⟩ = some (.slice (some ⟨br, or, none⟩) nr cr)) (hb : b3 ≠ g ∧ b4 ≠ g) (hM : Ow tml T base A w0 M (.slice (some ⟨g, 0, none⟩) n c)) (hg : w0.cell? ⟨g, i, none⟩ = some ul) (hl : Rs tmE noB w0 l ul) (hcm : w0.cell? ⟨bl, ol + i, none⟩ = some um) (hm : Rs tmE noB w0 m um) (hcr : w0.cell? ⟨br, or + i, none⟩ = some ur) (hr : Rs tmE noB w0 r ur) (hi1 : i < n) (hi2 : i < nl) (hi3 : i < nr) (hn : Hid (n = M.length)) (hsm : Hid (l.length + m.length + r.length ≤ 1073741823)) (hs : Hid (l ++ m ++ r = s)) : StepF Try.prog Q ops_rgC a0 (fun (L : Nat → Bool) (W : World) => Ext w W ∧ Keeps (fun b => b = g) w0 W ∧ (L 21 = false → Ext w0 W)) (F_rgC w w0 A T base b3 b4 g i n c bl ol nl cl br or nr cr M l m r s ul um ur) 17 := by
  have ST : StaysF (F_rgC w w0 A T base b3 b4 g i n c bl ol nl cl br or nr cr M l m r s ul um ur) ops_rgC.size := by rw [rgC_size]; exact rgC_stays w w0 A T base b3 b4 g i n c bl ol nl cl br or nr cr M l m r s ul um ur
  have HI : ∀ (L : Nat → Bool) (i : Nat) (W W' : World), (Ext w W ∧ Keeps (fun b => b = g) w0 W ∧ (L 21 = false → Ext w0 W)) → Ext W W' → (Ext w W' ∧ Keeps (fun b => b = g) w0 W' ∧ (upd L i 21 = false → Ext w0 W')) := fun L i W W' h hx => ⟨h.1.trans hx, h.2.1.trans (Keeps.ext hx), fun e => (h.2.2 (upd_false e)).trans hx⟩
  have hgs : g < w0.heap.size := World.block_lt_of_cell? _ _ hg
  have j0 : (0 : Int) ≤ i := by omega
  have j1 : (i : Int) < n := by omega
  have j2 : (i : Int) < nl := by omega
  have j3 : (i : Int) < nr := by omega
  refine step_free fun o ho => ?_
  have ho' := ho
  cases ho'
  refine ⟨rfl, fun L a W hL hd hJ K hK => ?_⟩
  have f40 : a.tmps[40]?.getD undef = _ := hJ.dep ho hd (k := 7) (t := 40) (by kernel_rfl) (by kernel_rfl)
  have f44 : a.tmps[44]?.getD undef = _ := hJ.dep ho hd (k := 11) (t := 44) (by kernel_rfl) (by kernel_rfl)
  have f49 : a.tmps[49]?.getD undef = _ := hJ.dep ho hd (k := 16) (t := 49) (by kernel_rfl) (by kernel_rfl)
  obtain ⟨_, _, rfl⟩ := hl.form
  obtain ⟨_, _, rfl⟩ := hm.form
  obtain ⟨_, _, rfl⟩ := hr.form
  conv => arg 2; whnf
  go_simp
  refine hK _ _ (HI _ _ _ _ hJ.inv ((Ext.refl _).alloc _)) (hJ.frame ST hL ((Ext.refl _).alloc _)) (fun _ => ⟨_, rfl, cell_lit _ _ _ _ _ _ rfl rfl, cell_lit _ _ _ _ _ _ rfl rfl, cell_lit _ _ _ _ _ _ rfl rfl⟩)
set_option maxRecDepth 100000 in
set_option maxHeartbeats 4000000 in
theorem rgC_op18 (a0 : Act) (Q : Exit → Act → World → Prop) (w w0 : World) (A : Nat → Prop) (T : TypeId) (base b3 b4 g i n c bl ol nl cl br or nr cr : Nat) (M : List (List Tm)) (l m r s : List Tm) (ul um ur : Value) (v3 : V a0 3 = .pointer (some ⟨b3, 0, none⟩)) (v4 : V a0 4 = .pointer (some ⟨b4, 0, none⟩)) (v7 : V a0 7 = .int .i64 i) (v2 : V a0 2 = .slice (some ⟨bl, ol, none⟩) nl cl) (hw : Ext w w0) (hwg : w.heap.size ≤ g) (hA : ∀ b, A b → b < w0.heap.size) (h3 : w0.cell? ⟨b3, 4, none⟩ = some (.slice (some ⟨g, 0, none⟩) n c)) (h4 : w0.cell? ⟨b4, 7, none⟩ = some (.slice (some ⟨br, or, none⟩) nr cr)) (hb : b3 ≠ g ∧ b4 ≠ g) (hM : Ow tml T base A w0 M (.slice (some ⟨g, 0, none⟩) n c)) (hg : w0.cell? ⟨g, i, none⟩ = some ul) (hl : Rs tmE noB w0 l ul) (hcm : w0.cell? ⟨bl, ol + i, none⟩ = some um) (hm : Rs tmE noB w0 m um) (hcr : w0.cell? ⟨br, or + i, none⟩ = some ur) (hr : Rs tmE noB w0 r ur) (hi1 : i < n) (hi2 : i < nl) (hi3 : i < nr) (hn : Hid (n = M.length)) (hsm : Hid (l.length + m.length + r.length ≤ 1073741823)) (hs : Hid (l ++ m ++ r = s)) : StepF Try.prog Q ops_rgC a0 (fun (L : Nat → Bool) (W : World) => Ext w W ∧ Keeps (fun b => b = g) w0 W ∧ (L 21 = false → Ext w0 W)) (F_rgC w w0 A T base b3 b4 g i n c bl ol nl cl br or nr cr M l m r s ul um ur) 18 := by
  have ST : StaysF (F_rgC w w0 A T base b3 b4 g i n c bl ol nl cl br or nr cr M l m r s ul um ur) ops_rgC.size := by rw [rgC_size]; exact rgC_stays w w0 A T base b3 b4 g i n c bl ol nl cl br or nr cr M l m r s ul um ur
  have HI : ∀ (L : Nat → Bool) (i : Nat) (W W' : World), (Ext w W ∧ Keeps (fun b => b = g) w0 W ∧ (L 21 = false → Ext w0 W)) → Ext W W' → (Ext w W' ∧ Keeps (fun b => b = g) w0 W' ∧ (upd L i 21 = false → Ext w0 W')) := fun L i W W' h hx => ⟨h.1.trans hx, h.2.1.trans (Keeps.ext hx), fun e => (h.2.2 (upd_false e)).trans hx⟩
  have hgs : g < w0.heap.size := World.block_lt_of_cell? _ _ hg
  have j0 : (0 : Int) ≤ i := by omega
  have j1 : (i : Int) < n := by omega
  have j2 : (i : Int) < nl := by omega
  have j3 : (i : Int) < nr := by omega
  refine step_free fun o ho => ?_
  have ho' := ho
  cases ho'
  refine ⟨rfl, fun L a W hL hd hJ K hK => ?_⟩
  have f50 := hJ.dep ho hd (k := 17) (t := 50) (by kernel_rfl) (by kernel_rfl)
  have h21 : L 21 = false := Bool.eq_false_iff.2 (fun h => by rw [hJ.anc 12 18 21 (by kernel_rfl) h] at hL; cases hL)
  obtain ⟨q, e, c0, c1, c2⟩ := f50 h21
  have f50' : a.tmps[50]?.getD undef = _ := e
  have hx0 := hJ.inv.2.2 h21
  conv => arg 2; whnf
  go_simp
  refine (concat_three l m r ul um ur q W ((rb_rs hl).on hx0) ((rb_rs hm).on hx0) ((rb_rs hr).on hx0) hsm.out c0 c1 c2).mono ?_
  rintro e w' ⟨v', rfl, hrow⟩
  exact hK _ _ (HI _ _ _ _ hJ.inv hrow.1) (hJ.frame ST hL hrow.1) (fun _ => hs.out ▸ hrow.rb.2)
set_option maxRecDepth 100000 in
set_option maxHeartbeats 4000000 in
theorem rgC_op19 (a0 : Act) (Q : Exit → Act → World → Prop) (w w0 : World) (A : Nat → Prop) (T : TypeId) (base b3 b4 g i n c bl ol nl cl br or nr cr : Nat) (M : List (List Tm)) (l m r s : List Tm) (ul um ur : Value) (v3 : V a0 3 = .pointer (some ⟨b3, 0, none⟩)) (v4 : V a0 4 = .pointer (some ⟨b4, 0, none⟩)) (v7 : V a0 7 = .int .i64 i) (v2 : V a0 2 = .slice (some ⟨bl, ol, none⟩) nl cl) (hw : Ext w w0) (hwg : w.heap.size ≤ g) (hA : ∀ b, A b → b < w0.heap.size) (h3 : w0.cell? ⟨b3, 4, none⟩ = some (.slice (some ⟨g, 0, none⟩) n c)) (h4 : w0.cell? ⟨b4, 7, none⟩ = some (.slice (some ⟨br, or, none⟩) nr cr)) (hb : b3 ≠ g ∧ b4 ≠ g) (hM : Ow tml T base A w0 M (.slice (some ⟨g, 0, none⟩) n c)) (hg : w0.cell? ⟨g, i, none⟩ = some ul) (hl : Rs tmE noB w0 l ul) (hcm : w0.cell? ⟨bl, ol + i, none⟩ = some um) (hm : Rs tmE noB w0 m um) (hcr : w0.cell? ⟨br, or + i, none⟩ = some ur) (hr : Rs tmE noB w0 r ur) (hi1 : i < n) (hi2 : i < nl) (hi3 : i < nr) (hn : Hid (n = M.length)) (hsm : Hid (l.length + m.length + r.length ≤ 1073741823)) (hs : Hid (l ++ m ++ r = s)) : StepF Try.prog Q ops_rgC a0 (fun (L : Nat → Bool) (W : World) => Ext w W ∧ Keeps (fun b => b = g) w0 W ∧ (L 21 = false → Ext w0 W)) (F_rgC w w0 A T base b3 b4 g i n c bl ol nl cl br or nr cr M l m r s ul um ur) 19 := by
  have ST : StaysF (F_rgC w w0 A T base b3 b4 g i n c bl ol nl cl br or nr cr M l m r s ul um ur) ops_rgC.size := by rw [rgC_size]; exact rgC_stays w w0 A T base b3 b4 g i n c bl ol nl cl br or nr cr M l m r s ul um ur
  have HI : ∀ (L : Nat → Bool) (i : Nat) (W W' : World), (Ext w W ∧ Keeps (fun b => b = g) w0 W ∧ (L 21 = false → Ext w0 W)) → Ext W W' → (Ext w W' ∧ Keeps (fun b => b = g) w0 W' ∧ (upd L i 21 = false → Ext w0 W')) := fun L i W W' h hx => ⟨h.1.trans hx, h.2.1.trans (Keeps.ext hx), fun e => (h.2.2 (upd_false e)).trans hx⟩
  have hgs : g < w0.heap.size := World.block_lt_of_cell? _ _ hg
  have j0 : (0 : Int) ≤ i := by omega
  have j1 : (i : Int) < n := by omega
  have j2 : (i : Int) < nl := by omega
  have j3 : (i : Int) < nr := by omega
  refine step_free fun o ho => ?_
  have ho' := ho
  cases ho'
  refine ⟨rfl, fun L a W hL hd hJ K hK => ?_⟩
  have f51 := hJ.dep ho hd (k := 18) (t := 51) (by kernel_rfl) (by kernel_rfl)
  have h21 : L 21 = false := Bool.eq_false_iff.2 (fun h => by rw [hJ.anc 12 19 21 (by kernel_rfl) h] at hL; cases hL)
  have hx0 := hJ.inv.2.2 h21
  have hle := hx0.le
  have f51' := f51 h21
  obtain ⟨_, _, e, -⟩ := id f51'
  have f51'' : a.tmps[51]?.getD undef = _ := e
  rw [e] at f51'
  conv => arg 2; whnf
  go_simp
  refine (of_row f51' (by rw [← hs.out]; have := hsm.out; simp only [List.length_append]; omega) (chT s) rfl).mono ?_
  rintro e w' ⟨v', rfl, hrow⟩
  exact hK _ _ (HI _ _ _ _ hJ.inv hrow.1) (hJ.frame ST hL hrow.1) (fun _ => rs_row hrow (fun b hb' => by rcases hb' with hb' | hb'; (have := hA b hb'; omega); (subst hb'; omega)))
set_option maxRecDepth 100000 in
set_option maxHeartbeats 4000000 in
theorem rgC_op20 (a0 : Act) (Q : Exit → Act → World → Prop) (w w0 : World) (A : Nat → Prop) (T : TypeId) (base b3 b4 g i n c bl ol nl cl br or nr cr : Nat) (M : List (List Tm)) (l m r s : List Tm) (ul um ur : Value) (v3 : V a0 3 = .pointer (some ⟨b3, 0, none⟩)) (v4 : V a0 4 = .pointer (some ⟨b4, 0, none⟩)) (v7 : V a0 7 = .int .i64 i) (v2 : V a0 2 = .slice (some ⟨bl, ol, none⟩) nl cl) (hw : Ext w w0) (hwg : w.heap.size ≤ g) (hA : ∀ b, A b → b < w0.heap.size) (h3 : w0.cell? ⟨b3, 4, none⟩ = some (.slice (some ⟨g, 0, none⟩) n c)) (h4 : w0.cell? ⟨b4, 7, none⟩ = some (.slice (some ⟨br, or, none⟩) nr cr)) (hb : b3 ≠ g ∧ b4 ≠ g) (hM : Ow tml T base A w0 M (.slice (some ⟨g, 0, none⟩) n c)) (hg : w0.cell? ⟨g, i, none⟩ = some ul) (hl : Rs tmE noB w0 l ul) (hcm : w0.cell? ⟨bl, ol + i, none⟩ = some um) (hm : Rs tmE noB w0 m um) (hcr : w0.cell? ⟨br, or + i, none⟩ = some ur) (hr : Rs tmE noB w0 r ur) (hi1 : i < n) (hi2 : i < nl) (hi3 : i < nr) (hn : Hid (n = M.length)) (hsm : Hid (l.length + m.length + r.length ≤ 1073741823)) (hs : Hid (l ++ m ++ r = s)) : StepF Try.prog Q ops_rgC a0 (fun (L : Nat → Bool) (W : World) => Ext w W ∧ Keeps (fun b => b = g) w0 W ∧ (L 21 = false → Ext w0 W)) (F_rgC w w0 A T base b3 b4 g i n c bl ol nl cl br or nr cr M l m r s ul um ur) 20 := by
  have ST : StaysF (F_rgC w w0 A T base b3 b4 g i n c bl ol nl cl br or nr cr M l m r s ul um ur) ops_rgC.size := by rw [rgC_size]; exact rgC_stays w w0 A T base b3 b4 g i n c bl ol nl cl br or nr cr M l m r s ul um ur
  have HI : ∀ (L : Nat → Bool) (i : Nat) (W W' : World), (Ext w W ∧ Keeps (fun b => b = g) w0 W ∧ (L 21 = false → Ext w0 W)) → Ext W W' → (Ext w W' ∧ Keeps (fun b => b = g) w0 W' ∧ (upd L i 21 = false → Ext w0 W')) := fun L i W W' h hx => ⟨h.1.trans hx, h.2.1.trans (Keeps.ext hx), fun e => (h.2.2 (upd_false e)).trans hx⟩
  have hgs : g < w0.heap.size := World.block_lt_of_cell? _ _ hg
  have j0 : (0 : Int) ≤ i := by omega
  have j1 : (i : Int) < n := by omega
  have j2 : (i : Int) < nl := by omega
  have j3 : (i : Int) < nr := by omega
  refine step_free fun o ho => ?_
  have ho' := ho
  cases ho'
  refine ⟨rfl, fun L a W hL hd hJ K hK => ?_⟩
  have f34 : a.tmps[34]?.getD undef = _ := hJ.dep ho hd (k := 1) (t := 34) (by kernel_rfl) (by kernel_rfl)
  have f35 : a.tmps[35]?.getD undef = _ := hJ.dep ho hd (k := 2) (t := 35) (by kernel_rfl) (by kernel_rfl)
  conv => arg 2; whnf
  go_simp
  exact hK _ _ (HI _ _ _ _ hJ.inv (Ext.refl _)) (hJ.frame ST hL (Ext.refl _)) rfl
set_option maxRecDepth 100000 in
set_option maxHeartbeats 4000000 in
theorem rgC_op21 (a0 : Act) (Q : Exit → Act → World → Prop) (w w0 : World) (A : Nat → Prop) (T : TypeId) (base b3 b4 g i n c bl ol nl cl br or nr cr : Nat) (M : List (List Tm)) (l m r s : List Tm) (ul um ur : Value) (v3 : V a0 3 = .pointer (some ⟨b3, 0, none⟩)) (v4 : V a0 4 = .pointer (some ⟨b4, 0, none⟩)) (v7 : V a0 7 = .int .i64 i) (v2 : V a0 2 = .slice (some ⟨bl, ol, none⟩) nl cl) (hw : Ext w w0) (hwg : w.heap.size ≤ g) (hA : ∀ b, A b → b < w0.heap.size) (h3 : w0.cell? ⟨b3, 4, none⟩ = some (.slice (some ⟨g, 0, none⟩) n c)) (h4 : w0.cell? ⟨b4, 7, none⟩ = some (.slice (some ⟨br, or, none⟩) nr cr)) (hb : b3 ≠ g ∧ b4 ≠ g) (hM : Ow tml T base A w0 M (.slice (some ⟨g, 0, none⟩) n c)) (hg : w0.cell? ⟨g, i, none⟩ = some ul) (hl : Rs tmE noB w0 l ul) (hcm : w0.cell? ⟨bl, ol + i, none⟩ = some um) (hm : Rs tmE noB w0 m um) (hcr : w0.cell? ⟨br, or + i, none⟩ = some ur) (hr : Rs tmE noB w0 r ur) (hi1 : i < n) (hi2 : i < nl) (hi3 : i < nr) (hn : Hid (n = M.length)) (hsm : Hid (l.length + m.length + r.length ≤ 1073741823)) (hs : Hid (l ++ m ++ r = s)) : StepF Try.prog Q ops_rgC a0 (fun (L : Nat → Bool) (W : World) => Ext w W ∧ Keeps (fun b => b = g) w0 W ∧ (L 21 = false → Ext w0 W)) (F_rgC w w0 A T base b3 b4 g i n c bl ol nl cl br or nr cr M l m r s ul um ur) 21 := by
  have ST : StaysF (F_rgC w w0 A T base b3 b4 g i n c bl ol nl cl br or nr cr M l m r s ul um ur) ops_rgC.size := by rw [rgC_size]; exact rgC_stays w w0 A T base b3 b4 g i n c bl ol nl cl br or nr cr M l m r s ul um ur
  have HI : ∀ (L : Nat → Bool) (i : Nat) (W W' : World), (Ext w W ∧ Keeps (fun b => b = g) w0 W ∧ (L 21 = false → Ext w0 W)) → Ext W W' → (Ext w W' ∧ Keeps (fun b => b = g) w0 W' ∧ (upd L i 21 = false → Ext w0 W')) := fun L i W W' h hx => ⟨h.1.trans hx, h.2.1.trans (Keeps.ext hx), fun e => (h.2.2 (upd_false e)).trans hx⟩
  have hgs : g < w0.heap.size := World.block_lt_of_cell? _ _ hg
  have j0 : (0 : Int) ≤ i := by omega
  have j1 : (i : Int) < n := by omega
  have j2 : (i : Int) < nl := by omega
  have j3 : (i : Int) < nr := by omega
  refine step_free fun o ho => ?_
  have ho' := ho
  cases ho'
  refine ⟨rfl, fun L a W hL hd hJ K hK => ?_⟩
  have f53 : a.tmps[53]?.getD undef = _ := hJ.dep ho hd (k := 20) (t := 53) (by kernel_rfl) (by kernel_rfl)
  have f52 := hJ.dep ho hd (k := 19) (t := 52) (by kernel_rfl) (by kernel_rfl)
  have f52' := f52 hL
  obtain ⟨_, _, e⟩ := f52'.form
  have f52'' : a.tmps[52]?.getD undef = _ := e
  rw [e] at f52'
  have hx0 := hJ.inv.2.2 hL
  have hO := hM.on hx0
  obtain ⟨g', _, eg, -, -, -, -, -, -, hfz⟩ := hO.at (List.getElem?_eq_getElem (show i < M.length by have := hn.out; omega))
  obtain rfl : g = g' := by simpa using eg
  have e1 := (Keeps.ext (A := noB) hx0).cell id hg
  have e2 := hfz i
  conv => arg 2; whnf
  go_simp
  exact hK undef _ ⟨hJ.inv.1.setCell hwg _, hJ.inv.2.1.trans (Keeps.set (A := fun b => b = g) rfl _), fun e => absurd e (by simp [upd])⟩ (fun k hk hl => by
      have hf := hJ.fx k hk hl
      match k, hk, hl, hf with
      | 0, hk, hl, hf => exact hf
      | 1, hk, hl, hf => exact hf
      | 2, hk, hl, hf => exact hf
      | 3, hk, hl, hf => exact hf
      | 4, hk, hl, hf => exact hf
      | 5, hk, hl, hf => exact hf
      | 6, hk, hl, hf => exact hf
      | 7, hk, hl, hf => exact hf
      | 8, hk, hl, hf => exact hf
      | 9, hk, hl, hf => exact hf
      | 10, hk, hl, hf => exact hf
      | 11, hk, hl, hf => exact hf
      | 12, hk, hl, hf => exact hf
      | 13, hk, hl, hf => exact hf
      | 14, hk, hl, hf => exact hf
      | 15, hk, hl, hf => exact hf
      | 16, hk, hl, hf => exact hf
      | 17, hk, hl, hf => exact fun e => absurd e (by simp [upd])
      | 18, hk, hl, hf => exact fun e => absurd e (by simp [upd])
      | 19, hk, hl, hf => exact fun e => absurd e (by simp [upd])
      | 20, hk, hl, hf => exact hf
      | 21, hk, hl, hf => exact absurd hl (by rw [hL]; decide)
      | q + 22, hk, _, _ => exact absurd hk (by rw [rgC_size]; omega)) (hO.putl (by have := hn.out; omega) f52')
set_option maxRecDepth 100000 in
set_option maxHeartbeats 8000000 in
theorem rgC (a0 : Act) (Q : Exit → Act → World → Prop) (w w0 : World) (A : Nat → Prop) (T : TypeId) (base b3 b4 g i n c bl ol nl cl br or nr cr : Nat) (M : List (List Tm)) (l m r s : List Tm) (ul um ur : Value) (v3 : V a0 3 = .pointer (some ⟨b3, 0, none⟩)) (v4 : V a0 4 = .pointer (some ⟨b4, 0, none⟩)) (v7 : V a0 7 = .int .i64 i) (v2 : V a0 2 = .slice (some ⟨bl, ol, none⟩) nl cl) (hw : Ext w w0) (hwg : w.heap.size ≤ g) (hA : ∀ b, A b → b < w0.heap.size) (h3 : w0.cell? ⟨b3, 4, none⟩ = some (.slice (some ⟨g, 0, none⟩) n c)) (h4 : w0.cell? ⟨b4, 7, none⟩ = some (.slice (some ⟨br, or, none⟩) nr cr)) (hb : b3 ≠ g ∧ b4 ≠ g) (hM : Ow tml T base A w0 M (.slice (some ⟨g, 0, none⟩) n c)) (hg : w0.cell? ⟨g, i, none⟩ = some ul) (hl : Rs tmE noB w0 l ul) (hcm : w0.cell? ⟨bl, ol + i, none⟩ = some um) (hm : Rs tmE noB w0 m um) (hcr : w0.cell? ⟨br, or + i, none⟩ = some ur) (hr : Rs tmE noB w0 r ur) (hi1 : i < n) (hi2 : i < nl) (hi3 : i < nr) (hn : Hid (n = M.length)) (hsm : Hid (l.length + m.length + r.length ≤ 1073741823)) (hs : Hid (l ++ m ++ r = s)) (hsz : a0.tmps.size = 56)
    (hQ : ∀ a W, Near ts_rgC a0 a → Ext w W → Keeps (fun b => b = g) w0 W → Ow tml T base A W (M.set i (chT s)) (.slice (some ⟨g, 0, none⟩) n c) → Q .normal a W) : (Code.region 6 ops_rgC true).wp Try.prog Q a0 w0 := by
  have ST : StaysF (F_rgC w w0 A T base b3 b4 g i n c bl ol nl cl br or nr cr M l m r s ul um ur) ops_rgC.size := by rw [rgC_size]; exact rgC_stays w w0 A T base b3 b4 g i n c bl ol nl cl br or nr cr M l m r s ul um ur
  have HI : ∀ (L : Nat → Bool) (i : Nat) (W W' : World), (Ext w W ∧ Keeps (fun b => b = g) w0 W ∧ (L 21 = false → Ext w0 W)) → Ext W W' → (Ext w W' ∧ Keeps (fun b => b = g) w0 W' ∧ (upd L i 21 = false → Ext w0 W')) := fun L i W W' h hx => ⟨h.1.trans hx, h.2.1.trans (Keeps.ext hx), fun e => (h.2.2 (upd_false e)).trans hx⟩
  have hgs : g < w0.heap.size := World.block_lt_of_cell? _ _ hg
  have j0 : (0 : Int) ≤ i := by omega
  have j1 : (i : Int) < n := by omega
  have j2 : (i : Int) < nl := by omega
  have j3 : (i : Int) < nr := by omega
  refine wp_region_facts (fun (L : Nat → Bool) (W : World) => Ext w W ∧ Keeps (fun b => b = g) w0 W ∧ (L 21 = false → Ext w0 W)) (F_rgC w w0 A T base b3 b4 g i n c bl ol nl cl br or nr cr M l m r s ul um ur) 22 (by kernel_rfl) rgC_ac rgC_once rgC_size (by rw [hsz]; exact rgC_fits) ⟨hw.drew, Keeps.ext ((Ext.refl _).drew), fun _ => (Ext.refl _).drew⟩ ?_ ?_ ?_
  · intro iq hd hiq
    have hall : (List.range 22).all (fun i => (dstOf ops_rgC i).isSome || [21].contains i) = true := by kernel_rfl
    rw [List.all_eq_true] at hall
    have h2 := hall iq (List.mem_range.2 hiq)
    rw [hd] at h2
    simp only [Option.isSome_none, Bool.false_or, List.contains_iff_mem, List.mem_cons, List.not_mem_nil, or_false] at h2
    rcases h2 with rfl
    · exact fun _ _ _ _ h => h
  · intro iq hiq
    match iq, hiq with
    | 0, _ => exact rgC_op0 a0 Q w w0 A T base b3 b4 g i n c bl ol nl cl br or nr cr M l m r s ul um ur v3 v4 v7 v2 hw hwg hA h3 h4 hb hM hg hl hcm hm hcr hr hi1 hi2 hi3 hn hsm hs
    | 1, _ => exact rgC_op1 a0 Q w w0 A T base b3 b4 g i n c bl ol nl cl br or nr cr M l m r s ul um ur v3 v4 v7 v2 hw hwg hA h3 h4 hb hM hg hl hcm hm hcr hr hi1 hi2 hi3 hn hsm hs
    | 2, _ => exact rgC_op2 a0 Q w w0 A T base b3 b4 g i n c bl ol nl cl br or nr cr M l m r s ul um ur v3 v4 v7 v2 hw hwg hA h3 h4 hb hM hg hl hcm hm hcr hr hi1 hi2 hi3 hn hsm hs
    | 3, _ => exact rgC_op3 a0 Q w w0 A T base b3 b4 g i n c bl ol nl cl br or nr cr M l m r s ul um ur v3 v4 v7 v2 hw hwg hA h3 h4 hb hM hg hl hcm hm hcr hr hi1 hi2 hi3 hn hsm hs
    | 4, _ => exact rgC_op4 a0 Q w w0 A T base b3 b4 g i n c bl ol nl cl br or nr cr M l m r s ul um ur v3 v4 v7 v2 hw hwg hA h3 h4 hb hM hg hl hcm hm hcr hr hi1 hi2 hi3 hn hsm hs
    | 5, _ => exact rgC_op5 a0 Q w w0 A T base b3 b4 g i n c bl ol nl cl br or nr cr M l m r s ul um ur v3 v4 v7 v2 hw hwg hA h3 h4 hb hM hg hl hcm hm hcr hr hi1 hi2 hi3 hn hsm hs
    | 6, _ => exact rgC_op6 a0 Q w w0 A T base b3 b4 g i n c bl ol nl cl br or nr cr M l m r s ul um ur v3 v4 v7 v2 hw hwg hA h3 h4 hb hM hg hl hcm hm hcr hr hi1 hi2 hi3 hn hsm hs
    | 7, _ => exact rgC_op7 a0 Q w w0 A T base b3 b4 g i n c bl ol nl cl br or nr cr M l m r s ul um ur v3 v4 v7 v2 hw hwg hA h3 h4 hb hM hg hl hcm hm hcr hr hi1 hi2 hi3 hn hsm hs
    | 8, _ => exact rgC_op8 a0 Q w w0 A T base b3 b4 g i n c bl ol nl cl br or nr cr M l m r s ul um ur v3 v4 v7 v2 hw hwg hA h3 h4 hb hM hg hl hcm hm hcr hr hi1 hi2 hi3 hn hsm hs
    | 9, _ => exact rgC_op9 a0 Q w w0 A T base b3 b4 g i n c bl ol nl cl br or nr cr M l m r s ul um ur v3 v4 v7 v2 hw hwg hA h3 h4 hb hM hg hl hcm hm hcr hr hi1 hi2 hi3 hn hsm hs
    | 10, _ => exact rgC_op10 a0 Q w w0 A T base b3 b4 g i n c bl ol nl cl br or nr cr M l m r s ul um ur v3 v4 v7 v2 hw hwg hA h3 h4 hb hM hg hl hcm hm hcr hr hi1 hi2 hi3 hn hsm hs
    | 11, _ => exact rgC_op11 a0 Q w w0 A T base b3 b4 g i n c bl ol nl cl br or nr cr M l m r s ul um ur v3 v4 v7 v2 hw hwg hA h3 h4 hb hM hg hl hcm hm hcr hr hi1 hi2 hi3 hn hsm hs
    | 12, _ => exact rgC_op12 a0 Q w w0 A T base b3 b4 g i n c bl ol nl cl br or nr cr M l m r s ul um ur v3 v4 v7 v2 hw hwg hA h3 h4 hb hM hg hl hcm hm hcr hr hi1 hi2 hi3 hn hsm hs
    | 13, _ => exact rgC_op13 a0 Q w w0 A T base b3 b4 g i n c bl ol nl cl br or nr cr M l m r s ul um ur v3 v4 v7 v2 hw hwg hA h3 h4 hb hM hg hl hcm hm hcr hr hi1 hi2 hi3 hn hsm hs
    | 14, _ => exact rgC_op14 a0 Q w w0 A T base b3 b4 g i n c bl ol nl cl br or nr cr M l m r s ul um ur v3 v4 v7 v2 hw hwg hA h3 h4 hb hM hg hl hcm hm hcr hr hi1 hi2 hi3 hn hsm hs
    | 15, _ => exact rgC_op15 a0 Q w w0 A T base b3 b4 g i n c bl ol nl cl br or nr cr M l m r s ul um ur v3 v4 v7 v2 hw hwg hA h3 h4 hb hM hg hl hcm hm hcr hr hi1 hi2 hi3 hn hsm hs
    | 16, _ => exact rgC_op16 a0 Q w w0 A T base b3 b4 g i n c bl ol nl cl br or nr cr M l m r s ul um ur v3 v4 v7 v2 hw hwg hA h3 h4 hb hM hg hl hcm hm hcr hr hi1 hi2 hi3 hn hsm hs
    | 17, _ => exact rgC_op17 a0 Q w w0 A T base b3 b4 g i n c bl ol nl cl br or nr cr M l m r s ul um ur v3 v4 v7 v2 hw hwg hA h3 h4 hb hM hg hl hcm hm hcr hr hi1 hi2 hi3 hn hsm hs
    | 18, _ => exact rgC_op18 a0 Q w w0 A T base b3 b4 g i n c bl ol nl cl br or nr cr M l m r s ul um ur v3 v4 v7 v2 hw hwg hA h3 h4 hb hM hg hl hcm hm hcr hr hi1 hi2 hi3 hn hsm hs
    | 19, _ => exact rgC_op19 a0 Q w w0 A T base b3 b4 g i n c bl ol nl cl br or nr cr M l m r s ul um ur v3 v4 v7 v2 hw hwg hA h3 h4 hb hM hg hl hcm hm hcr hr hi1 hi2 hi3 hn hsm hs
    | 20, _ => exact rgC_op20 a0 Q w w0 A T base b3 b4 g i n c bl ol nl cl br or nr cr M l m r s ul um ur v3 v4 v7 v2 hw hwg hA h3 h4 hb hM hg hl hcm hm hcr hr hi1 hi2 hi3 hn hsm hs
    | 21, _ => exact rgC_op21 a0 Q w w0 A T base b3 b4 g i n c bl ol nl cl br or nr cr M l m r s ul um ur v3 v4 v7 v2 hw hwg hA h3 h4 hb hM hg hl hcm hm hcr hr hi1 hi2 hi3 hn hsm hs
    | q + 22, h => exact absurd h (by omega)
  · intro L a W hL hJ
    have all : ∀ k, k < 22 → L k = true := hL
    refine hQ a W (rgC_ts ▸ hJ.near) hJ.inv.1 hJ.inv.2.1 (hJ.fx 21 (by rw [rgC_size]; omega) (all 21 (by omega)))
/-- A worker, its slots a value of whatever kind. -/
structure Un where
  i : Int
  ce : Value
  c : Int
  s0 : Int
  s1 : Int
  g0 : Int
  g1 : Int
  r : List (List Tm)
  la : Int
  ba : Int
def Un.agg (u : Un) (v : Value) : Value := .agg #[.int .i64 u.i, u.ce, .int .i64 u.c, .int .i64 u.s0, .int .i64 u.s1, .int .i64 u.g0, .int .i64 u.g1, v, .int .i64 u.la, .int .i64 u.ba]
noncomputable def cntAt (l m r : List (List Tm)) : Nat → List (List Tm)
  | 0 => l
  | j + 1 => (cntAt l m r j).set j (chT (l.getD j [] ++ m.getD j [] ++ r.getD j []))
theorem cntAt_len (l m r : List (List Tm)) : ∀ j, (cntAt l m r j).length = l.length
  | 0 => rfl
  | j + 1 => by rw [cntAt, List.length_set, cntAt_len l m r j]
theorem cntAt_rest (l m r : List (List Tm)) : ∀ j k, j ≤ k → (cntAt l m r j)[k]? = l[k]?
  | 0, k, _ => rfl
  | j + 1, k, h => by rw [cntAt, List.getElem?_set_ne (by omega), cntAt_rest l m r j k (by omega)]
def pick (c x y : Int) : Int := if c = 0 then x else y
def whiteS (t : Tk) (u : Un) : Int := wrap64 (t.w + wrap64 (pick t.c u.s0 u.s1 - pick t.c u.g0 u.g1))
theorem getD_at {α : Type} {l : List α} {i : Nat} {x d : α} (h : l[i]? = some x) : l.getD i d = x := by rw [List.getD_eq_getElem?_getD, h]; rfl
set_option maxHeartbeats 8000000 in
theorem counted_any {A : Nat → Prop} {w : World} (t : Tk) {a : Option Addr} {n c : Nat} (hT : Rs tml A w t.l (.slice a n c)) (u : Un) (hce : ∃ ca cn cc, u.ce = .slice ca cn cc) {ar : Option Addr} {cr : Nat} (hR : Rs tml A w u.r (.slice ar n cr)) {m : List (List Tm)} {am : Option Addr} {cm : Nat} (hM : Rs tml A w m (.slice am n cm))
    (hA : ∀ b, A b → b < w.heap.size) (hn : n ≤ 1000000) (hc : t.c = 0 ∨ t.c = 1) (hs : ∀ i : Nat, (t.l.getD i []).length + (m.getD i []).length + (u.r.getD i []).length ≤ 1073741823) :
    Calls Try.prog 41 #[.agg #[.int .i64 t.p, .int .i64 t.a, .int .i64 t.c, .int .i64 t.w, .slice a n c], u.agg (.slice ar n cr), .slice am n cm] w fun e w' => ∃ a' c', e = .returned (.agg #[.int .i64 t.p, .int .i64 t.a, .int .i64 t.c, .int .i64 (whiteS t u), .slice a' n c']) ∧ Ext w w' ∧ Rs tml A w' (cntAt t.l m u.r n) (.slice a' n c') := by
  obtain ⟨ca, cn, cc, hce⟩ := hce
  obtain ⟨p, ta, tc, tw, l⟩ := t
  obtain ⟨ui, ce, uc, s0, s1, g0, g1, r, la, ba⟩ := u
  unfold Un.agg whiteS pick
  dsimp only at *
  subst hce
  have HT := Lib.hid hT
  have HR := Lib.hid hR
  have HM := Lib.hid hM
  have HS := Lib.hid hs
  have HA := Lib.hid hA
  have HN := Lib.hid hn
  have nl : n = l.length := by obtain ⟨_, _, e, _⟩ := hT; exact (Value.slice.inj e).2.1
  have nm : n = m.length := by obtain ⟨_, _, e, _⟩ := hM; exact (Value.slice.inj e).2.1
  have nr : n = r.length := by obtain ⟨_, _, e, _⟩ := hR; exact (Value.slice.inj e).2.1
  have LN := Lib.hid (And.intro nl (And.intro nm nr))
  have CL := Lib.hid (fun W (hx : Ext w W) => clone_rs (A := fun b => A b ∨ w.heap.size ≤ b ∧ b < w.heap.size + 3) ((hT.off (fun b hb => hb.imp id And.left)).on hx) (by omega))
  clear hT hR hM hs hA hn nl nm nr
  rcases hc with rfl | rfl
  all_goals
    go_enter Try.func41, Try.ntmps41
    go_wp2
    refine wp_region_tail 15 (by kernel_rfl) (by kernel_rfl) ?_
    simp only [List.take_succ_cons, List.take_zero, List.drop_succ_cons, List.drop_zero]
    repeat still_step
    refine wpStill_nil ?_
    go_upto_region 2 with fail
    refine name_world fun w1 hw1 => ?_
    have hx1 : Ext w w1 := by subst hw1; (repeat' (first | with_reducible exact Ext.refl _ | with_reducible refine Ext.ext ?_ _ | with_reducible refine Ext.alloc ?_ _ | with_reducible refine Ext.drew ?_ | with_reducible refine Ext.drewN ?_ _ | with_reducible assumption))
    first  | have hb3 : w1.heap[w.heap.size]? = some (.cells #[.int .i64 p, .int .i64 ta, .int .i64 0, .int .i64 (wrap64 (tw + wrap64 (s0 - g0))), .slice a n c] 24 (0, 0)) := by (subst hw1; refine box_at ?_; (repeat' (first | with_reducible exact Ext.refl _ | with_reducible refine Ext.ext ?_ _ | with_reducible refine Ext.alloc ?_ _ | with_reducible refine Ext.drew ?_ | with_reducible refine Ext.drewN ?_ _ | with_reducible assumption)); done)  | have hb3 : w1.heap[w.heap.size]? = some (.cells #[.int .i64 p, .int .i64 ta, .int .i64 1, .int .i64 (wrap64 (tw + wrap64 (s1 - g1))), .slice a n c] 24 (0, 0)) := by (subst hw1; refine box_at ?_; (repeat' (first | with_reducible exact Ext.refl _ | with_reducible refine Ext.ext ?_ _ | with_reducible refine Ext.alloc ?_ _ | with_reducible refine Ext.drew ?_ | with_reducible refine Ext.drewN ?_ _ | with_reducible assumption)); done)
    have hb4 : w1.heap[w.heap.size + 1]? = some (.cells #[.int .i64 ui, .slice ca cn cc, .int .i64 uc, .int .i64 s0, .int .i64 s1, .int .i64 g0, .int .i64 g1, .slice ar n cr, .int .i64 la, .int .i64 ba] 28 (0, 0)) := by subst hw1; exact box_at2 (by (repeat' (first | with_reducible exact Ext.refl _ | with_reducible refine Ext.ext ?_ _ | with_reducible refine Ext.alloc ?_ _ | with_reducible refine Ext.drew ?_ | with_reducible refine Ext.drewN ?_ _ | with_reducible assumption)))
    have hb6 : w1.heap[w.heap.size + 2]? = some (.cells #[.int .i64 0, .int .i64 0, .int .i64 0, .int .i64 0, .slice none 0 0] 24 (0, 0)) := by subst hw1; exact box_at3 (by (repeat' (first | with_reducible exact Ext.refl _ | with_reducible refine Ext.ext ?_ _ | with_reducible refine Ext.alloc ?_ _ | with_reducible refine Ext.drew ?_ | with_reducible refine Ext.drewN ?_ _ | with_reducible assumption)))
    have hs1 : w1.heap.size = w.heap.size + 3 := by subst hw1; simp
    clear hw1
    have HB := Lib.hid (And.intro hb4 hb6)
    have HX1 := Lib.hid hx1
    have HS1 := Lib.hid hs1
    have cl := CL.out w1 hx1
    have CL1 := Lib.hid cl
    clear hb4 hb6 hs1 CL cl
    obtain ⟨e0, e1, e2, e3, e4, el, -⟩ := box5 hb3
    have HB3 := Lib.hid hb3
    clear hb3
    haveI : LtSz w.heap.size w1.heap.size := ⟨el⟩
    go_upto_region 3 with (go_at_call 75; (with_reducible refine CL1.out.mono ?_); rintro e w2 ⟨v2, rfl, hx, ho⟩; obtain ⟨a2, c2, hv2⟩ := ho.form; rw [← LN.out.1] at hv2; subst hv2; have HX2 := Lib.hid hx; have O2 := Lib.hid ho; clear e0 e1 e2 e3 e4 el this; obtain ⟨e0, e1, e2, e3, e4, el, ef⟩ := box5 (Keeps.ext (A := noB) hx _ _ id HB3.out); clear hx ho; haveI : LtSz w.heap.size w2.heap.size := ⟨el⟩; have ef4 := ef 4; clear ef)
    refine name_world fun w3 hw3 => ?_
    have hb3 := box5_set4 (Keeps.ext (A := noB) HX2.out _ _ id HB3.out) (.slice a2 n c2)
    rw [← hw3] at hb3
    have hk3 : Keeps (fun b => b = w.heap.size) w2 w3 := by subst hw3; exact Keeps.set (A := fun b => b = w.heap.size) rfl _
    have hx3 : Ext w w3 := by subst hw3; exact (HX1.out.trans HX2.out).setCell (Nat.le_refl _) _
    have hb4 := hk3 _ _ (by omega) (Keeps.ext (A := noB) HX2.out _ _ id HB.out.1)
    have hb6 := hk3 _ _ (by omega) (Keeps.ext (A := noB) HX2.out _ _ id HB.out.2)
    have hA' : ∀ b, (A b ∨ w.heap.size ≤ b ∧ b < w.heap.size + 3) → b < w1.heap.size := fun b hb => by
      have h1 := HS1.out
      rcases hb with hb | hb
      · have := HA.out b hb; omega
      · omega
    have O3 := Lib.hid (O2.out.keep hA' (hk3.weak (fun b hb => .inr ⟨by omega, by omega⟩)))
    have HAA := Lib.hid hA'
    have HX3 := Lib.hid hx3
    have BB := Lib.hid (And.intro hb3 (And.intro hb4 hb6))
    have HS3 := Lib.hid (show w1.heap.size ≤ w3.heap.size by subst hw3; rw [World.size_setCell]; exact HX2.out.le)
    clear hw3 hk3 hx3 hA' hb3 hb4 hb6 e0 e1 e2 e3 e4 el ef4 this O2 HB3 HB CL1
    obtain ⟨e0, e1, e2, e3, e4, el, -⟩ := box5 BB.out.1
    haveI : LtSz w.heap.size w3.heap.size := ⟨el⟩
    go_wp2
    go_loopw [30] (fun i wr => ∃ j : Nat, j ≤ n ∧ i = .int .i64 j ∧ Ext w wr ∧ Keeps (fun b => (Value.slice a2 n c2).ownBlock = some b) w3 wr ∧ Ow tml 38 w1.heap.size (fun b => A b ∨ w.heap.size ≤ b ∧ b < w.heap.size + 3) wr (cntAt l m r j) (.slice a2 n c2)) (fun i _ => n - (intOf i).toNat)
    case atStart => exact ⟨0, by omega, rfl, HX3.out, Keeps.refl _ _, O3.out⟩
    case round =>
      obtain ⟨j, hj, rfl, hx, hk, ho⟩ := hrel
      obtain ⟨w4, hw4⟩ : ∃ x, x = wr := ⟨_, rfl⟩
      subst hw4
      by_cases hlt : j < n
      · obtain ⟨xl, hxl⟩ : ∃ x, l[j]? = some x := ⟨l[j]'(by have := LN.out; omega), List.getElem?_eq_getElem _⟩
        obtain ⟨xm, hxm⟩ : ∃ x, m[j]? = some x := ⟨m[j]'(by have := LN.out; omega), List.getElem?_eq_getElem _⟩
        obtain ⟨xr, hxr⟩ : ∃ x, r[j]? = some x := ⟨r[j]'(by have := LN.out; omega), List.getElem?_eq_getElem _⟩
        obtain ⟨g, cs, rfl, hg1, hg2, -, -, ⟨ul, rfl, hul⟩, hcell, hfz⟩ := ho.at ((cntAt_rest l m r j j (Nat.le_refl _)).trans hxl)
        have hgc : w4.cell? ⟨g, j, none⟩ = some ul := by
          have := hcell 0 ul rfl
          rwa [show tml.K = 1 from rfl, Nat.mul_one, Nat.add_zero] at this
        obtain ⟨bm, om, um, rfl, -, -, hum, hcm⟩ := (HM.out.on hx).atl hxm
        obtain ⟨br, orr, ur, rfl, -, -, hur, hcr⟩ := (HR.out.on hx).atl hxr
        have hs1 := HS1.out
        have kb : ∀ b o, b < w.heap.size + 3 → w3.heap[b]? = some o → w4.heap[b]? = some o := fun b o hb ho' => hk b o (fun e => by have := Option.some.inj e; dsimp only at this; omega) ho'
        have b3 := kb _ _ (by omega) BB.out.1
        have b4 := kb _ _ (by omega) BB.out.2.1
        have h3 := (box5 b3).2.2.2.2.1
        have h4 : w4.cell? ⟨w.heap.size + 1, 7, none⟩ = some (.slice (some ⟨br, orr, none⟩) n cr) := by rw [cell_of_row _ _ _ _ _ (0, 0) b4]; rfl
        have es : Hid (xl ++ xm ++ xr = l.getD j [] ++ m.getD j [] ++ r.getD j []) := Lib.hid (by rw [getD_at hxl, getD_at hxm, getD_at hxr])
        have hsum : Hid (xl.length + xm.length + xr.length ≤ 1073741823) := Lib.hid (by have := HS.out j; rwa [getD_at hxl, getD_at hxm, getD_at hxr] at this)
        have hcl : Hid (n = (cntAt l m r j).length) := Lib.hid (by rw [cntAt_len]; exact LN.out.1)
        have HG := Lib.hid (And.intro hx (And.intro hk ho))
        have HC := Lib.hid (And.intro hgc (And.intro hul (And.intro hum (And.intro hcm (And.intro hur hcr)))))
        have HH := Lib.hid (And.intro h3 (And.intro h4 (And.intro hg1 hlt)))
        have HL := Lib.hid (show ∀ b, (A b ∨ w.heap.size ≤ b ∧ b < w.heap.size + 3) → b < w4.heap.size from fun b hb => (by
          have h6 := (Array.getElem?_eq_some_iff.1 (kb _ _ (by omega) BB.out.2.2)).1
          rcases hb with hb | hb
          · have := HA.out b hb; omega
          · omega))
        clear hx hk ho hgc hul hum hcm hur hcr kb b3 b4 h3 h4 hs1 hcell hfz hxl hxm hxr e0 e1 e2 e3 e4 el this
        go_upto_region 6 with fail
        refine rgC _ _ w w4 (fun b => A b ∨ w.heap.size ≤ b ∧ b < w.heap.size + 3) 38 w1.heap.size w.heap.size (w.heap.size + 1) g j n c2 bm om n cm br orr n cr (cntAt l m r j) xl xm xr _ ul um ur rfl rfl rfl rfl HG.out.1 (by have := HH.out.2.2.1; have := HS1.out; omega) HL.out HH.out.1 HH.out.2.1 ⟨by have := HH.out.2.2.1; have := HS1.out; omega, by have := HH.out.2.2.1; have := HS1.out; omega⟩ HG.out.2.2 HC.out.1 (HC.out.2.1.weak (fun _ h => h.elim)) HC.out.2.2.2.1 (HC.out.2.2.1.weak (fun _ h => h.elim)) HC.out.2.2.2.2.2 (HC.out.2.2.2.2.1.weak (fun _ h => h.elim)) hlt hlt hlt hcl hsum es (by simp) ?_
        intro a w5 hn hx5 hk5 ho5
        rw [hn.eq]
        clear hn
        dsimp only [puts, ts_rgC, List.foldl, Act.put]
        simp only [List.setIfInBounds_toArray, List.set_cons_succ, List.set_cons_zero]
        generalize a.eval (.tmp 33) = t33
        generalize a.eval (.tmp 34) = t34
        generalize a.eval (.tmp 35) = t35
        generalize a.eval (.tmp 36) = t36
        generalize a.eval (.tmp 37) = t37
        generalize a.eval (.tmp 38) = t38
        generalize a.eval (.tmp 39) = t39
        generalize a.eval (.tmp 40) = t40
        generalize a.eval (.tmp 41) = t41
        generalize a.eval (.tmp 42) = t42
        generalize a.eval (.tmp 43) = t43
        generalize a.eval (.tmp 44) = t44
        generalize a.eval (.tmp 45) = t45
        generalize a.eval (.tmp 46) = t46
        generalize a.eval (.tmp 47) = t47
        generalize a.eval (.tmp 48) = t48
        generalize a.eval (.tmp 49) = t49
        generalize a.eval (.tmp 50) = t50
        generalize a.eval (.tmp 51) = t51
        generalize a.eval (.tmp 52) = t52
        generalize a.eval (.tmp 53) = t53
        clear a
        have HG5 := Lib.hid (And.intro hx5 (And.intro hk5 ho5))
        clear hx5 hk5 ho5
        have ew : wrap64 ((j : Int) + 1) = ((j + 1 : Nat) : Int) := (IntWalk.wrap64_in _ ⟨by omega, by have := HN.out; omega⟩).trans (by omega)
        go_wp2
        exact ⟨⟨j + 1, by omega, congrArg (Value.int .i64) ew, HG5.out.1, HG.out.2.1.trans (HG5.out.2.1.weak (fun b hb => by rw [hb]; rfl)), HG5.out.2.2⟩, by rw [ew]; simp only [intOf]; omega⟩
      · obtain rfl : j = n := by omega
        have hlo := fun b => ho.lt b
        have kb : ∀ b o, b < w.heap.size + 3 → w3.heap[b]? = some o → w4.heap[b]? = some o := fun b o hb ho' => hk b o (fun e => by have := hlo b e; have := HS1.out; omega) ho'
        clear e0 e1 e2 e3 e4 el this
        obtain ⟨e0, e1, e2, e3, e4, el, -⟩ := box5 (kb _ _ (by omega) BB.out.1)
        obtain ⟨f0, f1, f2, f3, f4, fl, ff⟩ := box5 (kb _ _ (by omega) BB.out.2.2)
        have hb6 := Lib.hid (kb _ _ (by omega) BB.out.2.2)
        have HG := Lib.hid (And.intro hx (And.intro hk ho))
        have ff0 := ff 0
        have ff1 := ff 1
        have ff2 := ff 2
        have ff3 := ff 3
        have ff4 := ff 4
        clear hx hk ho hlo kb ff
        haveI : LtSz w.heap.size w4.heap.size := ⟨el⟩
        haveI : LtSz (w.heap.size + 1 + 1) w4.heap.size := ⟨fl⟩
        go_wp2
        refine name_post fun w6 hw6 => ?_
        obtain ⟨hn6, hk6⟩ := box5_set hb6.out hw6
        obtain ⟨z0, z1, z2, z3, z4, -, -⟩ := box5 hn6
        have hx6 : Ext w w6 := by rw [hw6]; exact ((((HG.out.1.setCell (by simp; omega) _).setCell (by simp; omega) _).setCell (by simp; omega) _).setCell (by simp; omega) _).setCell (by simp; omega) _
        have ho6 := (HG.out.2.2.keep HAA.out (hk6.weak (fun b hb => .inr ⟨by omega, by omega⟩))).rs HAA.out
        clear hw6 hn6 hk6
        refine bodyPost_ret (v := .agg #[_, _, _, _, _]) (by simp [results, Try.results41, go_sem, z0, z1, z2, z3, z4]; try rfl) rfl ⟨a2, c2, rfl, hx6, ho6.weak (fun b hb => .inl hb)⟩
end Go.Proofs.Ytmngjifcgfnogaa
