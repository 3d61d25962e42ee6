/- CreditRight's last region: a run of && and || behind four calls. (printed by gen_reg38.py) -/
import Derived.Test.YtgjolablgcnlmaaInv3
import Derived.Test.YtgjolablgcnlmaaCrG
namespace Go.Proofs.Ytgjolablgcnlmaa
set_option linter.unusedSimpArgs false
set_option linter.unusedVariables false
open Go.RowKit

noncomputable def ops38 : Array Oper := ((Try.f3.body.bind (regOf 38)).getD #[])
theorem ops38_size : ops38.size = 90 := by kernel_rfl
theorem ops38_ac : acyc .any ops38 = true := by kernel_rfl
theorem ops38_once : once ops38 = true := by kernel_rfl
theorem ops38_fits : fits ops38 298 = true := by kernel_rfl
def ts38 : List Nat := [209, 210, 211, 212, 213, 214, 215, 216, 217, 218, 219, 220, 221, 222, 223, 224, 225, 226, 227, 228, 229, 230, 231, 232, 233, 234, 235, 236, 237, 238, 239, 240, 241, 242, 243, 244, 245, 246, 247, 248, 249, 250, 251, 252, 253, 254, 255, 256, 257, 258, 259, 260, 261, 262, 263, 264, 265, 266, 267, 268, 269, 270, 271, 272, 273, 274, 275, 276, 277, 278, 279, 280, 281, 282, 283, 284, 285, 286, 287, 288, 289, 290, 291, 292, 293, 294, 295, 296, 297, 6]
theorem ops38_ts : ops38.toList.filterMap (·.dst) = ts38 := by kernel_rfl
theorem ops38_dst : ∀ i, i < 90 → dstOf ops38 i ≠ none := fun i hi h => by
  have : (List.range 90).all (fun i => (dstOf ops38 i).isSome) = true := by kernel_rfl
  rw [List.all_eq_true] at this
  have h2 := this i (List.mem_range.2 hi)
  rw [h] at h2
  cases h2
/-- Five cells of a box. -/
def Five (w : World) (g : Nat) (l : Array Value) : Prop := ∃ x0 x1 x2 x3 x4, l = #[x0, x1, x2, x3, x4] ∧ ∀ W, Ext w W → W.cell? ⟨g, 0, none⟩ = some x0 ∧ W.cell? ⟨g, 1, none⟩ = some x1 ∧ W.cell? ⟨g, 2, none⟩ = some x2 ∧ W.cell? ⟨g, 3, none⟩ = some x3 ∧ W.cell? ⟨g, 4, none⟩ = some x4
def Eqs (e c : Int) (b : Bool) : Prop := (e == 0) = b ∧ (b = false → e = c)
theorem Five.of {w0 W : World} {q c1 c2 : Nat} {a1 a2 : Option Addr} {L : Ln} (h : Bx w0 W q a1 c1 a2 c2 L) : Five W q #[.int .i64 L.s, .int .i64 L.m, .slice a1 L.way.length c1, .slice a2 L.waits.length c2, .int .i64 L.b] :=
  ⟨_, _, _, _, _, rfl, fun W' hx => (by obtain ⟨g0, g1, g2, g3, g4, -, -⟩ := (h.on hx).cells; exact ⟨g0, g1, g2, g3, g4⟩)⟩
theorem eqs_of {e k : Int} {b : Bool} (h : (e == 0) = b ∧ (e == k) = !b) : Eqs e k b :=
  ⟨h.1, fun hb => by have := h.2; rw [hb] at this; simpa using this⟩
structure P38 (a0 : Act) (w0 : World) (p gA gA' gB gB' gC gC' gD gD' : Nat) (lA lA' lB lB' lC lC' lD lD' : Array Value) (x es ea ek er m b : Int) (a1 a2 : Option Addr) (n1 c1 n2 c2 : Nat) (bm ba bk bb : Bool) : Prop where
  v11 : V a0 11 = .pointer (some ⟨gA, 0, none⟩)
  v19 : V a0 19 = .pointer (some ⟨gA', 0, none⟩)
  v12 : V a0 12 = .pointer (some ⟨gB, 0, none⟩)
  v20 : V a0 20 = .pointer (some ⟨gB', 0, none⟩)
  v14 : V a0 14 = .pointer (some ⟨gC, 0, none⟩)
  v21 : V a0 21 = .pointer (some ⟨gC', 0, none⟩)
  v17 : V a0 17 = .pointer (some ⟨gD, 0, none⟩)
  v22 : V a0 22 = .pointer (some ⟨gD', 0, none⟩)
  v3 : V a0 3 = .pointer (some ⟨p, 0, none⟩)
  v15 : V a0 15 = .int .i64 x
  v23 : V a0 23 = .int .i64 x
  v8 : V a0 8 = .int .i64 es
  v13 : V a0 13 = .int .i64 ea
  v16 : V a0 16 = .int .i64 ek
  v18 : V a0 18 = .int .i64 er
  f11 : Five w0 gA lA
  f19 : Five w0 gA' lA'
  f12 : Five w0 gB lB
  f20 : Five w0 gB' lB'
  f14 : Five w0 gC lC
  f21 : Five w0 gC' lC'
  f17 : Five w0 gD lD
  f22 : Five w0 gD' lD'
  k0 : ∀ W, Ext w0 W → Calls Try.prog 10 #[.agg lA, .agg lA'] W fun e w' => e = .returned (.bool true) ∧ Ext W w'
  k1 : ∀ W, Ext w0 W → Calls Try.prog 10 #[.agg lB, .agg lB'] W fun e w' => e = .returned (.bool true) ∧ Ext W w'
  k2 : ∀ W, Ext w0 W → Calls Try.prog 10 #[.agg lC, .agg lC'] W fun e w' => e = .returned (.bool true) ∧ Ext W w'
  k3 : ∀ W, Ext w0 W → Calls Try.prog 10 #[.agg lD, .agg lD'] W fun e w' => e = .returned (.bool true) ∧ Ext W w'
  pp : ∀ W, Ext w0 W → W.cell? ⟨p, 1, none⟩ = some (.int .i64 m) ∧ W.cell? ⟨p, 2, none⟩ = some (.slice a1 n1 c1) ∧ W.cell? ⟨p, 3, none⟩ = some (.slice a2 n2 c2) ∧ W.cell? ⟨p, 4, none⟩ = some (.int .i64 b)
  q1 : Eqs es 9 bm
  q2 : Eqs ea 12 ba
  q3 : Eqs ek 12 bk
  q4 : Eqs er 12 bb
  d1 : decide (0 < m) = bm
  d2 : decide (0 < n1) = ba
  d3 : decide (0 < n2) = bk
  d4 : decide (0 < b) = bb
def F38 (p : Nat) (lA lA' lB lB' lC lC' lD lD' : Array Value) (x es ea ek er m b : Int) (a1 a2 : Option Addr) (n1 c1 n2 c2 : Nat) (bm ba bk bb : Bool) : Nat → (Nat → Bool) → Value → World → Prop
  | 0, _, v, _ => v = .agg lA
  | 1, _, v, _ => v = .agg lA'
  | 2, _, v, _ => v = .bool true
  | 3, _, v, _ => v = .bool true
  | 4, _, v, _ => v = .agg lB
  | 5, _, v, _ => v = .agg lB'
  | 6, _, v, _ => v = .bool true
  | 7, _, v, _ => v = .bool true
  | 8, _, v, _ => v = .bool true
  | 9, _, v, _ => v = .agg lC
  | 10, _, v, _ => v = .agg lC'
  | 11, _, v, _ => v = .bool true
  | 12, _, v, _ => v = .bool true
  | 13, _, v, _ => v = .bool true
  | 14, _, v, _ => v = .agg lD
  | 15, _, v, _ => v = .agg lD'
  | 16, _, v, _ => v = .bool true
  | 17, _, v, _ => v = .bool true
  | 18, _, v, _ => v = .bool true
  | 19, _, v, _ => v = .int .i64 x
  | 20, _, v, _ => v = .int .i64 x
  | 21, _, v, _ => v = .bool true
  | 22, _, v, _ => v = .bool true
  | 23, _, v, _ => v = .bool true
  | 24, _, v, _ => v = .int .i64 es
  | 25, _, v, _ => v = .bool bm
  | 26, _, v, _ => v = .pointer (some ⟨p, 1, none⟩)
  | 27, _, v, _ => v = .int .i64 m
  | 28, _, v, _ => v = .bool bm
  | 29, _, v, _ => v = .bool true
  | 30, _, v, _ => v = .bool true
  | 31, _, v, _ => v = .bool true
  | 32, _, v, _ => v = .int .i64 es
  | 33, _, v, _ => v = .bool bm
  | 34, _, v, _ => v = .bool bm
  | 35, _, v, _ => bm = false → v = .int .i64 es
  | 36, _, v, _ => bm = false → v = .bool true
  | 37, _, v, _ => v = .bool true
  | 38, _, v, _ => v = .bool true
  | 39, _, v, _ => v = .bool true
  | 40, _, v, _ => v = .int .i64 ea
  | 41, _, v, _ => v = .bool ba
  | 42, _, v, _ => v = .pointer (some ⟨p, 2, none⟩)
  | 43, _, v, _ => v = .slice a1 n1 c1
  | 44, _, v, _ => v = .int .i64 n1
  | 45, _, v, _ => v = .bool ba
  | 46, _, v, _ => v = .bool true
  | 47, _, v, _ => v = .bool true
  | 48, _, v, _ => v = .bool true
  | 49, _, v, _ => v = .int .i64 ea
  | 50, _, v, _ => v = .bool ba
  | 51, _, v, _ => v = .bool ba
  | 52, _, v, _ => ba = false → v = .int .i64 ea
  | 53, _, v, _ => ba = false → v = .bool true
  | 54, _, v, _ => v = .bool true
  | 55, _, v, _ => v = .bool true
  | 56, _, v, _ => v = .bool true
  | 57, _, v, _ => v = .int .i64 ek
  | 58, _, v, _ => v = .bool bk
  | 59, _, v, _ => v = .pointer (some ⟨p, 3, none⟩)
  | 60, _, v, _ => v = .slice a2 n2 c2
  | 61, _, v, _ => v = .int .i64 n2
  | 62, _, v, _ => v = .bool bk
  | 63, _, v, _ => v = .bool true
  | 64, _, v, _ => v = .bool true
  | 65, _, v, _ => v = .bool true
  | 66, _, v, _ => v = .int .i64 ek
  | 67, _, v, _ => v = .bool bk
  | 68, _, v, _ => v = .bool bk
  | 69, _, v, _ => bk = false → v = .int .i64 ek
  | 70, _, v, _ => bk = false → v = .bool true
  | 71, _, v, _ => v = .bool true
  | 72, _, v, _ => v = .bool true
  | 73, _, v, _ => v = .bool true
  | 74, _, v, _ => v = .int .i64 er
  | 75, _, v, _ => v = .bool bb
  | 76, _, v, _ => v = .pointer (some ⟨p, 4, none⟩)
  | 77, _, v, _ => v = .int .i64 b
  | 78, _, v, _ => v = .bool bb
  | 79, _, v, _ => v = .bool true
  | 80, _, v, _ => v = .bool true
  | 81, _, v, _ => v = .bool true
  | 82, _, v, _ => v = .int .i64 er
  | 83, _, v, _ => v = .bool bb
  | 84, _, v, _ => v = .bool bb
  | 85, _, v, _ => bb = false → v = .int .i64 er
  | 86, _, v, _ => bb = false → v = .bool true
  | 87, _, v, _ => v = .bool true
  | 88, _, v, _ => v = .bool true
  | _, _, v, _ => v = .bool true
theorem F38_stays (p : Nat) (lA lA' lB lB' lC lC' lD lD' : Array Value) (x es ea ek er m b : Int) (a1 a2 : Option Addr) (n1 c1 n2 c2 : Nat) (bm ba bk bb : Bool) : StaysF (F38 p lA lA' lB lB' lC lC' lD lD' x es ea ek er m b a1 a2 n1 c1 n2 c2 bm ba bk bb) 90 := by
  intro k hk L i v W W' hi hx h
  match k, h with
  | 0, h => exact h
  | 1, h => exact h
  | 2, h => exact h
  | 3, h => exact h
  | 4, h => exact h
  | 5, h => exact h
  | 6, h => exact h
  | 7, h => exact h
  | 8, h => exact h
  | 9, h => exact h
  | 10, h => exact h
  | 11, h => exact h
  | 12, h => exact h
  | 13, h => exact h
  | 14, h => exact h
  | 15, h => exact h
  | 16, h => exact h
  | 17, h => exact h
  | 18, h => exact h
  | 19, h => exact h
  | 20, h => exact h
  | 21, h => exact h
  | 22, h => exact h
  | 23, h => exact h
  | 24, h => exact h
  | 25, h => exact h
  | 26, h => exact h
  | 27, h => exact h
  | 28, h => exact h
  | 29, h => exact h
  | 30, h => exact h
  | 31, h => exact h
  | 32, h => exact h
  | 33, h => exact h
  | 34, h => exact h
  | 35, h => exact h
  | 36, h => exact h
  | 37, h => exact h
  | 38, h => exact h
  | 39, h => exact h
  | 40, h => exact h
  | 41, h => exact h
  | 42, h => exact h
  | 43, h => exact h
  | 44, h => exact h
  | 45, h => exact h
  | 46, h => exact h
  | 47, h => exact h
  | 48, h => exact h
  | 49, h => exact h
  | 50, h => exact h
  | 51, h => exact h
  | 52, h => exact h
  | 53, h => exact h
  | 54, h => exact h
  | 55, h => exact h
  | 56, h => exact h
  | 57, h => exact h
  | 58, h => exact h
  | 59, h => exact h
  | 60, h => exact h
  | 61, h => exact h
  | 62, h => exact h
  | 63, h => exact h
  | 64, h => exact h
  | 65, h => exact h
  | 66, h => exact h
  | 67, h => exact h
  | 68, h => exact h
  | 69, h => exact h
  | 70, h => exact h
  | 71, h => exact h
  | 72, h => exact h
  | 73, h => exact h
  | 74, h => exact h
  | 75, h => exact h
  | 76, h => exact h
  | 77, h => exact h
  | 78, h => exact h
  | 79, h => exact h
  | 80, h => exact h
  | 81, h => exact h
  | 82, h => exact h
  | 83, h => exact h
  | 84, h => exact h
  | 85, h => exact h
  | 86, h => exact h
  | 87, h => exact h
  | 88, h => exact h
  | 89, h => exact h
  | n + 90, _ => exact absurd hk (by omega)
set_option maxRecDepth 100000 in
set_option maxHeartbeats 4000000 in
theorem st38_0 (a0 : Act) (w0 : World) (Q : Exit → Act → World → Prop) (p gA gA' gB gB' gC gC' gD gD' : Nat) (lA lA' lB lB' lC lC' lD lD' : Array Value) (x es ea ek er m b : Int) (a1 a2 : Option Addr) (n1 c1 n2 c2 : Nat) (bm ba bk bb : Bool) (H : P38 a0 w0 p gA gA' gB gB' gC gC' gD gD' lA lA' lB lB' lC lC' lD lD' x es ea ek er m b a1 a2 n1 c1 n2 c2 bm ba bk bb) : StepF Try.prog Q ops38 a0 w0 (F38 p lA lA' lB lB' lC lC' lD lD' x es ea ek er m b a1 a2 n1 c1 n2 c2 bm ba bk bb) 0 := by
  have ST : StaysF (F38 p lA lA' lB lB' lC lC' lD lD' x es ea ek er m b a1 a2 n1 c1 n2 c2 bm ba bk bb) ops38.size := by rw [ops38_size]; exact F38_stays p lA lA' lB lB' lC lC' lD lD' x es ea ek er m b a1 a2 n1 c1 n2 c2 bm ba bk bb
  refine step_free fun o ho => ?_
  have ho' := ho
  cases ho'
  refine ⟨rfl, fun L a W hL hd hJ K hK => ?_⟩
  have f1 := hJ.old (t := 11) hL (by kernel_rfl) H.v11
  obtain ⟨x0, x1, x2, x3, x4, hl, hc5⟩ := H.f11
  obtain ⟨e0, e1, e2, e3, e4⟩ := hc5 W hJ.ext
  conv => arg 2; whnf
  go_simp
  exact hK _ _ hJ.ext (hJ.frame ST hL (Ext.refl _)) (congrArg Value.agg hl.symm)
set_option maxRecDepth 100000 in
set_option maxHeartbeats 4000000 in
theorem st38_1 (a0 : Act) (w0 : World) (Q : Exit → Act → World → Prop) (p gA gA' gB gB' gC gC' gD gD' : Nat) (lA lA' lB lB' lC lC' lD lD' : Array Value) (x es ea ek er m b : Int) (a1 a2 : Option Addr) (n1 c1 n2 c2 : Nat) (bm ba bk bb : Bool) (H : P38 a0 w0 p gA gA' gB gB' gC gC' gD gD' lA lA' lB lB' lC lC' lD lD' x es ea ek er m b a1 a2 n1 c1 n2 c2 bm ba bk bb) : StepF Try.prog Q ops38 a0 w0 (F38 p lA lA' lB lB' lC lC' lD lD' x es ea ek er m b a1 a2 n1 c1 n2 c2 bm ba bk bb) 1 := by
  have ST : StaysF (F38 p lA lA' lB lB' lC lC' lD lD' x es ea ek er m b a1 a2 n1 c1 n2 c2 bm ba bk bb) ops38.size := by rw [ops38_size]; exact F38_stays p lA lA' lB lB' lC lC' lD lD' x es ea ek er m b a1 a2 n1 c1 n2 c2 bm ba bk bb
  refine step_free fun o ho => ?_
  have ho' := ho
  cases ho'
  refine ⟨rfl, fun L a W hL hd hJ K hK => ?_⟩
  have f1 := hJ.old (t := 19) hL (by kernel_rfl) H.v19
  obtain ⟨x0, x1, x2, x3, x4, hl, hc5⟩ := H.f19
  obtain ⟨e0, e1, e2, e3, e4⟩ := hc5 W hJ.ext
  conv => arg 2; whnf
  go_simp
  exact hK _ _ hJ.ext (hJ.frame ST hL (Ext.refl _)) (congrArg Value.agg hl.symm)
set_option maxRecDepth 100000 in
set_option maxHeartbeats 4000000 in
theorem st38_2 (a0 : Act) (w0 : World) (Q : Exit → Act → World → Prop) (p gA gA' gB gB' gC gC' gD gD' : Nat) (lA lA' lB lB' lC lC' lD lD' : Array Value) (x es ea ek er m b : Int) (a1 a2 : Option Addr) (n1 c1 n2 c2 : Nat) (bm ba bk bb : Bool) (H : P38 a0 w0 p gA gA' gB gB' gC gC' gD gD' lA lA' lB lB' lC lC' lD lD' x es ea ek er m b a1 a2 n1 c1 n2 c2 bm ba bk bb) : StepF Try.prog Q ops38 a0 w0 (F38 p lA lA' lB lB' lC lC' lD lD' x es ea ek er m b a1 a2 n1 c1 n2 c2 bm ba bk bb) 2 := by
  have ST : StaysF (F38 p lA lA' lB lB' lC lC' lD lD' x es ea ek er m b a1 a2 n1 c1 n2 c2 bm ba bk bb) ops38.size := by rw [ops38_size]; exact F38_stays p lA lA' lB lB' lC lC' lD lD' x es ea ek er m b a1 a2 n1 c1 n2 c2 bm ba bk bb
  refine step_free fun o ho => ?_
  have ho' := ho
  cases ho'
  refine ⟨rfl, fun L a W hL hd hJ K hK => ?_⟩
  have f1 : a.tmps[209]?.getD undef = _ := hJ.dep ho hd (k := 0) (t := 209) (by kernel_rfl) (by kernel_rfl)
  have f2 : a.tmps[210]?.getD undef = _ := hJ.dep ho hd (k := 1) (t := 210) (by kernel_rfl) (by kernel_rfl)
  conv => arg 2; whnf
  go_simp
  refine (H.k0 W hJ.ext).mono ?_
  rintro e w' ⟨rfl, hx⟩
  exact hK _ _ (hJ.ext.trans hx) (hJ.frame ST hL hx) rfl
set_option maxRecDepth 100000 in
set_option maxHeartbeats 4000000 in
theorem st38_3 (a0 : Act) (w0 : World) (Q : Exit → Act → World → Prop) (p gA gA' gB gB' gC gC' gD gD' : Nat) (lA lA' lB lB' lC lC' lD lD' : Array Value) (x es ea ek er m b : Int) (a1 a2 : Option Addr) (n1 c1 n2 c2 : Nat) (bm ba bk bb : Bool) (H : P38 a0 w0 p gA gA' gB gB' gC gC' gD gD' lA lA' lB lB' lC lC' lD lD' x es ea ek er m b a1 a2 n1 c1 n2 c2 bm ba bk bb) : StepF Try.prog Q ops38 a0 w0 (F38 p lA lA' lB lB' lC lC' lD lD' x es ea ek er m b a1 a2 n1 c1 n2 c2 bm ba bk bb) 3 := by
  have ST : StaysF (F38 p lA lA' lB lB' lC lC' lD lD' x es ea ek er m b a1 a2 n1 c1 n2 c2 bm ba bk bb) ops38.size := by rw [ops38_size]; exact F38_stays p lA lA' lB lB' lC lC' lD lD' x es ea ek er m b a1 a2 n1 c1 n2 c2 bm ba bk bb
  refine step_free fun o ho => ?_
  have ho' := ho
  cases ho'
  refine ⟨rfl, fun L a W hL hd hJ K hK => ?_⟩
  have f1 : a.tmps[211]?.getD undef = _ := hJ.dep ho hd (k := 2) (t := 211) (by kernel_rfl) (by kernel_rfl)
  conv => arg 2; whnf
  go_simp
  exact hK _ _ hJ.ext (hJ.frame ST hL (Ext.refl _)) rfl
set_option maxRecDepth 100000 in
set_option maxHeartbeats 4000000 in
theorem st38_4 (a0 : Act) (w0 : World) (Q : Exit → Act → World → Prop) (p gA gA' gB gB' gC gC' gD gD' : Nat) (lA lA' lB lB' lC lC' lD lD' : Array Value) (x es ea ek er m b : Int) (a1 a2 : Option Addr) (n1 c1 n2 c2 : Nat) (bm ba bk bb : Bool) (H : P38 a0 w0 p gA gA' gB gB' gC gC' gD gD' lA lA' lB lB' lC lC' lD lD' x es ea ek er m b a1 a2 n1 c1 n2 c2 bm ba bk bb) : StepF Try.prog Q ops38 a0 w0 (F38 p lA lA' lB lB' lC lC' lD lD' x es ea ek er m b a1 a2 n1 c1 n2 c2 bm ba bk bb) 4 := by
  have ST : StaysF (F38 p lA lA' lB lB' lC lC' lD lD' x es ea ek er m b a1 a2 n1 c1 n2 c2 bm ba bk bb) ops38.size := by rw [ops38_size]; exact F38_stays p lA lA' lB lB' lC lC' lD lD' x es ea ek er m b a1 a2 n1 c1 n2 c2 bm ba bk bb
  refine step_when 3 212 true (by kernel_rfl) fun o ho => ?_
  have ho' := ho
  cases ho'
  refine ⟨rfl, fun L a W hL hd hJ => ⟨hJ.dep ho hd (k := 3) (t := 212) (by kernel_rfl) (by kernel_rfl), fun K hK => ?_⟩⟩
  have f1 := hJ.old (t := 12) hL (by kernel_rfl) H.v12
  obtain ⟨x0, x1, x2, x3, x4, hl, hc5⟩ := H.f12
  obtain ⟨e0, e1, e2, e3, e4⟩ := hc5 W hJ.ext
  conv => arg 2; whnf
  go_simp
  exact hK _ _ hJ.ext (hJ.frame ST hL (Ext.refl _)) (congrArg Value.agg hl.symm)
set_option maxRecDepth 100000 in
set_option maxHeartbeats 4000000 in
theorem st38_5 (a0 : Act) (w0 : World) (Q : Exit → Act → World → Prop) (p gA gA' gB gB' gC gC' gD gD' : Nat) (lA lA' lB lB' lC lC' lD lD' : Array Value) (x es ea ek er m b : Int) (a1 a2 : Option Addr) (n1 c1 n2 c2 : Nat) (bm ba bk bb : Bool) (H : P38 a0 w0 p gA gA' gB gB' gC gC' gD gD' lA lA' lB lB' lC lC' lD lD' x es ea ek er m b a1 a2 n1 c1 n2 c2 bm ba bk bb) : StepF Try.prog Q ops38 a0 w0 (F38 p lA lA' lB lB' lC lC' lD lD' x es ea ek er m b a1 a2 n1 c1 n2 c2 bm ba bk bb) 5 := by
  have ST : StaysF (F38 p lA lA' lB lB' lC lC' lD lD' x es ea ek er m b a1 a2 n1 c1 n2 c2 bm ba bk bb) ops38.size := by rw [ops38_size]; exact F38_stays p lA lA' lB lB' lC lC' lD lD' x es ea ek er m b a1 a2 n1 c1 n2 c2 bm ba bk bb
  refine step_when 3 212 true (by kernel_rfl) fun o ho => ?_
  have ho' := ho
  cases ho'
  refine ⟨rfl, fun L a W hL hd hJ => ⟨hJ.dep ho hd (k := 3) (t := 212) (by kernel_rfl) (by kernel_rfl), fun K hK => ?_⟩⟩
  have f1 := hJ.old (t := 20) hL (by kernel_rfl) H.v20
  obtain ⟨x0, x1, x2, x3, x4, hl, hc5⟩ := H.f20
  obtain ⟨e0, e1, e2, e3, e4⟩ := hc5 W hJ.ext
  conv => arg 2; whnf
  go_simp
  exact hK _ _ hJ.ext (hJ.frame ST hL (Ext.refl _)) (congrArg Value.agg hl.symm)
set_option maxRecDepth 100000 in
set_option maxHeartbeats 4000000 in
theorem st38_6 (a0 : Act) (w0 : World) (Q : Exit → Act → World → Prop) (p gA gA' gB gB' gC gC' gD gD' : Nat) (lA lA' lB lB' lC lC' lD lD' : Array Value) (x es ea ek er m b : Int) (a1 a2 : Option Addr) (n1 c1 n2 c2 : Nat) (bm ba bk bb : Bool) (H : P38 a0 w0 p gA gA' gB gB' gC gC' gD gD' lA lA' lB lB' lC lC' lD lD' x es ea ek er m b a1 a2 n1 c1 n2 c2 bm ba bk bb) : StepF Try.prog Q ops38 a0 w0 (F38 p lA lA' lB lB' lC lC' lD lD' x es ea ek er m b a1 a2 n1 c1 n2 c2 bm ba bk bb) 6 := by
  have ST : StaysF (F38 p lA lA' lB lB' lC lC' lD lD' x es ea ek er m b a1 a2 n1 c1 n2 c2 bm ba bk bb) ops38.size := by rw [ops38_size]; exact F38_stays p lA lA' lB lB' lC lC' lD lD' x es ea ek er m b a1 a2 n1 c1 n2 c2 bm ba bk bb
  refine step_when 3 212 true (by kernel_rfl) fun o ho => ?_
  have ho' := ho
  cases ho'
  refine ⟨rfl, fun L a W hL hd hJ => ⟨hJ.dep ho hd (k := 3) (t := 212) (by kernel_rfl) (by kernel_rfl), fun K hK => ?_⟩⟩
  have f1 : a.tmps[213]?.getD undef = _ := hJ.dep ho hd (k := 4) (t := 213) (by kernel_rfl) (by kernel_rfl)
  have f2 : a.tmps[214]?.getD undef = _ := hJ.dep ho hd (k := 5) (t := 214) (by kernel_rfl) (by kernel_rfl)
  conv => arg 2; whnf
  go_simp
  refine (H.k1 W hJ.ext).mono ?_
  rintro e w' ⟨rfl, hx⟩
  exact hK _ _ (hJ.ext.trans hx) (hJ.frame ST hL hx) rfl
set_option maxRecDepth 100000 in
set_option maxHeartbeats 4000000 in
theorem st38_7 (a0 : Act) (w0 : World) (Q : Exit → Act → World → Prop) (p gA gA' gB gB' gC gC' gD gD' : Nat) (lA lA' lB lB' lC lC' lD lD' : Array Value) (x es ea ek er m b : Int) (a1 a2 : Option Addr) (n1 c1 n2 c2 : Nat) (bm ba bk bb : Bool) (H : P38 a0 w0 p gA gA' gB gB' gC gC' gD gD' lA lA' lB lB' lC lC' lD lD' x es ea ek er m b a1 a2 n1 c1 n2 c2 bm ba bk bb) : StepF Try.prog Q ops38 a0 w0 (F38 p lA lA' lB lB' lC lC' lD lD' x es ea ek er m b a1 a2 n1 c1 n2 c2 bm ba bk bb) 7 := by
  have ST : StaysF (F38 p lA lA' lB lB' lC lC' lD lD' x es ea ek er m b a1 a2 n1 c1 n2 c2 bm ba bk bb) ops38.size := by rw [ops38_size]; exact F38_stays p lA lA' lB lB' lC lC' lD lD' x es ea ek er m b a1 a2 n1 c1 n2 c2 bm ba bk bb
  refine step_free fun o ho => ?_
  have ho' := ho
  cases ho'
  refine ⟨rfl, fun L a W hL hd hJ K hK => ?_⟩
  have f1 : a.tmps[212]?.getD undef = _ := hJ.dep ho hd (k := 3) (t := 212) (by kernel_rfl) (by kernel_rfl)
  have f2 : a.tmps[215]?.getD undef = _ := hJ.dep ho hd (k := 6) (t := 215) (by kernel_rfl) (by kernel_rfl)
  conv => arg 2; whnf
  go_simp
  exact hK _ _ hJ.ext (hJ.frame ST hL (Ext.refl _)) rfl
set_option maxRecDepth 100000 in
set_option maxHeartbeats 4000000 in
theorem st38_8 (a0 : Act) (w0 : World) (Q : Exit → Act → World → Prop) (p gA gA' gB gB' gC gC' gD gD' : Nat) (lA lA' lB lB' lC lC' lD lD' : Array Value) (x es ea ek er m b : Int) (a1 a2 : Option Addr) (n1 c1 n2 c2 : Nat) (bm ba bk bb : Bool) (H : P38 a0 w0 p gA gA' gB gB' gC gC' gD gD' lA lA' lB lB' lC lC' lD lD' x es ea ek er m b a1 a2 n1 c1 n2 c2 bm ba bk bb) : StepF Try.prog Q ops38 a0 w0 (F38 p lA lA' lB lB' lC lC' lD lD' x es ea ek er m b a1 a2 n1 c1 n2 c2 bm ba bk bb) 8 := by
  have ST : StaysF (F38 p lA lA' lB lB' lC lC' lD lD' x es ea ek er m b a1 a2 n1 c1 n2 c2 bm ba bk bb) ops38.size := by rw [ops38_size]; exact F38_stays p lA lA' lB lB' lC lC' lD lD' x es ea ek er m b a1 a2 n1 c1 n2 c2 bm ba bk bb
  refine step_free fun o ho => ?_
  have ho' := ho
  cases ho'
  refine ⟨rfl, fun L a W hL hd hJ K hK => ?_⟩
  have f1 : a.tmps[216]?.getD undef = _ := hJ.dep ho hd (k := 7) (t := 216) (by kernel_rfl) (by kernel_rfl)
  conv => arg 2; whnf
  go_simp
  exact hK _ _ hJ.ext (hJ.frame ST hL (Ext.refl _)) rfl
set_option maxRecDepth 100000 in
set_option maxHeartbeats 4000000 in
theorem st38_9 (a0 : Act) (w0 : World) (Q : Exit → Act → World → Prop) (p gA gA' gB gB' gC gC' gD gD' : Nat) (lA lA' lB lB' lC lC' lD lD' : Array Value) (x es ea ek er m b : Int) (a1 a2 : Option Addr) (n1 c1 n2 c2 : Nat) (bm ba bk bb : Bool) (H : P38 a0 w0 p gA gA' gB gB' gC gC' gD gD' lA lA' lB lB' lC lC' lD lD' x es ea ek er m b a1 a2 n1 c1 n2 c2 bm ba bk bb) : StepF Try.prog Q ops38 a0 w0 (F38 p lA lA' lB lB' lC lC' lD lD' x es ea ek er m b a1 a2 n1 c1 n2 c2 bm ba bk bb) 9 := by
  have ST : StaysF (F38 p lA lA' lB lB' lC lC' lD lD' x es ea ek er m b a1 a2 n1 c1 n2 c2 bm ba bk bb) ops38.size := by rw [ops38_size]; exact F38_stays p lA lA' lB lB' lC lC' lD lD' x es ea ek er m b a1 a2 n1 c1 n2 c2 bm ba bk bb
  refine step_when 8 217 true (by kernel_rfl) fun o ho => ?_
  have ho' := ho
  cases ho'
  refine ⟨rfl, fun L a W hL hd hJ => ⟨hJ.dep ho hd (k := 8) (t := 217) (by kernel_rfl) (by kernel_rfl), fun K hK => ?_⟩⟩
  have f1 := hJ.old (t := 14) hL (by kernel_rfl) H.v14
  obtain ⟨x0, x1, x2, x3, x4, hl, hc5⟩ := H.f14
  obtain ⟨e0, e1, e2, e3, e4⟩ := hc5 W hJ.ext
  conv => arg 2; whnf
  go_simp
  exact hK _ _ hJ.ext (hJ.frame ST hL (Ext.refl _)) (congrArg Value.agg hl.symm)
set_option maxRecDepth 100000 in
set_option maxHeartbeats 4000000 in
theorem st38_10 (a0 : Act) (w0 : World) (Q : Exit → Act → World → Prop) (p gA gA' gB gB' gC gC' gD gD' : Nat) (lA lA' lB lB' lC lC' lD lD' : Array Value) (x es ea ek er m b : Int) (a1 a2 : Option Addr) (n1 c1 n2 c2 : Nat) (bm ba bk bb : Bool) (H : P38 a0 w0 p gA gA' gB gB' gC gC' gD gD' lA lA' lB lB' lC lC' lD lD' x es ea ek er m b a1 a2 n1 c1 n2 c2 bm ba bk bb) : StepF Try.prog Q ops38 a0 w0 (F38 p lA lA' lB lB' lC lC' lD lD' x es ea ek er m b a1 a2 n1 c1 n2 c2 bm ba bk bb) 10 := by
  have ST : StaysF (F38 p lA lA' lB lB' lC lC' lD lD' x es ea ek er m b a1 a2 n1 c1 n2 c2 bm ba bk bb) ops38.size := by rw [ops38_size]; exact F38_stays p lA lA' lB lB' lC lC' lD lD' x es ea ek er m b a1 a2 n1 c1 n2 c2 bm ba bk bb
  refine step_when 8 217 true (by kernel_rfl) fun o ho => ?_
  have ho' := ho
  cases ho'
  refine ⟨rfl, fun L a W hL hd hJ => ⟨hJ.dep ho hd (k := 8) (t := 217) (by kernel_rfl) (by kernel_rfl), fun K hK => ?_⟩⟩
  have f1 := hJ.old (t := 21) hL (by kernel_rfl) H.v21
  obtain ⟨x0, x1, x2, x3, x4, hl, hc5⟩ := H.f21
  obtain ⟨e0, e1, e2, e3, e4⟩ := hc5 W hJ.ext
  conv => arg 2; whnf
  go_simp
  exact hK _ _ hJ.ext (hJ.frame ST hL (Ext.refl _)) (congrArg Value.agg hl.symm)
set_option maxRecDepth 100000 in
set_option maxHeartbeats 4000000 in
theorem st38_11 (a0 : Act) (w0 : World) (Q : Exit → Act → World → Prop) (p gA gA' gB gB' gC gC' gD gD' : Nat) (lA lA' lB lB' lC lC' lD lD' : Array Value) (x es ea ek er m b : Int) (a1 a2 : Option Addr) (n1 c1 n2 c2 : Nat) (bm ba bk bb : Bool) (H : P38 a0 w0 p gA gA' gB gB' gC gC' gD gD' lA lA' lB lB' lC lC' lD lD' x es ea ek er m b a1 a2 n1 c1 n2 c2 bm ba bk bb) : StepF Try.prog Q ops38 a0 w0 (F38 p lA lA' lB lB' lC lC' lD lD' x es ea ek er m b a1 a2 n1 c1 n2 c2 bm ba bk bb) 11 := by
  have ST : StaysF (F38 p lA lA' lB lB' lC lC' lD lD' x es ea ek er m b a1 a2 n1 c1 n2 c2 bm ba bk bb) ops38.size := by rw [ops38_size]; exact F38_stays p lA lA' lB lB' lC lC' lD lD' x es ea ek er m b a1 a2 n1 c1 n2 c2 bm ba bk bb
  refine step_when 8 217 true (by kernel_rfl) fun o ho => ?_
  have ho' := ho
  cases ho'
  refine ⟨rfl, fun L a W hL hd hJ => ⟨hJ.dep ho hd (k := 8) (t := 217) (by kernel_rfl) (by kernel_rfl), fun K hK => ?_⟩⟩
  have f1 : a.tmps[218]?.getD undef = _ := hJ.dep ho hd (k := 9) (t := 218) (by kernel_rfl) (by kernel_rfl)
  have f2 : a.tmps[219]?.getD undef = _ := hJ.dep ho hd (k := 10) (t := 219) (by kernel_rfl) (by kernel_rfl)
  conv => arg 2; whnf
  go_simp
  refine (H.k2 W hJ.ext).mono ?_
  rintro e w' ⟨rfl, hx⟩
  exact hK _ _ (hJ.ext.trans hx) (hJ.frame ST hL hx) rfl
set_option maxRecDepth 100000 in
set_option maxHeartbeats 4000000 in
theorem st38_12 (a0 : Act) (w0 : World) (Q : Exit → Act → World → Prop) (p gA gA' gB gB' gC gC' gD gD' : Nat) (lA lA' lB lB' lC lC' lD lD' : Array Value) (x es ea ek er m b : Int) (a1 a2 : Option Addr) (n1 c1 n2 c2 : Nat) (bm ba bk bb : Bool) (H : P38 a0 w0 p gA gA' gB gB' gC gC' gD gD' lA lA' lB lB' lC lC' lD lD' x es ea ek er m b a1 a2 n1 c1 n2 c2 bm ba bk bb) : StepF Try.prog Q ops38 a0 w0 (F38 p lA lA' lB lB' lC lC' lD lD' x es ea ek er m b a1 a2 n1 c1 n2 c2 bm ba bk bb) 12 := by
  have ST : StaysF (F38 p lA lA' lB lB' lC lC' lD lD' x es ea ek er m b a1 a2 n1 c1 n2 c2 bm ba bk bb) ops38.size := by rw [ops38_size]; exact F38_stays p lA lA' lB lB' lC lC' lD lD' x es ea ek er m b a1 a2 n1 c1 n2 c2 bm ba bk bb
  refine step_free fun o ho => ?_
  have ho' := ho
  cases ho'
  refine ⟨rfl, fun L a W hL hd hJ K hK => ?_⟩
  have f1 : a.tmps[217]?.getD undef = _ := hJ.dep ho hd (k := 8) (t := 217) (by kernel_rfl) (by kernel_rfl)
  have f2 : a.tmps[220]?.getD undef = _ := hJ.dep ho hd (k := 11) (t := 220) (by kernel_rfl) (by kernel_rfl)
  conv => arg 2; whnf
  go_simp
  exact hK _ _ hJ.ext (hJ.frame ST hL (Ext.refl _)) rfl
set_option maxRecDepth 100000 in
set_option maxHeartbeats 4000000 in
theorem st38_13 (a0 : Act) (w0 : World) (Q : Exit → Act → World → Prop) (p gA gA' gB gB' gC gC' gD gD' : Nat) (lA lA' lB lB' lC lC' lD lD' : Array Value) (x es ea ek er m b : Int) (a1 a2 : Option Addr) (n1 c1 n2 c2 : Nat) (bm ba bk bb : Bool) (H : P38 a0 w0 p gA gA' gB gB' gC gC' gD gD' lA lA' lB lB' lC lC' lD lD' x es ea ek er m b a1 a2 n1 c1 n2 c2 bm ba bk bb) : StepF Try.prog Q ops38 a0 w0 (F38 p lA lA' lB lB' lC lC' lD lD' x es ea ek er m b a1 a2 n1 c1 n2 c2 bm ba bk bb) 13 := by
  have ST : StaysF (F38 p lA lA' lB lB' lC lC' lD lD' x es ea ek er m b a1 a2 n1 c1 n2 c2 bm ba bk bb) ops38.size := by rw [ops38_size]; exact F38_stays p lA lA' lB lB' lC lC' lD lD' x es ea ek er m b a1 a2 n1 c1 n2 c2 bm ba bk bb
  refine step_free fun o ho => ?_
  have ho' := ho
  cases ho'
  refine ⟨rfl, fun L a W hL hd hJ K hK => ?_⟩
  have f1 : a.tmps[221]?.getD undef = _ := hJ.dep ho hd (k := 12) (t := 221) (by kernel_rfl) (by kernel_rfl)
  conv => arg 2; whnf
  go_simp
  exact hK _ _ hJ.ext (hJ.frame ST hL (Ext.refl _)) rfl
set_option maxRecDepth 100000 in
set_option maxHeartbeats 4000000 in
theorem st38_14 (a0 : Act) (w0 : World) (Q : Exit → Act → World → Prop) (p gA gA' gB gB' gC gC' gD gD' : Nat) (lA lA' lB lB' lC lC' lD lD' : Array Value) (x es ea ek er m b : Int) (a1 a2 : Option Addr) (n1 c1 n2 c2 : Nat) (bm ba bk bb : Bool) (H : P38 a0 w0 p gA gA' gB gB' gC gC' gD gD' lA lA' lB lB' lC lC' lD lD' x es ea ek er m b a1 a2 n1 c1 n2 c2 bm ba bk bb) : StepF Try.prog Q ops38 a0 w0 (F38 p lA lA' lB lB' lC lC' lD lD' x es ea ek er m b a1 a2 n1 c1 n2 c2 bm ba bk bb) 14 := by
  have ST : StaysF (F38 p lA lA' lB lB' lC lC' lD lD' x es ea ek er m b a1 a2 n1 c1 n2 c2 bm ba bk bb) ops38.size := by rw [ops38_size]; exact F38_stays p lA lA' lB lB' lC lC' lD lD' x es ea ek er m b a1 a2 n1 c1 n2 c2 bm ba bk bb
  refine step_when 13 222 true (by kernel_rfl) fun o ho => ?_
  have ho' := ho
  cases ho'
  refine ⟨rfl, fun L a W hL hd hJ => ⟨hJ.dep ho hd (k := 13) (t := 222) (by kernel_rfl) (by kernel_rfl), fun K hK => ?_⟩⟩
  have f1 := hJ.old (t := 17) hL (by kernel_rfl) H.v17
  obtain ⟨x0, x1, x2, x3, x4, hl, hc5⟩ := H.f17
  obtain ⟨e0, e1, e2, e3, e4⟩ := hc5 W hJ.ext
  conv => arg 2; whnf
  go_simp
  exact hK _ _ hJ.ext (hJ.frame ST hL (Ext.refl _)) (congrArg Value.agg hl.symm)
set_option maxRecDepth 100000 in
set_option maxHeartbeats 4000000 in
theorem st38_15 (a0 : Act) (w0 : World) (Q : Exit → Act → World → Prop) (p gA gA' gB gB' gC gC' gD gD' : Nat) (lA lA' lB lB' lC lC' lD lD' : Array Value) (x es ea ek er m b : Int) (a1 a2 : Option Addr) (n1 c1 n2 c2 : Nat) (bm ba bk bb : Bool) (H : P38 a0 w0 p gA gA' gB gB' gC gC' gD gD' lA lA' lB lB' lC lC' lD lD' x es ea ek er m b a1 a2 n1 c1 n2 c2 bm ba bk bb) : StepF Try.prog Q ops38 a0 w0 (F38 p lA lA' lB lB' lC lC' lD lD' x es ea ek er m b a1 a2 n1 c1 n2 c2 bm ba bk bb) 15 := by
  have ST : StaysF (F38 p lA lA' lB lB' lC lC' lD lD' x es ea ek er m b a1 a2 n1 c1 n2 c2 bm ba bk bb) ops38.size := by rw [ops38_size]; exact F38_stays p lA lA' lB lB' lC lC' lD lD' x es ea ek er m b a1 a2 n1 c1 n2 c2 bm ba bk bb
  refine step_when 13 222 true (by kernel_rfl) fun o ho => ?_
  have ho' := ho
  cases ho'
  refine ⟨rfl, fun L a W hL hd hJ => ⟨hJ.dep ho hd (k := 13) (t := 222) (by kernel_rfl) (by kernel_rfl), fun K hK => ?_⟩⟩
  have f1 := hJ.old (t := 22) hL (by kernel_rfl) H.v22
  obtain ⟨x0, x1, x2, x3, x4, hl, hc5⟩ := H.f22
  obtain ⟨e0, e1, e2, e3, e4⟩ := hc5 W hJ.ext
  conv => arg 2; whnf
  go_simp
  exact hK _ _ hJ.ext (hJ.frame ST hL (Ext.refl _)) (congrArg Value.agg hl.symm)
set_option maxRecDepth 100000 in
set_option maxHeartbeats 4000000 in
theorem st38_16 (a0 : Act) (w0 : World) (Q : Exit → Act → World → Prop) (p gA gA' gB gB' gC gC' gD gD' : Nat) (lA lA' lB lB' lC lC' lD lD' : Array Value) (x es ea ek er m b : Int) (a1 a2 : Option Addr) (n1 c1 n2 c2 : Nat) (bm ba bk bb : Bool) (H : P38 a0 w0 p gA gA' gB gB' gC gC' gD gD' lA lA' lB lB' lC lC' lD lD' x es ea ek er m b a1 a2 n1 c1 n2 c2 bm ba bk bb) : StepF Try.prog Q ops38 a0 w0 (F38 p lA lA' lB lB' lC lC' lD lD' x es ea ek er m b a1 a2 n1 c1 n2 c2 bm ba bk bb) 16 := by
  have ST : StaysF (F38 p lA lA' lB lB' lC lC' lD lD' x es ea ek er m b a1 a2 n1 c1 n2 c2 bm ba bk bb) ops38.size := by rw [ops38_size]; exact F38_stays p lA lA' lB lB' lC lC' lD lD' x es ea ek er m b a1 a2 n1 c1 n2 c2 bm ba bk bb
  refine step_when 13 222 true (by kernel_rfl) fun o ho => ?_
  have ho' := ho
  cases ho'
  refine ⟨rfl, fun L a W hL hd hJ => ⟨hJ.dep ho hd (k := 13) (t := 222) (by kernel_rfl) (by kernel_rfl), fun K hK => ?_⟩⟩
  have f1 : a.tmps[223]?.getD undef = _ := hJ.dep ho hd (k := 14) (t := 223) (by kernel_rfl) (by kernel_rfl)
  have f2 : a.tmps[224]?.getD undef = _ := hJ.dep ho hd (k := 15) (t := 224) (by kernel_rfl) (by kernel_rfl)
  conv => arg 2; whnf
  go_simp
  refine (H.k3 W hJ.ext).mono ?_
  rintro e w' ⟨rfl, hx⟩
  exact hK _ _ (hJ.ext.trans hx) (hJ.frame ST hL hx) rfl
set_option maxRecDepth 100000 in
set_option maxHeartbeats 4000000 in
theorem st38_17 (a0 : Act) (w0 : World) (Q : Exit → Act → World → Prop) (p gA gA' gB gB' gC gC' gD gD' : Nat) (lA lA' lB lB' lC lC' lD lD' : Array Value) (x es ea ek er m b : Int) (a1 a2 : Option Addr) (n1 c1 n2 c2 : Nat) (bm ba bk bb : Bool) (H : P38 a0 w0 p gA gA' gB gB' gC gC' gD gD' lA lA' lB lB' lC lC' lD lD' x es ea ek er m b a1 a2 n1 c1 n2 c2 bm ba bk bb) : StepF Try.prog Q ops38 a0 w0 (F38 p lA lA' lB lB' lC lC' lD lD' x es ea ek er m b a1 a2 n1 c1 n2 c2 bm ba bk bb) 17 := by
  have ST : StaysF (F38 p lA lA' lB lB' lC lC' lD lD' x es ea ek er m b a1 a2 n1 c1 n2 c2 bm ba bk bb) ops38.size := by rw [ops38_size]; exact F38_stays p lA lA' lB lB' lC lC' lD lD' x es ea ek er m b a1 a2 n1 c1 n2 c2 bm ba bk bb
  refine step_free fun o ho => ?_
  have ho' := ho
  cases ho'
  refine ⟨rfl, fun L a W hL hd hJ K hK => ?_⟩
  have f1 : a.tmps[222]?.getD undef = _ := hJ.dep ho hd (k := 13) (t := 222) (by kernel_rfl) (by kernel_rfl)
  have f2 : a.tmps[225]?.getD undef = _ := hJ.dep ho hd (k := 16) (t := 225) (by kernel_rfl) (by kernel_rfl)
  conv => arg 2; whnf
  go_simp
  exact hK _ _ hJ.ext (hJ.frame ST hL (Ext.refl _)) rfl
set_option maxRecDepth 100000 in
set_option maxHeartbeats 4000000 in
theorem st38_18 (a0 : Act) (w0 : World) (Q : Exit → Act → World → Prop) (p gA gA' gB gB' gC gC' gD gD' : Nat) (lA lA' lB lB' lC lC' lD lD' : Array Value) (x es ea ek er m b : Int) (a1 a2 : Option Addr) (n1 c1 n2 c2 : Nat) (bm ba bk bb : Bool) (H : P38 a0 w0 p gA gA' gB gB' gC gC' gD gD' lA lA' lB lB' lC lC' lD lD' x es ea ek er m b a1 a2 n1 c1 n2 c2 bm ba bk bb) : StepF Try.prog Q ops38 a0 w0 (F38 p lA lA' lB lB' lC lC' lD lD' x es ea ek er m b a1 a2 n1 c1 n2 c2 bm ba bk bb) 18 := by
  have ST : StaysF (F38 p lA lA' lB lB' lC lC' lD lD' x es ea ek er m b a1 a2 n1 c1 n2 c2 bm ba bk bb) ops38.size := by rw [ops38_size]; exact F38_stays p lA lA' lB lB' lC lC' lD lD' x es ea ek er m b a1 a2 n1 c1 n2 c2 bm ba bk bb
  refine step_free fun o ho => ?_
  have ho' := ho
  cases ho'
  refine ⟨rfl, fun L a W hL hd hJ K hK => ?_⟩
  have f1 : a.tmps[226]?.getD undef = _ := hJ.dep ho hd (k := 17) (t := 226) (by kernel_rfl) (by kernel_rfl)
  conv => arg 2; whnf
  go_simp
  exact hK _ _ hJ.ext (hJ.frame ST hL (Ext.refl _)) rfl
set_option maxRecDepth 100000 in
set_option maxHeartbeats 4000000 in
theorem st38_19 (a0 : Act) (w0 : World) (Q : Exit → Act → World → Prop) (p gA gA' gB gB' gC gC' gD gD' : Nat) (lA lA' lB lB' lC lC' lD lD' : Array Value) (x es ea ek er m b : Int) (a1 a2 : Option Addr) (n1 c1 n2 c2 : Nat) (bm ba bk bb : Bool) (H : P38 a0 w0 p gA gA' gB gB' gC gC' gD gD' lA lA' lB lB' lC lC' lD lD' x es ea ek er m b a1 a2 n1 c1 n2 c2 bm ba bk bb) : StepF Try.prog Q ops38 a0 w0 (F38 p lA lA' lB lB' lC lC' lD lD' x es ea ek er m b a1 a2 n1 c1 n2 c2 bm ba bk bb) 19 := by
  have ST : StaysF (F38 p lA lA' lB lB' lC lC' lD lD' x es ea ek er m b a1 a2 n1 c1 n2 c2 bm ba bk bb) ops38.size := by rw [ops38_size]; exact F38_stays p lA lA' lB lB' lC lC' lD lD' x es ea ek er m b a1 a2 n1 c1 n2 c2 bm ba bk bb
  refine step_when 18 227 true (by kernel_rfl) fun o ho => ?_
  have ho' := ho
  cases ho'
  refine ⟨rfl, fun L a W hL hd hJ => ⟨hJ.dep ho hd (k := 18) (t := 227) (by kernel_rfl) (by kernel_rfl), fun K hK => ?_⟩⟩
  have f1 := hJ.old (t := 15) hL (by kernel_rfl) H.v15
  conv => arg 2; whnf
  go_simp
  exact hK _ _ hJ.ext (hJ.frame ST hL (Ext.refl _)) rfl
set_option maxRecDepth 100000 in
set_option maxHeartbeats 4000000 in
theorem st38_20 (a0 : Act) (w0 : World) (Q : Exit → Act → World → Prop) (p gA gA' gB gB' gC gC' gD gD' : Nat) (lA lA' lB lB' lC lC' lD lD' : Array Value) (x es ea ek er m b : Int) (a1 a2 : Option Addr) (n1 c1 n2 c2 : Nat) (bm ba bk bb : Bool) (H : P38 a0 w0 p gA gA' gB gB' gC gC' gD gD' lA lA' lB lB' lC lC' lD lD' x es ea ek er m b a1 a2 n1 c1 n2 c2 bm ba bk bb) : StepF Try.prog Q ops38 a0 w0 (F38 p lA lA' lB lB' lC lC' lD lD' x es ea ek er m b a1 a2 n1 c1 n2 c2 bm ba bk bb) 20 := by
  have ST : StaysF (F38 p lA lA' lB lB' lC lC' lD lD' x es ea ek er m b a1 a2 n1 c1 n2 c2 bm ba bk bb) ops38.size := by rw [ops38_size]; exact F38_stays p lA lA' lB lB' lC lC' lD lD' x es ea ek er m b a1 a2 n1 c1 n2 c2 bm ba bk bb
  refine step_when 18 227 true (by kernel_rfl) fun o ho => ?_
  have ho' := ho
  cases ho'
  refine ⟨rfl, fun L a W hL hd hJ => ⟨hJ.dep ho hd (k := 18) (t := 227) (by kernel_rfl) (by kernel_rfl), fun K hK => ?_⟩⟩
  have f1 := hJ.old (t := 23) hL (by kernel_rfl) H.v23
  conv => arg 2; whnf
  go_simp
  exact hK _ _ hJ.ext (hJ.frame ST hL (Ext.refl _)) rfl
set_option maxRecDepth 100000 in
set_option maxHeartbeats 4000000 in
theorem st38_21 (a0 : Act) (w0 : World) (Q : Exit → Act → World → Prop) (p gA gA' gB gB' gC gC' gD gD' : Nat) (lA lA' lB lB' lC lC' lD lD' : Array Value) (x es ea ek er m b : Int) (a1 a2 : Option Addr) (n1 c1 n2 c2 : Nat) (bm ba bk bb : Bool) (H : P38 a0 w0 p gA gA' gB gB' gC gC' gD gD' lA lA' lB lB' lC lC' lD lD' x es ea ek er m b a1 a2 n1 c1 n2 c2 bm ba bk bb) : StepF Try.prog Q ops38 a0 w0 (F38 p lA lA' lB lB' lC lC' lD lD' x es ea ek er m b a1 a2 n1 c1 n2 c2 bm ba bk bb) 21 := by
  have ST : StaysF (F38 p lA lA' lB lB' lC lC' lD lD' x es ea ek er m b a1 a2 n1 c1 n2 c2 bm ba bk bb) ops38.size := by rw [ops38_size]; exact F38_stays p lA lA' lB lB' lC lC' lD lD' x es ea ek er m b a1 a2 n1 c1 n2 c2 bm ba bk bb
  refine step_when 18 227 true (by kernel_rfl) fun o ho => ?_
  have ho' := ho
  cases ho'
  refine ⟨rfl, fun L a W hL hd hJ => ⟨hJ.dep ho hd (k := 18) (t := 227) (by kernel_rfl) (by kernel_rfl), fun K hK => ?_⟩⟩
  have f1 : a.tmps[228]?.getD undef = _ := hJ.dep ho hd (k := 19) (t := 228) (by kernel_rfl) (by kernel_rfl)
  have f2 : a.tmps[229]?.getD undef = _ := hJ.dep ho hd (k := 20) (t := 229) (by kernel_rfl) (by kernel_rfl)
  have xx : (x == x) = true := by simp
  conv => arg 2; whnf
  go_simp
  exact hK _ _ hJ.ext (hJ.frame ST hL (Ext.refl _)) rfl
set_option maxRecDepth 100000 in
set_option maxHeartbeats 4000000 in
theorem st38_22 (a0 : Act) (w0 : World) (Q : Exit → Act → World → Prop) (p gA gA' gB gB' gC gC' gD gD' : Nat) (lA lA' lB lB' lC lC' lD lD' : Array Value) (x es ea ek er m b : Int) (a1 a2 : Option Addr) (n1 c1 n2 c2 : Nat) (bm ba bk bb : Bool) (H : P38 a0 w0 p gA gA' gB gB' gC gC' gD gD' lA lA' lB lB' lC lC' lD lD' x es ea ek er m b a1 a2 n1 c1 n2 c2 bm ba bk bb) : StepF Try.prog Q ops38 a0 w0 (F38 p lA lA' lB lB' lC lC' lD lD' x es ea ek er m b a1 a2 n1 c1 n2 c2 bm ba bk bb) 22 := by
  have ST : StaysF (F38 p lA lA' lB lB' lC lC' lD lD' x es ea ek er m b a1 a2 n1 c1 n2 c2 bm ba bk bb) ops38.size := by rw [ops38_size]; exact F38_stays p lA lA' lB lB' lC lC' lD lD' x es ea ek er m b a1 a2 n1 c1 n2 c2 bm ba bk bb
  refine step_free fun o ho => ?_
  have ho' := ho
  cases ho'
  refine ⟨rfl, fun L a W hL hd hJ K hK => ?_⟩
  have f1 : a.tmps[227]?.getD undef = _ := hJ.dep ho hd (k := 18) (t := 227) (by kernel_rfl) (by kernel_rfl)
  have f2 : a.tmps[230]?.getD undef = _ := hJ.dep ho hd (k := 21) (t := 230) (by kernel_rfl) (by kernel_rfl)
  conv => arg 2; whnf
  go_simp
  exact hK _ _ hJ.ext (hJ.frame ST hL (Ext.refl _)) rfl
set_option maxRecDepth 100000 in
set_option maxHeartbeats 4000000 in
theorem st38_23 (a0 : Act) (w0 : World) (Q : Exit → Act → World → Prop) (p gA gA' gB gB' gC gC' gD gD' : Nat) (lA lA' lB lB' lC lC' lD lD' : Array Value) (x es ea ek er m b : Int) (a1 a2 : Option Addr) (n1 c1 n2 c2 : Nat) (bm ba bk bb : Bool) (H : P38 a0 w0 p gA gA' gB gB' gC gC' gD gD' lA lA' lB lB' lC lC' lD lD' x es ea ek er m b a1 a2 n1 c1 n2 c2 bm ba bk bb) : StepF Try.prog Q ops38 a0 w0 (F38 p lA lA' lB lB' lC lC' lD lD' x es ea ek er m b a1 a2 n1 c1 n2 c2 bm ba bk bb) 23 := by
  have ST : StaysF (F38 p lA lA' lB lB' lC lC' lD lD' x es ea ek er m b a1 a2 n1 c1 n2 c2 bm ba bk bb) ops38.size := by rw [ops38_size]; exact F38_stays p lA lA' lB lB' lC lC' lD lD' x es ea ek er m b a1 a2 n1 c1 n2 c2 bm ba bk bb
  refine step_free fun o ho => ?_
  have ho' := ho
  cases ho'
  refine ⟨rfl, fun L a W hL hd hJ K hK => ?_⟩
  have f1 : a.tmps[231]?.getD undef = _ := hJ.dep ho hd (k := 22) (t := 231) (by kernel_rfl) (by kernel_rfl)
  conv => arg 2; whnf
  go_simp
  exact hK _ _ hJ.ext (hJ.frame ST hL (Ext.refl _)) rfl
set_option maxRecDepth 100000 in
set_option maxHeartbeats 4000000 in
theorem st38_24 (a0 : Act) (w0 : World) (Q : Exit → Act → World → Prop) (p gA gA' gB gB' gC gC' gD gD' : Nat) (lA lA' lB lB' lC lC' lD lD' : Array Value) (x es ea ek er m b : Int) (a1 a2 : Option Addr) (n1 c1 n2 c2 : Nat) (bm ba bk bb : Bool) (H : P38 a0 w0 p gA gA' gB gB' gC gC' gD gD' lA lA' lB lB' lC lC' lD lD' x es ea ek er m b a1 a2 n1 c1 n2 c2 bm ba bk bb) : StepF Try.prog Q ops38 a0 w0 (F38 p lA lA' lB lB' lC lC' lD lD' x es ea ek er m b a1 a2 n1 c1 n2 c2 bm ba bk bb) 24 := by
  have ST : StaysF (F38 p lA lA' lB lB' lC lC' lD lD' x es ea ek er m b a1 a2 n1 c1 n2 c2 bm ba bk bb) ops38.size := by rw [ops38_size]; exact F38_stays p lA lA' lB lB' lC lC' lD lD' x es ea ek er m b a1 a2 n1 c1 n2 c2 bm ba bk bb
  refine step_when 23 232 true (by kernel_rfl) fun o ho => ?_
  have ho' := ho
  cases ho'
  refine ⟨rfl, fun L a W hL hd hJ => ⟨hJ.dep ho hd (k := 23) (t := 232) (by kernel_rfl) (by kernel_rfl), fun K hK => ?_⟩⟩
  have f1 := hJ.old (t := 8) hL (by kernel_rfl) H.v8
  conv => arg 2; whnf
  go_simp
  exact hK _ _ hJ.ext (hJ.frame ST hL (Ext.refl _)) rfl
set_option maxRecDepth 100000 in
set_option maxHeartbeats 4000000 in
theorem st38_25 (a0 : Act) (w0 : World) (Q : Exit → Act → World → Prop) (p gA gA' gB gB' gC gC' gD gD' : Nat) (lA lA' lB lB' lC lC' lD lD' : Array Value) (x es ea ek er m b : Int) (a1 a2 : Option Addr) (n1 c1 n2 c2 : Nat) (bm ba bk bb : Bool) (H : P38 a0 w0 p gA gA' gB gB' gC gC' gD gD' lA lA' lB lB' lC lC' lD lD' x es ea ek er m b a1 a2 n1 c1 n2 c2 bm ba bk bb) : StepF Try.prog Q ops38 a0 w0 (F38 p lA lA' lB lB' lC lC' lD lD' x es ea ek er m b a1 a2 n1 c1 n2 c2 bm ba bk bb) 25 := by
  have ST : StaysF (F38 p lA lA' lB lB' lC lC' lD lD' x es ea ek er m b a1 a2 n1 c1 n2 c2 bm ba bk bb) ops38.size := by rw [ops38_size]; exact F38_stays p lA lA' lB lB' lC lC' lD lD' x es ea ek er m b a1 a2 n1 c1 n2 c2 bm ba bk bb
  refine step_when 23 232 true (by kernel_rfl) fun o ho => ?_
  have ho' := ho
  cases ho'
  refine ⟨rfl, fun L a W hL hd hJ => ⟨hJ.dep ho hd (k := 23) (t := 232) (by kernel_rfl) (by kernel_rfl), fun K hK => ?_⟩⟩
  have f1 : a.tmps[233]?.getD undef = _ := hJ.dep ho hd (k := 24) (t := 233) (by kernel_rfl) (by kernel_rfl)
  have q := H.q1.1
  conv => arg 2; whnf
  go_simp
  exact hK _ _ hJ.ext (hJ.frame ST hL (Ext.refl _)) rfl
set_option maxRecDepth 100000 in
set_option maxHeartbeats 4000000 in
theorem st38_26 (a0 : Act) (w0 : World) (Q : Exit → Act → World → Prop) (p gA gA' gB gB' gC gC' gD gD' : Nat) (lA lA' lB lB' lC lC' lD lD' : Array Value) (x es ea ek er m b : Int) (a1 a2 : Option Addr) (n1 c1 n2 c2 : Nat) (bm ba bk bb : Bool) (H : P38 a0 w0 p gA gA' gB gB' gC gC' gD gD' lA lA' lB lB' lC lC' lD lD' x es ea ek er m b a1 a2 n1 c1 n2 c2 bm ba bk bb) : StepF Try.prog Q ops38 a0 w0 (F38 p lA lA' lB lB' lC lC' lD lD' x es ea ek er m b a1 a2 n1 c1 n2 c2 bm ba bk bb) 26 := by
  have ST : StaysF (F38 p lA lA' lB lB' lC lC' lD lD' x es ea ek er m b a1 a2 n1 c1 n2 c2 bm ba bk bb) ops38.size := by rw [ops38_size]; exact F38_stays p lA lA' lB lB' lC lC' lD lD' x es ea ek er m b a1 a2 n1 c1 n2 c2 bm ba bk bb
  refine step_when 23 232 true (by kernel_rfl) fun o ho => ?_
  have ho' := ho
  cases ho'
  refine ⟨rfl, fun L a W hL hd hJ => ⟨hJ.dep ho hd (k := 23) (t := 232) (by kernel_rfl) (by kernel_rfl), fun K hK => ?_⟩⟩
  have f1 := hJ.old (t := 3) hL (by kernel_rfl) H.v3
  conv => arg 2; whnf
  go_simp
  exact hK _ _ hJ.ext (hJ.frame ST hL (Ext.refl _)) rfl
set_option maxRecDepth 100000 in
set_option maxHeartbeats 4000000 in
theorem st38_27 (a0 : Act) (w0 : World) (Q : Exit → Act → World → Prop) (p gA gA' gB gB' gC gC' gD gD' : Nat) (lA lA' lB lB' lC lC' lD lD' : Array Value) (x es ea ek er m b : Int) (a1 a2 : Option Addr) (n1 c1 n2 c2 : Nat) (bm ba bk bb : Bool) (H : P38 a0 w0 p gA gA' gB gB' gC gC' gD gD' lA lA' lB lB' lC lC' lD lD' x es ea ek er m b a1 a2 n1 c1 n2 c2 bm ba bk bb) : StepF Try.prog Q ops38 a0 w0 (F38 p lA lA' lB lB' lC lC' lD lD' x es ea ek er m b a1 a2 n1 c1 n2 c2 bm ba bk bb) 27 := by
  have ST : StaysF (F38 p lA lA' lB lB' lC lC' lD lD' x es ea ek er m b a1 a2 n1 c1 n2 c2 bm ba bk bb) ops38.size := by rw [ops38_size]; exact F38_stays p lA lA' lB lB' lC lC' lD lD' x es ea ek er m b a1 a2 n1 c1 n2 c2 bm ba bk bb
  refine step_when 23 232 true (by kernel_rfl) fun o ho => ?_
  have ho' := ho
  cases ho'
  refine ⟨rfl, fun L a W hL hd hJ => ⟨hJ.dep ho hd (k := 23) (t := 232) (by kernel_rfl) (by kernel_rfl), fun K hK => ?_⟩⟩
  have f1 : a.tmps[235]?.getD undef = _ := hJ.dep ho hd (k := 26) (t := 235) (by kernel_rfl) (by kernel_rfl)
  obtain ⟨e1, e2, e3, e4⟩ := H.pp W hJ.ext
  conv => arg 2; whnf
  go_simp
  exact hK _ _ hJ.ext (hJ.frame ST hL (Ext.refl _)) rfl
set_option maxRecDepth 100000 in
set_option maxHeartbeats 4000000 in
theorem st38_28 (a0 : Act) (w0 : World) (Q : Exit → Act → World → Prop) (p gA gA' gB gB' gC gC' gD gD' : Nat) (lA lA' lB lB' lC lC' lD lD' : Array Value) (x es ea ek er m b : Int) (a1 a2 : Option Addr) (n1 c1 n2 c2 : Nat) (bm ba bk bb : Bool) (H : P38 a0 w0 p gA gA' gB gB' gC gC' gD gD' lA lA' lB lB' lC lC' lD lD' x es ea ek er m b a1 a2 n1 c1 n2 c2 bm ba bk bb) : StepF Try.prog Q ops38 a0 w0 (F38 p lA lA' lB lB' lC lC' lD lD' x es ea ek er m b a1 a2 n1 c1 n2 c2 bm ba bk bb) 28 := by
  have ST : StaysF (F38 p lA lA' lB lB' lC lC' lD lD' x es ea ek er m b a1 a2 n1 c1 n2 c2 bm ba bk bb) ops38.size := by rw [ops38_size]; exact F38_stays p lA lA' lB lB' lC lC' lD lD' x es ea ek er m b a1 a2 n1 c1 n2 c2 bm ba bk bb
  refine step_when 23 232 true (by kernel_rfl) fun o ho => ?_
  have ho' := ho
  cases ho'
  refine ⟨rfl, fun L a W hL hd hJ => ⟨hJ.dep ho hd (k := 23) (t := 232) (by kernel_rfl) (by kernel_rfl), fun K hK => ?_⟩⟩
  have f1 : a.tmps[236]?.getD undef = _ := hJ.dep ho hd (k := 27) (t := 236) (by kernel_rfl) (by kernel_rfl)
  have q := H.d1
  conv => arg 2; whnf
  go_simp
  exact hK _ _ hJ.ext (hJ.frame ST hL (Ext.refl _)) rfl
set_option maxRecDepth 100000 in
set_option maxHeartbeats 4000000 in
theorem st38_29 (a0 : Act) (w0 : World) (Q : Exit → Act → World → Prop) (p gA gA' gB gB' gC gC' gD gD' : Nat) (lA lA' lB lB' lC lC' lD lD' : Array Value) (x es ea ek er m b : Int) (a1 a2 : Option Addr) (n1 c1 n2 c2 : Nat) (bm ba bk bb : Bool) (H : P38 a0 w0 p gA gA' gB gB' gC gC' gD gD' lA lA' lB lB' lC lC' lD lD' x es ea ek er m b a1 a2 n1 c1 n2 c2 bm ba bk bb) : StepF Try.prog Q ops38 a0 w0 (F38 p lA lA' lB lB' lC lC' lD lD' x es ea ek er m b a1 a2 n1 c1 n2 c2 bm ba bk bb) 29 := by
  have ST : StaysF (F38 p lA lA' lB lB' lC lC' lD lD' x es ea ek er m b a1 a2 n1 c1 n2 c2 bm ba bk bb) ops38.size := by rw [ops38_size]; exact F38_stays p lA lA' lB lB' lC lC' lD lD' x es ea ek er m b a1 a2 n1 c1 n2 c2 bm ba bk bb
  refine step_when 23 232 true (by kernel_rfl) fun o ho => ?_
  have ho' := ho
  cases ho'
  refine ⟨rfl, fun L a W hL hd hJ => ⟨hJ.dep ho hd (k := 23) (t := 232) (by kernel_rfl) (by kernel_rfl), fun K hK => ?_⟩⟩
  have f1 : a.tmps[234]?.getD undef = _ := hJ.dep ho hd (k := 25) (t := 234) (by kernel_rfl) (by kernel_rfl)
  have f2 : a.tmps[237]?.getD undef = _ := hJ.dep ho hd (k := 28) (t := 237) (by kernel_rfl) (by kernel_rfl)
  have bt : ∀ c : Bool, (c == c) = true := fun c => by cases c <;> rfl
  conv => arg 2; whnf
  go_simp
  exact hK _ _ hJ.ext (hJ.frame ST hL (Ext.refl _)) rfl
set_option maxRecDepth 100000 in
set_option maxHeartbeats 4000000 in
theorem st38_30 (a0 : Act) (w0 : World) (Q : Exit → Act → World → Prop) (p gA gA' gB gB' gC gC' gD gD' : Nat) (lA lA' lB lB' lC lC' lD lD' : Array Value) (x es ea ek er m b : Int) (a1 a2 : Option Addr) (n1 c1 n2 c2 : Nat) (bm ba bk bb : Bool) (H : P38 a0 w0 p gA gA' gB gB' gC gC' gD gD' lA lA' lB lB' lC lC' lD lD' x es ea ek er m b a1 a2 n1 c1 n2 c2 bm ba bk bb) : StepF Try.prog Q ops38 a0 w0 (F38 p lA lA' lB lB' lC lC' lD lD' x es ea ek er m b a1 a2 n1 c1 n2 c2 bm ba bk bb) 30 := by
  have ST : StaysF (F38 p lA lA' lB lB' lC lC' lD lD' x es ea ek er m b a1 a2 n1 c1 n2 c2 bm ba bk bb) ops38.size := by rw [ops38_size]; exact F38_stays p lA lA' lB lB' lC lC' lD lD' x es ea ek er m b a1 a2 n1 c1 n2 c2 bm ba bk bb
  refine step_free fun o ho => ?_
  have ho' := ho
  cases ho'
  refine ⟨rfl, fun L a W hL hd hJ K hK => ?_⟩
  have f1 : a.tmps[232]?.getD undef = _ := hJ.dep ho hd (k := 23) (t := 232) (by kernel_rfl) (by kernel_rfl)
  have f2 : a.tmps[238]?.getD undef = _ := hJ.dep ho hd (k := 29) (t := 238) (by kernel_rfl) (by kernel_rfl)
  conv => arg 2; whnf
  go_simp
  exact hK _ _ hJ.ext (hJ.frame ST hL (Ext.refl _)) rfl
set_option maxRecDepth 100000 in
set_option maxHeartbeats 4000000 in
theorem st38_31 (a0 : Act) (w0 : World) (Q : Exit → Act → World → Prop) (p gA gA' gB gB' gC gC' gD gD' : Nat) (lA lA' lB lB' lC lC' lD lD' : Array Value) (x es ea ek er m b : Int) (a1 a2 : Option Addr) (n1 c1 n2 c2 : Nat) (bm ba bk bb : Bool) (H : P38 a0 w0 p gA gA' gB gB' gC gC' gD gD' lA lA' lB lB' lC lC' lD lD' x es ea ek er m b a1 a2 n1 c1 n2 c2 bm ba bk bb) : StepF Try.prog Q ops38 a0 w0 (F38 p lA lA' lB lB' lC lC' lD lD' x es ea ek er m b a1 a2 n1 c1 n2 c2 bm ba bk bb) 31 := by
  have ST : StaysF (F38 p lA lA' lB lB' lC lC' lD lD' x es ea ek er m b a1 a2 n1 c1 n2 c2 bm ba bk bb) ops38.size := by rw [ops38_size]; exact F38_stays p lA lA' lB lB' lC lC' lD lD' x es ea ek er m b a1 a2 n1 c1 n2 c2 bm ba bk bb
  refine step_free fun o ho => ?_
  have ho' := ho
  cases ho'
  refine ⟨rfl, fun L a W hL hd hJ K hK => ?_⟩
  have f1 : a.tmps[239]?.getD undef = _ := hJ.dep ho hd (k := 30) (t := 239) (by kernel_rfl) (by kernel_rfl)
  conv => arg 2; whnf
  go_simp
  exact hK _ _ hJ.ext (hJ.frame ST hL (Ext.refl _)) rfl
set_option maxRecDepth 100000 in
set_option maxHeartbeats 4000000 in
theorem st38_32 (a0 : Act) (w0 : World) (Q : Exit → Act → World → Prop) (p gA gA' gB gB' gC gC' gD gD' : Nat) (lA lA' lB lB' lC lC' lD lD' : Array Value) (x es ea ek er m b : Int) (a1 a2 : Option Addr) (n1 c1 n2 c2 : Nat) (bm ba bk bb : Bool) (H : P38 a0 w0 p gA gA' gB gB' gC gC' gD gD' lA lA' lB lB' lC lC' lD lD' x es ea ek er m b a1 a2 n1 c1 n2 c2 bm ba bk bb) : StepF Try.prog Q ops38 a0 w0 (F38 p lA lA' lB lB' lC lC' lD lD' x es ea ek er m b a1 a2 n1 c1 n2 c2 bm ba bk bb) 32 := by
  have ST : StaysF (F38 p lA lA' lB lB' lC lC' lD lD' x es ea ek er m b a1 a2 n1 c1 n2 c2 bm ba bk bb) ops38.size := by rw [ops38_size]; exact F38_stays p lA lA' lB lB' lC lC' lD lD' x es ea ek er m b a1 a2 n1 c1 n2 c2 bm ba bk bb
  refine step_when 31 240 true (by kernel_rfl) fun o ho => ?_
  have ho' := ho
  cases ho'
  refine ⟨rfl, fun L a W hL hd hJ => ⟨hJ.dep ho hd (k := 31) (t := 240) (by kernel_rfl) (by kernel_rfl), fun K hK => ?_⟩⟩
  have f1 := hJ.old (t := 8) hL (by kernel_rfl) H.v8
  conv => arg 2; whnf
  go_simp
  exact hK _ _ hJ.ext (hJ.frame ST hL (Ext.refl _)) rfl
set_option maxRecDepth 100000 in
set_option maxHeartbeats 4000000 in
theorem st38_33 (a0 : Act) (w0 : World) (Q : Exit → Act → World → Prop) (p gA gA' gB gB' gC gC' gD gD' : Nat) (lA lA' lB lB' lC lC' lD lD' : Array Value) (x es ea ek er m b : Int) (a1 a2 : Option Addr) (n1 c1 n2 c2 : Nat) (bm ba bk bb : Bool) (H : P38 a0 w0 p gA gA' gB gB' gC gC' gD gD' lA lA' lB lB' lC lC' lD lD' x es ea ek er m b a1 a2 n1 c1 n2 c2 bm ba bk bb) : StepF Try.prog Q ops38 a0 w0 (F38 p lA lA' lB lB' lC lC' lD lD' x es ea ek er m b a1 a2 n1 c1 n2 c2 bm ba bk bb) 33 := by
  have ST : StaysF (F38 p lA lA' lB lB' lC lC' lD lD' x es ea ek er m b a1 a2 n1 c1 n2 c2 bm ba bk bb) ops38.size := by rw [ops38_size]; exact F38_stays p lA lA' lB lB' lC lC' lD lD' x es ea ek er m b a1 a2 n1 c1 n2 c2 bm ba bk bb
  refine step_when 31 240 true (by kernel_rfl) fun o ho => ?_
  have ho' := ho
  cases ho'
  refine ⟨rfl, fun L a W hL hd hJ => ⟨hJ.dep ho hd (k := 31) (t := 240) (by kernel_rfl) (by kernel_rfl), fun K hK => ?_⟩⟩
  have f1 : a.tmps[241]?.getD undef = _ := hJ.dep ho hd (k := 32) (t := 241) (by kernel_rfl) (by kernel_rfl)
  have q := H.q1.1
  conv => arg 2; whnf
  go_simp
  exact hK _ _ hJ.ext (hJ.frame ST hL (Ext.refl _)) rfl
set_option maxRecDepth 100000 in
set_option maxHeartbeats 4000000 in
theorem st38_34 (a0 : Act) (w0 : World) (Q : Exit → Act → World → Prop) (p gA gA' gB gB' gC gC' gD gD' : Nat) (lA lA' lB lB' lC lC' lD lD' : Array Value) (x es ea ek er m b : Int) (a1 a2 : Option Addr) (n1 c1 n2 c2 : Nat) (bm ba bk bb : Bool) (H : P38 a0 w0 p gA gA' gB gB' gC gC' gD gD' lA lA' lB lB' lC lC' lD lD' x es ea ek er m b a1 a2 n1 c1 n2 c2 bm ba bk bb) : StepF Try.prog Q ops38 a0 w0 (F38 p lA lA' lB lB' lC lC' lD lD' x es ea ek er m b a1 a2 n1 c1 n2 c2 bm ba bk bb) 34 := by
  have ST : StaysF (F38 p lA lA' lB lB' lC lC' lD lD' x es ea ek er m b a1 a2 n1 c1 n2 c2 bm ba bk bb) ops38.size := by rw [ops38_size]; exact F38_stays p lA lA' lB lB' lC lC' lD lD' x es ea ek er m b a1 a2 n1 c1 n2 c2 bm ba bk bb
  refine step_when 31 240 true (by kernel_rfl) fun o ho => ?_
  have ho' := ho
  cases ho'
  refine ⟨rfl, fun L a W hL hd hJ => ⟨hJ.dep ho hd (k := 31) (t := 240) (by kernel_rfl) (by kernel_rfl), fun K hK => ?_⟩⟩
  have f1 : a.tmps[242]?.getD undef = _ := hJ.dep ho hd (k := 33) (t := 242) (by kernel_rfl) (by kernel_rfl)
  conv => arg 2; whnf
  go_simp
  exact hK _ _ hJ.ext (hJ.frame ST hL (Ext.refl _)) rfl
set_option maxRecDepth 100000 in
set_option maxHeartbeats 4000000 in
theorem st38_35 (a0 : Act) (w0 : World) (Q : Exit → Act → World → Prop) (p gA gA' gB gB' gC gC' gD gD' : Nat) (lA lA' lB lB' lC lC' lD lD' : Array Value) (x es ea ek er m b : Int) (a1 a2 : Option Addr) (n1 c1 n2 c2 : Nat) (bm ba bk bb : Bool) (H : P38 a0 w0 p gA gA' gB gB' gC gC' gD gD' lA lA' lB lB' lC lC' lD lD' x es ea ek er m b a1 a2 n1 c1 n2 c2 bm ba bk bb) : StepF Try.prog Q ops38 a0 w0 (F38 p lA lA' lB lB' lC lC' lD lD' x es ea ek er m b a1 a2 n1 c1 n2 c2 bm ba bk bb) 35 := by
  have ST : StaysF (F38 p lA lA' lB lB' lC lC' lD lD' x es ea ek er m b a1 a2 n1 c1 n2 c2 bm ba bk bb) ops38.size := by rw [ops38_size]; exact F38_stays p lA lA' lB lB' lC lC' lD lD' x es ea ek er m b a1 a2 n1 c1 n2 c2 bm ba bk bb
  refine step_if 34 243 false bm (by kernel_rfl) fun o ho => ?_
  have ho' := ho
  cases ho'
  refine ⟨rfl, fun L a W hL hd hJ => ⟨hJ.dep ho hd (k := 34) (t := 243) (by kernel_rfl) (by kernel_rfl), fun K hK => ⟨fun hc => ?_, fun hc => ?_⟩⟩⟩
  · have f1 := hJ.old (t := 8) hL (by kernel_rfl) H.v8
    conv => arg 2; whnf
    go_simp
    exact hK _ _ hJ.ext (hJ.frame ST hL (Ext.refl _)) (fun _ => rfl)
  · exact hK _ _ hJ.ext (hJ.frame ST hL (Ext.refl _)) (fun h => absurd h hc)
set_option maxRecDepth 100000 in
set_option maxHeartbeats 4000000 in
theorem st38_36 (a0 : Act) (w0 : World) (Q : Exit → Act → World → Prop) (p gA gA' gB gB' gC gC' gD gD' : Nat) (lA lA' lB lB' lC lC' lD lD' : Array Value) (x es ea ek er m b : Int) (a1 a2 : Option Addr) (n1 c1 n2 c2 : Nat) (bm ba bk bb : Bool) (H : P38 a0 w0 p gA gA' gB gB' gC gC' gD gD' lA lA' lB lB' lC lC' lD lD' x es ea ek er m b a1 a2 n1 c1 n2 c2 bm ba bk bb) : StepF Try.prog Q ops38 a0 w0 (F38 p lA lA' lB lB' lC lC' lD lD' x es ea ek er m b a1 a2 n1 c1 n2 c2 bm ba bk bb) 36 := by
  have ST : StaysF (F38 p lA lA' lB lB' lC lC' lD lD' x es ea ek er m b a1 a2 n1 c1 n2 c2 bm ba bk bb) ops38.size := by rw [ops38_size]; exact F38_stays p lA lA' lB lB' lC lC' lD lD' x es ea ek er m b a1 a2 n1 c1 n2 c2 bm ba bk bb
  refine step_if 34 243 false bm (by kernel_rfl) fun o ho => ?_
  have ho' := ho
  cases ho'
  refine ⟨rfl, fun L a W hL hd hJ => ⟨hJ.dep ho hd (k := 34) (t := 243) (by kernel_rfl) (by kernel_rfl), fun K hK => ⟨fun hc => ?_, fun hc => ?_⟩⟩⟩
  · have f1' := hJ.dep ho hd (k := 35) (t := 244) (by kernel_rfl) (by kernel_rfl)
    have f1 : a.tmps[244]?.getD undef = _ := f1' hc
    have q := H.q1.2 hc
    rw [q] at f1
    conv => arg 2; whnf
    go_simp
    exact hK _ _ hJ.ext (hJ.frame ST hL (Ext.refl _)) (fun _ => rfl)
  · exact hK _ _ hJ.ext (hJ.frame ST hL (Ext.refl _)) (fun h => absurd h hc)
set_option maxRecDepth 100000 in
set_option maxHeartbeats 4000000 in
theorem st38_37 (a0 : Act) (w0 : World) (Q : Exit → Act → World → Prop) (p gA gA' gB gB' gC gC' gD gD' : Nat) (lA lA' lB lB' lC lC' lD lD' : Array Value) (x es ea ek er m b : Int) (a1 a2 : Option Addr) (n1 c1 n2 c2 : Nat) (bm ba bk bb : Bool) (H : P38 a0 w0 p gA gA' gB gB' gC gC' gD gD' lA lA' lB lB' lC lC' lD lD' x es ea ek er m b a1 a2 n1 c1 n2 c2 bm ba bk bb) : StepF Try.prog Q ops38 a0 w0 (F38 p lA lA' lB lB' lC lC' lD lD' x es ea ek er m b a1 a2 n1 c1 n2 c2 bm ba bk bb) 37 := by
  have ST : StaysF (F38 p lA lA' lB lB' lC lC' lD lD' x es ea ek er m b a1 a2 n1 c1 n2 c2 bm ba bk bb) ops38.size := by rw [ops38_size]; exact F38_stays p lA lA' lB lB' lC lC' lD lD' x es ea ek er m b a1 a2 n1 c1 n2 c2 bm ba bk bb
  refine step_when 31 240 true (by kernel_rfl) fun o ho => ?_
  have ho' := ho
  cases ho'
  refine ⟨rfl, fun L a W hL hd hJ => ⟨hJ.dep ho hd (k := 31) (t := 240) (by kernel_rfl) (by kernel_rfl), fun K hK => ?_⟩⟩
  have f1 : a.tmps[243]?.getD undef = _ := hJ.dep ho hd (k := 34) (t := 243) (by kernel_rfl) (by kernel_rfl)
  have f2 := hJ.dep ho hd (k := 36) (t := 245) (by kernel_rfl) (by kernel_rfl)
  cases bm
  · have f3 : a.tmps[245]?.getD undef = _ := f2 rfl
    conv => arg 2; whnf
    go_simp
    exact hK _ _ hJ.ext (hJ.frame ST hL (Ext.refl _)) rfl
  · clear f2
    conv => arg 2; whnf
    go_simp
    exact hK _ _ hJ.ext (hJ.frame ST hL (Ext.refl _)) rfl
set_option maxRecDepth 100000 in
set_option maxHeartbeats 4000000 in
theorem st38_38 (a0 : Act) (w0 : World) (Q : Exit → Act → World → Prop) (p gA gA' gB gB' gC gC' gD gD' : Nat) (lA lA' lB lB' lC lC' lD lD' : Array Value) (x es ea ek er m b : Int) (a1 a2 : Option Addr) (n1 c1 n2 c2 : Nat) (bm ba bk bb : Bool) (H : P38 a0 w0 p gA gA' gB gB' gC gC' gD gD' lA lA' lB lB' lC lC' lD lD' x es ea ek er m b a1 a2 n1 c1 n2 c2 bm ba bk bb) : StepF Try.prog Q ops38 a0 w0 (F38 p lA lA' lB lB' lC lC' lD lD' x es ea ek er m b a1 a2 n1 c1 n2 c2 bm ba bk bb) 38 := by
  have ST : StaysF (F38 p lA lA' lB lB' lC lC' lD lD' x es ea ek er m b a1 a2 n1 c1 n2 c2 bm ba bk bb) ops38.size := by rw [ops38_size]; exact F38_stays p lA lA' lB lB' lC lC' lD lD' x es ea ek er m b a1 a2 n1 c1 n2 c2 bm ba bk bb
  refine step_free fun o ho => ?_
  have ho' := ho
  cases ho'
  refine ⟨rfl, fun L a W hL hd hJ K hK => ?_⟩
  have f1 : a.tmps[240]?.getD undef = _ := hJ.dep ho hd (k := 31) (t := 240) (by kernel_rfl) (by kernel_rfl)
  have f2 : a.tmps[246]?.getD undef = _ := hJ.dep ho hd (k := 37) (t := 246) (by kernel_rfl) (by kernel_rfl)
  conv => arg 2; whnf
  go_simp
  exact hK _ _ hJ.ext (hJ.frame ST hL (Ext.refl _)) rfl
set_option maxRecDepth 100000 in
set_option maxHeartbeats 4000000 in
theorem st38_39 (a0 : Act) (w0 : World) (Q : Exit → Act → World → Prop) (p gA gA' gB gB' gC gC' gD gD' : Nat) (lA lA' lB lB' lC lC' lD lD' : Array Value) (x es ea ek er m b : Int) (a1 a2 : Option Addr) (n1 c1 n2 c2 : Nat) (bm ba bk bb : Bool) (H : P38 a0 w0 p gA gA' gB gB' gC gC' gD gD' lA lA' lB lB' lC lC' lD lD' x es ea ek er m b a1 a2 n1 c1 n2 c2 bm ba bk bb) : StepF Try.prog Q ops38 a0 w0 (F38 p lA lA' lB lB' lC lC' lD lD' x es ea ek er m b a1 a2 n1 c1 n2 c2 bm ba bk bb) 39 := by
  have ST : StaysF (F38 p lA lA' lB lB' lC lC' lD lD' x es ea ek er m b a1 a2 n1 c1 n2 c2 bm ba bk bb) ops38.size := by rw [ops38_size]; exact F38_stays p lA lA' lB lB' lC lC' lD lD' x es ea ek er m b a1 a2 n1 c1 n2 c2 bm ba bk bb
  refine step_free fun o ho => ?_
  have ho' := ho
  cases ho'
  refine ⟨rfl, fun L a W hL hd hJ K hK => ?_⟩
  have f1 : a.tmps[247]?.getD undef = _ := hJ.dep ho hd (k := 38) (t := 247) (by kernel_rfl) (by kernel_rfl)
  conv => arg 2; whnf
  go_simp
  exact hK _ _ hJ.ext (hJ.frame ST hL (Ext.refl _)) rfl
set_option maxRecDepth 100000 in
set_option maxHeartbeats 4000000 in
theorem st38_40 (a0 : Act) (w0 : World) (Q : Exit → Act → World → Prop) (p gA gA' gB gB' gC gC' gD gD' : Nat) (lA lA' lB lB' lC lC' lD lD' : Array Value) (x es ea ek er m b : Int) (a1 a2 : Option Addr) (n1 c1 n2 c2 : Nat) (bm ba bk bb : Bool) (H : P38 a0 w0 p gA gA' gB gB' gC gC' gD gD' lA lA' lB lB' lC lC' lD lD' x es ea ek er m b a1 a2 n1 c1 n2 c2 bm ba bk bb) : StepF Try.prog Q ops38 a0 w0 (F38 p lA lA' lB lB' lC lC' lD lD' x es ea ek er m b a1 a2 n1 c1 n2 c2 bm ba bk bb) 40 := by
  have ST : StaysF (F38 p lA lA' lB lB' lC lC' lD lD' x es ea ek er m b a1 a2 n1 c1 n2 c2 bm ba bk bb) ops38.size := by rw [ops38_size]; exact F38_stays p lA lA' lB lB' lC lC' lD lD' x es ea ek er m b a1 a2 n1 c1 n2 c2 bm ba bk bb
  refine step_when 39 248 true (by kernel_rfl) fun o ho => ?_
  have ho' := ho
  cases ho'
  refine ⟨rfl, fun L a W hL hd hJ => ⟨hJ.dep ho hd (k := 39) (t := 248) (by kernel_rfl) (by kernel_rfl), fun K hK => ?_⟩⟩
  have f1 := hJ.old (t := 13) hL (by kernel_rfl) H.v13
  conv => arg 2; whnf
  go_simp
  exact hK _ _ hJ.ext (hJ.frame ST hL (Ext.refl _)) rfl
set_option maxRecDepth 100000 in
set_option maxHeartbeats 4000000 in
theorem st38_41 (a0 : Act) (w0 : World) (Q : Exit → Act → World → Prop) (p gA gA' gB gB' gC gC' gD gD' : Nat) (lA lA' lB lB' lC lC' lD lD' : Array Value) (x es ea ek er m b : Int) (a1 a2 : Option Addr) (n1 c1 n2 c2 : Nat) (bm ba bk bb : Bool) (H : P38 a0 w0 p gA gA' gB gB' gC gC' gD gD' lA lA' lB lB' lC lC' lD lD' x es ea ek er m b a1 a2 n1 c1 n2 c2 bm ba bk bb) : StepF Try.prog Q ops38 a0 w0 (F38 p lA lA' lB lB' lC lC' lD lD' x es ea ek er m b a1 a2 n1 c1 n2 c2 bm ba bk bb) 41 := by
  have ST : StaysF (F38 p lA lA' lB lB' lC lC' lD lD' x es ea ek er m b a1 a2 n1 c1 n2 c2 bm ba bk bb) ops38.size := by rw [ops38_size]; exact F38_stays p lA lA' lB lB' lC lC' lD lD' x es ea ek er m b a1 a2 n1 c1 n2 c2 bm ba bk bb
  refine step_when 39 248 true (by kernel_rfl) fun o ho => ?_
  have ho' := ho
  cases ho'
  refine ⟨rfl, fun L a W hL hd hJ => ⟨hJ.dep ho hd (k := 39) (t := 248) (by kernel_rfl) (by kernel_rfl), fun K hK => ?_⟩⟩
  have f1 : a.tmps[249]?.getD undef = _ := hJ.dep ho hd (k := 40) (t := 249) (by kernel_rfl) (by kernel_rfl)
  have q := H.q2.1
  conv => arg 2; whnf
  go_simp
  exact hK _ _ hJ.ext (hJ.frame ST hL (Ext.refl _)) rfl
set_option maxRecDepth 100000 in
set_option maxHeartbeats 4000000 in
theorem st38_42 (a0 : Act) (w0 : World) (Q : Exit → Act → World → Prop) (p gA gA' gB gB' gC gC' gD gD' : Nat) (lA lA' lB lB' lC lC' lD lD' : Array Value) (x es ea ek er m b : Int) (a1 a2 : Option Addr) (n1 c1 n2 c2 : Nat) (bm ba bk bb : Bool) (H : P38 a0 w0 p gA gA' gB gB' gC gC' gD gD' lA lA' lB lB' lC lC' lD lD' x es ea ek er m b a1 a2 n1 c1 n2 c2 bm ba bk bb) : StepF Try.prog Q ops38 a0 w0 (F38 p lA lA' lB lB' lC lC' lD lD' x es ea ek er m b a1 a2 n1 c1 n2 c2 bm ba bk bb) 42 := by
  have ST : StaysF (F38 p lA lA' lB lB' lC lC' lD lD' x es ea ek er m b a1 a2 n1 c1 n2 c2 bm ba bk bb) ops38.size := by rw [ops38_size]; exact F38_stays p lA lA' lB lB' lC lC' lD lD' x es ea ek er m b a1 a2 n1 c1 n2 c2 bm ba bk bb
  refine step_when 39 248 true (by kernel_rfl) fun o ho => ?_
  have ho' := ho
  cases ho'
  refine ⟨rfl, fun L a W hL hd hJ => ⟨hJ.dep ho hd (k := 39) (t := 248) (by kernel_rfl) (by kernel_rfl), fun K hK => ?_⟩⟩
  have f1 := hJ.old (t := 3) hL (by kernel_rfl) H.v3
  conv => arg 2; whnf
  go_simp
  exact hK _ _ hJ.ext (hJ.frame ST hL (Ext.refl _)) rfl
set_option maxRecDepth 100000 in
set_option maxHeartbeats 4000000 in
theorem st38_43 (a0 : Act) (w0 : World) (Q : Exit → Act → World → Prop) (p gA gA' gB gB' gC gC' gD gD' : Nat) (lA lA' lB lB' lC lC' lD lD' : Array Value) (x es ea ek er m b : Int) (a1 a2 : Option Addr) (n1 c1 n2 c2 : Nat) (bm ba bk bb : Bool) (H : P38 a0 w0 p gA gA' gB gB' gC gC' gD gD' lA lA' lB lB' lC lC' lD lD' x es ea ek er m b a1 a2 n1 c1 n2 c2 bm ba bk bb) : StepF Try.prog Q ops38 a0 w0 (F38 p lA lA' lB lB' lC lC' lD lD' x es ea ek er m b a1 a2 n1 c1 n2 c2 bm ba bk bb) 43 := by
  have ST : StaysF (F38 p lA lA' lB lB' lC lC' lD lD' x es ea ek er m b a1 a2 n1 c1 n2 c2 bm ba bk bb) ops38.size := by rw [ops38_size]; exact F38_stays p lA lA' lB lB' lC lC' lD lD' x es ea ek er m b a1 a2 n1 c1 n2 c2 bm ba bk bb
  refine step_when 39 248 true (by kernel_rfl) fun o ho => ?_
  have ho' := ho
  cases ho'
  refine ⟨rfl, fun L a W hL hd hJ => ⟨hJ.dep ho hd (k := 39) (t := 248) (by kernel_rfl) (by kernel_rfl), fun K hK => ?_⟩⟩
  have f1 : a.tmps[251]?.getD undef = _ := hJ.dep ho hd (k := 42) (t := 251) (by kernel_rfl) (by kernel_rfl)
  obtain ⟨e1, e2, e3, e4⟩ := H.pp W hJ.ext
  conv => arg 2; whnf
  go_simp
  exact hK _ _ hJ.ext (hJ.frame ST hL (Ext.refl _)) rfl
set_option maxRecDepth 100000 in
set_option maxHeartbeats 4000000 in
theorem st38_44 (a0 : Act) (w0 : World) (Q : Exit → Act → World → Prop) (p gA gA' gB gB' gC gC' gD gD' : Nat) (lA lA' lB lB' lC lC' lD lD' : Array Value) (x es ea ek er m b : Int) (a1 a2 : Option Addr) (n1 c1 n2 c2 : Nat) (bm ba bk bb : Bool) (H : P38 a0 w0 p gA gA' gB gB' gC gC' gD gD' lA lA' lB lB' lC lC' lD lD' x es ea ek er m b a1 a2 n1 c1 n2 c2 bm ba bk bb) : StepF Try.prog Q ops38 a0 w0 (F38 p lA lA' lB lB' lC lC' lD lD' x es ea ek er m b a1 a2 n1 c1 n2 c2 bm ba bk bb) 44 := by
  have ST : StaysF (F38 p lA lA' lB lB' lC lC' lD lD' x es ea ek er m b a1 a2 n1 c1 n2 c2 bm ba bk bb) ops38.size := by rw [ops38_size]; exact F38_stays p lA lA' lB lB' lC lC' lD lD' x es ea ek er m b a1 a2 n1 c1 n2 c2 bm ba bk bb
  refine step_when 39 248 true (by kernel_rfl) fun o ho => ?_
  have ho' := ho
  cases ho'
  refine ⟨rfl, fun L a W hL hd hJ => ⟨hJ.dep ho hd (k := 39) (t := 248) (by kernel_rfl) (by kernel_rfl), fun K hK => ?_⟩⟩
  have f1 : a.tmps[252]?.getD undef = _ := hJ.dep ho hd (k := 43) (t := 252) (by kernel_rfl) (by kernel_rfl)
  conv => arg 2; whnf
  go_simp
  exact hK _ _ hJ.ext (hJ.frame ST hL (Ext.refl _)) rfl
set_option maxRecDepth 100000 in
set_option maxHeartbeats 4000000 in
theorem st38_45 (a0 : Act) (w0 : World) (Q : Exit → Act → World → Prop) (p gA gA' gB gB' gC gC' gD gD' : Nat) (lA lA' lB lB' lC lC' lD lD' : Array Value) (x es ea ek er m b : Int) (a1 a2 : Option Addr) (n1 c1 n2 c2 : Nat) (bm ba bk bb : Bool) (H : P38 a0 w0 p gA gA' gB gB' gC gC' gD gD' lA lA' lB lB' lC lC' lD lD' x es ea ek er m b a1 a2 n1 c1 n2 c2 bm ba bk bb) : StepF Try.prog Q ops38 a0 w0 (F38 p lA lA' lB lB' lC lC' lD lD' x es ea ek er m b a1 a2 n1 c1 n2 c2 bm ba bk bb) 45 := by
  have ST : StaysF (F38 p lA lA' lB lB' lC lC' lD lD' x es ea ek er m b a1 a2 n1 c1 n2 c2 bm ba bk bb) ops38.size := by rw [ops38_size]; exact F38_stays p lA lA' lB lB' lC lC' lD lD' x es ea ek er m b a1 a2 n1 c1 n2 c2 bm ba bk bb
  refine step_when 39 248 true (by kernel_rfl) fun o ho => ?_
  have ho' := ho
  cases ho'
  refine ⟨rfl, fun L a W hL hd hJ => ⟨hJ.dep ho hd (k := 39) (t := 248) (by kernel_rfl) (by kernel_rfl), fun K hK => ?_⟩⟩
  have f1 : a.tmps[253]?.getD undef = _ := hJ.dep ho hd (k := 44) (t := 253) (by kernel_rfl) (by kernel_rfl)
  have q := H.d2
  conv => arg 2; whnf
  go_simp
  exact hK _ _ hJ.ext (hJ.frame ST hL (Ext.refl _)) rfl
set_option maxRecDepth 100000 in
set_option maxHeartbeats 4000000 in
theorem st38_46 (a0 : Act) (w0 : World) (Q : Exit → Act → World → Prop) (p gA gA' gB gB' gC gC' gD gD' : Nat) (lA lA' lB lB' lC lC' lD lD' : Array Value) (x es ea ek er m b : Int) (a1 a2 : Option Addr) (n1 c1 n2 c2 : Nat) (bm ba bk bb : Bool) (H : P38 a0 w0 p gA gA' gB gB' gC gC' gD gD' lA lA' lB lB' lC lC' lD lD' x es ea ek er m b a1 a2 n1 c1 n2 c2 bm ba bk bb) : StepF Try.prog Q ops38 a0 w0 (F38 p lA lA' lB lB' lC lC' lD lD' x es ea ek er m b a1 a2 n1 c1 n2 c2 bm ba bk bb) 46 := by
  have ST : StaysF (F38 p lA lA' lB lB' lC lC' lD lD' x es ea ek er m b a1 a2 n1 c1 n2 c2 bm ba bk bb) ops38.size := by rw [ops38_size]; exact F38_stays p lA lA' lB lB' lC lC' lD lD' x es ea ek er m b a1 a2 n1 c1 n2 c2 bm ba bk bb
  refine step_when 39 248 true (by kernel_rfl) fun o ho => ?_
  have ho' := ho
  cases ho'
  refine ⟨rfl, fun L a W hL hd hJ => ⟨hJ.dep ho hd (k := 39) (t := 248) (by kernel_rfl) (by kernel_rfl), fun K hK => ?_⟩⟩
  have f1 : a.tmps[250]?.getD undef = _ := hJ.dep ho hd (k := 41) (t := 250) (by kernel_rfl) (by kernel_rfl)
  have f2 : a.tmps[254]?.getD undef = _ := hJ.dep ho hd (k := 45) (t := 254) (by kernel_rfl) (by kernel_rfl)
  have bt : ∀ c : Bool, (c == c) = true := fun c => by cases c <;> rfl
  conv => arg 2; whnf
  go_simp
  exact hK _ _ hJ.ext (hJ.frame ST hL (Ext.refl _)) rfl
set_option maxRecDepth 100000 in
set_option maxHeartbeats 4000000 in
theorem st38_47 (a0 : Act) (w0 : World) (Q : Exit → Act → World → Prop) (p gA gA' gB gB' gC gC' gD gD' : Nat) (lA lA' lB lB' lC lC' lD lD' : Array Value) (x es ea ek er m b : Int) (a1 a2 : Option Addr) (n1 c1 n2 c2 : Nat) (bm ba bk bb : Bool) (H : P38 a0 w0 p gA gA' gB gB' gC gC' gD gD' lA lA' lB lB' lC lC' lD lD' x es ea ek er m b a1 a2 n1 c1 n2 c2 bm ba bk bb) : StepF Try.prog Q ops38 a0 w0 (F38 p lA lA' lB lB' lC lC' lD lD' x es ea ek er m b a1 a2 n1 c1 n2 c2 bm ba bk bb) 47 := by
  have ST : StaysF (F38 p lA lA' lB lB' lC lC' lD lD' x es ea ek er m b a1 a2 n1 c1 n2 c2 bm ba bk bb) ops38.size := by rw [ops38_size]; exact F38_stays p lA lA' lB lB' lC lC' lD lD' x es ea ek er m b a1 a2 n1 c1 n2 c2 bm ba bk bb
  refine step_free fun o ho => ?_
  have ho' := ho
  cases ho'
  refine ⟨rfl, fun L a W hL hd hJ K hK => ?_⟩
  have f1 : a.tmps[248]?.getD undef = _ := hJ.dep ho hd (k := 39) (t := 248) (by kernel_rfl) (by kernel_rfl)
  have f2 : a.tmps[255]?.getD undef = _ := hJ.dep ho hd (k := 46) (t := 255) (by kernel_rfl) (by kernel_rfl)
  conv => arg 2; whnf
  go_simp
  exact hK _ _ hJ.ext (hJ.frame ST hL (Ext.refl _)) rfl
set_option maxRecDepth 100000 in
set_option maxHeartbeats 4000000 in
theorem st38_48 (a0 : Act) (w0 : World) (Q : Exit → Act → World → Prop) (p gA gA' gB gB' gC gC' gD gD' : Nat) (lA lA' lB lB' lC lC' lD lD' : Array Value) (x es ea ek er m b : Int) (a1 a2 : Option Addr) (n1 c1 n2 c2 : Nat) (bm ba bk bb : Bool) (H : P38 a0 w0 p gA gA' gB gB' gC gC' gD gD' lA lA' lB lB' lC lC' lD lD' x es ea ek er m b a1 a2 n1 c1 n2 c2 bm ba bk bb) : StepF Try.prog Q ops38 a0 w0 (F38 p lA lA' lB lB' lC lC' lD lD' x es ea ek er m b a1 a2 n1 c1 n2 c2 bm ba bk bb) 48 := by
  have ST : StaysF (F38 p lA lA' lB lB' lC lC' lD lD' x es ea ek er m b a1 a2 n1 c1 n2 c2 bm ba bk bb) ops38.size := by rw [ops38_size]; exact F38_stays p lA lA' lB lB' lC lC' lD lD' x es ea ek er m b a1 a2 n1 c1 n2 c2 bm ba bk bb
  refine step_free fun o ho => ?_
  have ho' := ho
  cases ho'
  refine ⟨rfl, fun L a W hL hd hJ K hK => ?_⟩
  have f1 : a.tmps[256]?.getD undef = _ := hJ.dep ho hd (k := 47) (t := 256) (by kernel_rfl) (by kernel_rfl)
  conv => arg 2; whnf
  go_simp
  exact hK _ _ hJ.ext (hJ.frame ST hL (Ext.refl _)) rfl
set_option maxRecDepth 100000 in
set_option maxHeartbeats 4000000 in
theorem st38_49 (a0 : Act) (w0 : World) (Q : Exit → Act → World → Prop) (p gA gA' gB gB' gC gC' gD gD' : Nat) (lA lA' lB lB' lC lC' lD lD' : Array Value) (x es ea ek er m b : Int) (a1 a2 : Option Addr) (n1 c1 n2 c2 : Nat) (bm ba bk bb : Bool) (H : P38 a0 w0 p gA gA' gB gB' gC gC' gD gD' lA lA' lB lB' lC lC' lD lD' x es ea ek er m b a1 a2 n1 c1 n2 c2 bm ba bk bb) : StepF Try.prog Q ops38 a0 w0 (F38 p lA lA' lB lB' lC lC' lD lD' x es ea ek er m b a1 a2 n1 c1 n2 c2 bm ba bk bb) 49 := by
  have ST : StaysF (F38 p lA lA' lB lB' lC lC' lD lD' x es ea ek er m b a1 a2 n1 c1 n2 c2 bm ba bk bb) ops38.size := by rw [ops38_size]; exact F38_stays p lA lA' lB lB' lC lC' lD lD' x es ea ek er m b a1 a2 n1 c1 n2 c2 bm ba bk bb
  refine step_when 48 257 true (by kernel_rfl) fun o ho => ?_
  have ho' := ho
  cases ho'
  refine ⟨rfl, fun L a W hL hd hJ => ⟨hJ.dep ho hd (k := 48) (t := 257) (by kernel_rfl) (by kernel_rfl), fun K hK => ?_⟩⟩
  have f1 := hJ.old (t := 13) hL (by kernel_rfl) H.v13
  conv => arg 2; whnf
  go_simp
  exact hK _ _ hJ.ext (hJ.frame ST hL (Ext.refl _)) rfl
set_option maxRecDepth 100000 in
set_option maxHeartbeats 4000000 in
theorem st38_50 (a0 : Act) (w0 : World) (Q : Exit → Act → World → Prop) (p gA gA' gB gB' gC gC' gD gD' : Nat) (lA lA' lB lB' lC lC' lD lD' : Array Value) (x es ea ek er m b : Int) (a1 a2 : Option Addr) (n1 c1 n2 c2 : Nat) (bm ba bk bb : Bool) (H : P38 a0 w0 p gA gA' gB gB' gC gC' gD gD' lA lA' lB lB' lC lC' lD lD' x es ea ek er m b a1 a2 n1 c1 n2 c2 bm ba bk bb) : StepF Try.prog Q ops38 a0 w0 (F38 p lA lA' lB lB' lC lC' lD lD' x es ea ek er m b a1 a2 n1 c1 n2 c2 bm ba bk bb) 50 := by
  have ST : StaysF (F38 p lA lA' lB lB' lC lC' lD lD' x es ea ek er m b a1 a2 n1 c1 n2 c2 bm ba bk bb) ops38.size := by rw [ops38_size]; exact F38_stays p lA lA' lB lB' lC lC' lD lD' x es ea ek er m b a1 a2 n1 c1 n2 c2 bm ba bk bb
  refine step_when 48 257 true (by kernel_rfl) fun o ho => ?_
  have ho' := ho
  cases ho'
  refine ⟨rfl, fun L a W hL hd hJ => ⟨hJ.dep ho hd (k := 48) (t := 257) (by kernel_rfl) (by kernel_rfl), fun K hK => ?_⟩⟩
  have f1 : a.tmps[258]?.getD undef = _ := hJ.dep ho hd (k := 49) (t := 258) (by kernel_rfl) (by kernel_rfl)
  have q := H.q2.1
  conv => arg 2; whnf
  go_simp
  exact hK _ _ hJ.ext (hJ.frame ST hL (Ext.refl _)) rfl
set_option maxRecDepth 100000 in
set_option maxHeartbeats 4000000 in
theorem st38_51 (a0 : Act) (w0 : World) (Q : Exit → Act → World → Prop) (p gA gA' gB gB' gC gC' gD gD' : Nat) (lA lA' lB lB' lC lC' lD lD' : Array Value) (x es ea ek er m b : Int) (a1 a2 : Option Addr) (n1 c1 n2 c2 : Nat) (bm ba bk bb : Bool) (H : P38 a0 w0 p gA gA' gB gB' gC gC' gD gD' lA lA' lB lB' lC lC' lD lD' x es ea ek er m b a1 a2 n1 c1 n2 c2 bm ba bk bb) : StepF Try.prog Q ops38 a0 w0 (F38 p lA lA' lB lB' lC lC' lD lD' x es ea ek er m b a1 a2 n1 c1 n2 c2 bm ba bk bb) 51 := by
  have ST : StaysF (F38 p lA lA' lB lB' lC lC' lD lD' x es ea ek er m b a1 a2 n1 c1 n2 c2 bm ba bk bb) ops38.size := by rw [ops38_size]; exact F38_stays p lA lA' lB lB' lC lC' lD lD' x es ea ek er m b a1 a2 n1 c1 n2 c2 bm ba bk bb
  refine step_when 48 257 true (by kernel_rfl) fun o ho => ?_
  have ho' := ho
  cases ho'
  refine ⟨rfl, fun L a W hL hd hJ => ⟨hJ.dep ho hd (k := 48) (t := 257) (by kernel_rfl) (by kernel_rfl), fun K hK => ?_⟩⟩
  have f1 : a.tmps[259]?.getD undef = _ := hJ.dep ho hd (k := 50) (t := 259) (by kernel_rfl) (by kernel_rfl)
  conv => arg 2; whnf
  go_simp
  exact hK _ _ hJ.ext (hJ.frame ST hL (Ext.refl _)) rfl
set_option maxRecDepth 100000 in
set_option maxHeartbeats 4000000 in
theorem st38_52 (a0 : Act) (w0 : World) (Q : Exit → Act → World → Prop) (p gA gA' gB gB' gC gC' gD gD' : Nat) (lA lA' lB lB' lC lC' lD lD' : Array Value) (x es ea ek er m b : Int) (a1 a2 : Option Addr) (n1 c1 n2 c2 : Nat) (bm ba bk bb : Bool) (H : P38 a0 w0 p gA gA' gB gB' gC gC' gD gD' lA lA' lB lB' lC lC' lD lD' x es ea ek er m b a1 a2 n1 c1 n2 c2 bm ba bk bb) : StepF Try.prog Q ops38 a0 w0 (F38 p lA lA' lB lB' lC lC' lD lD' x es ea ek er m b a1 a2 n1 c1 n2 c2 bm ba bk bb) 52 := by
  have ST : StaysF (F38 p lA lA' lB lB' lC lC' lD lD' x es ea ek er m b a1 a2 n1 c1 n2 c2 bm ba bk bb) ops38.size := by rw [ops38_size]; exact F38_stays p lA lA' lB lB' lC lC' lD lD' x es ea ek er m b a1 a2 n1 c1 n2 c2 bm ba bk bb
  refine step_if 51 260 false ba (by kernel_rfl) fun o ho => ?_
  have ho' := ho
  cases ho'
  refine ⟨rfl, fun L a W hL hd hJ => ⟨hJ.dep ho hd (k := 51) (t := 260) (by kernel_rfl) (by kernel_rfl), fun K hK => ⟨fun hc => ?_, fun hc => ?_⟩⟩⟩
  · have f1 := hJ.old (t := 13) hL (by kernel_rfl) H.v13
    conv => arg 2; whnf
    go_simp
    exact hK _ _ hJ.ext (hJ.frame ST hL (Ext.refl _)) (fun _ => rfl)
  · exact hK _ _ hJ.ext (hJ.frame ST hL (Ext.refl _)) (fun h => absurd h hc)
set_option maxRecDepth 100000 in
set_option maxHeartbeats 4000000 in
theorem st38_53 (a0 : Act) (w0 : World) (Q : Exit → Act → World → Prop) (p gA gA' gB gB' gC gC' gD gD' : Nat) (lA lA' lB lB' lC lC' lD lD' : Array Value) (x es ea ek er m b : Int) (a1 a2 : Option Addr) (n1 c1 n2 c2 : Nat) (bm ba bk bb : Bool) (H : P38 a0 w0 p gA gA' gB gB' gC gC' gD gD' lA lA' lB lB' lC lC' lD lD' x es ea ek er m b a1 a2 n1 c1 n2 c2 bm ba bk bb) : StepF Try.prog Q ops38 a0 w0 (F38 p lA lA' lB lB' lC lC' lD lD' x es ea ek er m b a1 a2 n1 c1 n2 c2 bm ba bk bb) 53 := by
  have ST : StaysF (F38 p lA lA' lB lB' lC lC' lD lD' x es ea ek er m b a1 a2 n1 c1 n2 c2 bm ba bk bb) ops38.size := by rw [ops38_size]; exact F38_stays p lA lA' lB lB' lC lC' lD lD' x es ea ek er m b a1 a2 n1 c1 n2 c2 bm ba bk bb
  refine step_if 51 260 false ba (by kernel_rfl) fun o ho => ?_
  have ho' := ho
  cases ho'
  refine ⟨rfl, fun L a W hL hd hJ => ⟨hJ.dep ho hd (k := 51) (t := 260) (by kernel_rfl) (by kernel_rfl), fun K hK => ⟨fun hc => ?_, fun hc => ?_⟩⟩⟩
  · have f1' := hJ.dep ho hd (k := 52) (t := 261) (by kernel_rfl) (by kernel_rfl)
    have f1 : a.tmps[261]?.getD undef = _ := f1' hc
    have q := H.q2.2 hc
    rw [q] at f1
    conv => arg 2; whnf
    go_simp
    exact hK _ _ hJ.ext (hJ.frame ST hL (Ext.refl _)) (fun _ => rfl)
  · exact hK _ _ hJ.ext (hJ.frame ST hL (Ext.refl _)) (fun h => absurd h hc)
set_option maxRecDepth 100000 in
set_option maxHeartbeats 4000000 in
theorem st38_54 (a0 : Act) (w0 : World) (Q : Exit → Act → World → Prop) (p gA gA' gB gB' gC gC' gD gD' : Nat) (lA lA' lB lB' lC lC' lD lD' : Array Value) (x es ea ek er m b : Int) (a1 a2 : Option Addr) (n1 c1 n2 c2 : Nat) (bm ba bk bb : Bool) (H : P38 a0 w0 p gA gA' gB gB' gC gC' gD gD' lA lA' lB lB' lC lC' lD lD' x es ea ek er m b a1 a2 n1 c1 n2 c2 bm ba bk bb) : StepF Try.prog Q ops38 a0 w0 (F38 p lA lA' lB lB' lC lC' lD lD' x es ea ek er m b a1 a2 n1 c1 n2 c2 bm ba bk bb) 54 := by
  have ST : StaysF (F38 p lA lA' lB lB' lC lC' lD lD' x es ea ek er m b a1 a2 n1 c1 n2 c2 bm ba bk bb) ops38.size := by rw [ops38_size]; exact F38_stays p lA lA' lB lB' lC lC' lD lD' x es ea ek er m b a1 a2 n1 c1 n2 c2 bm ba bk bb
  refine step_when 48 257 true (by kernel_rfl) fun o ho => ?_
  have ho' := ho
  cases ho'
  refine ⟨rfl, fun L a W hL hd hJ => ⟨hJ.dep ho hd (k := 48) (t := 257) (by kernel_rfl) (by kernel_rfl), fun K hK => ?_⟩⟩
  have f1 : a.tmps[260]?.getD undef = _ := hJ.dep ho hd (k := 51) (t := 260) (by kernel_rfl) (by kernel_rfl)
  have f2 := hJ.dep ho hd (k := 53) (t := 262) (by kernel_rfl) (by kernel_rfl)
  cases ba
  · have f3 : a.tmps[262]?.getD undef = _ := f2 rfl
    conv => arg 2; whnf
    go_simp
    exact hK _ _ hJ.ext (hJ.frame ST hL (Ext.refl _)) rfl
  · clear f2
    conv => arg 2; whnf
    go_simp
    exact hK _ _ hJ.ext (hJ.frame ST hL (Ext.refl _)) rfl
set_option maxRecDepth 100000 in
set_option maxHeartbeats 4000000 in
theorem st38_55 (a0 : Act) (w0 : World) (Q : Exit → Act → World → Prop) (p gA gA' gB gB' gC gC' gD gD' : Nat) (lA lA' lB lB' lC lC' lD lD' : Array Value) (x es ea ek er m b : Int) (a1 a2 : Option Addr) (n1 c1 n2 c2 : Nat) (bm ba bk bb : Bool) (H : P38 a0 w0 p gA gA' gB gB' gC gC' gD gD' lA lA' lB lB' lC lC' lD lD' x es ea ek er m b a1 a2 n1 c1 n2 c2 bm ba bk bb) : StepF Try.prog Q ops38 a0 w0 (F38 p lA lA' lB lB' lC lC' lD lD' x es ea ek er m b a1 a2 n1 c1 n2 c2 bm ba bk bb) 55 := by
  have ST : StaysF (F38 p lA lA' lB lB' lC lC' lD lD' x es ea ek er m b a1 a2 n1 c1 n2 c2 bm ba bk bb) ops38.size := by rw [ops38_size]; exact F38_stays p lA lA' lB lB' lC lC' lD lD' x es ea ek er m b a1 a2 n1 c1 n2 c2 bm ba bk bb
  refine step_free fun o ho => ?_
  have ho' := ho
  cases ho'
  refine ⟨rfl, fun L a W hL hd hJ K hK => ?_⟩
  have f1 : a.tmps[257]?.getD undef = _ := hJ.dep ho hd (k := 48) (t := 257) (by kernel_rfl) (by kernel_rfl)
  have f2 : a.tmps[263]?.getD undef = _ := hJ.dep ho hd (k := 54) (t := 263) (by kernel_rfl) (by kernel_rfl)
  conv => arg 2; whnf
  go_simp
  exact hK _ _ hJ.ext (hJ.frame ST hL (Ext.refl _)) rfl
set_option maxRecDepth 100000 in
set_option maxHeartbeats 4000000 in
theorem st38_56 (a0 : Act) (w0 : World) (Q : Exit → Act → World → Prop) (p gA gA' gB gB' gC gC' gD gD' : Nat) (lA lA' lB lB' lC lC' lD lD' : Array Value) (x es ea ek er m b : Int) (a1 a2 : Option Addr) (n1 c1 n2 c2 : Nat) (bm ba bk bb : Bool) (H : P38 a0 w0 p gA gA' gB gB' gC gC' gD gD' lA lA' lB lB' lC lC' lD lD' x es ea ek er m b a1 a2 n1 c1 n2 c2 bm ba bk bb) : StepF Try.prog Q ops38 a0 w0 (F38 p lA lA' lB lB' lC lC' lD lD' x es ea ek er m b a1 a2 n1 c1 n2 c2 bm ba bk bb) 56 := by
  have ST : StaysF (F38 p lA lA' lB lB' lC lC' lD lD' x es ea ek er m b a1 a2 n1 c1 n2 c2 bm ba bk bb) ops38.size := by rw [ops38_size]; exact F38_stays p lA lA' lB lB' lC lC' lD lD' x es ea ek er m b a1 a2 n1 c1 n2 c2 bm ba bk bb
  refine step_free fun o ho => ?_
  have ho' := ho
  cases ho'
  refine ⟨rfl, fun L a W hL hd hJ K hK => ?_⟩
  have f1 : a.tmps[264]?.getD undef = _ := hJ.dep ho hd (k := 55) (t := 264) (by kernel_rfl) (by kernel_rfl)
  conv => arg 2; whnf
  go_simp
  exact hK _ _ hJ.ext (hJ.frame ST hL (Ext.refl _)) rfl
set_option maxRecDepth 100000 in
set_option maxHeartbeats 4000000 in
theorem st38_57 (a0 : Act) (w0 : World) (Q : Exit → Act → World → Prop) (p gA gA' gB gB' gC gC' gD gD' : Nat) (lA lA' lB lB' lC lC' lD lD' : Array Value) (x es ea ek er m b : Int) (a1 a2 : Option Addr) (n1 c1 n2 c2 : Nat) (bm ba bk bb : Bool) (H : P38 a0 w0 p gA gA' gB gB' gC gC' gD gD' lA lA' lB lB' lC lC' lD lD' x es ea ek er m b a1 a2 n1 c1 n2 c2 bm ba bk bb) : StepF Try.prog Q ops38 a0 w0 (F38 p lA lA' lB lB' lC lC' lD lD' x es ea ek er m b a1 a2 n1 c1 n2 c2 bm ba bk bb) 57 := by
  have ST : StaysF (F38 p lA lA' lB lB' lC lC' lD lD' x es ea ek er m b a1 a2 n1 c1 n2 c2 bm ba bk bb) ops38.size := by rw [ops38_size]; exact F38_stays p lA lA' lB lB' lC lC' lD lD' x es ea ek er m b a1 a2 n1 c1 n2 c2 bm ba bk bb
  refine step_when 56 265 true (by kernel_rfl) fun o ho => ?_
  have ho' := ho
  cases ho'
  refine ⟨rfl, fun L a W hL hd hJ => ⟨hJ.dep ho hd (k := 56) (t := 265) (by kernel_rfl) (by kernel_rfl), fun K hK => ?_⟩⟩
  have f1 := hJ.old (t := 16) hL (by kernel_rfl) H.v16
  conv => arg 2; whnf
  go_simp
  exact hK _ _ hJ.ext (hJ.frame ST hL (Ext.refl _)) rfl
set_option maxRecDepth 100000 in
set_option maxHeartbeats 4000000 in
theorem st38_58 (a0 : Act) (w0 : World) (Q : Exit → Act → World → Prop) (p gA gA' gB gB' gC gC' gD gD' : Nat) (lA lA' lB lB' lC lC' lD lD' : Array Value) (x es ea ek er m b : Int) (a1 a2 : Option Addr) (n1 c1 n2 c2 : Nat) (bm ba bk bb : Bool) (H : P38 a0 w0 p gA gA' gB gB' gC gC' gD gD' lA lA' lB lB' lC lC' lD lD' x es ea ek er m b a1 a2 n1 c1 n2 c2 bm ba bk bb) : StepF Try.prog Q ops38 a0 w0 (F38 p lA lA' lB lB' lC lC' lD lD' x es ea ek er m b a1 a2 n1 c1 n2 c2 bm ba bk bb) 58 := by
  have ST : StaysF (F38 p lA lA' lB lB' lC lC' lD lD' x es ea ek er m b a1 a2 n1 c1 n2 c2 bm ba bk bb) ops38.size := by rw [ops38_size]; exact F38_stays p lA lA' lB lB' lC lC' lD lD' x es ea ek er m b a1 a2 n1 c1 n2 c2 bm ba bk bb
  refine step_when 56 265 true (by kernel_rfl) fun o ho => ?_
  have ho' := ho
  cases ho'
  refine ⟨rfl, fun L a W hL hd hJ => ⟨hJ.dep ho hd (k := 56) (t := 265) (by kernel_rfl) (by kernel_rfl), fun K hK => ?_⟩⟩
  have f1 : a.tmps[266]?.getD undef = _ := hJ.dep ho hd (k := 57) (t := 266) (by kernel_rfl) (by kernel_rfl)
  have q := H.q3.1
  conv => arg 2; whnf
  go_simp
  exact hK _ _ hJ.ext (hJ.frame ST hL (Ext.refl _)) rfl
set_option maxRecDepth 100000 in
set_option maxHeartbeats 4000000 in
theorem st38_59 (a0 : Act) (w0 : World) (Q : Exit → Act → World → Prop) (p gA gA' gB gB' gC gC' gD gD' : Nat) (lA lA' lB lB' lC lC' lD lD' : Array Value) (x es ea ek er m b : Int) (a1 a2 : Option Addr) (n1 c1 n2 c2 : Nat) (bm ba bk bb : Bool) (H : P38 a0 w0 p gA gA' gB gB' gC gC' gD gD' lA lA' lB lB' lC lC' lD lD' x es ea ek er m b a1 a2 n1 c1 n2 c2 bm ba bk bb) : StepF Try.prog Q ops38 a0 w0 (F38 p lA lA' lB lB' lC lC' lD lD' x es ea ek er m b a1 a2 n1 c1 n2 c2 bm ba bk bb) 59 := by
  have ST : StaysF (F38 p lA lA' lB lB' lC lC' lD lD' x es ea ek er m b a1 a2 n1 c1 n2 c2 bm ba bk bb) ops38.size := by rw [ops38_size]; exact F38_stays p lA lA' lB lB' lC lC' lD lD' x es ea ek er m b a1 a2 n1 c1 n2 c2 bm ba bk bb
  refine step_when 56 265 true (by kernel_rfl) fun o ho => ?_
  have ho' := ho
  cases ho'
  refine ⟨rfl, fun L a W hL hd hJ => ⟨hJ.dep ho hd (k := 56) (t := 265) (by kernel_rfl) (by kernel_rfl), fun K hK => ?_⟩⟩
  have f1 := hJ.old (t := 3) hL (by kernel_rfl) H.v3
  conv => arg 2; whnf
  go_simp
  exact hK _ _ hJ.ext (hJ.frame ST hL (Ext.refl _)) rfl
set_option maxRecDepth 100000 in
set_option maxHeartbeats 4000000 in
theorem st38_60 (a0 : Act) (w0 : World) (Q : Exit → Act → World → Prop) (p gA gA' gB gB' gC gC' gD gD' : Nat) (lA lA' lB lB' lC lC' lD lD' : Array Value) (x es ea ek er m b : Int) (a1 a2 : Option Addr) (n1 c1 n2 c2 : Nat) (bm ba bk bb : Bool) (H : P38 a0 w0 p gA gA' gB gB' gC gC' gD gD' lA lA' lB lB' lC lC' lD lD' x es ea ek er m b a1 a2 n1 c1 n2 c2 bm ba bk bb) : StepF Try.prog Q ops38 a0 w0 (F38 p lA lA' lB lB' lC lC' lD lD' x es ea ek er m b a1 a2 n1 c1 n2 c2 bm ba bk bb) 60 := by
  have ST : StaysF (F38 p lA lA' lB lB' lC lC' lD lD' x es ea ek er m b a1 a2 n1 c1 n2 c2 bm ba bk bb) ops38.size := by rw [ops38_size]; exact F38_stays p lA lA' lB lB' lC lC' lD lD' x es ea ek er m b a1 a2 n1 c1 n2 c2 bm ba bk bb
  refine step_when 56 265 true (by kernel_rfl) fun o ho => ?_
  have ho' := ho
  cases ho'
  refine ⟨rfl, fun L a W hL hd hJ => ⟨hJ.dep ho hd (k := 56) (t := 265) (by kernel_rfl) (by kernel_rfl), fun K hK => ?_⟩⟩
  have f1 : a.tmps[268]?.getD undef = _ := hJ.dep ho hd (k := 59) (t := 268) (by kernel_rfl) (by kernel_rfl)
  obtain ⟨e1, e2, e3, e4⟩ := H.pp W hJ.ext
  conv => arg 2; whnf
  go_simp
  exact hK _ _ hJ.ext (hJ.frame ST hL (Ext.refl _)) rfl
set_option maxRecDepth 100000 in
set_option maxHeartbeats 4000000 in
theorem st38_61 (a0 : Act) (w0 : World) (Q : Exit → Act → World → Prop) (p gA gA' gB gB' gC gC' gD gD' : Nat) (lA lA' lB lB' lC lC' lD lD' : Array Value) (x es ea ek er m b : Int) (a1 a2 : Option Addr) (n1 c1 n2 c2 : Nat) (bm ba bk bb : Bool) (H : P38 a0 w0 p gA gA' gB gB' gC gC' gD gD' lA lA' lB lB' lC lC' lD lD' x es ea ek er m b a1 a2 n1 c1 n2 c2 bm ba bk bb) : StepF Try.prog Q ops38 a0 w0 (F38 p lA lA' lB lB' lC lC' lD lD' x es ea ek er m b a1 a2 n1 c1 n2 c2 bm ba bk bb) 61 := by
  have ST : StaysF (F38 p lA lA' lB lB' lC lC' lD lD' x es ea ek er m b a1 a2 n1 c1 n2 c2 bm ba bk bb) ops38.size := by rw [ops38_size]; exact F38_stays p lA lA' lB lB' lC lC' lD lD' x es ea ek er m b a1 a2 n1 c1 n2 c2 bm ba bk bb
  refine step_when 56 265 true (by kernel_rfl) fun o ho => ?_
  have ho' := ho
  cases ho'
  refine ⟨rfl, fun L a W hL hd hJ => ⟨hJ.dep ho hd (k := 56) (t := 265) (by kernel_rfl) (by kernel_rfl), fun K hK => ?_⟩⟩
  have f1 : a.tmps[269]?.getD undef = _ := hJ.dep ho hd (k := 60) (t := 269) (by kernel_rfl) (by kernel_rfl)
  conv => arg 2; whnf
  go_simp
  exact hK _ _ hJ.ext (hJ.frame ST hL (Ext.refl _)) rfl
set_option maxRecDepth 100000 in
set_option maxHeartbeats 4000000 in
theorem st38_62 (a0 : Act) (w0 : World) (Q : Exit → Act → World → Prop) (p gA gA' gB gB' gC gC' gD gD' : Nat) (lA lA' lB lB' lC lC' lD lD' : Array Value) (x es ea ek er m b : Int) (a1 a2 : Option Addr) (n1 c1 n2 c2 : Nat) (bm ba bk bb : Bool) (H : P38 a0 w0 p gA gA' gB gB' gC gC' gD gD' lA lA' lB lB' lC lC' lD lD' x es ea ek er m b a1 a2 n1 c1 n2 c2 bm ba bk bb) : StepF Try.prog Q ops38 a0 w0 (F38 p lA lA' lB lB' lC lC' lD lD' x es ea ek er m b a1 a2 n1 c1 n2 c2 bm ba bk bb) 62 := by
  have ST : StaysF (F38 p lA lA' lB lB' lC lC' lD lD' x es ea ek er m b a1 a2 n1 c1 n2 c2 bm ba bk bb) ops38.size := by rw [ops38_size]; exact F38_stays p lA lA' lB lB' lC lC' lD lD' x es ea ek er m b a1 a2 n1 c1 n2 c2 bm ba bk bb
  refine step_when 56 265 true (by kernel_rfl) fun o ho => ?_
  have ho' := ho
  cases ho'
  refine ⟨rfl, fun L a W hL hd hJ => ⟨hJ.dep ho hd (k := 56) (t := 265) (by kernel_rfl) (by kernel_rfl), fun K hK => ?_⟩⟩
  have f1 : a.tmps[270]?.getD undef = _ := hJ.dep ho hd (k := 61) (t := 270) (by kernel_rfl) (by kernel_rfl)
  have q := H.d3
  conv => arg 2; whnf
  go_simp
  exact hK _ _ hJ.ext (hJ.frame ST hL (Ext.refl _)) rfl
set_option maxRecDepth 100000 in
set_option maxHeartbeats 4000000 in
theorem st38_63 (a0 : Act) (w0 : World) (Q : Exit → Act → World → Prop) (p gA gA' gB gB' gC gC' gD gD' : Nat) (lA lA' lB lB' lC lC' lD lD' : Array Value) (x es ea ek er m b : Int) (a1 a2 : Option Addr) (n1 c1 n2 c2 : Nat) (bm ba bk bb : Bool) (H : P38 a0 w0 p gA gA' gB gB' gC gC' gD gD' lA lA' lB lB' lC lC' lD lD' x es ea ek er m b a1 a2 n1 c1 n2 c2 bm ba bk bb) : StepF Try.prog Q ops38 a0 w0 (F38 p lA lA' lB lB' lC lC' lD lD' x es ea ek er m b a1 a2 n1 c1 n2 c2 bm ba bk bb) 63 := by
  have ST : StaysF (F38 p lA lA' lB lB' lC lC' lD lD' x es ea ek er m b a1 a2 n1 c1 n2 c2 bm ba bk bb) ops38.size := by rw [ops38_size]; exact F38_stays p lA lA' lB lB' lC lC' lD lD' x es ea ek er m b a1 a2 n1 c1 n2 c2 bm ba bk bb
  refine step_when 56 265 true (by kernel_rfl) fun o ho => ?_
  have ho' := ho
  cases ho'
  refine ⟨rfl, fun L a W hL hd hJ => ⟨hJ.dep ho hd (k := 56) (t := 265) (by kernel_rfl) (by kernel_rfl), fun K hK => ?_⟩⟩
  have f1 : a.tmps[267]?.getD undef = _ := hJ.dep ho hd (k := 58) (t := 267) (by kernel_rfl) (by kernel_rfl)
  have f2 : a.tmps[271]?.getD undef = _ := hJ.dep ho hd (k := 62) (t := 271) (by kernel_rfl) (by kernel_rfl)
  have bt : ∀ c : Bool, (c == c) = true := fun c => by cases c <;> rfl
  conv => arg 2; whnf
  go_simp
  exact hK _ _ hJ.ext (hJ.frame ST hL (Ext.refl _)) rfl
set_option maxRecDepth 100000 in
set_option maxHeartbeats 4000000 in
theorem st38_64 (a0 : Act) (w0 : World) (Q : Exit → Act → World → Prop) (p gA gA' gB gB' gC gC' gD gD' : Nat) (lA lA' lB lB' lC lC' lD lD' : Array Value) (x es ea ek er m b : Int) (a1 a2 : Option Addr) (n1 c1 n2 c2 : Nat) (bm ba bk bb : Bool) (H : P38 a0 w0 p gA gA' gB gB' gC gC' gD gD' lA lA' lB lB' lC lC' lD lD' x es ea ek er m b a1 a2 n1 c1 n2 c2 bm ba bk bb) : StepF Try.prog Q ops38 a0 w0 (F38 p lA lA' lB lB' lC lC' lD lD' x es ea ek er m b a1 a2 n1 c1 n2 c2 bm ba bk bb) 64 := by
  have ST : StaysF (F38 p lA lA' lB lB' lC lC' lD lD' x es ea ek er m b a1 a2 n1 c1 n2 c2 bm ba bk bb) ops38.size := by rw [ops38_size]; exact F38_stays p lA lA' lB lB' lC lC' lD lD' x es ea ek er m b a1 a2 n1 c1 n2 c2 bm ba bk bb
  refine step_free fun o ho => ?_
  have ho' := ho
  cases ho'
  refine ⟨rfl, fun L a W hL hd hJ K hK => ?_⟩
  have f1 : a.tmps[265]?.getD undef = _ := hJ.dep ho hd (k := 56) (t := 265) (by kernel_rfl) (by kernel_rfl)
  have f2 : a.tmps[272]?.getD undef = _ := hJ.dep ho hd (k := 63) (t := 272) (by kernel_rfl) (by kernel_rfl)
  conv => arg 2; whnf
  go_simp
  exact hK _ _ hJ.ext (hJ.frame ST hL (Ext.refl _)) rfl
set_option maxRecDepth 100000 in
set_option maxHeartbeats 4000000 in
theorem st38_65 (a0 : Act) (w0 : World) (Q : Exit → Act → World → Prop) (p gA gA' gB gB' gC gC' gD gD' : Nat) (lA lA' lB lB' lC lC' lD lD' : Array Value) (x es ea ek er m b : Int) (a1 a2 : Option Addr) (n1 c1 n2 c2 : Nat) (bm ba bk bb : Bool) (H : P38 a0 w0 p gA gA' gB gB' gC gC' gD gD' lA lA' lB lB' lC lC' lD lD' x es ea ek er m b a1 a2 n1 c1 n2 c2 bm ba bk bb) : StepF Try.prog Q ops38 a0 w0 (F38 p lA lA' lB lB' lC lC' lD lD' x es ea ek er m b a1 a2 n1 c1 n2 c2 bm ba bk bb) 65 := by
  have ST : StaysF (F38 p lA lA' lB lB' lC lC' lD lD' x es ea ek er m b a1 a2 n1 c1 n2 c2 bm ba bk bb) ops38.size := by rw [ops38_size]; exact F38_stays p lA lA' lB lB' lC lC' lD lD' x es ea ek er m b a1 a2 n1 c1 n2 c2 bm ba bk bb
  refine step_free fun o ho => ?_
  have ho' := ho
  cases ho'
  refine ⟨rfl, fun L a W hL hd hJ K hK => ?_⟩
  have f1 : a.tmps[273]?.getD undef = _ := hJ.dep ho hd (k := 64) (t := 273) (by kernel_rfl) (by kernel_rfl)
  conv => arg 2; whnf
  go_simp
  exact hK _ _ hJ.ext (hJ.frame ST hL (Ext.refl _)) rfl
set_option maxRecDepth 100000 in
set_option maxHeartbeats 4000000 in
theorem st38_66 (a0 : Act) (w0 : World) (Q : Exit → Act → World → Prop) (p gA gA' gB gB' gC gC' gD gD' : Nat) (lA lA' lB lB' lC lC' lD lD' : Array Value) (x es ea ek er m b : Int) (a1 a2 : Option Addr) (n1 c1 n2 c2 : Nat) (bm ba bk bb : Bool) (H : P38 a0 w0 p gA gA' gB gB' gC gC' gD gD' lA lA' lB lB' lC lC' lD lD' x es ea ek er m b a1 a2 n1 c1 n2 c2 bm ba bk bb) : StepF Try.prog Q ops38 a0 w0 (F38 p lA lA' lB lB' lC lC' lD lD' x es ea ek er m b a1 a2 n1 c1 n2 c2 bm ba bk bb) 66 := by
  have ST : StaysF (F38 p lA lA' lB lB' lC lC' lD lD' x es ea ek er m b a1 a2 n1 c1 n2 c2 bm ba bk bb) ops38.size := by rw [ops38_size]; exact F38_stays p lA lA' lB lB' lC lC' lD lD' x es ea ek er m b a1 a2 n1 c1 n2 c2 bm ba bk bb
  refine step_when 65 274 true (by kernel_rfl) fun o ho => ?_
  have ho' := ho
  cases ho'
  refine ⟨rfl, fun L a W hL hd hJ => ⟨hJ.dep ho hd (k := 65) (t := 274) (by kernel_rfl) (by kernel_rfl), fun K hK => ?_⟩⟩
  have f1 := hJ.old (t := 16) hL (by kernel_rfl) H.v16
  conv => arg 2; whnf
  go_simp
  exact hK _ _ hJ.ext (hJ.frame ST hL (Ext.refl _)) rfl
set_option maxRecDepth 100000 in
set_option maxHeartbeats 4000000 in
theorem st38_67 (a0 : Act) (w0 : World) (Q : Exit → Act → World → Prop) (p gA gA' gB gB' gC gC' gD gD' : Nat) (lA lA' lB lB' lC lC' lD lD' : Array Value) (x es ea ek er m b : Int) (a1 a2 : Option Addr) (n1 c1 n2 c2 : Nat) (bm ba bk bb : Bool) (H : P38 a0 w0 p gA gA' gB gB' gC gC' gD gD' lA lA' lB lB' lC lC' lD lD' x es ea ek er m b a1 a2 n1 c1 n2 c2 bm ba bk bb) : StepF Try.prog Q ops38 a0 w0 (F38 p lA lA' lB lB' lC lC' lD lD' x es ea ek er m b a1 a2 n1 c1 n2 c2 bm ba bk bb) 67 := by
  have ST : StaysF (F38 p lA lA' lB lB' lC lC' lD lD' x es ea ek er m b a1 a2 n1 c1 n2 c2 bm ba bk bb) ops38.size := by rw [ops38_size]; exact F38_stays p lA lA' lB lB' lC lC' lD lD' x es ea ek er m b a1 a2 n1 c1 n2 c2 bm ba bk bb
  refine step_when 65 274 true (by kernel_rfl) fun o ho => ?_
  have ho' := ho
  cases ho'
  refine ⟨rfl, fun L a W hL hd hJ => ⟨hJ.dep ho hd (k := 65) (t := 274) (by kernel_rfl) (by kernel_rfl), fun K hK => ?_⟩⟩
  have f1 : a.tmps[275]?.getD undef = _ := hJ.dep ho hd (k := 66) (t := 275) (by kernel_rfl) (by kernel_rfl)
  have q := H.q3.1
  conv => arg 2; whnf
  go_simp
  exact hK _ _ hJ.ext (hJ.frame ST hL (Ext.refl _)) rfl
set_option maxRecDepth 100000 in
set_option maxHeartbeats 4000000 in
theorem st38_68 (a0 : Act) (w0 : World) (Q : Exit → Act → World → Prop) (p gA gA' gB gB' gC gC' gD gD' : Nat) (lA lA' lB lB' lC lC' lD lD' : Array Value) (x es ea ek er m b : Int) (a1 a2 : Option Addr) (n1 c1 n2 c2 : Nat) (bm ba bk bb : Bool) (H : P38 a0 w0 p gA gA' gB gB' gC gC' gD gD' lA lA' lB lB' lC lC' lD lD' x es ea ek er m b a1 a2 n1 c1 n2 c2 bm ba bk bb) : StepF Try.prog Q ops38 a0 w0 (F38 p lA lA' lB lB' lC lC' lD lD' x es ea ek er m b a1 a2 n1 c1 n2 c2 bm ba bk bb) 68 := by
  have ST : StaysF (F38 p lA lA' lB lB' lC lC' lD lD' x es ea ek er m b a1 a2 n1 c1 n2 c2 bm ba bk bb) ops38.size := by rw [ops38_size]; exact F38_stays p lA lA' lB lB' lC lC' lD lD' x es ea ek er m b a1 a2 n1 c1 n2 c2 bm ba bk bb
  refine step_when 65 274 true (by kernel_rfl) fun o ho => ?_
  have ho' := ho
  cases ho'
  refine ⟨rfl, fun L a W hL hd hJ => ⟨hJ.dep ho hd (k := 65) (t := 274) (by kernel_rfl) (by kernel_rfl), fun K hK => ?_⟩⟩
  have f1 : a.tmps[276]?.getD undef = _ := hJ.dep ho hd (k := 67) (t := 276) (by kernel_rfl) (by kernel_rfl)
  conv => arg 2; whnf
  go_simp
  exact hK _ _ hJ.ext (hJ.frame ST hL (Ext.refl _)) rfl
set_option maxRecDepth 100000 in
set_option maxHeartbeats 4000000 in
theorem st38_69 (a0 : Act) (w0 : World) (Q : Exit → Act → World → Prop) (p gA gA' gB gB' gC gC' gD gD' : Nat) (lA lA' lB lB' lC lC' lD lD' : Array Value) (x es ea ek er m b : Int) (a1 a2 : Option Addr) (n1 c1 n2 c2 : Nat) (bm ba bk bb : Bool) (H : P38 a0 w0 p gA gA' gB gB' gC gC' gD gD' lA lA' lB lB' lC lC' lD lD' x es ea ek er m b a1 a2 n1 c1 n2 c2 bm ba bk bb) : StepF Try.prog Q ops38 a0 w0 (F38 p lA lA' lB lB' lC lC' lD lD' x es ea ek er m b a1 a2 n1 c1 n2 c2 bm ba bk bb) 69 := by
  have ST : StaysF (F38 p lA lA' lB lB' lC lC' lD lD' x es ea ek er m b a1 a2 n1 c1 n2 c2 bm ba bk bb) ops38.size := by rw [ops38_size]; exact F38_stays p lA lA' lB lB' lC lC' lD lD' x es ea ek er m b a1 a2 n1 c1 n2 c2 bm ba bk bb
  refine step_if 68 277 false bk (by kernel_rfl) fun o ho => ?_
  have ho' := ho
  cases ho'
  refine ⟨rfl, fun L a W hL hd hJ => ⟨hJ.dep ho hd (k := 68) (t := 277) (by kernel_rfl) (by kernel_rfl), fun K hK => ⟨fun hc => ?_, fun hc => ?_⟩⟩⟩
  · have f1 := hJ.old (t := 16) hL (by kernel_rfl) H.v16
    conv => arg 2; whnf
    go_simp
    exact hK _ _ hJ.ext (hJ.frame ST hL (Ext.refl _)) (fun _ => rfl)
  · exact hK _ _ hJ.ext (hJ.frame ST hL (Ext.refl _)) (fun h => absurd h hc)
set_option maxRecDepth 100000 in
set_option maxHeartbeats 4000000 in
theorem st38_70 (a0 : Act) (w0 : World) (Q : Exit → Act → World → Prop) (p gA gA' gB gB' gC gC' gD gD' : Nat) (lA lA' lB lB' lC lC' lD lD' : Array Value) (x es ea ek er m b : Int) (a1 a2 : Option Addr) (n1 c1 n2 c2 : Nat) (bm ba bk bb : Bool) (H : P38 a0 w0 p gA gA' gB gB' gC gC' gD gD' lA lA' lB lB' lC lC' lD lD' x es ea ek er m b a1 a2 n1 c1 n2 c2 bm ba bk bb) : StepF Try.prog Q ops38 a0 w0 (F38 p lA lA' lB lB' lC lC' lD lD' x es ea ek er m b a1 a2 n1 c1 n2 c2 bm ba bk bb) 70 := by
  have ST : StaysF (F38 p lA lA' lB lB' lC lC' lD lD' x es ea ek er m b a1 a2 n1 c1 n2 c2 bm ba bk bb) ops38.size := by rw [ops38_size]; exact F38_stays p lA lA' lB lB' lC lC' lD lD' x es ea ek er m b a1 a2 n1 c1 n2 c2 bm ba bk bb
  refine step_if 68 277 false bk (by kernel_rfl) fun o ho => ?_
  have ho' := ho
  cases ho'
  refine ⟨rfl, fun L a W hL hd hJ => ⟨hJ.dep ho hd (k := 68) (t := 277) (by kernel_rfl) (by kernel_rfl), fun K hK => ⟨fun hc => ?_, fun hc => ?_⟩⟩⟩
  · have f1' := hJ.dep ho hd (k := 69) (t := 278) (by kernel_rfl) (by kernel_rfl)
    have f1 : a.tmps[278]?.getD undef = _ := f1' hc
    have q := H.q3.2 hc
    rw [q] at f1
    conv => arg 2; whnf
    go_simp
    exact hK _ _ hJ.ext (hJ.frame ST hL (Ext.refl _)) (fun _ => rfl)
  · exact hK _ _ hJ.ext (hJ.frame ST hL (Ext.refl _)) (fun h => absurd h hc)
set_option maxRecDepth 100000 in
set_option maxHeartbeats 4000000 in
theorem st38_71 (a0 : Act) (w0 : World) (Q : Exit → Act → World → Prop) (p gA gA' gB gB' gC gC' gD gD' : Nat) (lA lA' lB lB' lC lC' lD lD' : Array Value) (x es ea ek er m b : Int) (a1 a2 : Option Addr) (n1 c1 n2 c2 : Nat) (bm ba bk bb : Bool) (H : P38 a0 w0 p gA gA' gB gB' gC gC' gD gD' lA lA' lB lB' lC lC' lD lD' x es ea ek er m b a1 a2 n1 c1 n2 c2 bm ba bk bb) : StepF Try.prog Q ops38 a0 w0 (F38 p lA lA' lB lB' lC lC' lD lD' x es ea ek er m b a1 a2 n1 c1 n2 c2 bm ba bk bb) 71 := by
  have ST : StaysF (F38 p lA lA' lB lB' lC lC' lD lD' x es ea ek er m b a1 a2 n1 c1 n2 c2 bm ba bk bb) ops38.size := by rw [ops38_size]; exact F38_stays p lA lA' lB lB' lC lC' lD lD' x es ea ek er m b a1 a2 n1 c1 n2 c2 bm ba bk bb
  refine step_when 65 274 true (by kernel_rfl) fun o ho => ?_
  have ho' := ho
  cases ho'
  refine ⟨rfl, fun L a W hL hd hJ => ⟨hJ.dep ho hd (k := 65) (t := 274) (by kernel_rfl) (by kernel_rfl), fun K hK => ?_⟩⟩
  have f1 : a.tmps[277]?.getD undef = _ := hJ.dep ho hd (k := 68) (t := 277) (by kernel_rfl) (by kernel_rfl)
  have f2 := hJ.dep ho hd (k := 70) (t := 279) (by kernel_rfl) (by kernel_rfl)
  cases bk
  · have f3 : a.tmps[279]?.getD undef = _ := f2 rfl
    conv => arg 2; whnf
    go_simp
    exact hK _ _ hJ.ext (hJ.frame ST hL (Ext.refl _)) rfl
  · clear f2
    conv => arg 2; whnf
    go_simp
    exact hK _ _ hJ.ext (hJ.frame ST hL (Ext.refl _)) rfl
set_option maxRecDepth 100000 in
set_option maxHeartbeats 4000000 in
theorem st38_72 (a0 : Act) (w0 : World) (Q : Exit → Act → World → Prop) (p gA gA' gB gB' gC gC' gD gD' : Nat) (lA lA' lB lB' lC lC' lD lD' : Array Value) (x es ea ek er m b : Int) (a1 a2 : Option Addr) (n1 c1 n2 c2 : Nat) (bm ba bk bb : Bool) (H : P38 a0 w0 p gA gA' gB gB' gC gC' gD gD' lA lA' lB lB' lC lC' lD lD' x es ea ek er m b a1 a2 n1 c1 n2 c2 bm ba bk bb) : StepF Try.prog Q ops38 a0 w0 (F38 p lA lA' lB lB' lC lC' lD lD' x es ea ek er m b a1 a2 n1 c1 n2 c2 bm ba bk bb) 72 := by
  have ST : StaysF (F38 p lA lA' lB lB' lC lC' lD lD' x es ea ek er m b a1 a2 n1 c1 n2 c2 bm ba bk bb) ops38.size := by rw [ops38_size]; exact F38_stays p lA lA' lB lB' lC lC' lD lD' x es ea ek er m b a1 a2 n1 c1 n2 c2 bm ba bk bb
  refine step_free fun o ho => ?_
  have ho' := ho
  cases ho'
  refine ⟨rfl, fun L a W hL hd hJ K hK => ?_⟩
  have f1 : a.tmps[274]?.getD undef = _ := hJ.dep ho hd (k := 65) (t := 274) (by kernel_rfl) (by kernel_rfl)
  have f2 : a.tmps[280]?.getD undef = _ := hJ.dep ho hd (k := 71) (t := 280) (by kernel_rfl) (by kernel_rfl)
  conv => arg 2; whnf
  go_simp
  exact hK _ _ hJ.ext (hJ.frame ST hL (Ext.refl _)) rfl
set_option maxRecDepth 100000 in
set_option maxHeartbeats 4000000 in
theorem st38_73 (a0 : Act) (w0 : World) (Q : Exit → Act → World → Prop) (p gA gA' gB gB' gC gC' gD gD' : Nat) (lA lA' lB lB' lC lC' lD lD' : Array Value) (x es ea ek er m b : Int) (a1 a2 : Option Addr) (n1 c1 n2 c2 : Nat) (bm ba bk bb : Bool) (H : P38 a0 w0 p gA gA' gB gB' gC gC' gD gD' lA lA' lB lB' lC lC' lD lD' x es ea ek er m b a1 a2 n1 c1 n2 c2 bm ba bk bb) : StepF Try.prog Q ops38 a0 w0 (F38 p lA lA' lB lB' lC lC' lD lD' x es ea ek er m b a1 a2 n1 c1 n2 c2 bm ba bk bb) 73 := by
  have ST : StaysF (F38 p lA lA' lB lB' lC lC' lD lD' x es ea ek er m b a1 a2 n1 c1 n2 c2 bm ba bk bb) ops38.size := by rw [ops38_size]; exact F38_stays p lA lA' lB lB' lC lC' lD lD' x es ea ek er m b a1 a2 n1 c1 n2 c2 bm ba bk bb
  refine step_free fun o ho => ?_
  have ho' := ho
  cases ho'
  refine ⟨rfl, fun L a W hL hd hJ K hK => ?_⟩
  have f1 : a.tmps[281]?.getD undef = _ := hJ.dep ho hd (k := 72) (t := 281) (by kernel_rfl) (by kernel_rfl)
  conv => arg 2; whnf
  go_simp
  exact hK _ _ hJ.ext (hJ.frame ST hL (Ext.refl _)) rfl
set_option maxRecDepth 100000 in
set_option maxHeartbeats 4000000 in
theorem st38_74 (a0 : Act) (w0 : World) (Q : Exit → Act → World → Prop) (p gA gA' gB gB' gC gC' gD gD' : Nat) (lA lA' lB lB' lC lC' lD lD' : Array Value) (x es ea ek er m b : Int) (a1 a2 : Option Addr) (n1 c1 n2 c2 : Nat) (bm ba bk bb : Bool) (H : P38 a0 w0 p gA gA' gB gB' gC gC' gD gD' lA lA' lB lB' lC lC' lD lD' x es ea ek er m b a1 a2 n1 c1 n2 c2 bm ba bk bb) : StepF Try.prog Q ops38 a0 w0 (F38 p lA lA' lB lB' lC lC' lD lD' x es ea ek er m b a1 a2 n1 c1 n2 c2 bm ba bk bb) 74 := by
  have ST : StaysF (F38 p lA lA' lB lB' lC lC' lD lD' x es ea ek er m b a1 a2 n1 c1 n2 c2 bm ba bk bb) ops38.size := by rw [ops38_size]; exact F38_stays p lA lA' lB lB' lC lC' lD lD' x es ea ek er m b a1 a2 n1 c1 n2 c2 bm ba bk bb
  refine step_when 73 282 true (by kernel_rfl) fun o ho => ?_
  have ho' := ho
  cases ho'
  refine ⟨rfl, fun L a W hL hd hJ => ⟨hJ.dep ho hd (k := 73) (t := 282) (by kernel_rfl) (by kernel_rfl), fun K hK => ?_⟩⟩
  have f1 := hJ.old (t := 18) hL (by kernel_rfl) H.v18
  conv => arg 2; whnf
  go_simp
  exact hK _ _ hJ.ext (hJ.frame ST hL (Ext.refl _)) rfl
set_option maxRecDepth 100000 in
set_option maxHeartbeats 4000000 in
theorem st38_75 (a0 : Act) (w0 : World) (Q : Exit → Act → World → Prop) (p gA gA' gB gB' gC gC' gD gD' : Nat) (lA lA' lB lB' lC lC' lD lD' : Array Value) (x es ea ek er m b : Int) (a1 a2 : Option Addr) (n1 c1 n2 c2 : Nat) (bm ba bk bb : Bool) (H : P38 a0 w0 p gA gA' gB gB' gC gC' gD gD' lA lA' lB lB' lC lC' lD lD' x es ea ek er m b a1 a2 n1 c1 n2 c2 bm ba bk bb) : StepF Try.prog Q ops38 a0 w0 (F38 p lA lA' lB lB' lC lC' lD lD' x es ea ek er m b a1 a2 n1 c1 n2 c2 bm ba bk bb) 75 := by
  have ST : StaysF (F38 p lA lA' lB lB' lC lC' lD lD' x es ea ek er m b a1 a2 n1 c1 n2 c2 bm ba bk bb) ops38.size := by rw [ops38_size]; exact F38_stays p lA lA' lB lB' lC lC' lD lD' x es ea ek er m b a1 a2 n1 c1 n2 c2 bm ba bk bb
  refine step_when 73 282 true (by kernel_rfl) fun o ho => ?_
  have ho' := ho
  cases ho'
  refine ⟨rfl, fun L a W hL hd hJ => ⟨hJ.dep ho hd (k := 73) (t := 282) (by kernel_rfl) (by kernel_rfl), fun K hK => ?_⟩⟩
  have f1 : a.tmps[283]?.getD undef = _ := hJ.dep ho hd (k := 74) (t := 283) (by kernel_rfl) (by kernel_rfl)
  have q := H.q4.1
  conv => arg 2; whnf
  go_simp
  exact hK _ _ hJ.ext (hJ.frame ST hL (Ext.refl _)) rfl
set_option maxRecDepth 100000 in
set_option maxHeartbeats 4000000 in
theorem st38_76 (a0 : Act) (w0 : World) (Q : Exit → Act → World → Prop) (p gA gA' gB gB' gC gC' gD gD' : Nat) (lA lA' lB lB' lC lC' lD lD' : Array Value) (x es ea ek er m b : Int) (a1 a2 : Option Addr) (n1 c1 n2 c2 : Nat) (bm ba bk bb : Bool) (H : P38 a0 w0 p gA gA' gB gB' gC gC' gD gD' lA lA' lB lB' lC lC' lD lD' x es ea ek er m b a1 a2 n1 c1 n2 c2 bm ba bk bb) : StepF Try.prog Q ops38 a0 w0 (F38 p lA lA' lB lB' lC lC' lD lD' x es ea ek er m b a1 a2 n1 c1 n2 c2 bm ba bk bb) 76 := by
  have ST : StaysF (F38 p lA lA' lB lB' lC lC' lD lD' x es ea ek er m b a1 a2 n1 c1 n2 c2 bm ba bk bb) ops38.size := by rw [ops38_size]; exact F38_stays p lA lA' lB lB' lC lC' lD lD' x es ea ek er m b a1 a2 n1 c1 n2 c2 bm ba bk bb
  refine step_when 73 282 true (by kernel_rfl) fun o ho => ?_
  have ho' := ho
  cases ho'
  refine ⟨rfl, fun L a W hL hd hJ => ⟨hJ.dep ho hd (k := 73) (t := 282) (by kernel_rfl) (by kernel_rfl), fun K hK => ?_⟩⟩
  have f1 := hJ.old (t := 3) hL (by kernel_rfl) H.v3
  conv => arg 2; whnf
  go_simp
  exact hK _ _ hJ.ext (hJ.frame ST hL (Ext.refl _)) rfl
set_option maxRecDepth 100000 in
set_option maxHeartbeats 4000000 in
theorem st38_77 (a0 : Act) (w0 : World) (Q : Exit → Act → World → Prop) (p gA gA' gB gB' gC gC' gD gD' : Nat) (lA lA' lB lB' lC lC' lD lD' : Array Value) (x es ea ek er m b : Int) (a1 a2 : Option Addr) (n1 c1 n2 c2 : Nat) (bm ba bk bb : Bool) (H : P38 a0 w0 p gA gA' gB gB' gC gC' gD gD' lA lA' lB lB' lC lC' lD lD' x es ea ek er m b a1 a2 n1 c1 n2 c2 bm ba bk bb) : StepF Try.prog Q ops38 a0 w0 (F38 p lA lA' lB lB' lC lC' lD lD' x es ea ek er m b a1 a2 n1 c1 n2 c2 bm ba bk bb) 77 := by
  have ST : StaysF (F38 p lA lA' lB lB' lC lC' lD lD' x es ea ek er m b a1 a2 n1 c1 n2 c2 bm ba bk bb) ops38.size := by rw [ops38_size]; exact F38_stays p lA lA' lB lB' lC lC' lD lD' x es ea ek er m b a1 a2 n1 c1 n2 c2 bm ba bk bb
  refine step_when 73 282 true (by kernel_rfl) fun o ho => ?_
  have ho' := ho
  cases ho'
  refine ⟨rfl, fun L a W hL hd hJ => ⟨hJ.dep ho hd (k := 73) (t := 282) (by kernel_rfl) (by kernel_rfl), fun K hK => ?_⟩⟩
  have f1 : a.tmps[285]?.getD undef = _ := hJ.dep ho hd (k := 76) (t := 285) (by kernel_rfl) (by kernel_rfl)
  obtain ⟨e1, e2, e3, e4⟩ := H.pp W hJ.ext
  conv => arg 2; whnf
  go_simp
  exact hK _ _ hJ.ext (hJ.frame ST hL (Ext.refl _)) rfl
set_option maxRecDepth 100000 in
set_option maxHeartbeats 4000000 in
theorem st38_78 (a0 : Act) (w0 : World) (Q : Exit → Act → World → Prop) (p gA gA' gB gB' gC gC' gD gD' : Nat) (lA lA' lB lB' lC lC' lD lD' : Array Value) (x es ea ek er m b : Int) (a1 a2 : Option Addr) (n1 c1 n2 c2 : Nat) (bm ba bk bb : Bool) (H : P38 a0 w0 p gA gA' gB gB' gC gC' gD gD' lA lA' lB lB' lC lC' lD lD' x es ea ek er m b a1 a2 n1 c1 n2 c2 bm ba bk bb) : StepF Try.prog Q ops38 a0 w0 (F38 p lA lA' lB lB' lC lC' lD lD' x es ea ek er m b a1 a2 n1 c1 n2 c2 bm ba bk bb) 78 := by
  have ST : StaysF (F38 p lA lA' lB lB' lC lC' lD lD' x es ea ek er m b a1 a2 n1 c1 n2 c2 bm ba bk bb) ops38.size := by rw [ops38_size]; exact F38_stays p lA lA' lB lB' lC lC' lD lD' x es ea ek er m b a1 a2 n1 c1 n2 c2 bm ba bk bb
  refine step_when 73 282 true (by kernel_rfl) fun o ho => ?_
  have ho' := ho
  cases ho'
  refine ⟨rfl, fun L a W hL hd hJ => ⟨hJ.dep ho hd (k := 73) (t := 282) (by kernel_rfl) (by kernel_rfl), fun K hK => ?_⟩⟩
  have f1 : a.tmps[286]?.getD undef = _ := hJ.dep ho hd (k := 77) (t := 286) (by kernel_rfl) (by kernel_rfl)
  have q := H.d4
  conv => arg 2; whnf
  go_simp
  exact hK _ _ hJ.ext (hJ.frame ST hL (Ext.refl _)) rfl
set_option maxRecDepth 100000 in
set_option maxHeartbeats 4000000 in
theorem st38_79 (a0 : Act) (w0 : World) (Q : Exit → Act → World → Prop) (p gA gA' gB gB' gC gC' gD gD' : Nat) (lA lA' lB lB' lC lC' lD lD' : Array Value) (x es ea ek er m b : Int) (a1 a2 : Option Addr) (n1 c1 n2 c2 : Nat) (bm ba bk bb : Bool) (H : P38 a0 w0 p gA gA' gB gB' gC gC' gD gD' lA lA' lB lB' lC lC' lD lD' x es ea ek er m b a1 a2 n1 c1 n2 c2 bm ba bk bb) : StepF Try.prog Q ops38 a0 w0 (F38 p lA lA' lB lB' lC lC' lD lD' x es ea ek er m b a1 a2 n1 c1 n2 c2 bm ba bk bb) 79 := by
  have ST : StaysF (F38 p lA lA' lB lB' lC lC' lD lD' x es ea ek er m b a1 a2 n1 c1 n2 c2 bm ba bk bb) ops38.size := by rw [ops38_size]; exact F38_stays p lA lA' lB lB' lC lC' lD lD' x es ea ek er m b a1 a2 n1 c1 n2 c2 bm ba bk bb
  refine step_when 73 282 true (by kernel_rfl) fun o ho => ?_
  have ho' := ho
  cases ho'
  refine ⟨rfl, fun L a W hL hd hJ => ⟨hJ.dep ho hd (k := 73) (t := 282) (by kernel_rfl) (by kernel_rfl), fun K hK => ?_⟩⟩
  have f1 : a.tmps[284]?.getD undef = _ := hJ.dep ho hd (k := 75) (t := 284) (by kernel_rfl) (by kernel_rfl)
  have f2 : a.tmps[287]?.getD undef = _ := hJ.dep ho hd (k := 78) (t := 287) (by kernel_rfl) (by kernel_rfl)
  have bt : ∀ c : Bool, (c == c) = true := fun c => by cases c <;> rfl
  conv => arg 2; whnf
  go_simp
  exact hK _ _ hJ.ext (hJ.frame ST hL (Ext.refl _)) rfl
set_option maxRecDepth 100000 in
set_option maxHeartbeats 4000000 in
theorem st38_80 (a0 : Act) (w0 : World) (Q : Exit → Act → World → Prop) (p gA gA' gB gB' gC gC' gD gD' : Nat) (lA lA' lB lB' lC lC' lD lD' : Array Value) (x es ea ek er m b : Int) (a1 a2 : Option Addr) (n1 c1 n2 c2 : Nat) (bm ba bk bb : Bool) (H : P38 a0 w0 p gA gA' gB gB' gC gC' gD gD' lA lA' lB lB' lC lC' lD lD' x es ea ek er m b a1 a2 n1 c1 n2 c2 bm ba bk bb) : StepF Try.prog Q ops38 a0 w0 (F38 p lA lA' lB lB' lC lC' lD lD' x es ea ek er m b a1 a2 n1 c1 n2 c2 bm ba bk bb) 80 := by
  have ST : StaysF (F38 p lA lA' lB lB' lC lC' lD lD' x es ea ek er m b a1 a2 n1 c1 n2 c2 bm ba bk bb) ops38.size := by rw [ops38_size]; exact F38_stays p lA lA' lB lB' lC lC' lD lD' x es ea ek er m b a1 a2 n1 c1 n2 c2 bm ba bk bb
  refine step_free fun o ho => ?_
  have ho' := ho
  cases ho'
  refine ⟨rfl, fun L a W hL hd hJ K hK => ?_⟩
  have f1 : a.tmps[282]?.getD undef = _ := hJ.dep ho hd (k := 73) (t := 282) (by kernel_rfl) (by kernel_rfl)
  have f2 : a.tmps[288]?.getD undef = _ := hJ.dep ho hd (k := 79) (t := 288) (by kernel_rfl) (by kernel_rfl)
  conv => arg 2; whnf
  go_simp
  exact hK _ _ hJ.ext (hJ.frame ST hL (Ext.refl _)) rfl
set_option maxRecDepth 100000 in
set_option maxHeartbeats 4000000 in
theorem st38_81 (a0 : Act) (w0 : World) (Q : Exit → Act → World → Prop) (p gA gA' gB gB' gC gC' gD gD' : Nat) (lA lA' lB lB' lC lC' lD lD' : Array Value) (x es ea ek er m b : Int) (a1 a2 : Option Addr) (n1 c1 n2 c2 : Nat) (bm ba bk bb : Bool) (H : P38 a0 w0 p gA gA' gB gB' gC gC' gD gD' lA lA' lB lB' lC lC' lD lD' x es ea ek er m b a1 a2 n1 c1 n2 c2 bm ba bk bb) : StepF Try.prog Q ops38 a0 w0 (F38 p lA lA' lB lB' lC lC' lD lD' x es ea ek er m b a1 a2 n1 c1 n2 c2 bm ba bk bb) 81 := by
  have ST : StaysF (F38 p lA lA' lB lB' lC lC' lD lD' x es ea ek er m b a1 a2 n1 c1 n2 c2 bm ba bk bb) ops38.size := by rw [ops38_size]; exact F38_stays p lA lA' lB lB' lC lC' lD lD' x es ea ek er m b a1 a2 n1 c1 n2 c2 bm ba bk bb
  refine step_free fun o ho => ?_
  have ho' := ho
  cases ho'
  refine ⟨rfl, fun L a W hL hd hJ K hK => ?_⟩
  have f1 : a.tmps[289]?.getD undef = _ := hJ.dep ho hd (k := 80) (t := 289) (by kernel_rfl) (by kernel_rfl)
  conv => arg 2; whnf
  go_simp
  exact hK _ _ hJ.ext (hJ.frame ST hL (Ext.refl _)) rfl
set_option maxRecDepth 100000 in
set_option maxHeartbeats 4000000 in
theorem st38_82 (a0 : Act) (w0 : World) (Q : Exit → Act → World → Prop) (p gA gA' gB gB' gC gC' gD gD' : Nat) (lA lA' lB lB' lC lC' lD lD' : Array Value) (x es ea ek er m b : Int) (a1 a2 : Option Addr) (n1 c1 n2 c2 : Nat) (bm ba bk bb : Bool) (H : P38 a0 w0 p gA gA' gB gB' gC gC' gD gD' lA lA' lB lB' lC lC' lD lD' x es ea ek er m b a1 a2 n1 c1 n2 c2 bm ba bk bb) : StepF Try.prog Q ops38 a0 w0 (F38 p lA lA' lB lB' lC lC' lD lD' x es ea ek er m b a1 a2 n1 c1 n2 c2 bm ba bk bb) 82 := by
  have ST : StaysF (F38 p lA lA' lB lB' lC lC' lD lD' x es ea ek er m b a1 a2 n1 c1 n2 c2 bm ba bk bb) ops38.size := by rw [ops38_size]; exact F38_stays p lA lA' lB lB' lC lC' lD lD' x es ea ek er m b a1 a2 n1 c1 n2 c2 bm ba bk bb
  refine step_when 81 290 true (by kernel_rfl) fun o ho => ?_
  have ho' := ho
  cases ho'
  refine ⟨rfl, fun L a W hL hd hJ => ⟨hJ.dep ho hd (k := 81) (t := 290) (by kernel_rfl) (by kernel_rfl), fun K hK => ?_⟩⟩
  have f1 := hJ.old (t := 18) hL (by kernel_rfl) H.v18
  conv => arg 2; whnf
  go_simp
  exact hK _ _ hJ.ext (hJ.frame ST hL (Ext.refl _)) rfl
set_option maxRecDepth 100000 in
set_option maxHeartbeats 4000000 in
theorem st38_83 (a0 : Act) (w0 : World) (Q : Exit → Act → World → Prop) (p gA gA' gB gB' gC gC' gD gD' : Nat) (lA lA' lB lB' lC lC' lD lD' : Array Value) (x es ea ek er m b : Int) (a1 a2 : Option Addr) (n1 c1 n2 c2 : Nat) (bm ba bk bb : Bool) (H : P38 a0 w0 p gA gA' gB gB' gC gC' gD gD' lA lA' lB lB' lC lC' lD lD' x es ea ek er m b a1 a2 n1 c1 n2 c2 bm ba bk bb) : StepF Try.prog Q ops38 a0 w0 (F38 p lA lA' lB lB' lC lC' lD lD' x es ea ek er m b a1 a2 n1 c1 n2 c2 bm ba bk bb) 83 := by
  have ST : StaysF (F38 p lA lA' lB lB' lC lC' lD lD' x es ea ek er m b a1 a2 n1 c1 n2 c2 bm ba bk bb) ops38.size := by rw [ops38_size]; exact F38_stays p lA lA' lB lB' lC lC' lD lD' x es ea ek er m b a1 a2 n1 c1 n2 c2 bm ba bk bb
  refine step_when 81 290 true (by kernel_rfl) fun o ho => ?_
  have ho' := ho
  cases ho'
  refine ⟨rfl, fun L a W hL hd hJ => ⟨hJ.dep ho hd (k := 81) (t := 290) (by kernel_rfl) (by kernel_rfl), fun K hK => ?_⟩⟩
  have f1 : a.tmps[291]?.getD undef = _ := hJ.dep ho hd (k := 82) (t := 291) (by kernel_rfl) (by kernel_rfl)
  have q := H.q4.1
  conv => arg 2; whnf
  go_simp
  exact hK _ _ hJ.ext (hJ.frame ST hL (Ext.refl _)) rfl
set_option maxRecDepth 100000 in
set_option maxHeartbeats 4000000 in
theorem st38_84 (a0 : Act) (w0 : World) (Q : Exit → Act → World → Prop) (p gA gA' gB gB' gC gC' gD gD' : Nat) (lA lA' lB lB' lC lC' lD lD' : Array Value) (x es ea ek er m b : Int) (a1 a2 : Option Addr) (n1 c1 n2 c2 : Nat) (bm ba bk bb : Bool) (H : P38 a0 w0 p gA gA' gB gB' gC gC' gD gD' lA lA' lB lB' lC lC' lD lD' x es ea ek er m b a1 a2 n1 c1 n2 c2 bm ba bk bb) : StepF Try.prog Q ops38 a0 w0 (F38 p lA lA' lB lB' lC lC' lD lD' x es ea ek er m b a1 a2 n1 c1 n2 c2 bm ba bk bb) 84 := by
  have ST : StaysF (F38 p lA lA' lB lB' lC lC' lD lD' x es ea ek er m b a1 a2 n1 c1 n2 c2 bm ba bk bb) ops38.size := by rw [ops38_size]; exact F38_stays p lA lA' lB lB' lC lC' lD lD' x es ea ek er m b a1 a2 n1 c1 n2 c2 bm ba bk bb
  refine step_when 81 290 true (by kernel_rfl) fun o ho => ?_
  have ho' := ho
  cases ho'
  refine ⟨rfl, fun L a W hL hd hJ => ⟨hJ.dep ho hd (k := 81) (t := 290) (by kernel_rfl) (by kernel_rfl), fun K hK => ?_⟩⟩
  have f1 : a.tmps[292]?.getD undef = _ := hJ.dep ho hd (k := 83) (t := 292) (by kernel_rfl) (by kernel_rfl)
  conv => arg 2; whnf
  go_simp
  exact hK _ _ hJ.ext (hJ.frame ST hL (Ext.refl _)) rfl
set_option maxRecDepth 100000 in
set_option maxHeartbeats 4000000 in
theorem st38_85 (a0 : Act) (w0 : World) (Q : Exit → Act → World → Prop) (p gA gA' gB gB' gC gC' gD gD' : Nat) (lA lA' lB lB' lC lC' lD lD' : Array Value) (x es ea ek er m b : Int) (a1 a2 : Option Addr) (n1 c1 n2 c2 : Nat) (bm ba bk bb : Bool) (H : P38 a0 w0 p gA gA' gB gB' gC gC' gD gD' lA lA' lB lB' lC lC' lD lD' x es ea ek er m b a1 a2 n1 c1 n2 c2 bm ba bk bb) : StepF Try.prog Q ops38 a0 w0 (F38 p lA lA' lB lB' lC lC' lD lD' x es ea ek er m b a1 a2 n1 c1 n2 c2 bm ba bk bb) 85 := by
  have ST : StaysF (F38 p lA lA' lB lB' lC lC' lD lD' x es ea ek er m b a1 a2 n1 c1 n2 c2 bm ba bk bb) ops38.size := by rw [ops38_size]; exact F38_stays p lA lA' lB lB' lC lC' lD lD' x es ea ek er m b a1 a2 n1 c1 n2 c2 bm ba bk bb
  refine step_if 84 293 false bb (by kernel_rfl) fun o ho => ?_
  have ho' := ho
  cases ho'
  refine ⟨rfl, fun L a W hL hd hJ => ⟨hJ.dep ho hd (k := 84) (t := 293) (by kernel_rfl) (by kernel_rfl), fun K hK => ⟨fun hc => ?_, fun hc => ?_⟩⟩⟩
  · have f1 := hJ.old (t := 18) hL (by kernel_rfl) H.v18
    conv => arg 2; whnf
    go_simp
    exact hK _ _ hJ.ext (hJ.frame ST hL (Ext.refl _)) (fun _ => rfl)
  · exact hK _ _ hJ.ext (hJ.frame ST hL (Ext.refl _)) (fun h => absurd h hc)
set_option maxRecDepth 100000 in
set_option maxHeartbeats 4000000 in
theorem st38_86 (a0 : Act) (w0 : World) (Q : Exit → Act → World → Prop) (p gA gA' gB gB' gC gC' gD gD' : Nat) (lA lA' lB lB' lC lC' lD lD' : Array Value) (x es ea ek er m b : Int) (a1 a2 : Option Addr) (n1 c1 n2 c2 : Nat) (bm ba bk bb : Bool) (H : P38 a0 w0 p gA gA' gB gB' gC gC' gD gD' lA lA' lB lB' lC lC' lD lD' x es ea ek er m b a1 a2 n1 c1 n2 c2 bm ba bk bb) : StepF Try.prog Q ops38 a0 w0 (F38 p lA lA' lB lB' lC lC' lD lD' x es ea ek er m b a1 a2 n1 c1 n2 c2 bm ba bk bb) 86 := by
  have ST : StaysF (F38 p lA lA' lB lB' lC lC' lD lD' x es ea ek er m b a1 a2 n1 c1 n2 c2 bm ba bk bb) ops38.size := by rw [ops38_size]; exact F38_stays p lA lA' lB lB' lC lC' lD lD' x es ea ek er m b a1 a2 n1 c1 n2 c2 bm ba bk bb
  refine step_if 84 293 false bb (by kernel_rfl) fun o ho => ?_
  have ho' := ho
  cases ho'
  refine ⟨rfl, fun L a W hL hd hJ => ⟨hJ.dep ho hd (k := 84) (t := 293) (by kernel_rfl) (by kernel_rfl), fun K hK => ⟨fun hc => ?_, fun hc => ?_⟩⟩⟩
  · have f1' := hJ.dep ho hd (k := 85) (t := 294) (by kernel_rfl) (by kernel_rfl)
    have f1 : a.tmps[294]?.getD undef = _ := f1' hc
    have q := H.q4.2 hc
    rw [q] at f1
    conv => arg 2; whnf
    go_simp
    exact hK _ _ hJ.ext (hJ.frame ST hL (Ext.refl _)) (fun _ => rfl)
  · exact hK _ _ hJ.ext (hJ.frame ST hL (Ext.refl _)) (fun h => absurd h hc)
set_option maxRecDepth 100000 in
set_option maxHeartbeats 4000000 in
theorem st38_87 (a0 : Act) (w0 : World) (Q : Exit → Act → World → Prop) (p gA gA' gB gB' gC gC' gD gD' : Nat) (lA lA' lB lB' lC lC' lD lD' : Array Value) (x es ea ek er m b : Int) (a1 a2 : Option Addr) (n1 c1 n2 c2 : Nat) (bm ba bk bb : Bool) (H : P38 a0 w0 p gA gA' gB gB' gC gC' gD gD' lA lA' lB lB' lC lC' lD lD' x es ea ek er m b a1 a2 n1 c1 n2 c2 bm ba bk bb) : StepF Try.prog Q ops38 a0 w0 (F38 p lA lA' lB lB' lC lC' lD lD' x es ea ek er m b a1 a2 n1 c1 n2 c2 bm ba bk bb) 87 := by
  have ST : StaysF (F38 p lA lA' lB lB' lC lC' lD lD' x es ea ek er m b a1 a2 n1 c1 n2 c2 bm ba bk bb) ops38.size := by rw [ops38_size]; exact F38_stays p lA lA' lB lB' lC lC' lD lD' x es ea ek er m b a1 a2 n1 c1 n2 c2 bm ba bk bb
  refine step_when 81 290 true (by kernel_rfl) fun o ho => ?_
  have ho' := ho
  cases ho'
  refine ⟨rfl, fun L a W hL hd hJ => ⟨hJ.dep ho hd (k := 81) (t := 290) (by kernel_rfl) (by kernel_rfl), fun K hK => ?_⟩⟩
  have f1 : a.tmps[293]?.getD undef = _ := hJ.dep ho hd (k := 84) (t := 293) (by kernel_rfl) (by kernel_rfl)
  have f2 := hJ.dep ho hd (k := 86) (t := 295) (by kernel_rfl) (by kernel_rfl)
  cases bb
  · have f3 : a.tmps[295]?.getD undef = _ := f2 rfl
    conv => arg 2; whnf
    go_simp
    exact hK _ _ hJ.ext (hJ.frame ST hL (Ext.refl _)) rfl
  · clear f2
    conv => arg 2; whnf
    go_simp
    exact hK _ _ hJ.ext (hJ.frame ST hL (Ext.refl _)) rfl
set_option maxRecDepth 100000 in
set_option maxHeartbeats 4000000 in
theorem st38_88 (a0 : Act) (w0 : World) (Q : Exit → Act → World → Prop) (p gA gA' gB gB' gC gC' gD gD' : Nat) (lA lA' lB lB' lC lC' lD lD' : Array Value) (x es ea ek er m b : Int) (a1 a2 : Option Addr) (n1 c1 n2 c2 : Nat) (bm ba bk bb : Bool) (H : P38 a0 w0 p gA gA' gB gB' gC gC' gD gD' lA lA' lB lB' lC lC' lD lD' x es ea ek er m b a1 a2 n1 c1 n2 c2 bm ba bk bb) : StepF Try.prog Q ops38 a0 w0 (F38 p lA lA' lB lB' lC lC' lD lD' x es ea ek er m b a1 a2 n1 c1 n2 c2 bm ba bk bb) 88 := by
  have ST : StaysF (F38 p lA lA' lB lB' lC lC' lD lD' x es ea ek er m b a1 a2 n1 c1 n2 c2 bm ba bk bb) ops38.size := by rw [ops38_size]; exact F38_stays p lA lA' lB lB' lC lC' lD lD' x es ea ek er m b a1 a2 n1 c1 n2 c2 bm ba bk bb
  refine step_free fun o ho => ?_
  have ho' := ho
  cases ho'
  refine ⟨rfl, fun L a W hL hd hJ K hK => ?_⟩
  have f1 : a.tmps[290]?.getD undef = _ := hJ.dep ho hd (k := 81) (t := 290) (by kernel_rfl) (by kernel_rfl)
  have f2 : a.tmps[296]?.getD undef = _ := hJ.dep ho hd (k := 87) (t := 296) (by kernel_rfl) (by kernel_rfl)
  conv => arg 2; whnf
  go_simp
  exact hK _ _ hJ.ext (hJ.frame ST hL (Ext.refl _)) rfl
set_option maxRecDepth 100000 in
set_option maxHeartbeats 4000000 in
theorem st38_89 (a0 : Act) (w0 : World) (Q : Exit → Act → World → Prop) (p gA gA' gB gB' gC gC' gD gD' : Nat) (lA lA' lB lB' lC lC' lD lD' : Array Value) (x es ea ek er m b : Int) (a1 a2 : Option Addr) (n1 c1 n2 c2 : Nat) (bm ba bk bb : Bool) (H : P38 a0 w0 p gA gA' gB gB' gC gC' gD gD' lA lA' lB lB' lC lC' lD lD' x es ea ek er m b a1 a2 n1 c1 n2 c2 bm ba bk bb) : StepF Try.prog Q ops38 a0 w0 (F38 p lA lA' lB lB' lC lC' lD lD' x es ea ek er m b a1 a2 n1 c1 n2 c2 bm ba bk bb) 89 := by
  have ST : StaysF (F38 p lA lA' lB lB' lC lC' lD lD' x es ea ek er m b a1 a2 n1 c1 n2 c2 bm ba bk bb) ops38.size := by rw [ops38_size]; exact F38_stays p lA lA' lB lB' lC lC' lD lD' x es ea ek er m b a1 a2 n1 c1 n2 c2 bm ba bk bb
  refine step_free fun o ho => ?_
  have ho' := ho
  cases ho'
  refine ⟨rfl, fun L a W hL hd hJ K hK => ?_⟩
  have f1 : a.tmps[297]?.getD undef = _ := hJ.dep ho hd (k := 88) (t := 297) (by kernel_rfl) (by kernel_rfl)
  conv => arg 2; whnf
  go_simp
  exact hK _ _ hJ.ext (hJ.frame ST hL (Ext.refl _)) rfl
theorem reg38 (a0 : Act) (w0 : World) (Q : Exit → Act → World → Prop) (p gA gA' gB gB' gC gC' gD gD' : Nat) (lA lA' lB lB' lC lC' lD lD' : Array Value) (x es ea ek er m b : Int) (a1 a2 : Option Addr) (n1 c1 n2 c2 : Nat) (bm ba bk bb : Bool) (H : P38 a0 w0 p gA gA' gB gB' gC gC' gD gD' lA lA' lB lB' lC lC' lD lD' x es ea ek er m b a1 a2 n1 c1 n2 c2 bm ba bk bb) (hsz : a0.tmps.size = 298)
    (hQ : ∀ a W, Near ts38 a0 a → Ext w0 W → V a 6 = .bool true → Q .normal a W) : (Code.region 38 ops38 false).wp Try.prog Q a0 w0 := by
  refine wp_list_facts (F38 p lA lA' lB lB' lC lC' lD lD' x es ea ek er m b a1 a2 n1 c1 n2 c2 bm ba bk bb) 90 ops38_ac ops38_once ops38_size (by rw [hsz]; exact ops38_fits) (fun i h hi => absurd h (ops38_dst i hi)) ?_ ?_
  · intro i hi
    match i, hi with
    | 0, _ => exact st38_0 a0 w0 Q p gA gA' gB gB' gC gC' gD gD' lA lA' lB lB' lC lC' lD lD' x es ea ek er m b a1 a2 n1 c1 n2 c2 bm ba bk bb H
    | 1, _ => exact st38_1 a0 w0 Q p gA gA' gB gB' gC gC' gD gD' lA lA' lB lB' lC lC' lD lD' x es ea ek er m b a1 a2 n1 c1 n2 c2 bm ba bk bb H
    | 2, _ => exact st38_2 a0 w0 Q p gA gA' gB gB' gC gC' gD gD' lA lA' lB lB' lC lC' lD lD' x es ea ek er m b a1 a2 n1 c1 n2 c2 bm ba bk bb H
    | 3, _ => exact st38_3 a0 w0 Q p gA gA' gB gB' gC gC' gD gD' lA lA' lB lB' lC lC' lD lD' x es ea ek er m b a1 a2 n1 c1 n2 c2 bm ba bk bb H
    | 4, _ => exact st38_4 a0 w0 Q p gA gA' gB gB' gC gC' gD gD' lA lA' lB lB' lC lC' lD lD' x es ea ek er m b a1 a2 n1 c1 n2 c2 bm ba bk bb H
    | 5, _ => exact st38_5 a0 w0 Q p gA gA' gB gB' gC gC' gD gD' lA lA' lB lB' lC lC' lD lD' x es ea ek er m b a1 a2 n1 c1 n2 c2 bm ba bk bb H
    | 6, _ => exact st38_6 a0 w0 Q p gA gA' gB gB' gC gC' gD gD' lA lA' lB lB' lC lC' lD lD' x es ea ek er m b a1 a2 n1 c1 n2 c2 bm ba bk bb H
    | 7, _ => exact st38_7 a0 w0 Q p gA gA' gB gB' gC gC' gD gD' lA lA' lB lB' lC lC' lD lD' x es ea ek er m b a1 a2 n1 c1 n2 c2 bm ba bk bb H
    | 8, _ => exact st38_8 a0 w0 Q p gA gA' gB gB' gC gC' gD gD' lA lA' lB lB' lC lC' lD lD' x es ea ek er m b a1 a2 n1 c1 n2 c2 bm ba bk bb H
    | 9, _ => exact st38_9 a0 w0 Q p gA gA' gB gB' gC gC' gD gD' lA lA' lB lB' lC lC' lD lD' x es ea ek er m b a1 a2 n1 c1 n2 c2 bm ba bk bb H
    | 10, _ => exact st38_10 a0 w0 Q p gA gA' gB gB' gC gC' gD gD' lA lA' lB lB' lC lC' lD lD' x es ea ek er m b a1 a2 n1 c1 n2 c2 bm ba bk bb H
    | 11, _ => exact st38_11 a0 w0 Q p gA gA' gB gB' gC gC' gD gD' lA lA' lB lB' lC lC' lD lD' x es ea ek er m b a1 a2 n1 c1 n2 c2 bm ba bk bb H
    | 12, _ => exact st38_12 a0 w0 Q p gA gA' gB gB' gC gC' gD gD' lA lA' lB lB' lC lC' lD lD' x es ea ek er m b a1 a2 n1 c1 n2 c2 bm ba bk bb H
    | 13, _ => exact st38_13 a0 w0 Q p gA gA' gB gB' gC gC' gD gD' lA lA' lB lB' lC lC' lD lD' x es ea ek er m b a1 a2 n1 c1 n2 c2 bm ba bk bb H
    | 14, _ => exact st38_14 a0 w0 Q p gA gA' gB gB' gC gC' gD gD' lA lA' lB lB' lC lC' lD lD' x es ea ek er m b a1 a2 n1 c1 n2 c2 bm ba bk bb H
    | 15, _ => exact st38_15 a0 w0 Q p gA gA' gB gB' gC gC' gD gD' lA lA' lB lB' lC lC' lD lD' x es ea ek er m b a1 a2 n1 c1 n2 c2 bm ba bk bb H
    | 16, _ => exact st38_16 a0 w0 Q p gA gA' gB gB' gC gC' gD gD' lA lA' lB lB' lC lC' lD lD' x es ea ek er m b a1 a2 n1 c1 n2 c2 bm ba bk bb H
    | 17, _ => exact st38_17 a0 w0 Q p gA gA' gB gB' gC gC' gD gD' lA lA' lB lB' lC lC' lD lD' x es ea ek er m b a1 a2 n1 c1 n2 c2 bm ba bk bb H
    | 18, _ => exact st38_18 a0 w0 Q p gA gA' gB gB' gC gC' gD gD' lA lA' lB lB' lC lC' lD lD' x es ea ek er m b a1 a2 n1 c1 n2 c2 bm ba bk bb H
    | 19, _ => exact st38_19 a0 w0 Q p gA gA' gB gB' gC gC' gD gD' lA lA' lB lB' lC lC' lD lD' x es ea ek er m b a1 a2 n1 c1 n2 c2 bm ba bk bb H
    | 20, _ => exact st38_20 a0 w0 Q p gA gA' gB gB' gC gC' gD gD' lA lA' lB lB' lC lC' lD lD' x es ea ek er m b a1 a2 n1 c1 n2 c2 bm ba bk bb H
    | 21, _ => exact st38_21 a0 w0 Q p gA gA' gB gB' gC gC' gD gD' lA lA' lB lB' lC lC' lD lD' x es ea ek er m b a1 a2 n1 c1 n2 c2 bm ba bk bb H
    | 22, _ => exact st38_22 a0 w0 Q p gA gA' gB gB' gC gC' gD gD' lA lA' lB lB' lC lC' lD lD' x es ea ek er m b a1 a2 n1 c1 n2 c2 bm ba bk bb H
    | 23, _ => exact st38_23 a0 w0 Q p gA gA' gB gB' gC gC' gD gD' lA lA' lB lB' lC lC' lD lD' x es ea ek er m b a1 a2 n1 c1 n2 c2 bm ba bk bb H
    | 24, _ => exact st38_24 a0 w0 Q p gA gA' gB gB' gC gC' gD gD' lA lA' lB lB' lC lC' lD lD' x es ea ek er m b a1 a2 n1 c1 n2 c2 bm ba bk bb H
    | 25, _ => exact st38_25 a0 w0 Q p gA gA' gB gB' gC gC' gD gD' lA lA' lB lB' lC lC' lD lD' x es ea ek er m b a1 a2 n1 c1 n2 c2 bm ba bk bb H
    | 26, _ => exact st38_26 a0 w0 Q p gA gA' gB gB' gC gC' gD gD' lA lA' lB lB' lC lC' lD lD' x es ea ek er m b a1 a2 n1 c1 n2 c2 bm ba bk bb H
    | 27, _ => exact st38_27 a0 w0 Q p gA gA' gB gB' gC gC' gD gD' lA lA' lB lB' lC lC' lD lD' x es ea ek er m b a1 a2 n1 c1 n2 c2 bm ba bk bb H
    | 28, _ => exact st38_28 a0 w0 Q p gA gA' gB gB' gC gC' gD gD' lA lA' lB lB' lC lC' lD lD' x es ea ek er m b a1 a2 n1 c1 n2 c2 bm ba bk bb H
    | 29, _ => exact st38_29 a0 w0 Q p gA gA' gB gB' gC gC' gD gD' lA lA' lB lB' lC lC' lD lD' x es ea ek er m b a1 a2 n1 c1 n2 c2 bm ba bk bb H
    | 30, _ => exact st38_30 a0 w0 Q p gA gA' gB gB' gC gC' gD gD' lA lA' lB lB' lC lC' lD lD' x es ea ek er m b a1 a2 n1 c1 n2 c2 bm ba bk bb H
    | 31, _ => exact st38_31 a0 w0 Q p gA gA' gB gB' gC gC' gD gD' lA lA' lB lB' lC lC' lD lD' x es ea ek er m b a1 a2 n1 c1 n2 c2 bm ba bk bb H
    | 32, _ => exact st38_32 a0 w0 Q p gA gA' gB gB' gC gC' gD gD' lA lA' lB lB' lC lC' lD lD' x es ea ek er m b a1 a2 n1 c1 n2 c2 bm ba bk bb H
    | 33, _ => exact st38_33 a0 w0 Q p gA gA' gB gB' gC gC' gD gD' lA lA' lB lB' lC lC' lD lD' x es ea ek er m b a1 a2 n1 c1 n2 c2 bm ba bk bb H
    | 34, _ => exact st38_34 a0 w0 Q p gA gA' gB gB' gC gC' gD gD' lA lA' lB lB' lC lC' lD lD' x es ea ek er m b a1 a2 n1 c1 n2 c2 bm ba bk bb H
    | 35, _ => exact st38_35 a0 w0 Q p gA gA' gB gB' gC gC' gD gD' lA lA' lB lB' lC lC' lD lD' x es ea ek er m b a1 a2 n1 c1 n2 c2 bm ba bk bb H
    | 36, _ => exact st38_36 a0 w0 Q p gA gA' gB gB' gC gC' gD gD' lA lA' lB lB' lC lC' lD lD' x es ea ek er m b a1 a2 n1 c1 n2 c2 bm ba bk bb H
    | 37, _ => exact st38_37 a0 w0 Q p gA gA' gB gB' gC gC' gD gD' lA lA' lB lB' lC lC' lD lD' x es ea ek er m b a1 a2 n1 c1 n2 c2 bm ba bk bb H
    | 38, _ => exact st38_38 a0 w0 Q p gA gA' gB gB' gC gC' gD gD' lA lA' lB lB' lC lC' lD lD' x es ea ek er m b a1 a2 n1 c1 n2 c2 bm ba bk bb H
    | 39, _ => exact st38_39 a0 w0 Q p gA gA' gB gB' gC gC' gD gD' lA lA' lB lB' lC lC' lD lD' x es ea ek er m b a1 a2 n1 c1 n2 c2 bm ba bk bb H
    | 40, _ => exact st38_40 a0 w0 Q p gA gA' gB gB' gC gC' gD gD' lA lA' lB lB' lC lC' lD lD' x es ea ek er m b a1 a2 n1 c1 n2 c2 bm ba bk bb H
    | 41, _ => exact st38_41 a0 w0 Q p gA gA' gB gB' gC gC' gD gD' lA lA' lB lB' lC lC' lD lD' x es ea ek er m b a1 a2 n1 c1 n2 c2 bm ba bk bb H
    | 42, _ => exact st38_42 a0 w0 Q p gA gA' gB gB' gC gC' gD gD' lA lA' lB lB' lC lC' lD lD' x es ea ek er m b a1 a2 n1 c1 n2 c2 bm ba bk bb H
    | 43, _ => exact st38_43 a0 w0 Q p gA gA' gB gB' gC gC' gD gD' lA lA' lB lB' lC lC' lD lD' x es ea ek er m b a1 a2 n1 c1 n2 c2 bm ba bk bb H
    | 44, _ => exact st38_44 a0 w0 Q p gA gA' gB gB' gC gC' gD gD' lA lA' lB lB' lC lC' lD lD' x es ea ek er m b a1 a2 n1 c1 n2 c2 bm ba bk bb H
    | 45, _ => exact st38_45 a0 w0 Q p gA gA' gB gB' gC gC' gD gD' lA lA' lB lB' lC lC' lD lD' x es ea ek er m b a1 a2 n1 c1 n2 c2 bm ba bk bb H
    | 46, _ => exact st38_46 a0 w0 Q p gA gA' gB gB' gC gC' gD gD' lA lA' lB lB' lC lC' lD lD' x es ea ek er m b a1 a2 n1 c1 n2 c2 bm ba bk bb H
    | 47, _ => exact st38_47 a0 w0 Q p gA gA' gB gB' gC gC' gD gD' lA lA' lB lB' lC lC' lD lD' x es ea ek er m b a1 a2 n1 c1 n2 c2 bm ba bk bb H
    | 48, _ => exact st38_48 a0 w0 Q p gA gA' gB gB' gC gC' gD gD' lA lA' lB lB' lC lC' lD lD' x es ea ek er m b a1 a2 n1 c1 n2 c2 bm ba bk bb H
    | 49, _ => exact st38_49 a0 w0 Q p gA gA' gB gB' gC gC' gD gD' lA lA' lB lB' lC lC' lD lD' x es ea ek er m b a1 a2 n1 c1 n2 c2 bm ba bk bb H
    | 50, _ => exact st38_50 a0 w0 Q p gA gA' gB gB' gC gC' gD gD' lA lA' lB lB' lC lC' lD lD' x es ea ek er m b a1 a2 n1 c1 n2 c2 bm ba bk bb H
    | 51, _ => exact st38_51 a0 w0 Q p gA gA' gB gB' gC gC' gD gD' lA lA' lB lB' lC lC' lD lD' x es ea ek er m b a1 a2 n1 c1 n2 c2 bm ba bk bb H
    | 52, _ => exact st38_52 a0 w0 Q p gA gA' gB gB' gC gC' gD gD' lA lA' lB lB' lC lC' lD lD' x es ea ek er m b a1 a2 n1 c1 n2 c2 bm ba bk bb H
    | 53, _ => exact st38_53 a0 w0 Q p gA gA' gB gB' gC gC' gD gD' lA lA' lB lB' lC lC' lD lD' x es ea ek er m b a1 a2 n1 c1 n2 c2 bm ba bk bb H
    | 54, _ => exact st38_54 a0 w0 Q p gA gA' gB gB' gC gC' gD gD' lA lA' lB lB' lC lC' lD lD' x es ea ek er m b a1 a2 n1 c1 n2 c2 bm ba bk bb H
    | 55, _ => exact st38_55 a0 w0 Q p gA gA' gB gB' gC gC' gD gD' lA lA' lB lB' lC lC' lD lD' x es ea ek er m b a1 a2 n1 c1 n2 c2 bm ba bk bb H
    | 56, _ => exact st38_56 a0 w0 Q p gA gA' gB gB' gC gC' gD gD' lA lA' lB lB' lC lC' lD lD' x es ea ek er m b a1 a2 n1 c1 n2 c2 bm ba bk bb H
    | 57, _ => exact st38_57 a0 w0 Q p gA gA' gB gB' gC gC' gD gD' lA lA' lB lB' lC lC' lD lD' x es ea ek er m b a1 a2 n1 c1 n2 c2 bm ba bk bb H
    | 58, _ => exact st38_58 a0 w0 Q p gA gA' gB gB' gC gC' gD gD' lA lA' lB lB' lC lC' lD lD' x es ea ek er m b a1 a2 n1 c1 n2 c2 bm ba bk bb H
    | 59, _ => exact st38_59 a0 w0 Q p gA gA' gB gB' gC gC' gD gD' lA lA' lB lB' lC lC' lD lD' x es ea ek er m b a1 a2 n1 c1 n2 c2 bm ba bk bb H
    | 60, _ => exact st38_60 a0 w0 Q p gA gA' gB gB' gC gC' gD gD' lA lA' lB lB' lC lC' lD lD' x es ea ek er m b a1 a2 n1 c1 n2 c2 bm ba bk bb H
    | 61, _ => exact st38_61 a0 w0 Q p gA gA' gB gB' gC gC' gD gD' lA lA' lB lB' lC lC' lD lD' x es ea ek er m b a1 a2 n1 c1 n2 c2 bm ba bk bb H
    | 62, _ => exact st38_62 a0 w0 Q p gA gA' gB gB' gC gC' gD gD' lA lA' lB lB' lC lC' lD lD' x es ea ek er m b a1 a2 n1 c1 n2 c2 bm ba bk bb H
    | 63, _ => exact st38_63 a0 w0 Q p gA gA' gB gB' gC gC' gD gD' lA lA' lB lB' lC lC' lD lD' x es ea ek er m b a1 a2 n1 c1 n2 c2 bm ba bk bb H
    | 64, _ => exact st38_64 a0 w0 Q p gA gA' gB gB' gC gC' gD gD' lA lA' lB lB' lC lC' lD lD' x es ea ek er m b a1 a2 n1 c1 n2 c2 bm ba bk bb H
    | 65, _ => exact st38_65 a0 w0 Q p gA gA' gB gB' gC gC' gD gD' lA lA' lB lB' lC lC' lD lD' x es ea ek er m b a1 a2 n1 c1 n2 c2 bm ba bk bb H
    | 66, _ => exact st38_66 a0 w0 Q p gA gA' gB gB' gC gC' gD gD' lA lA' lB lB' lC lC' lD lD' x es ea ek er m b a1 a2 n1 c1 n2 c2 bm ba bk bb H
    | 67, _ => exact st38_67 a0 w0 Q p gA gA' gB gB' gC gC' gD gD' lA lA' lB lB' lC lC' lD lD' x es ea ek er m b a1 a2 n1 c1 n2 c2 bm ba bk bb H
    | 68, _ => exact st38_68 a0 w0 Q p gA gA' gB gB' gC gC' gD gD' lA lA' lB lB' lC lC' lD lD' x es ea ek er m b a1 a2 n1 c1 n2 c2 bm ba bk bb H
    | 69, _ => exact st38_69 a0 w0 Q p gA gA' gB gB' gC gC' gD gD' lA lA' lB lB' lC lC' lD lD' x es ea ek er m b a1 a2 n1 c1 n2 c2 bm ba bk bb H
    | 70, _ => exact st38_70 a0 w0 Q p gA gA' gB gB' gC gC' gD gD' lA lA' lB lB' lC lC' lD lD' x es ea ek er m b a1 a2 n1 c1 n2 c2 bm ba bk bb H
    | 71, _ => exact st38_71 a0 w0 Q p gA gA' gB gB' gC gC' gD gD' lA lA' lB lB' lC lC' lD lD' x es ea ek er m b a1 a2 n1 c1 n2 c2 bm ba bk bb H
    | 72, _ => exact st38_72 a0 w0 Q p gA gA' gB gB' gC gC' gD gD' lA lA' lB lB' lC lC' lD lD' x es ea ek er m b a1 a2 n1 c1 n2 c2 bm ba bk bb H
    | 73, _ => exact st38_73 a0 w0 Q p gA gA' gB gB' gC gC' gD gD' lA lA' lB lB' lC lC' lD lD' x es ea ek er m b a1 a2 n1 c1 n2 c2 bm ba bk bb H
    | 74, _ => exact st38_74 a0 w0 Q p gA gA' gB gB' gC gC' gD gD' lA lA' lB lB' lC lC' lD lD' x es ea ek er m b a1 a2 n1 c1 n2 c2 bm ba bk bb H
    | 75, _ => exact st38_75 a0 w0 Q p gA gA' gB gB' gC gC' gD gD' lA lA' lB lB' lC lC' lD lD' x es ea ek er m b a1 a2 n1 c1 n2 c2 bm ba bk bb H
    | 76, _ => exact st38_76 a0 w0 Q p gA gA' gB gB' gC gC' gD gD' lA lA' lB lB' lC lC' lD lD' x es ea ek er m b a1 a2 n1 c1 n2 c2 bm ba bk bb H
    | 77, _ => exact st38_77 a0 w0 Q p gA gA' gB gB' gC gC' gD gD' lA lA' lB lB' lC lC' lD lD' x es ea ek er m b a1 a2 n1 c1 n2 c2 bm ba bk bb H
    | 78, _ => exact st38_78 a0 w0 Q p gA gA' gB gB' gC gC' gD gD' lA lA' lB lB' lC lC' lD lD' x es ea ek er m b a1 a2 n1 c1 n2 c2 bm ba bk bb H
    | 79, _ => exact st38_79 a0 w0 Q p gA gA' gB gB' gC gC' gD gD' lA lA' lB lB' lC lC' lD lD' x es ea ek er m b a1 a2 n1 c1 n2 c2 bm ba bk bb H
    | 80, _ => exact st38_80 a0 w0 Q p gA gA' gB gB' gC gC' gD gD' lA lA' lB lB' lC lC' lD lD' x es ea ek er m b a1 a2 n1 c1 n2 c2 bm ba bk bb H
    | 81, _ => exact st38_81 a0 w0 Q p gA gA' gB gB' gC gC' gD gD' lA lA' lB lB' lC lC' lD lD' x es ea ek er m b a1 a2 n1 c1 n2 c2 bm ba bk bb H
    | 82, _ => exact st38_82 a0 w0 Q p gA gA' gB gB' gC gC' gD gD' lA lA' lB lB' lC lC' lD lD' x es ea ek er m b a1 a2 n1 c1 n2 c2 bm ba bk bb H
    | 83, _ => exact st38_83 a0 w0 Q p gA gA' gB gB' gC gC' gD gD' lA lA' lB lB' lC lC' lD lD' x es ea ek er m b a1 a2 n1 c1 n2 c2 bm ba bk bb H
    | 84, _ => exact st38_84 a0 w0 Q p gA gA' gB gB' gC gC' gD gD' lA lA' lB lB' lC lC' lD lD' x es ea ek er m b a1 a2 n1 c1 n2 c2 bm ba bk bb H
    | 85, _ => exact st38_85 a0 w0 Q p gA gA' gB gB' gC gC' gD gD' lA lA' lB lB' lC lC' lD lD' x es ea ek er m b a1 a2 n1 c1 n2 c2 bm ba bk bb H
    | 86, _ => exact st38_86 a0 w0 Q p gA gA' gB gB' gC gC' gD gD' lA lA' lB lB' lC lC' lD lD' x es ea ek er m b a1 a2 n1 c1 n2 c2 bm ba bk bb H
    | 87, _ => exact st38_87 a0 w0 Q p gA gA' gB gB' gC gC' gD gD' lA lA' lB lB' lC lC' lD lD' x es ea ek er m b a1 a2 n1 c1 n2 c2 bm ba bk bb H
    | 88, _ => exact st38_88 a0 w0 Q p gA gA' gB gB' gC gC' gD gD' lA lA' lB lB' lC lC' lD lD' x es ea ek er m b a1 a2 n1 c1 n2 c2 bm ba bk bb H
    | 89, _ => exact st38_89 a0 w0 Q p gA gA' gB gB' gC gC' gD gD' lA lA' lB lB' lC lC' lD lD' x es ea ek er m b a1 a2 n1 c1 n2 c2 bm ba bk bb H
    | n + 90, h => exact absurd h (by omega)
  · intro L a W hL hJ
    exact hQ a W (ops38_ts ▸ hJ.near) hJ.ext (hJ.get (k := 89) (t := 6) (by kernel_rfl) (hL 89 (by omega)))
end Go.Proofs.Ytgjolablgcnlmaa
