/- Fair: counts of a window: a map in a field behind a pointer. -/
import Derived.Test.YtgjolablgcnlmaaFa1
import Derived.Maps.OwnOps
import Derived.Maps.Views
namespace Go.Proofs.Ytgjolablgcnlmaa
set_option linter.unusedSimpArgs false
set_option linter.unusedVariables false
open Go.RowKit Go.Maps

def In64 (x : Int) : Prop := -9223372036854775808 ≤ x ∧ x ≤ 9223372036854775807
theorem lit_wf {x : Int} (h : In64 x) : (Lit.int .i64 x).wf = true := WalkArith.wf_i64 h
theorem mlaw : Keyed Try.prog 3 := int_keyed Try.underlying3
theorem zeroI (w : World) : (zeroValue 3).run Try.prog w = .ok (.int .i64 0) w := by rfl
/-- Block b is a map of at most n entries, and at each key it holds f. -/
def MapF (w : World) (b n : Nat) (f : Int → Int) : Prop :=
  ∃ D : DataW Unit, w.ownsMap Try.prog 3 (plainElem Try.prog 3) b n D ∧ IsMap D ∧ ∀ x, In64 x → D.atKey (.int .i64 x) (.lit (.int .i64 0)) = .lit (.int .i64 (f x))
theorem MapF.lt {w : World} {b n : Nat} {f : Int → Int} (h : MapF w b n f) : b < w.heap.size := by
  obtain ⟨D, h, -⟩ := h
  exact h.lt
theorem MapF.made (w : World) : MapF (w.alloc (.map #[] 0)) w.heap.size 0 (fun _ => 0) := ⟨.map [], World.ownsMap_made _ _ _ _, isMap_empty, fun x _ => rfl⟩
theorem MapF.kept {w w' : World} {b n : Nat} {f : Int → Int} {row : Option Nat} (h : MapF w b n f) (hg : w.grownBy w' row) (hne : some b ≠ row) : MapF w' b n f := by
  obtain ⟨D, h, k⟩ := h
  exact ⟨D, h.kept hg hne, k⟩
theorem MapF.look {w : World} {b n : Nat} {f : Int → Int} (h : MapF w b n f) {x : Int} (hx : In64 x) : (Instr.lookup 53 (.map (some b)) (.int .i64 x) false).run Try.prog w = .ok (.int .i64 (f x)) w := by
  obtain ⟨D, h, hm, hf⟩ := h
  obtain ⟨c, hrun, hat, -⟩ := h.lookup_int mlaw Try.underlying53 Try.underlying3 (zeroI _) (keyOf_int_mk Try.underlying3 (lit_wf hx))
  rw [hf x hx] at hat
  have : f x = c := by simpa using hat
  rw [this]
  exact hrun
def upd (f : Int → Int) (x v : Int) : Int → Int := fun y => if y = x then v else f y
theorem MapF.put {w : World} {b n : Nat} {f : Int → Int} (h : MapF w b n f) (hn : n < maxLen) {x v : Int} (hx : In64 x) (hv : In64 v) : ∃ w', (Instr.mapUpdate 53 (.map (some b)) (.int .i64 x) (.int .i64 v)).run Try.prog w = .ok () w' ∧ MapF w' b (n + 1) (upd f x v) ∧ w.grownBy w' (some b) := by
  obtain ⟨D, h, hm, hf⟩ := h
  obtain ⟨w', hrun, h', hg⟩ := h.update mlaw Try.underlying53 hn (keyOf_int_mk Try.underlying3 (lit_wf hx)) (plainElem_int Try.underlying3 (lit_wf hv))
  refine ⟨w', hrun, ⟨_, h', hm.put _ _, fun y hy => ?_⟩, hg⟩
  unfold upd
  by_cases e : y = x
  · subst e
    rw [if_pos rfl, atKey_put_same hm (by first | exact trivial | decide | simp [WideAt.IsKeyLit])]
  · rw [if_neg e, atKey_put_other (fun k => e (by simpa using k)), hf y hy]
/-- The law at the store. -/
theorem wpList_mapF {ops : Array Oper} {rest : List Oper} {o : Oper} {a : Act} {Q : Exit → Act → World → Prop} (w : World) (hg : o.guard = none) (m x v : Operand) (hop : o.op = Op.mapUpdate 53 m x v)
    (b n : Nat) (f : Int → Int) (hm : a.eval m = .map (some b)) (hown : MapF w b n f) (hn : n < maxLen) (kx kv : Int) (hx : a.eval x = .int .i64 kx) (hv : a.eval v = .int .i64 kv) (ix : In64 kx) (iv : In64 kv)
    (hK : ∀ w', MapF w' b (n + 1) (upd f kx kv) → w.grownBy w' (some b) → wpList Try.prog ops Q rest (a.put o.dst undef) w') :
    wpList Try.prog ops Q (o :: rest) a w := by
  refine wpList_plain hg fun K' hK' => ?_
  obtain ⟨w', hrun, r1, r2⟩ := hown.put hn ix iv
  unfold Oper.wp
  simp [execOp, hop, hm, hx, hv, hrun, Result.andThen]
  exact hK' _ _ (hK w' r1 r2)
theorem frozen_row {w : World} {g i : Nat} {cur : Array Value} {e : TypeId} (h : w.heap[g]? = some (.cells cur e (0, 0))) : w.frozen? ⟨g, i, none⟩ = false := by
  simp [World.frozen?, h]
theorem put_grown (w : World) (g off : Nat) (u : Value) : w.grownBy (w.setCell ⟨g, off, none⟩ u) (some g) := by
  refine ⟨rfl, rfl, rfl, by rw [World.size_setCell]; exact Nat.le_refl _, fun k hk hne => ?_⟩
  simp only [World.setCell, Array.getElem?_modify]
  rw [if_neg (fun e => hne (by rw [e]))]
/-- The counts: a box, and a map. -/
def Cn (w0 w : World) (p b n : Nat) (s : Int) (f : Int → Int) : Prop :=
  Ext w0 w ∧ w0.heap.size ≤ p ∧ w0.heap.size ≤ b ∧ p ≠ b ∧ w.heap[p]? = some (.cells #[.map (some b), .int .i64 s] 55 (0, 0)) ∧ MapF w b n f
theorem Cn.on {w0 w w' : World} {p b n : Nat} {s : Int} {f : Int → Int} (h : Cn w0 w p b n s f) (hx : Ext w w') : Cn w0 w' p b n s f := by
  obtain ⟨h1, h2, h3, h4, h5, h6⟩ := h
  obtain ⟨z, rfl⟩ := hx
  have hp := (Array.getElem?_eq_some_iff.1 h5).1
  exact ⟨h1.ext z, h2, h3, h4, by rw [ext_get _ _ _ hp, h5], h6.kept (row := none) ⟨rfl, rfl, rfl, by simp, fun k hk _ => ext_get w z k hk⟩ (by simp)⟩
theorem Cn.cells {w0 w : World} {p b n : Nat} {s : Int} {f : Int → Int} (h : Cn w0 w p b n s f) : w.cell? ⟨p, 0, none⟩ = some (.map (some b)) ∧ w.cell? ⟨p, 1, none⟩ = some (.int .i64 s) ∧ w.frozen? ⟨p, 1, none⟩ = false := by
  obtain ⟨h1, h2, h3, h4, h5, h6⟩ := h
  exact ⟨by rw [cell_of_row _ _ _ _ _ (0, 0) h5]; rfl, by rw [cell_of_row _ _ _ _ _ (0, 0) h5]; rfl, frozen_row h5⟩
/-- 'some' is written. -/
theorem Cn.set {w0 w : World} {p b n : Nat} {s t : Int} {f : Int → Int} (h : Cn w0 w p b n s f) : Cn w0 (w.setCell ⟨p, 1, none⟩ (.int .i64 t)) p b n t f := by
  obtain ⟨h1, h2, h3, h4, h5, h6⟩ := h
  refine ⟨h1.setCell h2 _, h2, h3, h4, ?_, h6.kept (put_grown w p 1 _) (fun e => h4 (Option.some.inj e).symm)⟩
  simp [World.setCell, Array.getElem?_modify, h5]
/-- The map is written. -/
theorem Cn.put {w0 w w' : World} {p b n m : Nat} {s : Int} {f g : Int → Int} (h : Cn w0 w p b n s f) (hm : MapF w' b m g) (hg : w.grownBy w' (some b)) : Cn w0 w' p b m s g := by
  obtain ⟨h1, h2, h3, h4, h5, h6⟩ := h
  have hp := (Array.getElem?_eq_some_iff.1 h5).1
  exact ⟨h1.grown hg (fun k hk => by cases hk; exact h3), h2, h3, h4, by rw [hg.block p hp (fun e => h4 (Option.some.inj e)), h5], hm⟩
set_option maxHeartbeats 4000000 in
theorem in_any {w0 w : World} {p b n : Nat} {s : Int} {f : Int → Int} (h : Cn w0 w p b n s f) (hn : n < 1073741823) (x : Int) (hx : In64 x) (hs : 0 ≤ s ∧ (f x = 0 → s < 9223372036854775807)) (hf : 0 ≤ f x ∧ f x ≤ 1073741823) :
    Calls Try.prog 28 #[.pointer (some ⟨p, 0, none⟩), .int .i64 x] w fun e w' => e = .returned (.tuple #[]) ∧ Cn w0 w' p b (n + 1) (if f x = 0 then s + 1 else s) (upd f x (f x + 1)) := by
  obtain ⟨c0, c1, c2⟩ := h.cells
  have H := Lib.hid h
  have l1 := h.2.2.2.2.2.look hx
  have HX := Lib.hid hx
  have i1 : 0 ≤ f x := hf.1
  have i2 : f x ≤ 1073741823 := hf.2
  have HV : Hid (In64 (f x + 1)) := Lib.hid ⟨by omega, by omega⟩
  have HN := Lib.hid hn
  by_cases h0 : f x = 0
  · have H2 := Lib.hid (Cn.set (t := s + 1) h)
    have hb2 := h.set (t := s + 1)
    have l2 := hb2.2.2.2.2.2.look hx
    have j1 : 0 ≤ s := hs.1
    have j2 : s ≤ 9223372036854775806 := by have := hs.2 h0; omega
    rw [if_pos h0]
    rw [h0] at l1 l2 HV ⊢
    obtain ⟨d0, -, -⟩ := hb2.cells
    clear h hb2 hx hs hf i1 i2 h0
    go_enter Try.func28, Try.ntmps28
    go_wp2_with (at_mapUpdate; refine wpList_mapF _ rfl _ _ _ rfl b n f rfl H2.out.2.2.2.2.2 (by have := HN.out; unfold maxLen; omega) _ _ rfl rfl HX.out HV.out ?_; intro w1 hm1 hg1; have HM := Lib.hid (H2.out.put hm1 hg1); clear hm1 hg1)
    go_returns
    exact ⟨rfl, HM.out⟩
  · have h0' : (f x == 0) = false := by simp [h0]
    rw [if_neg h0]
    clear h hx hs hf h0
    generalize f x = q at *
    go_enter Try.func28, Try.ntmps28
    go_wp2_with (at_mapUpdate; refine wpList_mapF _ rfl _ _ _ rfl b n f rfl H.out.2.2.2.2.2 (by have := HN.out; unfold maxLen; omega) _ _ rfl rfl HX.out HV.out ?_; intro w1 hm1 hg1; have HM := Lib.hid (H.out.put hm1 hg1); clear hm1 hg1)
    go_returns
    exact ⟨rfl, HM.out⟩
theorem upd_same (f : Int → Int) (x v : Int) : upd f x v x = v := if_pos rfl
set_option maxHeartbeats 4000000 in
theorem out_any {w0 w : World} {p b n : Nat} {s : Int} {f : Int → Int} (h : Cn w0 w p b n s f) (hn : n < 1073741823) (x : Int) (hx : In64 x) (hs : (f x = 1 → 1 ≤ s) ∧ s ≤ 9223372036854775807) (hf : 1 ≤ f x ∧ f x ≤ 1073741823) :
    Calls Try.prog 29 #[.pointer (some ⟨p, 0, none⟩), .int .i64 x] w fun e w' => e = .returned (.tuple #[]) ∧ Cn w0 w' p b (n + 1) (if f x = 1 then s - 1 else s) (upd f x (f x - 1)) := by
  obtain ⟨c0, c1, c2⟩ := h.cells
  have H := Lib.hid h
  have l1 := h.2.2.2.2.2.look hx
  have HX := Lib.hid hx
  have i1 : 1 ≤ f x := hf.1
  have i2 : f x ≤ 1073741823 := hf.2
  have HV : Hid (In64 (f x - 1)) := Lib.hid ⟨by omega, by omega⟩
  have HN := Lib.hid hn
  by_cases h0 : f x = 1
  · rw [if_pos h0]
    have j1 : 1 ≤ s := hs.1 h0
    rw [h0] at l1 HV ⊢
    have j2 : s ≤ 9223372036854775807 := hs.2
    clear h hx hs hf i1 i2 h0
    go_enter Try.func29, Try.ntmps29
    go_wp2_with (at_mapUpdate; refine wpList_mapF _ rfl _ _ _ rfl b n f rfl H.out.2.2.2.2.2 (by have := HN.out; unfold maxLen; omega) _ _ rfl rfl HX.out HV.out ?_; intro w1 hm1 hg1; have l2 := hm1.look HX.out; rw [upd_same] at l2; have hp1 := H.out.put hm1 hg1; obtain ⟨d0, d1, d2⟩ := hp1.cells; have HM := Lib.hid hp1; clear hp1 hm1 hg1)
    go_returns
    exact ⟨rfl, HM.out.set⟩
  · rw [if_neg h0]
    have h0' : (f x - 1 == 0) = false := by simp; omega
    clear h hx hs hf h0
    generalize f x = q at *
    go_enter Try.func29, Try.ntmps29
    go_wp2_with (at_mapUpdate; refine wpList_mapF _ rfl _ _ _ rfl b n f rfl H.out.2.2.2.2.2 (by have := HN.out; unfold maxLen; omega) _ _ rfl rfl HX.out HV.out ?_; intro w1 hm1 hg1; have l2 := hm1.look HX.out; rw [upd_same] at l2; have hp1 := H.out.put hm1 hg1; obtain ⟨d0, d1, d2⟩ := hp1.cells; have HM := Lib.hid hp1; clear hp1 hm1 hg1)
    go_returns
    exact ⟨rfl, HM.out⟩
end Go.Proofs.Ytgjolablgcnlmaa
