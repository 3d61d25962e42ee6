/- Memory: worlds that grow; regions that only read; a walk that stops. -/
import Derived.WalkKit
import Derived.WalkSpells
import Derived.WalkLawsBesides
import Derived.Lib.Hide
import Derived.Handy
import Derived.BigQuiet
import Derived.Deep.Draws
import Derived.Laws.NewBlocks
namespace Go.Proofs.Ytkmgdejpdhlleaa
set_option linter.unusedSimpArgs false
set_option linter.unusedVariables false
set_option maxRecDepth 100000
open Go.RowKit

/-- Some new blocks, and how many draws there were in all. -/
structure Inc where
  hs : List Obj
  n : Nat
instance : Inhabited Inc := ⟨⟨[], 0⟩⟩
def Inc.add (x y : Inc) : Inc := ⟨x.hs ++ y.hs, y.n⟩
/-- 'w' with some blocks more, and some draws made. -/
def ext (w : World) (x : Inc) : World := { w with heap := w.heap ++ x.hs.toArray, drawn := x.n }

section
variable (w : World) (x y : Inc) (m : Nat)
theorem heap_ext : (ext w x).heap = w.heap ++ x.hs.toArray := rfl
@[simp, go_sem] theorem size_ext : (ext w x).heap.size = w.heap.size + x.hs.length := by simp [heap_ext]
@[simp, go_sem] theorem tape_ext : (ext w x).tape = w.tape := rfl
@[simp, go_sem] theorem os_ext : (ext w x).os = w.os := rfl
@[simp, go_sem] theorem output_ext : (ext w x).output = w.output := rfl
theorem ext_get (b : Nat) (hb : b < w.heap.size) : (ext w x).heap[b]? = w.heap[b]? := by
  rw [heap_ext, Array.getElem?_append_left hb]
theorem cell_ext (b i : Nat) (s : Option Nat) (hb : b < w.heap.size) : (ext w x).cell? ⟨b, i, s⟩ = w.cell? ⟨b, i, s⟩ :=
  World.cell?_of_block (ext_get w x b hb)
theorem frozen_ext (b i : Nat) (s : Option Nat) (hb : b < w.heap.size) : (ext w x).frozen? ⟨b, i, s⟩ = w.frozen? ⟨b, i, s⟩ :=
  World.frozen?_of_block (ext_get w x b hb)
theorem cell_ext_a (a : Addr) (hb : a.block < w.heap.size) : (ext w x).cell? a = w.cell? a := World.cell?_of_block (ext_get w x _ hb)
@[simp, go_sem] theorem ext_ext : ext (ext w x) y = ext w (x.add y) := by
  simp [ext, Inc.add, Array.append_assoc]
@[simp, go_sem] theorem drew_ext : (ext w x).drew = ext w (x.add ⟨[], x.n + 1⟩) := by
  show ({ w with heap := w.heap ++ x.hs.toArray, drawn := x.n + 1 } : World) = { w with heap := w.heap ++ (x.hs ++ []).toArray, drawn := x.n + 1 }
  rw [List.append_nil]
@[simp, go_sem] theorem drewN_ext : (ext w x).drewN m = ext w (x.add ⟨[], x.n + m⟩) := by
  show ({ w with heap := w.heap ++ x.hs.toArray, drawn := x.n + m } : World) = { w with heap := w.heap ++ (x.hs ++ []).toArray, drawn := x.n + m }
  rw [List.append_nil]
@[simp, go_sem] theorem add_assoc (z : Inc) : (x.add y).add z = x.add (y.add z) := by simp [Inc.add, List.append_assoc]
@[simp, go_sem] theorem ext_drew : ext w.drew x = ext w x := rfl
@[simp, go_sem] theorem ext_drewN : ext (w.drewN m) x = ext w x := rfl
theorem ext_zero : ext w ⟨[], w.drawn⟩ = w := by simp [ext]
theorem alloc_is_ext (o : Obj) : w.alloc o = ext w ⟨[o], w.drawn⟩ := by
  show ({ w with heap := w.heap.push o } : World) = { w with heap := w.heap ++ [o].toArray, drawn := w.drawn }
  simp only [Array.push_eq_append]
theorem drew_is_ext : w.drew = ext w ⟨[], w.drawn + 1⟩ := by
  show ({ w with drawn := w.drawn + 1 } : World) = { w with heap := w.heap ++ [].toArray, drawn := w.drawn + 1 }
  simp only [Array.append_empty]
theorem drewN_is_ext : w.drewN m = ext w ⟨[], w.drawn + m⟩ := by
  show ({ w with drawn := w.drawn + m } : World) = { w with heap := w.heap ++ [].toArray, drawn := w.drawn + m }
  simp only [Array.append_empty]
theorem setCell_ext (b i : Nat) (s : Option Nat) (v : Value) (hb : b < w.heap.size) : (ext w x).setCell ⟨b, i, s⟩ v = ext (w.setCell ⟨b, i, s⟩ v) x := by
  have h : ∀ f : Obj → Obj, (w.heap ++ x.hs.toArray).modify b f = w.heap.modify b f ++ x.hs.toArray := by
    intro f
    apply Array.ext_getElem?
    intro k
    simp only [Array.getElem?_modify, Array.getElem?_append, Array.size_modify]
    by_cases hk : b = k
    · subst hk; simp [hb]
    · simp [hk]
  simp only [ext, World.setCell]
  rw [h]
end

/-- How many blocks a world has, in the walk's own spelling. -/
class SizeIs (w : World) (n : outParam Nat) : Prop where
  out : w.heap.size = n
/-- Is a number below another one, by its spelling? -/
class LtSz (b n : Nat) : Prop where
  out : b < n
instance (priority := low) sizeIs_self (w : World) : SizeIs w w.heap.size := ⟨rfl⟩
instance sizeIs_alloc (w : World) (o : Obj) (n : Nat) [h : SizeIs w n] : SizeIs (w.alloc o) (n + 1) := ⟨by rw [World.size_alloc, h.out]⟩
instance sizeIs_ext (w : World) (x : Inc) (n : Nat) [h : SizeIs w n] : SizeIs (ext w x) (n + x.hs.length) := ⟨by rw [size_ext, h.out]⟩
instance sizeIs_drew (w : World) (n : Nat) [h : SizeIs w n] : SizeIs w.drew n := ⟨by rw [World.size_drew, h.out]⟩
instance sizeIs_drewN (w : World) (k n : Nat) [h : SizeIs w n] : SizeIs (w.drewN k) n := ⟨h.out⟩
instance sizeIs_setCell (w : World) (a : Addr) (v : Value) (n : Nat) [h : SizeIs w n] : SizeIs (w.setCell a v) n := ⟨by rw [World.size_setCell, h.out]⟩
instance ltSz_one (b : Nat) : LtSz b (b + 1) := ⟨by omega⟩
instance ltSz_add (b n : Nat) [h : LtSz b n] : LtSz b (n + 1) := ⟨by have := h.out; omega⟩
instance ltSz_len (b n : Nat) (l : List Obj) [h : LtSz b n] : LtSz b (n + l.length) := ⟨by have := h.out; omega⟩
@[go_sem] theorem cell_ext' (w : World) (x : Inc) (b i : Nat) (s : Option Nat) {n : Nat} [hs : SizeIs w n] [h : LtSz b n] : (ext w x).cell? ⟨b, i, s⟩ = w.cell? ⟨b, i, s⟩ := cell_ext w x b i s (hs.out ▸ h.out)
@[go_sem] theorem frozen_ext' (w : World) (x : Inc) (b i : Nat) (s : Option Nat) {n : Nat} [hs : SizeIs w n] [h : LtSz b n] : (ext w x).frozen? ⟨b, i, s⟩ = w.frozen? ⟨b, i, s⟩ := frozen_ext w x b i s (hs.out ▸ h.out)
@[go_sem] theorem setCell_ext' (w : World) (x : Inc) (b i : Nat) (s : Option Nat) (v : Value) {n : Nat} [hs : SizeIs w n] [h : LtSz b n] : (ext w x).setCell ⟨b, i, s⟩ v = ext (w.setCell ⟨b, i, s⟩ v) x := setCell_ext w x b i s v (hs.out ▸ h.out)
@[go_sem] theorem cell_alloc' (w : World) (o : Obj) (b i : Nat) (s : Option Nat) {n : Nat} [hs : SizeIs w n] [h : LtSz b n] : (w.alloc o).cell? ⟨b, i, s⟩ = w.cell? ⟨b, i, s⟩ := World.cell?_alloc_lt w o ⟨b, i, s⟩ (hs.out ▸ h.out)
@[go_sem] theorem frozen_alloc' (w : World) (o : Obj) (b i : Nat) (s : Option Nat) {n : Nat} [hs : SizeIs w n] [h : LtSz b n] : (w.alloc o).frozen? ⟨b, i, s⟩ = w.frozen? ⟨b, i, s⟩ := World.frozen?_alloc_old w o ⟨b, i, s⟩ (Nat.ne_of_lt (hs.out ▸ h.out))
@[go_sem] theorem setCell_alloc' (w : World) (o : Obj) (b i : Nat) (v : Value) {n : Nat} [hs : SizeIs w n] [h : LtSz b n] : (w.alloc o).setCell ⟨b, i, none⟩ v = (w.setCell ⟨b, i, none⟩ v).alloc o := World.setCell_alloc_past (w := w) o b i v (hs.out ▸ h.out)

/-- The worlds that come of 'w' by new blocks and draws. -/
def Ext (w w' : World) : Prop := ∃ x, w' = ext w x
theorem Ext.refl (w : World) : Ext w w := ⟨⟨[], w.drawn⟩, (ext_zero w).symm⟩
theorem Ext.trans {a b c : World} (h : Ext a b) (k : Ext b c) : Ext a c := by
  obtain ⟨x, rfl⟩ := h
  obtain ⟨y, rfl⟩ := k
  exact ⟨_, ext_ext _ _ _⟩
theorem Ext.ext {a b : World} (h : Ext a b) (x : Inc) : Ext a (ext b x) := h.trans ⟨x, rfl⟩
theorem Ext.alloc {a b : World} (h : Ext a b) (o : Obj) : Ext a (b.alloc o) := h.trans ⟨_, alloc_is_ext b o⟩
theorem Ext.drew {a b : World} (h : Ext a b) : Ext a b.drew := h.trans ⟨_, drew_is_ext b⟩
theorem Ext.drewN {a b : World} (h : Ext a b) (n : Nat) : Ext a (b.drewN n) := h.trans ⟨_, drewN_is_ext b n⟩
theorem Ext.below {a b : World} (h : Ext a b) : Below a.heap.size a b := by
  obtain ⟨x, rfl⟩ := h
  exact ⟨rfl, rfl, rfl, by simp, fun k hk => ext_get a x k hk⟩
theorem ext_of_below {a b : World} (h : Below a.heap.size a b) : Ext a b := by
  refine ⟨⟨b.heap.toList.drop a.heap.size, b.drawn⟩, ?_⟩
  have hh : b.heap = a.heap ++ (b.heap.toList.drop a.heap.size).toArray := by
    apply Array.ext_getElem?
    intro k
    rw [Array.getElem?_append]
    split
    · rename_i hk
      rw [h.block k hk]
    · rename_i hk
      simp only [List.getElem?_toArray, List.getElem?_drop, Array.getElem?_toList]
      congr 1
      omega
  obtain ⟨h1, h2, h3, h4, _⟩ := h
  cases b with
  | mk bh bt bd bo bu =>
    simp only at h1 h2 h3 hh
    subst h1 h2 h3
    simp only [Go.Proofs.Ytkmgdejpdhlleaa.ext, ← hh]
/-- Behind a law that ends in 'grownBy': what was written is new. -/
theorem Ext.grown {a w w' : World} {row : Option Nat} (h : Ext a w) (hg : w.grownBy w' row) (hr : ∀ k, row = some k → a.heap.size ≤ k) : Ext a w' :=
  ext_of_below (h.below.grown hg h.below.size hr)
theorem Ext.setCell {a w : World} (h : Ext a w) {p : Addr} (hp : a.heap.size ≤ p.block) (u : Value) : Ext a (w.setCell p u) :=
  ext_of_below (h.below.setCell hp u)

/-- A call's end, read off a slot. -/
theorem retb {v : Value} {x b : Bool} (hv : v = .bool b) (h : b = x) : Ending.returned v = .returned (.bool x) := by rw [hv, h]
theorem reti {v : Value} {k : IntKind} {x b : Int} (hv : v = .int k b) (h : b = x) : Ending.returned v = .returned (.int k x) := by rw [hv, h]
theorem rett {v : Value} {xs ys : Array Value} (hv : v = .tuple xs) (h : xs = ys) : Ending.returned v = .returned (.tuple ys) := by rw [hv, h]

/-- A region that draws its order, whose operations read, or call what leaves new blocks alone: walked once, in the text's order. -/
theorem wp_region_ext {P : Program} {id : Nat} {Q : Exit → Act → World → Prop} {a : Act} {w : World} {l : List Oper} (hm : P.follows .mixedOrders = true) (hB : Region.lexB .any l.toArray = true)
    (h : wpQuiet P l.toArray (fun w' => ∃ x : Inc, w' = ext w x) (fun a' => ∀ x, Q .normal a' (ext w x)) l a) : (Code.region id l.toArray true).wp P Q a w :=
  wp_region_quiet (C := fun w' => ∃ x : Inc, w' = ext w x) (Q := Q) hm hB ⟨_, drew_is_ext w⟩ (by
    have : (fun a' => ∀ x, Q .normal a' (ext w x)) = (fun a' => ∀ w', (∃ x : Inc, w' = ext w x) → Q .normal a' w') := by
      funext a'
      apply propext
      exact ⟨fun h w' ⟨p, e⟩ => e ▸ h p, fun h p => h _ ⟨p, rfl⟩⟩
    rw [this] at h
    simpa using h)
theorem quiet_of {P : Program} {f : FuncId} {args : Array Value} {W : World} {v : Value} {R : World → Prop}
    (h : Calls P f args W fun e w' => e = .returned v ∧ Ext W w') (hR : ∀ w', Ext W w' → R w') : Calls P f args W fun e w'' => e = .returned v ∧ R w'' :=
  h.mono fun _ w' ⟨he, hx⟩ => ⟨he, hR w' hx⟩
end Go.Proofs.Ytkmgdejpdhlleaa
