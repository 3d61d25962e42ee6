/- The reference of layer 7: Run: it computes what the program computes. -/
import Derived.Test.YtddckdlkopohhaaPrB
import Derived.Test.YtddckdlkopohhaaPrC
import Derived.Deep.DeepCutAuto
namespace Go.Proofs.Ytddckdlkopohhaa
set_option linter.unusedSimpArgs false
set_option linter.unusedVariables false
open Go.RowKit

def tkA : Array Value := #[.int .i64 0, .int .i64 0, .int .i64 0, .int .i64 0, .int .i64 2, .int .i64 2, .int .i64 2, .int .i64 2, .int .i64 2, .int .i64 2, .int .i64 2, .int .i64 1, .int .i64 2, .int .i64 1, .int .i64 0, .int .i64 1, .int .i64 2]
def gvA : Array Value := #[.int .i64 0, .int .i64 1, .int .i64 1, .int .i64 1, .int .i64 1, .int .i64 1, .int .i64 1, .int .i64 1, .int .i64 1, .int .i64 1, .int .i64 1, .int .i64 2, .int .i64 2, .int .i64 0, .int .i64 0, .int .i64 0, .int .i64 0]
/-- The world behind a record's box, a call, two tables. -/
structure RefW (w : World) (K V : Int) (TB GB : Nat) (W : World) : Prop where
  x : Ext w W
  r : w.heap.size < W.heap.size
  t : TB < W.heap.size
  g : GB < W.heap.size
  k0 : ∀ z, (ext W z).cell? ⟨w.heap.size, 0, none⟩ = some (.int .i64 K)
  k1 : ∀ z, (ext W z).cell? ⟨w.heap.size, 1, none⟩ = some (.int .i64 V)
  tk : ∀ i u, tkA[i]? = some u → ∀ z, (ext W z).cell? ⟨TB, i, none⟩ = some u
  gv : ∀ i u, gvA[i]? = some u → ∀ z, (ext W z).cell? ⟨GB, i, none⟩ = some u
theorem refW_mk (w : World) (K V : Int) (z0 : Inc) (tr tt : TypeId) : RefW w K V (w.heap.size + 1 + z0.hs.length) (w.heap.size + 1 + z0.hs.length + 1) (((ext (w.alloc (.cells #[.int .i64 K, .int .i64 V] tr)) z0).alloc (.cells tkA tt)).alloc (.cells gvA tt)) := by
  have hr : ∀ i u, (#[.int .i64 K, .int .i64 V] : Array Value)[i]? = some u → ∀ z, (ext (((ext (w.alloc (.cells #[.int .i64 K, .int .i64 V] tr)) z0).alloc (.cells tkA tt)).alloc (.cells gvA tt)) z).cell? ⟨w.heap.size, i, none⟩ = some u := by
    intro i u hu z
    rw [cell_ext_a _ _ _ (by (first | (simp; done) | (simp; omega) | omega)), World.cell?_alloc_lt _ _ _ (by (first | (simp; done) | (simp; omega) | omega)), World.cell?_alloc_lt _ _ _ (by (first | (simp; done) | (simp; omega) | omega)), cell_ext_a _ _ _ (by (first | (simp; done) | (simp; omega) | omega)), cell_of_row _ _ _ _ tr (0, 0) (heap_alloc_new w _), hu]
  refine ⟨(((Ext.refl w).alloc _).ext z0).alloc _ |>.alloc _, by (first | (simp; done) | (simp; omega) | omega), by (first | (simp; done) | (simp; omega) | omega), by (first | (simp; done) | (simp; omega) | omega), hr 0 _ rfl, hr 1 _ rfl, ?_, ?_⟩
  · intro i u hu z
    rw [cell_ext_a _ _ _ (by (first | (simp; done) | (simp; omega) | omega)), World.cell?_alloc_lt _ _ _ (by (first | (simp; done) | (simp; omega) | omega))]
    have e : w.heap.size + 1 + z0.hs.length = (ext (w.alloc (.cells #[.int .i64 K, .int .i64 V] tr)) z0).heap.size := by simp
    rw [e, cell_of_row _ _ _ tkA tt (0, 0) (heap_alloc_new _ _), hu]
  · intro i u hu z
    rw [cell_ext_a _ _ _ (by (first | (simp; done) | (simp; omega) | omega))]
    have e : w.heap.size + 1 + z0.hs.length + 1 = ((ext (w.alloc (.cells #[.int .i64 K, .int .i64 V] tr)) z0).alloc (.cells tkA tt)).heap.size := by simp
    rw [e, cell_of_row _ _ _ gvA tt (0, 0) (heap_alloc_new _ _), hu]
set_option maxRecDepth 100000 in
set_option maxHeartbeats 4000000 in
theorem refRun_no (ps : List (Int × Int)) (v : Value) (K V : Int) (w : World) (h : Rd w 2 ps.length v (recs ps)) (hl : ps.length ≤ 1000) (hr : rightP ps = false) :
    Calls Try.prog 10 #[v, .agg #[.int .i64 K, .int .i64 V]] w (RunEnd w (runP ps K V)) := by
  have R := Lib.hid (fun w h => refRight_any ps v w h hl)
  rw [hr] at R
  have H := Lib.hid h
  rw [show runP ps K V = ([], 0) by unfold runP; rw [if_neg (by rw [hr]; decide)]]
  clear h hl hr
  go_enter Try.func10, Try.ntmps10
  go_wp2_with (go_at_call 12; refine (R.out _ (H.out.of_ext (by (repeat' (first | with_reducible exact Ext.refl _ | with_reducible refine Ext.ext ?_ _ | with_reducible refine Ext.alloc ?_ _ | with_reducible refine Ext.drew ?_ | with_reducible refine Ext.drewN ?_ _ | with_reducible assumption))))).mono ?_; rintro e w' ⟨rfl, z, rfl⟩)
  go_returns
  exact ⟨none, 0, rett rfl rfl, by (repeat' (first | with_reducible exact Ext.refl _ | with_reducible refine Ext.ext ?_ _ | with_reducible refine Ext.alloc ?_ _ | with_reducible refine Ext.drew ?_ | with_reducible refine Ext.drewN ?_ _ | with_reducible assumption)), World.ownsRow_nil _ _ _ _⟩
end Go.Proofs.Ytddckdlkopohhaa
