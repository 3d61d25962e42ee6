/- slices.Insert of one item, where there is no room; and in all. -/
import Derived.Test.YtmngjifcgfnogaaCh6
import Derived.Lib.AppendZerosOnto
namespace Go.Proofs.Ytmngjifcgfnogaa
set_option linter.unusedSimpArgs false
set_option linter.unusedVariables false
set_option maxRecDepth 100000
open Go.RowKit

theorem grow_writes {row xs z : List Value} {i n : Nat} (hx : row.take (i * 5) = xs.take (i * 5)) (hl : xs.length = n * 5) (hi : i < n) (hc : (n + 1) * 5 ≤ row.length) (hz : z.length = 5) :
    ((row.take (i * 5) ++ z ++ row.drop (i * 5 + z.length)).take ((i + 1) * 5) ++ xs.drop (i * 5) ++ (row.take (i * 5) ++ z ++ row.drop (i * 5 + z.length)).drop ((i + 1) * 5 + (xs.drop (i * 5)).length)).take ((n + 1) * 5) = xs.take (i * 5) ++ z ++ xs.drop (i * 5) := by
  have hdl : (xs.drop (i * 5)).length = (n - i) * 5 := by rw [List.length_drop, hl]; omega
  have h1 : (row.take (i * 5) ++ z).length = (i + 1) * 5 := by rw [List.length_append, List.length_take, hz]; omega
  have h2 : (row.take (i * 5) ++ z ++ row.drop (i * 5 + z.length)).take ((i + 1) * 5) = xs.take (i * 5) ++ z := by
    rw [← h1, List.take_left, hx]
  rw [h2]
  have h3 : (xs.take (i * 5) ++ z ++ xs.drop (i * 5)).length = (n + 1) * 5 := by simp only [List.length_append, List.length_take, hz, hdl, hl]; omega
  rw [← h3, List.take_left]
set_option maxHeartbeats 2000000 in
theorem ins_grow (l : List Tm) (g n c base vb i : Nat) (x : Tm) (w : World) (h : w.ownsRow base 47 5 (.slice (some ⟨g, 0, none⟩) n c) n (tms l)) (hbw : base ≤ w.heap.size) (hn : n ≤ 1073741823) (hi : i < n) (hroom : c < n + 1) (hv : w.heap[vb]? = some (.cells #[.int .i64 x.d, .int .i64 x.a, .int .i64 x.b, .int .i64 x.c, .int .i64 x.e] 47 (0, 0))) :
    Calls Try.prog 51 #[.slice (some ⟨g, 0, none⟩) n c, .int .i64 i, .slice (some ⟨vb, 0, none⟩) 1 1] w fun e w' => ∃ G, e = .returned (.slice (some ⟨w.heap.size, 0, none⟩) (n + 1) G) ∧ w.grownBy w' none ∧ w'.ownsRow base 47 5 (.slice (some ⟨w.heap.size, 0, none⟩) (n + 1) G) (n + 1) ((tms l).take (i * 5) ++ tms [x] ++ (tms l).drop (i * 5)) := by
  obtain ⟨-, hb, hnc, hcm, hlen, cur, hg, hcs, htake⟩ := own_parts h
  obtain ⟨i0, hi0, hz0, hz1, hz2⟩ := info_parts info_item'
  have hread : ∀ j u, (tms l)[j]? = some u → w.cell? ⟨g, j, none⟩ = some u := fun j u hu => by
    have := h.cells (g := g) rfl _ _ hu
    rwa [show (⟨g, 0, none⟩ : Addr).add j = ⟨g, 0 + j, none⟩ by unfold Addr.add; split <;> simp_all, Nat.zero_add] at this
  have hold : (Builtin.firstCells i0.size i (.slice (some ⟨g, 0, none⟩) i c)).run Try.prog w.drew = .ok ((tms l).take (i * 5)).toArray w.drew := by
    rw [hz1]
    exact run_firstCells_some w.drew 5 i ⟨g, 0, none⟩ i c ((tms l).take (i * 5)) (by rw [List.length_take, hlen]; omega) (fun j v hj => by
      rw [show (⟨g, 0, none⟩ : Addr).add j = ⟨g, 0 + j, none⟩ by unfold Addr.add; split <;> simp_all, Nat.zero_add]
      rw [List.getElem?_take] at hj
      split at hj
      · exact hread j v hj
      · cases hj)
  have hik : i + (n + 1 - i) = n + 1 := by omega
  have hrz := fun ty => Lib.run_append_grow_zeros w 38 3 ty 47 i0 _ .i64 .i64 Try.underlying38 Try.underlying3 hi0 hz0 (some ⟨g, 0, none⟩) i c ((tms l).take (i * 5)) hold (n + 1 - i) (by omega) (by omega) (by omega) (by omega) (by rw [hz2]; omega) (by rw [hz2, hik]; exact growslice_fits hroom (by omega))
  simp only [hik] at hrz
  have hge := grownCap_ge w (n + 1) c 47
  have hle := grownCap_le_maxLen w (n + 1) c 47 (by unfold maxLen; omega)
  obtain ⟨G, hG⟩ : ∃ G, G = grownCap w (n + 1) c 47 := ⟨_, rfl⟩
  rw [← hG] at hrz hge hle
  obtain ⟨ROW, hROW⟩ : ∃ ROW : Array Value, ROW = ((tms l).take (i * 5)).toArray ++ Builtin.zeroCells (Value.agg #[.int .i64 0, .int .i64 0, .int .i64 0, .int .i64 0, .int .i64 0]).cells (n + 1 - i) ++ Builtin.zeroCells (Value.agg #[.int .i64 0, .int .i64 0, .int .i64 0, .int .i64 0, .int .i64 0]).cells (G - (n + 1)) := ⟨_, rfl⟩
  rw [← hROW] at hrz
  have htl : ((tms l).take (i * 5)).length = i * 5 := by rw [List.length_take, hlen]; omega
  have hRS : ROW.size = G * 5 := by
    rw [hROW]
    simp only [Array.size_append, List.size_toArray, size_zeroCells, htl]
    show i * 5 + (n + 1 - i) * 5 + (G - (n + 1)) * 5 = G * 5
    omega
  have hRT : ROW.toList.take (i * 5) = (tms l).take (i * 5) := by
    rw [hROW, Array.toList_append, Array.toList_append, List.append_assoc]
    have tk : ∀ A B : List Value, A.length = i * 5 → (A ++ B).take (i * 5) = A := fun A B h => by rw [← h, List.take_left]
    exact tk _ _ htl
  have hz : (tms [x]).length = 5 := rfl
  have hdl : ((tms l).drop (i * 5)).length = (n - i) * 5 := by rw [List.length_drop, hlen]; omega
  have GW := grow_writes (z := tms [x]) hRT hlen hi (by rw [Array.length_toList, hRS]; omega) hz
  have CP : Hid (∀ ty, ∃ W1, (Builtin.append_ #[38, 3] ty #[.slice (some ⟨g, 0, none⟩) i c, .int .i64 ((n : Int) + 1 - i)]).run Try.prog w = .ok (.slice (some ⟨w.heap.size, 0, none⟩) (n + 1) G) W1 ∧
      ∀ ty dc, ∃ W2, (Builtin.copy_ #[38, 38] ty #[.slice (some ⟨w.heap.size, i * 5, none⟩) (n + 1 - i) dc, .slice (some ⟨vb, 0, none⟩) 1 1]).run Try.prog W1 = .ok (.int .i64 ((1 : Nat) : Int)) W2 ∧
      ∀ ty dc sc, ∃ W3, (Builtin.copy_ #[38, 38] ty #[.slice (some ⟨w.heap.size, (i + 1) * 5, none⟩) (n - i) dc, .slice (some ⟨g, i * 5, none⟩) (n - i) sc]).run Try.prog W2.drew = .ok (.int .i64 ((n - i : Nat) : Int)) W3 ∧ w.grownBy W3 none ∧ W3.ownsRow base 47 5 (.slice (some ⟨w.heap.size, 0, none⟩) (n + 1) G) (n + 1) ((tms l).take (i * 5) ++ tms [x] ++ (tms l).drop (i * 5))) := Lib.hid (fun ty => by
    rw [show (n : Int) + 1 - i = ((n + 1 - i : Nat) : Int) by omega]
    refine ⟨_, hrz ty, fun ty dc => ?_⟩
    have hg1 : (w.drew.alloc (.cells ROW 47)).heap[w.heap.size]? = some (.cells ROW 47 (0, 0)) := heap_alloc_new w.drew _
    have ho1 : ∀ k, k < w.heap.size → (w.drew.alloc (.cells ROW 47)).heap[k]? = w.heap[k]? := fun k hk => Below.heap_alloc w.drew _ k hk
    have hsz1 : w.heap.size < (w.drew.alloc (.cells ROW 47)).heap.size := by simp
    have hvb : vb < w.heap.size := (Array.getElem?_eq_some_iff.1 hv).1
    have hgb : g < w.heap.size := (Array.getElem?_eq_some_iff.1 hg).1
    have hos : (w.drew.alloc (.cells ROW 47)).os = w.os ∧ (w.drew.alloc (.cells ROW 47)).tape = w.tape ∧ (w.drew.alloc (.cells ROW 47)).output = w.output := ⟨rfl, rfl, rfl⟩
    generalize hW1 : w.drew.alloc (.cells ROW 47) = W1 at *
    refine ⟨_, run_copy_rowk W1 38 ty 47 5 Try.underlying38 info_item w.heap.size (i * 5) (n + 1 - i) dc ROW hg1 ⟨vb, 0, none⟩ 1 1 1 (tms [x]) (by simp only [Nat.min_def]; split <;> omega) rfl ?_ (by rw [hz, hRS]; omega) (tms_one [x]), fun ty dc sc => ?_⟩
    · intro j u hu
      rw [show (⟨vb, 0, none⟩ : Addr).add j = ⟨vb, 0 + j, none⟩ by unfold Addr.add; split <;> simp_all, Nat.zero_add, cell_of_row _ _ _ _ _ (0, 0) ((ho1 vb hvb).trans hv)]
      simpa [tms] using hu
    have hg2 := setRow_get W1 w.heap.size ROW 47 (ROW.toList.take (i * 5) ++ tms [x] ++ ROW.toList.drop (i * 5 + (tms [x]).length)) hg1
    have hr2 := setRow_grown W1 w.heap.size (ROW.toList.take (i * 5) ++ tms [x] ++ ROW.toList.drop (i * 5 + (tms [x]).length)).toArray
    have hs2 : (ROW.toList.take (i * 5) ++ tms [x] ++ ROW.toList.drop (i * 5 + (tms [x]).length)).length = G * 5 := by
      simp only [List.length_append, List.length_take, List.length_drop, hz, Array.length_toList, hRS]
      omega
    generalize hW2 : W1.setRow w.heap.size (ROW.toList.take (i * 5) ++ tms [x] ++ ROW.toList.drop (i * 5 + (tms [x]).length)).toArray = W2 at *
    have ho2 : ∀ k, k < w.heap.size → W2.heap[k]? = w.heap[k]? := fun k hk => (hr2.block k (by omega) (by simp; omega)).trans (ho1 k hk)
    refine ⟨_, run_copy_rowk W2.drew 38 ty 47 5 Try.underlying38 info_item w.heap.size ((i + 1) * 5) (n - i) dc _ hg2 ⟨g, i * 5, none⟩ (n - i) sc (n - i) ((tms l).drop (i * 5)) (by simp only [Nat.min_def]; split <;> omega) hdl ?_ (by rw [hdl, List.size_toArray, hs2]; omega) (fun u hu => tms_one l u (List.mem_of_mem_drop hu)), ?_, ?_⟩
    · intro j u hu
      rw [List.getElem?_drop] at hu
      have h1 := hread _ _ hu
      rw [show (⟨g, i * 5, none⟩ : Addr).add j = ⟨g, i * 5 + j, none⟩ by unfold Addr.add; split <;> simp_all]
      rw [← h1]
      exact World.cell?_of_block (ho2 g hgb)
    · have g3 := setRow_grown W2.drew w.heap.size ((ROW.toList.take (i * 5) ++ tms [x] ++ ROW.toList.drop (i * 5 + (tms [x]).length)).toArray.toList.take ((i + 1) * 5) ++ (tms l).drop (i * 5) ++ (ROW.toList.take (i * 5) ++ tms [x] ++ ROW.toList.drop (i * 5 + (tms [x]).length)).toArray.toList.drop ((i + 1) * 5 + ((tms l).drop (i * 5)).length)).toArray
      have hs12 := hr2.size
      exact ⟨g3.os.trans (hr2.os.trans hos.1), g3.tape.trans (hr2.tape.trans hos.2.1), g3.output.trans (hr2.output.trans hos.2.2), Nat.le_trans (show w.heap.size ≤ W2.heap.size by omega) g3.size, fun k hk _ => (g3.block k (by show k < W2.heap.size; omega) (by simp; omega)).trans (ho2 k hk)⟩
    · refine ⟨by simp only [List.length_append, List.length_take, hz, hdl, hlen]; omega, .inr ⟨w.heap.size, G, _, rfl, hbw, setRow_get W2.drew w.heap.size _ _ _ hg2, hge, hle, ?_, ?_⟩⟩
      · simp only [List.size_toArray, List.length_append, List.length_take, List.length_drop, hz, Array.length_toList, hRS, hlen]
        omega
      · exact GW)
  have i0' : (0 : Int) ≤ i := by omega
  have i1 : (i : Int) < n := by omega
  have i2 : (i : Int) ≤ n := by omega
  have i3 : (c : Int) < (n : Int) + 1 := by omega
  have i4 : (i : Int) + 1 ≤ (n : Int) + 1 := by omega
  have i5 : (0 : Int) ≤ (i : Int) + 1 := by omega
  have i6 : (n : Int) ≤ 1073741823 := by omega
  have i7 : (i : Int) ≤ c := by omega
  have i8 : (n : Int) + 1 ≤ G := by omega
  have e1 : ((i : Int) == (n : Int)) = false := by simp; omega
  have e2 : decide ((c : Int) < (n : Int) + 1) = true := decide_eq_true i3
  have q1 : ¬ c = i := by omega
  have q2 : ¬ G = i + 1 := by omega
  have q3 : (i : Int) ≤ (n : Int) + 1 := by omega
  have q4 : ¬ G = i := by omega
  have hs : wrap64 ((n : Int) + 1 - i) = (n : Int) + 1 - i := IntWalk.wrap64_in _ ⟨by omega, by omega⟩
  clear h hread hold hik hrz hge hle hG hROW htl hRS hRT hz hdl GW hv hg hcs htake hlen hi0 hz0 hz1 hz2
  obtain ⟨W1, hr1, hc2⟩ := CP.out 38
  clear CP
  have HC2 := Lib.hid hc2
  have HR1 := Lib.hid hr1
  clear hc2 hr1
  go_enter Try.func51, Try.ntmps51
  go_wp2_with (at_builtin; apply stop_here)
  unfold Stop
  refine wpList_append_runY _ rfl _ _ 38 3 rfl _ _ rfl rfl _ _ HR1.out ?_
  obtain ⟨W2, hr2, hc3⟩ := HC2.out 3 (G - i)
  have HC3 := Lib.hid hc3
  clear hc3 HR1 HC2 hs
  go_wp2
  clear hr2
  have ewk : IntKind.i64.wrap ((i : Int) + 1) = (i : Int) + 1 := by rw [IntKind.wrap_i64]; omega
  refine wp_region_tail 8 (by kernel_rfl) (by kernel_rfl) ?_
  simp only [List.take_succ_cons, List.take_zero, List.drop_succ_cons, List.drop_zero]
  repeat still_step
  refine wpStill_nil ?_
  obtain ⟨W3, hr3, hgr, hown⟩ := HC3.out 3 (G - (i + 1)) (c - i)
  have hr3' : ∀ ty dc, (Builtin.copy_ #[38, 38] ty #[.slice (some ⟨w.heap.size, (i + 1) * 5, none⟩) (n + 1 - (i + 1)) dc, .slice (some ⟨g, i * 5, none⟩) (n - i) (c - i)]).run Try.prog W2.drew = (Builtin.copy_ #[38, 38] ty #[.slice (some ⟨w.heap.size, (i + 1) * 5, none⟩) (n - i) dc, .slice (some ⟨g, i * 5, none⟩) (n - i) (c - i)]).run Try.prog W2.drew := fun ty dc => by rw [show n + 1 - (i + 1) = n - i by omega]
  refine wpList_copy_runY _ rfl _ _ 38 38 rfl _ _ rfl rfl _ _ (by first | exact hr3 | exact (hr3' _ _).trans hr3) ?_
  clear hr3 hr3' ewk
  have HH := Lib.hid (And.intro hgr hown)
  clear hgr hown
  go_wp2
  go_returns
  exact ⟨G, rfl, HH.out⟩
end Go.Proofs.Ytmngjifcgfnogaa
