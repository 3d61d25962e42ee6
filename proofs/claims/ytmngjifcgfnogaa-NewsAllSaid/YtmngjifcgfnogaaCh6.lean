/- slices.Insert of one item, where there is room. -/
import Derived.Test.YtmngjifcgfnogaaCh5
namespace Go.Proofs.Ytmngjifcgfnogaa
set_option linter.unusedSimpArgs false
set_option linter.unusedVariables false
set_option maxRecDepth 100000
open Go.RowKit

theorem shape_row {w : World} {g : Nat} {cur : Array Value} {e : TypeId} (h : w.heap[g]? = some (.cells cur e (0, 0))) : w.shape? g = some (e, cur.size) := by
  unfold World.shape?
  rw [h]
theorem frozen_row {w : World} {g i : Nat} {cur : Array Value} {e : TypeId} (h : w.heap[g]? = some (.cells cur e (0, 0))) : w.frozen? ⟨g, i, none⟩ = false := by
  simp [World.frozen?, h]
theorem ins_writes {cur xs z : List Value} {i n : Nat} (hx : cur.take (n * 5) = xs) (hl : xs.length = n * 5) (hi : i ≤ n) (hc : (n + 1) * 5 ≤ cur.length) (hz : z.length = 5) :
    ((cur.take ((i + 1) * 5) ++ xs.drop (i * 5) ++ cur.drop ((i + 1) * 5 + (xs.drop (i * 5)).length)).take (i * 5) ++ z ++ (cur.take ((i + 1) * 5) ++ xs.drop (i * 5) ++ cur.drop ((i + 1) * 5 + (xs.drop (i * 5)).length)).drop (i * 5 + z.length)).take ((n + 1) * 5) = xs.take (i * 5) ++ z ++ xs.drop (i * 5) := by
  have hdl : (xs.drop (i * 5)).length = (n - i) * 5 := by rw [List.length_drop, hl]; omega
  have h1 : (cur.take ((i + 1) * 5) ++ xs.drop (i * 5) ++ cur.drop ((i + 1) * 5 + (xs.drop (i * 5)).length)).take (i * 5) = xs.take (i * 5) := by
    rw [List.append_assoc, List.take_append_of_le_length (by rw [List.length_take]; omega), List.take_take, Nat.min_eq_left (by omega), ← hx, List.take_take, Nat.min_eq_left (by omega)]
  have h2 : (cur.take ((i + 1) * 5) ++ xs.drop (i * 5) ++ cur.drop ((i + 1) * 5 + (xs.drop (i * 5)).length)).drop (i * 5 + z.length) = xs.drop (i * 5) ++ cur.drop ((i + 1) * 5 + (xs.drop (i * 5)).length) := by
    rw [hz, show i * 5 + 5 = (cur.take ((i + 1) * 5)).length by rw [List.length_take]; omega, List.append_assoc, List.drop_left]
  rw [h1, h2]
  have h3 : (xs.take (i * 5) ++ z ++ xs.drop (i * 5)).length = (n + 1) * 5 := by simp only [List.length_append, List.length_take, hz, hdl, hl]; omega
  rw [← List.append_assoc, ← h3, List.take_left]
set_option maxHeartbeats 2000000 in
theorem ins_room (l : List Tm) (g n c base vb i : Nat) (x : Tm) (w : World) (h : w.ownsRow base 47 5 (.slice (some ⟨g, 0, none⟩) n c) n (tms l)) (hn : n ≤ 1073741823) (hi : i < n) (hroom : n + 1 ≤ c) (hne : vb ≠ g) (hv : w.heap[vb]? = some (.cells #[.int .i64 x.d, .int .i64 x.a, .int .i64 x.b, .int .i64 x.c, .int .i64 x.e] 47 (0, 0))) :
    Calls Try.prog 51 #[.slice (some ⟨g, 0, none⟩) n c, .int .i64 i, .slice (some ⟨vb, 0, none⟩) 1 1] w fun e w' => e = .returned (.slice (some ⟨g, 0, none⟩) (n + 1) c) ∧ w.grownBy w' (some g) ∧ w'.ownsRow base 47 5 (.slice (some ⟨g, 0, none⟩) (n + 1) c) (n + 1) ((tms l).take (i * 5) ++ tms [x] ++ (tms l).drop (i * 5)) := by
  obtain ⟨-, hb, hnc, hcm, hlen, cur, hg, hcs, htake⟩ := own_parts h
  have hread : ∀ j u, ((tms l).drop (i * 5))[j]? = some u → w.drew.cell? ((⟨g, i * 5, none⟩ : Addr).add j) = some u := fun j u hu => by
    rw [List.getElem?_drop] at hu
    have := h.cells (g := g) rfl _ _ hu
    rw [show (⟨g, 0, none⟩ : Addr).add (i * 5 + j) = ⟨g, 0 + (i * 5 + j), none⟩ by unfold Addr.add; split <;> simp_all] at this
    rw [show (⟨g, i * 5, none⟩ : Addr).add j = ⟨g, i * 5 + j, none⟩ by unfold Addr.add; split <;> simp_all]
    rw [Nat.zero_add] at this
    exact this
  have hdl : ((tms l).drop (i * 5)).length = (n - i) * 5 := by rw [List.length_drop, hlen]; omega
  have hz : (tms [x]).length = 5 := rfl
  have IW := ins_writes (z := tms [x]) htake hlen (show i ≤ n by omega) (by rw [Array.length_toList, hcs]; omega) hz
  have CP : Hid (∀ ty dc sc, ∃ W1, (Builtin.copy_ #[38, 38] ty #[.slice (some ⟨g, (i + 1) * 5, none⟩) (n - i) dc, .slice (some ⟨g, i * 5, none⟩) (n + 1 - i) sc]).run Try.prog w.drew = .ok (.int .i64 ((n - i : Nat) : Int)) W1 ∧ ∀ ty dc, ∃ W2, (Builtin.copy_ #[38, 38] ty #[.slice (some ⟨g, i * 5, none⟩) (n + 1 - i) dc, .slice (some ⟨vb, 0, none⟩) 1 1]).run Try.prog W1 = .ok (.int .i64 ((1 : Nat) : Int)) W2 ∧ w.grownBy W2 (some g) ∧ W2.ownsRow base 47 5 (.slice (some ⟨g, 0, none⟩) (n + 1) c) (n + 1) ((tms l).take (i * 5) ++ tms [x] ++ (tms l).drop (i * 5))) := Lib.hid (fun ty dc sc => by
    refine ⟨_, run_copy_rowk w.drew 38 ty 47 5 Try.underlying38 info_item g ((i + 1) * 5) (n - i) dc cur hg ⟨g, i * 5, none⟩ (n + 1 - i) sc (n - i) ((tms l).drop (i * 5)) (by simp only [Nat.min_def]; split <;> omega) hdl hread (by rw [hdl, hcs]; omega) (fun u hu => tms_one l u (List.mem_of_mem_drop hu)), fun ty dc => ?_⟩
    have hg1 := setRow_get w.drew g cur 47 (cur.toList.take ((i + 1) * 5) ++ (tms l).drop (i * 5) ++ cur.toList.drop ((i + 1) * 5 + ((tms l).drop (i * 5)).length)) hg
    have hr1 := setRow_grown w.drew g (cur.toList.take ((i + 1) * 5) ++ (tms l).drop (i * 5) ++ cur.toList.drop ((i + 1) * 5 + ((tms l).drop (i * 5)).length)).toArray
    have hs1 : (cur.toList.take ((i + 1) * 5) ++ (tms l).drop (i * 5) ++ cur.toList.drop ((i + 1) * 5 + ((tms l).drop (i * 5)).length)).length = c * 5 := by
      simp only [List.length_append, List.length_take, List.length_drop, Array.length_toList, hcs, hlen]
      omega
    generalize hW : w.drew.setRow g (cur.toList.take ((i + 1) * 5) ++ (tms l).drop (i * 5) ++ cur.toList.drop ((i + 1) * 5 + ((tms l).drop (i * 5)).length)).toArray = W at *
    have hvW : W.heap[vb]? = some (.cells #[.int .i64 x.d, .int .i64 x.a, .int .i64 x.b, .int .i64 x.c, .int .i64 x.e] 47 (0, 0)) := by
      rw [hr1.block vb (by have := (Array.getElem?_eq_some_iff.1 hv).1; simpa using this) (by simpa using hne)]
      exact hv
    refine ⟨_, run_copy_rowk W 38 ty 47 5 Try.underlying38 info_item g (i * 5) (n + 1 - i) dc _ hg1 ⟨vb, 0, none⟩ 1 1 1 (tms [x]) (by simp only [Nat.min_def]; split <;> omega) rfl ?_ (by rw [hz, List.size_toArray, hs1]; omega) (tms_one [x]), ?_, ?_⟩
    · intro j u hu
      rw [show (⟨vb, 0, none⟩ : Addr).add j = ⟨vb, 0 + j, none⟩ by unfold Addr.add; split <;> simp_all, Nat.zero_add, cell_of_row _ _ _ _ _ (0, 0) hvW]
      simpa [tms] using hu
    · have g2 := setRow_grown W g ((cur.toList.take ((i + 1) * 5) ++ (tms l).drop (i * 5) ++ cur.toList.drop ((i + 1) * 5 + ((tms l).drop (i * 5)).length)).toArray.toList.take (i * 5) ++ tms [x] ++ (cur.toList.take ((i + 1) * 5) ++ (tms l).drop (i * 5) ++ cur.toList.drop ((i + 1) * 5 + ((tms l).drop (i * 5)).length)).toArray.toList.drop (i * 5 + (tms [x]).length)).toArray
      exact ⟨g2.os.trans hr1.os, g2.tape.trans hr1.tape, g2.output.trans hr1.output, Nat.le_trans hr1.size g2.size, fun k hk hne => (g2.block k (Nat.lt_of_lt_of_le hk hr1.size) hne).trans (hr1.block k hk hne)⟩
    · refine ⟨by simp only [List.length_append, List.length_take, hz, hdl, hlen]; omega, .inr ⟨g, c, _, rfl, hb, setRow_get W g _ _ _ hg1, hroom, hcm, ?_, ?_⟩⟩
      · simp only [List.size_toArray, List.length_append, List.length_take, List.length_drop, hz, Array.length_toList, hcs, hlen]
        omega
      · exact IW)
  have hov : ∀ lb cb, (callFunc 79 #[.slice (some ⟨vb, 0, none⟩) 1 1, .slice (some ⟨g, (i + 1) * 5, none⟩) lb cb]).run Try.prog w = .ok (.value (.bool false)) w := fun lb cb => by
    rw [run_callFunc_extern Try.func79 (by kernel_rfl) (by kernel_rfl) (by kernel_rfl) (e := Extern.SlicesOverlaps.overlaps #[38, 38] #[4]) (by kernel_rfl),
      Lib.run_overlaps_apart w 38 4 47 Try.underlying38 5 (fun w => by rfl) ⟨vb, 0, none⟩ ⟨g, (i + 1) * 5, none⟩ 1 1 lb cb hne _ _ _ _ (shape_row hv) (shape_row hg) (by rw [hcs]; omega) (frozen_row hv) (frozen_row hv)]
    rfl
  have i0 : (0 : Int) ≤ i := by omega
  have i1 : (i : Int) < n := by omega
  have i2 : (i : Int) ≤ n := by omega
  have i3 : (n : Int) + 1 ≤ c := by omega
  have i4 : (i : Int) + 1 ≤ (n : Int) + 1 := by omega
  have i5 : (0 : Int) ≤ (i : Int) + 1 := by omega
  have i6 : (n : Int) ≤ 1073741823 := by omega
  have e1 : ((i : Int) == (n : Int)) = false := by simp; omega
  have e2 : decide ((c : Int) < (n : Int) + 1) = false := decide_eq_false (by omega)
  have q1 : ¬ c = i := by omega
  have q2 : ¬ c = i + 1 := by omega
  have q3 : (i : Int) ≤ (n : Int) + 1 := by omega
  clear h hread hdl hz IW hg hv htake hlen hcs
  go_enter Try.func51, Try.ntmps51
  go_wp2_with (simp only [hov])
  have ewk : IntKind.i64.wrap ((i : Int) + 1) = (i : Int) + 1 := by rw [IntKind.wrap_i64]; omega
  refine wp_region_tail 8 (by kernel_rfl) (by kernel_rfl) ?_
  simp only [List.take_succ_cons, List.take_zero, List.drop_succ_cons, List.drop_zero]
  repeat still_step
  refine wpStill_nil ?_
  obtain ⟨W1, hr1, hc2⟩ := CP.out 3 (c - (i + 1)) (c - i)
  clear CP ewk
  have hr1' : ∀ ty dc, (Builtin.copy_ #[38, 38] ty #[.slice (some ⟨g, (i + 1) * 5, none⟩) (n + 1 - (i + 1)) dc, .slice (some ⟨g, i * 5, none⟩) (n + 1 - i) (c - i)]).run Try.prog w.drew = (Builtin.copy_ #[38, 38] ty #[.slice (some ⟨g, (i + 1) * 5, none⟩) (n - i) dc, .slice (some ⟨g, i * 5, none⟩) (n + 1 - i) (c - i)]).run Try.prog w.drew := fun ty dc => by rw [show n + 1 - (i + 1) = n - i by omega]
  refine wpList_copy_runY _ rfl _ _ 38 38 rfl _ _ rfl rfl _ _ (by first | exact hr1 | exact (hr1' _ _).trans hr1) ?_
  clear hr1 hr1'
  obtain ⟨W2, hr2, hgr, hown⟩ := hc2 3 (c - i)
  have HH := Lib.hid (And.intro hgr hown)
  clear hc2 hgr hown
  go_wp2
  go_returns
  exact ⟨rfl, HH.out⟩
end Go.Proofs.Ytmngjifcgfnogaa
