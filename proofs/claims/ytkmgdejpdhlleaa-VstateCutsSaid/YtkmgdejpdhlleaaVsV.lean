/- slices' functions at []api.Version, at the level of cells. -/
import Derived.Test.YtkmgdejpdhlleaaRk
import Derived.Test.YtkmgdejpdhlleaaVsI
namespace Go.Proofs.Ytkmgdejpdhlleaa
set_option linter.unusedSimpArgs false
set_option linter.unusedVariables false
set_option maxRecDepth 100000
open Go.RowKit

theorem vnI_size : (Try.prog.info? 116).map (·.size) = some 2 := by kernel_rfl

theorem vnI_info : (Try.prog.info? 116).map (fun i => (i.zero, i.size, i.bytes)) = some (some (.agg #[.int .i64 0, .slice none 0 0]), 2, 32) := by kernel_rfl

theorem vnI_ins_end (l : List Value) (hcs1 : ∀ u ∈ l, u.oneCell' = true) (z : List Value) (hz : z.length = 2) (hzone : ∀ u ∈ z, u.oneCell' = true) (a : Option Addr) (n c base vb cv : Nat) (w0 w : World) (hx0 : Ext w0 w) (hb0 : w0.heap.size ≤ base) (hb : base ≤ w.heap.size) (h : w.ownsRow base 116 2 (.slice a n c) n l) (hn : n ≤ 1073741823) (hv : Rd w 2 1 (.slice (some ⟨vb, 0, none⟩) 1 cv) (z)) :
    Calls Try.prog 70 #[.slice a n c, .int .i64 n, .slice (some ⟨vb, 0, none⟩) 1 cv] w fun e w' => ∃ b c', e = .returned (.slice b (n + 1) c') ∧ w.grownBy w' (Value.slice a n c).ownBlock ∧ (∃ y, w' = ext w0 y) ∧ w'.ownsRow base 116 2 (.slice b (n + 1) c') (n + 1) (l ++ z) ∧ ((Value.slice a n c).ownBlock = (Value.slice b (n + 1) c').ownBlock ∨ (Value.slice b (n + 1) c').ownBlock = some w.heap.size) := by
  have H := Lib.hid h
  have HV := Lib.hid hv
  have e1 : ((n : Int) == (n : Int)) = true := by simp
  have i0 : (0 : Int) ≤ n := by omega
  have hcap := own_capY h
  have i1 : (n : Int) ≤ c := by omega
  have ONE := Lib.hid hzone
  clear hv
  have key : ∀ (P : Prop), ((a = none ∧ n = 0) → P) → ((∃ g, a = some ⟨g, 0, none⟩) → c = n → P) → ((∃ g, a = some ⟨g, 0, none⟩) → c ≠ n → P) → P := fun P k1 k2 k3 => by
    rcases h.2 with ⟨h1, h2⟩ | ⟨g, cap, cur, h1, _⟩
    · cases h1; exact k1 ⟨rfl, h2⟩
    · obtain ⟨rfl, _, _⟩ := Value.slice.inj h1
      by_cases hq : c = n
      · exact k2 ⟨g, rfl⟩ hq
      · exact k3 ⟨g, rfl⟩ hq
  clear h
  refine key _ (fun hk => ?_) (fun hk hq => ?_) (fun hk hq => ?_)
  · obtain ⟨rfl, rfl⟩ := hk
    clear key
    go_enter Try.func70, Try.ntmps70
    go_wp2_with (at_builtin; apply stop_here)
    unfold Stop
    refine wpList_app rfl _ _ 24 rfl 116 (.agg #[.int .i64 0, .slice none 0 0]) 2 32 Try.underlying24 vnI_info rfl (by decide) w0 hx0 base _ _ _ H.out 1 _ _ rfl rfl HV.out ONE.out (by unfold maxLen; omega) (by omega) hb hb0 ?_
    intro b c' y hown hgr hat
    have HOWN := Lib.hid hown
    have HGR := Lib.hid hgr
    have HAT := Lib.hid hat
    clear hown hgr hat
    go_wp2
    go_returns
    exact ⟨b, c', by simp, HGR.out, ⟨y, rfl⟩, HOWN.out, HAT.out⟩
  · obtain ⟨g, rfl⟩ := hk
    subst hq
    clear key
    go_enter Try.func70, Try.ntmps70
    go_wp2_with (at_builtin; apply stop_here)
    unfold Stop
    refine wpList_app rfl _ _ 24 rfl 116 (.agg #[.int .i64 0, .slice none 0 0]) 2 32 Try.underlying24 vnI_info rfl (by decide) w0 hx0 base _ _ _ H.out 1 _ _ rfl rfl HV.out ONE.out (by unfold maxLen; omega) (by omega) hb hb0 ?_
    intro b c' y hown hgr hat
    have HOWN := Lib.hid hown
    have HGR := Lib.hid hgr
    have HAT := Lib.hid hat
    clear hown hgr hat
    go_wp2
    go_returns
    exact ⟨b, c', by simp, HGR.out, ⟨y, rfl⟩, HOWN.out, HAT.out⟩
  · obtain ⟨g, rfl⟩ := hk
    clear key
    go_enter Try.func70, Try.ntmps70
    go_wp2_with (at_builtin; apply stop_here)
    unfold Stop
    refine wpList_app rfl _ _ 24 rfl 116 (.agg #[.int .i64 0, .slice none 0 0]) 2 32 Try.underlying24 vnI_info rfl (by decide) w0 hx0 base _ _ _ H.out 1 _ _ rfl rfl HV.out ONE.out (by unfold maxLen; omega) (by omega) hb hb0 ?_
    intro b c' y hown hgr hat
    have HOWN := Lib.hid hown
    have HGR := Lib.hid hgr
    have HAT := Lib.hid hat
    clear hown hgr hat
    go_wp2
    go_returns
    exact ⟨b, c', by simp, HGR.out, ⟨y, rfl⟩, HOWN.out, HAT.out⟩

theorem vnI_ins_writes {cur xs z : List Value} {i n : Nat} (hx : cur.take (n * 2) = xs) (hl : xs.length = n * 2) (hi : i ≤ n) (hc : (n + 1) * 2 ≤ cur.length) (hz : z.length = 2) :
    ((cur.take ((i + 1) * 2) ++ xs.drop (i * 2) ++ cur.drop ((i + 1) * 2 + (xs.drop (i * 2)).length)).take (i * 2) ++ z ++ (cur.take ((i + 1) * 2) ++ xs.drop (i * 2) ++ cur.drop ((i + 1) * 2 + (xs.drop (i * 2)).length)).drop (i * 2 + z.length)).take ((n + 1) * 2) = xs.take (i * 2) ++ z ++ xs.drop (i * 2) := by
  have hdl : (xs.drop (i * 2)).length = (n - i) * 2 := by rw [List.length_drop, hl]; omega
  have h1 : (cur.take ((i + 1) * 2) ++ xs.drop (i * 2) ++ cur.drop ((i + 1) * 2 + (xs.drop (i * 2)).length)).take (i * 2) = xs.take (i * 2) := by
    rw [List.append_assoc, List.take_append_of_le_length (by rw [List.length_take]; omega), List.take_take, Nat.min_eq_left (by omega), ← hx, List.take_take, Nat.min_eq_left (by omega)]
  have h2 : (cur.take ((i + 1) * 2) ++ xs.drop (i * 2) ++ cur.drop ((i + 1) * 2 + (xs.drop (i * 2)).length)).drop (i * 2 + z.length) = xs.drop (i * 2) ++ cur.drop ((i + 1) * 2 + (xs.drop (i * 2)).length) := by
    rw [hz, show i * 2 + 2 = (cur.take ((i + 1) * 2)).length by rw [List.length_take]; omega, List.append_assoc, List.drop_left]
  rw [h1, h2]
  have h3 : (xs.take (i * 2) ++ z ++ xs.drop (i * 2)).length = (n + 1) * 2 := by simp only [List.length_append, List.length_take, hz, hdl, hl]; omega
  rw [← List.append_assoc, ← h3, List.take_left]
set_option maxHeartbeats 2000000 in
theorem vnI_ins_room (l : List Value) (hcs1 : ∀ u ∈ l, u.oneCell' = true) (z : List Value) (hz : z.length = 2) (hzone : ∀ u ∈ z, u.oneCell' = true) (g n c base vb i cv : Nat) (w : World) (h : w.ownsRow base 116 2 (.slice (some ⟨g, 0, none⟩) n c) n l) (hn : n ≤ 1073741823) (hi : i < n) (hroom : n + 1 ≤ c) (hne : vb ≠ g) (zc : Array Value) (hzc : zc.toList.take 2 = z) (hv : w.heap[vb]? = some (.cells zc 116 (0, 0))) :
    Calls Try.prog 70 #[.slice (some ⟨g, 0, none⟩) n c, .int .i64 i, .slice (some ⟨vb, 0, none⟩) 1 cv] w fun e w' => e = .returned (.slice (some ⟨g, 0, none⟩) (n + 1) c) ∧ w.grownBy w' (some g) ∧ w'.ownsRow base 116 2 (.slice (some ⟨g, 0, none⟩) (n + 1) c) (n + 1) (l.take (i * 2) ++ z ++ l.drop (i * 2)) := by
  obtain ⟨-, hb, hnc, hcm, hlen, cur, hg, hcs, htake⟩ := own_parts h
  have hread : ∀ j u, (l.drop (i * 2))[j]? = some u → w.drew.cell? ((⟨g, i * 2, none⟩ : Addr).add j) = some u := fun j u hu => by
    rw [List.getElem?_drop] at hu
    have := h.cells (g := g) rfl _ _ hu
    rw [show (⟨g, 0, none⟩ : Addr).add (i * 2 + j) = ⟨g, 0 + (i * 2 + j), none⟩ by unfold Addr.add; split <;> simp_all] at this
    rw [show (⟨g, i * 2, none⟩ : Addr).add j = ⟨g, i * 2 + j, none⟩ by unfold Addr.add; split <;> simp_all]
    rw [Nat.zero_add] at this
    exact this
  have hdl : (l.drop (i * 2)).length = (n - i) * 2 := by rw [List.length_drop, hlen]; omega
  have IW := vnI_ins_writes (z := z) htake hlen (show i ≤ n by omega) (by rw [Array.length_toList, hcs]; omega) hz
  have CP : Hid (∀ ty dc sc, ∃ W1, (Builtin.copy_ #[24, 24] ty #[.slice (some ⟨g, (i + 1) * 2, none⟩) (n - i) dc, .slice (some ⟨g, i * 2, none⟩) (n + 1 - i) sc]).run Try.prog w.drew = .ok (.int .i64 ((n - i : Nat) : Int)) W1 ∧ ∀ ty dc, ∃ W2, (Builtin.copy_ #[24, 24] ty #[.slice (some ⟨g, i * 2, none⟩) (n + 1 - i) dc, .slice (some ⟨vb, 0, none⟩) 1 cv]).run Try.prog W1 = .ok (.int .i64 ((1 : Nat) : Int)) W2 ∧ w.grownBy W2 (some g) ∧ W2.ownsRow base 116 2 (.slice (some ⟨g, 0, none⟩) (n + 1) c) (n + 1) (l.take (i * 2) ++ z ++ l.drop (i * 2))) := Lib.hid (fun ty dc sc => by
    refine ⟨_, run_copy_rowk w.drew 24 ty 116 2 Try.underlying24 vnI_size g ((i + 1) * 2) (n - i) dc cur hg ⟨g, i * 2, none⟩ (n + 1 - i) sc (n - i) (l.drop (i * 2)) (by simp only [Nat.min_def]; split <;> omega) hdl hread (by rw [hdl, hcs]; omega) (fun u hu => hcs1 u (List.mem_of_mem_drop hu)), fun ty dc => ?_⟩
    have hg1 := setRow_get w.drew g cur 116 (cur.toList.take ((i + 1) * 2) ++ l.drop (i * 2) ++ cur.toList.drop ((i + 1) * 2 + (l.drop (i * 2)).length)) hg
    have hr1 := setRow_grown w.drew g (cur.toList.take ((i + 1) * 2) ++ l.drop (i * 2) ++ cur.toList.drop ((i + 1) * 2 + (l.drop (i * 2)).length)).toArray
    have hs1 : (cur.toList.take ((i + 1) * 2) ++ l.drop (i * 2) ++ cur.toList.drop ((i + 1) * 2 + (l.drop (i * 2)).length)).length = c * 2 := by
      simp only [List.length_append, List.length_take, List.length_drop, Array.length_toList, hcs, hlen]
      omega
    generalize hW : w.drew.setRow g (cur.toList.take ((i + 1) * 2) ++ l.drop (i * 2) ++ cur.toList.drop ((i + 1) * 2 + (l.drop (i * 2)).length)).toArray = W at *
    have hvW : W.heap[vb]? = some (.cells zc 116 (0, 0)) := by
      rw [hr1.block vb (by have := (Array.getElem?_eq_some_iff.1 hv).1; simpa using this) (by simpa using hne)]
      exact hv
    refine ⟨_, run_copy_rowk W 24 ty 116 2 Try.underlying24 vnI_size g (i * 2) (n + 1 - i) dc _ hg1 ⟨vb, 0, none⟩ 1 cv 1 z (by simp only [Nat.min_def]; split <;> omega) (by rw [hz]) ?_ (by rw [hz, List.size_toArray, hs1]; omega) hzone, ?_, ?_⟩
    · intro j u hu
      rw [show (⟨vb, 0, none⟩ : Addr).add j = ⟨vb, 0 + j, none⟩ by unfold Addr.add; split <;> simp_all, Nat.zero_add, cell_of_row _ _ _ _ _ (0, 0) hvW]
      exact zget hzc hu
    · have g2 := setRow_grown W g ((cur.toList.take ((i + 1) * 2) ++ l.drop (i * 2) ++ cur.toList.drop ((i + 1) * 2 + (l.drop (i * 2)).length)).toArray.toList.take (i * 2) ++ z ++ (cur.toList.take ((i + 1) * 2) ++ l.drop (i * 2) ++ cur.toList.drop ((i + 1) * 2 + (l.drop (i * 2)).length)).toArray.toList.drop (i * 2 + (z).length)).toArray
      exact ⟨g2.os.trans hr1.os, g2.tape.trans hr1.tape, g2.output.trans hr1.output, Nat.le_trans hr1.size g2.size, fun k hk hne => (g2.block k (Nat.lt_of_lt_of_le hk hr1.size) hne).trans (hr1.block k hk hne)⟩
    · refine ⟨by simp only [List.length_append, List.length_take, hz, hdl, hlen]; omega, .inr ⟨g, c, _, rfl, hb, setRow_get W g _ _ _ hg1, hroom, hcm, ?_, ?_⟩⟩
      · simp only [List.size_toArray, List.length_append, List.length_take, List.length_drop, hz, Array.length_toList, hcs, hlen]
        omega
      · exact IW)
  have hov : ∀ lb cb, (callFunc 116 #[.slice (some ⟨vb, 0, none⟩) 1 cv, .slice (some ⟨g, (i + 1) * 2, none⟩) lb cb]).run Try.prog w = .ok (.value (.bool false)) w := fun lb cb => by
    rw [run_callFunc_extern Try.func116 (by kernel_rfl) (by kernel_rfl) (by kernel_rfl) (e := Extern.SlicesOverlaps.overlaps #[24, 24] #[4]) (by kernel_rfl),
      Lib.run_overlaps_apart w 24 4 116 Try.underlying24 2 (fun w => by rfl) ⟨vb, 0, none⟩ ⟨g, (i + 1) * 2, none⟩ 1 cv lb cb hne _ _ _ _ (shape_row hv) (shape_row hg) (by rw [hcs]; omega) (frozen_row hv) (frozen_row hv)]
    rfl
  have i0 : (0 : Int) ≤ i := by omega
  have i1 : (i : Int) < n := by omega
  have i2 : (i : Int) ≤ n := by omega
  have i3 : (n : Int) + 1 ≤ c := by omega
  have i4 : (i : Int) + 1 ≤ (n : Int) + 1 := by omega
  have i5 : (0 : Int) ≤ (i : Int) + 1 := by omega
  have i6 : (n : Int) ≤ 1073741823 := by omega
  have e1 : ((i : Int) == (n : Int)) = false := by simp; omega
  have e2 : decide ((c : Int) < (n : Int) + 1) = false := decide_eq_false (by omega)
  have q1 : ¬ c = i := by omega
  have q2 : ¬ c = i + 1 := by omega
  have q3 : (i : Int) ≤ (n : Int) + 1 := by omega
  clear h hread hdl hz IW hg hv htake hlen hcs
  go_enter Try.func70, Try.ntmps70
  go_wp2_with (simp only [hov])
  have ewk : IntKind.i64.wrap ((i : Int) + 1) = (i : Int) + 1 := by rw [IntKind.wrap_i64]; omega
  refine wp_region_tail 8 (by kernel_rfl) (by kernel_rfl) ?_
  simp only [List.take_succ_cons, List.take_zero, List.drop_succ_cons, List.drop_zero]
  repeat still_step
  refine wpStill_nil ?_
  obtain ⟨W1, hr1, hc2⟩ := CP.out 3 (c - (i + 1)) (c - i)
  clear CP ewk
  have hr1' : ∀ ty dc, (Builtin.copy_ #[24, 24] ty #[.slice (some ⟨g, (i + 1) * 2, none⟩) (n + 1 - (i + 1)) dc, .slice (some ⟨g, i * 2, none⟩) (n + 1 - i) (c - i)]).run Try.prog w.drew = (Builtin.copy_ #[24, 24] ty #[.slice (some ⟨g, (i + 1) * 2, none⟩) (n - i) dc, .slice (some ⟨g, i * 2, none⟩) (n + 1 - i) (c - i)]).run Try.prog w.drew := fun ty dc => by rw [show n + 1 - (i + 1) = n - i by omega]
  refine wpList_copy_runY _ rfl _ _ 24 24 rfl _ _ rfl rfl _ _ (by first | exact hr1 | exact (hr1' _ _).trans hr1) ?_
  clear hr1 hr1'
  obtain ⟨W2, hr2, hgr, hown⟩ := hc2 3 (c - i)
  have HH := Lib.hid (And.intro hgr hown)
  clear hc2 hgr hown
  go_wp2
  go_returns
  exact ⟨rfl, HH.out⟩

theorem vnI_grow_writes {row xs z : List Value} {i n : Nat} (hx : row.take (i * 2) = xs.take (i * 2)) (hl : xs.length = n * 2) (hi : i < n) (hc : (n + 1) * 2 ≤ row.length) (hz : z.length = 2) :
    ((row.take (i * 2) ++ z ++ row.drop (i * 2 + z.length)).take ((i + 1) * 2) ++ xs.drop (i * 2) ++ (row.take (i * 2) ++ z ++ row.drop (i * 2 + z.length)).drop ((i + 1) * 2 + (xs.drop (i * 2)).length)).take ((n + 1) * 2) = xs.take (i * 2) ++ z ++ xs.drop (i * 2) := by
  have hdl : (xs.drop (i * 2)).length = (n - i) * 2 := by rw [List.length_drop, hl]; omega
  have h1 : (row.take (i * 2) ++ z).length = (i + 1) * 2 := by rw [List.length_append, List.length_take, hz]; omega
  have h2 : (row.take (i * 2) ++ z ++ row.drop (i * 2 + z.length)).take ((i + 1) * 2) = xs.take (i * 2) ++ z := by
    rw [← h1, List.take_left, hx]
  rw [h2]
  have h3 : (xs.take (i * 2) ++ z ++ xs.drop (i * 2)).length = (n + 1) * 2 := by simp only [List.length_append, List.length_take, hz, hdl, hl]; omega
  rw [← h3, List.take_left]
set_option maxHeartbeats 2000000 in
theorem vnI_ins_grow (l : List Value) (hcs1 : ∀ u ∈ l, u.oneCell' = true) (z : List Value) (hz : z.length = 2) (hzone : ∀ u ∈ z, u.oneCell' = true) (g n c base vb i cv : Nat) (w : World) (h : w.ownsRow base 116 2 (.slice (some ⟨g, 0, none⟩) n c) n l) (hbw : base ≤ w.heap.size) (hn : n ≤ 1073741823) (hi : i < n) (hroom : c < n + 1) (zc : Array Value) (hzc : zc.toList.take 2 = z) (hv : w.heap[vb]? = some (.cells zc 116 (0, 0))) :
    Calls Try.prog 70 #[.slice (some ⟨g, 0, none⟩) n c, .int .i64 i, .slice (some ⟨vb, 0, none⟩) 1 cv] w fun e w' => ∃ G, e = .returned (.slice (some ⟨w.heap.size, 0, none⟩) (n + 1) G) ∧ w.grownBy w' none ∧ w'.ownsRow base 116 2 (.slice (some ⟨w.heap.size, 0, none⟩) (n + 1) G) (n + 1) (l.take (i * 2) ++ z ++ l.drop (i * 2)) := by
  obtain ⟨-, hb, hnc, hcm, hlen, cur, hg, hcs, htake⟩ := own_parts h
  obtain ⟨i0, hi0, hz0, hz1, hz2⟩ := info_parts vnI_info
  have hread : ∀ j u, l[j]? = some u → w.cell? ⟨g, j, none⟩ = some u := fun j u hu => by
    have := h.cells (g := g) rfl _ _ hu
    rwa [show (⟨g, 0, none⟩ : Addr).add j = ⟨g, 0 + j, none⟩ by unfold Addr.add; split <;> simp_all, Nat.zero_add] at this
  have hold : (Builtin.firstCells i0.size i (.slice (some ⟨g, 0, none⟩) i c)).run Try.prog w.drew = .ok (l.take (i * 2)).toArray w.drew := by
    rw [hz1]
    exact run_firstCells_some w.drew 2 i ⟨g, 0, none⟩ i c (l.take (i * 2)) (by rw [List.length_take, hlen]; omega) (fun j v hj => by
      rw [show (⟨g, 0, none⟩ : Addr).add j = ⟨g, 0 + j, none⟩ by unfold Addr.add; split <;> simp_all, Nat.zero_add]
      rw [List.getElem?_take] at hj
      split at hj
      · exact hread j v hj
      · cases hj)
  have hik : i + (n + 1 - i) = n + 1 := by omega
  have hrz := fun ty => Lib.run_append_grow_zeros w 24 3 ty 116 i0 _ .i64 .i64 Try.underlying24 Try.underlying3 hi0 hz0 (some ⟨g, 0, none⟩) i c (l.take (i * 2)) hold (n + 1 - i) (by omega) (by omega) (by omega) (by omega) (by rw [hz2]; omega) (by rw [hz2, hik]; exact growslice_fits hroom (by omega))
  simp only [hik] at hrz
  have hge := grownCap_ge w (n + 1) c 116
  have hle := grownCap_le_maxLen w (n + 1) c 116 (by unfold maxLen; omega)
  obtain ⟨G, hG⟩ : ∃ G, G = grownCap w (n + 1) c 116 := ⟨_, rfl⟩
  rw [← hG] at hrz hge hle
  obtain ⟨ROW, hROW⟩ : ∃ ROW : Array Value, ROW = (l.take (i * 2)).toArray ++ Builtin.zeroCells (Value.agg #[.int .i64 0, .slice none 0 0]).cells (n + 1 - i) ++ Builtin.zeroCells (Value.agg #[.int .i64 0, .slice none 0 0]).cells (G - (n + 1)) := ⟨_, rfl⟩
  rw [← hROW] at hrz
  have htl : (l.take (i * 2)).length = i * 2 := by rw [List.length_take, hlen]; omega
  have hRS : ROW.size = G * 2 := by
    rw [hROW]
    simp only [Array.size_append, List.size_toArray, size_zeroCells, htl]
    show i * 2 + (n + 1 - i) * 2 + (G - (n + 1)) * 2 = G * 2
    omega
  have hRT : ROW.toList.take (i * 2) = l.take (i * 2) := by
    rw [hROW, Array.toList_append, Array.toList_append, List.append_assoc]
    have tk : ∀ A B : List Value, A.length = i * 2 → (A ++ B).take (i * 2) = A := fun A B h => by rw [← h, List.take_left]
    exact tk _ _ htl
  have hdl : (l.drop (i * 2)).length = (n - i) * 2 := by rw [List.length_drop, hlen]; omega
  have GW := vnI_grow_writes (z := z) hRT hlen hi (by rw [Array.length_toList, hRS]; omega) hz
  have CP : Hid (∀ ty, ∃ W1, (Builtin.append_ #[24, 3] ty #[.slice (some ⟨g, 0, none⟩) i c, .int .i64 ((n : Int) + 1 - i)]).run Try.prog w = .ok (.slice (some ⟨w.heap.size, 0, none⟩) (n + 1) G) W1 ∧
      ∀ ty dc, ∃ W2, (Builtin.copy_ #[24, 24] ty #[.slice (some ⟨w.heap.size, i * 2, none⟩) (n + 1 - i) dc, .slice (some ⟨vb, 0, none⟩) 1 cv]).run Try.prog W1 = .ok (.int .i64 ((1 : Nat) : Int)) W2 ∧
      ∀ ty dc sc, ∃ W3, (Builtin.copy_ #[24, 24] ty #[.slice (some ⟨w.heap.size, (i + 1) * 2, none⟩) (n - i) dc, .slice (some ⟨g, i * 2, none⟩) (n - i) sc]).run Try.prog W2.drew = .ok (.int .i64 ((n - i : Nat) : Int)) W3 ∧ w.grownBy W3 none ∧ W3.ownsRow base 116 2 (.slice (some ⟨w.heap.size, 0, none⟩) (n + 1) G) (n + 1) (l.take (i * 2) ++ z ++ l.drop (i * 2))) := Lib.hid (fun ty => by
    rw [show (n : Int) + 1 - i = ((n + 1 - i : Nat) : Int) by omega]
    refine ⟨_, hrz ty, fun ty dc => ?_⟩
    have hg1 : (w.drew.alloc (.cells ROW 116)).heap[w.heap.size]? = some (.cells ROW 116 (0, 0)) := heap_alloc_new w.drew _
    have ho1 : ∀ k, k < w.heap.size → (w.drew.alloc (.cells ROW 116)).heap[k]? = w.heap[k]? := fun k hk => Below.heap_alloc w.drew _ k hk
    have hsz1 : w.heap.size < (w.drew.alloc (.cells ROW 116)).heap.size := by simp
    have hvb : vb < w.heap.size := (Array.getElem?_eq_some_iff.1 hv).1
    have hgb : g < w.heap.size := (Array.getElem?_eq_some_iff.1 hg).1
    have hos : (w.drew.alloc (.cells ROW 116)).os = w.os ∧ (w.drew.alloc (.cells ROW 116)).tape = w.tape ∧ (w.drew.alloc (.cells ROW 116)).output = w.output := ⟨rfl, rfl, rfl⟩
    generalize hW1 : w.drew.alloc (.cells ROW 116) = W1 at *
    refine ⟨_, run_copy_rowk W1 24 ty 116 2 Try.underlying24 vnI_size w.heap.size (i * 2) (n + 1 - i) dc ROW hg1 ⟨vb, 0, none⟩ 1 cv 1 z (by simp only [Nat.min_def]; split <;> omega) (by rw [hz]) ?_ (by rw [hz, hRS]; omega) hzone, fun ty dc sc => ?_⟩
    · intro j u hu
      rw [show (⟨vb, 0, none⟩ : Addr).add j = ⟨vb, 0 + j, none⟩ by unfold Addr.add; split <;> simp_all, Nat.zero_add, cell_of_row _ _ _ _ _ (0, 0) ((ho1 vb hvb).trans hv)]
      exact zget hzc hu
    have hg2 := setRow_get W1 w.heap.size ROW 116 (ROW.toList.take (i * 2) ++ z ++ ROW.toList.drop (i * 2 + (z).length)) hg1
    have hr2 := setRow_grown W1 w.heap.size (ROW.toList.take (i * 2) ++ z ++ ROW.toList.drop (i * 2 + (z).length)).toArray
    have hs2 : (ROW.toList.take (i * 2) ++ z ++ ROW.toList.drop (i * 2 + (z).length)).length = G * 2 := by
      simp only [List.length_append, List.length_take, List.length_drop, hz, Array.length_toList, hRS]
      omega
    generalize hW2 : W1.setRow w.heap.size (ROW.toList.take (i * 2) ++ z ++ ROW.toList.drop (i * 2 + (z).length)).toArray = W2 at *
    have ho2 : ∀ k, k < w.heap.size → W2.heap[k]? = w.heap[k]? := fun k hk => (hr2.block k (by omega) (by simp; omega)).trans (ho1 k hk)
    refine ⟨_, run_copy_rowk W2.drew 24 ty 116 2 Try.underlying24 vnI_size w.heap.size ((i + 1) * 2) (n - i) dc _ hg2 ⟨g, i * 2, none⟩ (n - i) sc (n - i) (l.drop (i * 2)) (by simp only [Nat.min_def]; split <;> omega) hdl ?_ (by rw [hdl, List.size_toArray, hs2]; omega) (fun u hu => hcs1 u (List.mem_of_mem_drop hu)), ?_, ?_⟩
    · intro j u hu
      rw [List.getElem?_drop] at hu
      have h1 := hread _ _ hu
      rw [show (⟨g, i * 2, none⟩ : Addr).add j = ⟨g, i * 2 + j, none⟩ by unfold Addr.add; split <;> simp_all]
      rw [← h1]
      exact World.cell?_of_block (ho2 g hgb)
    · have g3 := setRow_grown W2.drew w.heap.size ((ROW.toList.take (i * 2) ++ z ++ ROW.toList.drop (i * 2 + (z).length)).toArray.toList.take ((i + 1) * 2) ++ l.drop (i * 2) ++ (ROW.toList.take (i * 2) ++ z ++ ROW.toList.drop (i * 2 + (z).length)).toArray.toList.drop ((i + 1) * 2 + (l.drop (i * 2)).length)).toArray
      have hs12 := hr2.size
      exact ⟨g3.os.trans (hr2.os.trans hos.1), g3.tape.trans (hr2.tape.trans hos.2.1), g3.output.trans (hr2.output.trans hos.2.2), Nat.le_trans (show w.heap.size ≤ W2.heap.size by omega) g3.size, fun k hk _ => (g3.block k (by show k < W2.heap.size; omega) (by simp; omega)).trans (ho2 k hk)⟩
    · refine ⟨by simp only [List.length_append, List.length_take, hz, hdl, hlen]; omega, .inr ⟨w.heap.size, G, _, rfl, hbw, setRow_get W2.drew w.heap.size _ _ _ hg2, hge, hle, ?_, ?_⟩⟩
      · simp only [List.size_toArray, List.length_append, List.length_take, List.length_drop, hz, Array.length_toList, hRS, hlen]
        omega
      · exact GW)
  have i0' : (0 : Int) ≤ i := by omega
  have i1 : (i : Int) < n := by omega
  have i2 : (i : Int) ≤ n := by omega
  have i3 : (c : Int) < (n : Int) + 1 := by omega
  have i4 : (i : Int) + 1 ≤ (n : Int) + 1 := by omega
  have i5 : (0 : Int) ≤ (i : Int) + 1 := by omega
  have i6 : (n : Int) ≤ 1073741823 := by omega
  have i7 : (i : Int) ≤ c := by omega
  have i8 : (n : Int) + 1 ≤ G := by omega
  have e1 : ((i : Int) == (n : Int)) = false := by simp; omega
  have e2 : decide ((c : Int) < (n : Int) + 1) = true := decide_eq_true i3
  have q1 : ¬ c = i := by omega
  have q2 : ¬ G = i + 1 := by omega
  have q3 : (i : Int) ≤ (n : Int) + 1 := by omega
  have q4 : ¬ G = i := by omega
  have hs : wrap64 ((n : Int) + 1 - i) = (n : Int) + 1 - i := IntWalk.wrap64_in _ ⟨by omega, by omega⟩
  clear h hread hold hik hrz hge hle hG hROW htl hRS hRT hz hdl GW hv hg hcs htake hlen hi0 hz0 hz1 hz2
  obtain ⟨W1, hr1, hc2⟩ := CP.out 24
  clear CP
  have HC2 := Lib.hid hc2
  have HR1 := Lib.hid hr1
  clear hc2 hr1
  go_enter Try.func70, Try.ntmps70
  go_wp2_with (at_builtin; apply stop_here)
  unfold Stop
  refine wpList_append_runY _ rfl _ _ 24 3 rfl _ _ rfl rfl _ _ HR1.out ?_
  obtain ⟨W2, hr2, hc3⟩ := HC2.out 3 (G - i)
  have HC3 := Lib.hid hc3
  clear hc3 HR1 HC2 hs
  go_wp2
  clear hr2
  have ewk : IntKind.i64.wrap ((i : Int) + 1) = (i : Int) + 1 := by rw [IntKind.wrap_i64]; omega
  refine wp_region_tail 8 (by kernel_rfl) (by kernel_rfl) ?_
  simp only [List.take_succ_cons, List.take_zero, List.drop_succ_cons, List.drop_zero]
  repeat still_step
  refine wpStill_nil ?_
  obtain ⟨W3, hr3, hgr, hown⟩ := HC3.out 3 (G - (i + 1)) (c - i)
  have hr3' : ∀ ty dc, (Builtin.copy_ #[24, 24] ty #[.slice (some ⟨w.heap.size, (i + 1) * 2, none⟩) (n + 1 - (i + 1)) dc, .slice (some ⟨g, i * 2, none⟩) (n - i) (c - i)]).run Try.prog W2.drew = (Builtin.copy_ #[24, 24] ty #[.slice (some ⟨w.heap.size, (i + 1) * 2, none⟩) (n - i) dc, .slice (some ⟨g, i * 2, none⟩) (n - i) (c - i)]).run Try.prog W2.drew := fun ty dc => by rw [show n + 1 - (i + 1) = n - i by omega]
  refine wpList_copy_runY _ rfl _ _ 24 24 rfl _ _ rfl rfl _ _ (by first | exact hr3 | exact (hr3' _ _).trans hr3) ?_
  clear hr3 hr3' ewk
  have HH := Lib.hid (And.intro hgr hown)
  clear hgr hown
  go_wp2
  go_returns
  exact ⟨G, rfl, HH.out⟩

/-- slices.Insert of one element. -/
theorem vnI_ins (l : List Value) (hcs1 : ∀ u ∈ l, u.oneCell' = true) (z : List Value) (hz : z.length = 2) (hzone : ∀ u ∈ z, u.oneCell' = true) (a : Option Addr) (n c base vb i cv : Nat) (w0 w : World) (hx0 : Ext w0 w) (hb0 : w0.heap.size ≤ base) (hb : base ≤ w.heap.size) (h : w.ownsRow base 116 2 (.slice a n c) n l) (hn : n ≤ 1073741823) (hi : i ≤ n) (hne : (Value.slice a n c).ownBlock ≠ some vb) (zc : Array Value) (hzc : zc.toList.take 2 = z) (hv : w.heap[vb]? = some (.cells zc 116 (0, 0))) :
    Calls Try.prog 70 #[.slice a n c, .int .i64 i, .slice (some ⟨vb, 0, none⟩) 1 cv] w fun e w' => ∃ b c', e = .returned (.slice b (n + 1) c') ∧ w.grownBy w' (Value.slice a n c).ownBlock ∧ w'.ownsRow base 116 2 (.slice b (n + 1) c') (n + 1) (l.take (i * 2) ++ z ++ l.drop (i * 2)) ∧ ((Value.slice a n c).ownBlock = (Value.slice b (n + 1) c').ownBlock ∨ ∀ k, (Value.slice b (n + 1) c').ownBlock = some k → w.heap.size ≤ k) := by
  rcases Nat.lt_or_ge i n with hlt | hge
  · obtain ⟨g, rfl, hgb⟩ := own_form h (by omega)
    rcases Nat.lt_or_ge c (n + 1) with hc | hc
    · refine (vnI_ins_grow l hcs1 z hz hzone g n c base vb i cv w h hb hn hlt hc zc hzc hv).mono ?_
      rintro e w' ⟨G, rfl, h1, h2⟩
      exact ⟨_, G, rfl, grown_any h1, h2, .inr (fun k hk => Nat.le_of_eq (by simpa [Value.ownBlock] using hk))⟩
    · refine (vnI_ins_room l hcs1 z hz hzone g n c base vb i cv w h hn hlt hc (fun e => hne (by rw [e]; rfl)) zc hzc hv).mono ?_
      rintro e w' ⟨rfl, h1, h2⟩
      exact ⟨_, c, rfl, h1, h2, .inl rfl⟩
  · obtain rfl : i = n := by omega
    have hrd : Rd w 2 1 (.slice (some ⟨vb, 0, none⟩) 1 cv) z := ⟨by rw [hz], _, _, rfl, fun _ => ⟨vb, 0, rfl, fun j u hu => by
      rw [Nat.zero_add, cell_of_row _ _ _ _ _ (0, 0) hv]
      exact zget hzc hu⟩⟩
    refine (vnI_ins_end l hcs1 z hz hzone a i c base vb cv w0 w hx0 hb0 hb h hn hrd).mono ?_
    rintro e w' ⟨b, c', rfl, h1, -, h2, h3⟩
    have e1 : l.take (i * 2) ++ z ++ l.drop (i * 2) = l ++ z := by
      rw [List.take_of_length_le (by rw [h.1]; exact Nat.le_refl _), List.drop_of_length_le (by rw [h.1]; exact Nat.le_refl _), List.append_nil]
    rw [e1]
    exact ⟨b, c', rfl, h1, h2, h3.imp id (fun h k hk => by rw [h] at hk; cases hk; exact Nat.le_refl _)⟩

namespace Dq
def insD_vnI : List S1 → Bt → Nat → MRes × Prop
  | [.c (.lk k n), .c (.int .i64 i), .c (.lk q 1)], bx, d => match gb bx k, gb bx q with
    | some (some o), some (some p) => (⟨.one (.c (.lk d (n + 1))), [q], [(d, some ⟨116, 2, o.l.take i.toNat ++ p.l.take 1 ++ (o.l.take n).drop i.toNat⟩), (k, none)]⟩, k ≠ q ∧ k ≠ d ∧ gb bx d = none ∧ n ≤ o.l.length ∧ n ≤ 1073741823 ∧ 0 ≤ i ∧ i ≤ n ∧ o.e = 116 ∧ o.K = 2 ∧ p.e = 116 ∧ p.K = 2 ∧ 1 ≤ p.l.length)
    | _, _ => (⟨.one .nil, [], []⟩, False)
  | _, _, _ => (⟨.one .nil, [], []⟩, False)
theorem ins_vnI_cal (args : List S1) (bx : Bt) (d : Nat) (h : (insD_vnI args bx d).2) : CalM Try.prog 70 args bx (insD_vnI args bx d).1 := by
  unfold insD_vnI at h ⊢
  split at h
  · next bx d k n i q =>
    split at h
    · next o p hk hq =>
      simp only [hk, hq]
      obtain ⟨hkq, hkd, hd, hn, hn2, hi0, hi1, heT, heK, hpT, hpK, hp1⟩ := h
      obtain ⟨oe, oK, ol⟩ := o
      obtain ⟨pe, pK, pl⟩ := p
      dsimp only at hn heT heK hpT hpK hp1
      subst heT heK hpT hpK
      obtain ⟨i, rfl⟩ := Int.eq_ofNat_of_zero_le hi0
      rw [Int.toNat_natCast]
      refine insM hk hq hkq hkd hd hn (by omega) hp1 (by decide) fun W l hl1 z hz1 hz2 a c vb cv zc h1 h2 h3 h4 => ?_
      exact (vnI_ins l hl1 z hz1 hz2 a n c 0 vb i cv { W with heap := #[] } W (ext_bare W) (Nat.le_refl _) (Nat.zero_le _) h1 hn2 (by omega) h2 zc h3 h4)
    · exact h.elim
  · exact h.elim
end Dq
end Go.Proofs.Ytkmgdejpdhlleaa
