/- slices' functions at []api.Msg, at the level of cells. -/
import Derived.Test.YtlhmifkimnmnmaaRk
namespace Go.Proofs.Ytlhmifkimnmnmaa
set_option linter.unusedSimpArgs false
set_option linter.unusedVariables false
open Go.RowKit

theorem mg_size : (Try.prog.info? 29).map (·.size) = some 10 := by kernel_rfl

theorem mg_info : (Try.prog.info? 29).map (fun i => (i.zero, i.size, i.bytes)) = some (some (.agg #[.int .i64 0, .int .i64 0, .int .i64 0, .int .i64 0, .int .i64 0, .int .i64 0, .int .i64 0, .int .i64 0, .int .i64 0, .int .i64 0]), 10, 80) := by kernel_rfl

theorem mg_zero (w : World) : (zeroValue 29).run Try.prog w = .ok (.agg #[.int .i64 0, .int .i64 0, .int .i64 0, .int .i64 0, .int .i64 0, .int .i64 0, .int .i64 0, .int .i64 0, .int .i64 0, .int .i64 0]) w := by rfl
theorem mg_zc : (Builtin.zeroCells (Value.agg #[.int .i64 0, .int .i64 0, .int .i64 0, .int .i64 0, .int .i64 0, .int .i64 0, .int .i64 0, .int .i64 0, .int .i64 0, .int .i64 0]).cells 1).toList = (Value.agg #[.int .i64 0, .int .i64 0, .int .i64 0, .int .i64 0, .int .i64 0, .int .i64 0, .int .i64 0, .int .i64 0, .int .i64 0, .int .i64 0]).cells.toList := by
  first | (simp [Builtin.zeroCells, Value.cells]; done) | (simp [Builtin.zeroCells, Value.cells, Array.range]; done) | kernel_rfl

/-- What two writes leave of a row's beginning. -/
theorem mg_two_writes {cur xs news z : List Value} {i m : Nat} (hx : cur.take ((m + 1) * 10) = xs) (hl : xs.length = (m + 1) * 10) (hi : i ≤ m) (hnews : news = xs.drop ((i + 1) * 10)) (hz : z.length = 10) :
    ((cur.take (i * 10) ++ news ++ cur.drop (i * 10 + news.length)).take (m * 10) ++ z ++ (cur.take (i * 10) ++ news ++ cur.drop (i * 10 + news.length)).drop (m * 10 + 10)).take (m * 10) = xs.take (i * 10) ++ xs.drop ((i + 1) * 10) := by
  have hcl : (m + 1) * 10 ≤ cur.length := by
    have := congrArg List.length hx
    rw [List.length_take, hl] at this
    omega
  have hnl : news.length = (m - i) * 10 := by rw [hnews, List.length_drop, hl]; omega
  have h1 : (cur.take (i * 10) ++ news ++ cur.drop (i * 10 + news.length)).take (m * 10) = cur.take (i * 10) ++ news := by
    rw [List.take_append_of_le_length (by simp only [List.length_append, List.length_take, hnl]; omega)]
    exact List.take_of_length_le (by simp only [List.length_append, List.length_take, hnl]; omega)
  have h2 : (cur.take (i * 10) ++ news).length = m * 10 := by simp only [List.length_append, List.length_take, hnl]; omega
  rw [h1, List.append_assoc, List.take_append_of_le_length (by rw [h2]; exact Nat.le_refl _), List.take_of_length_le (by rw [h2]; exact Nat.le_refl _), hnews, ← hx, List.take_take, Nat.min_eq_left (by omega)]
/-- slices.Delete of one element. -/
theorem mg_del_any (l : List Value) (hcs1 : ∀ u ∈ l, u.oneCell' = true) (g cap m i : Nat) (base : Nat) (w : World) (h : w.ownsRow base 29 10 (.slice (some ⟨g, 0, none⟩) (m + 1) cap) (m + 1) l) (hi : i < m + 1) (hn : m ≤ 1073741824) :
    Calls Try.prog 27 #[.slice (some ⟨g, 0, none⟩) (m + 1) cap, .int .i64 i, .int .i64 ((i : Int) + 1)] w fun e w' => e = .returned (.slice (some ⟨g, 0, none⟩) m cap) ∧ w.grownBy w' (some g) ∧ w'.ownsRow base 29 10 (.slice (some ⟨g, 0, none⟩) m cap) m (l.take (i * 10) ++ l.drop ((i + 1) * 10)) := by
  obtain ⟨-, hb, hnc, hcm, hlen, cur, hg, hcs, htake⟩ := own_parts h
  have i0 : (0 : Int) ≤ i := by omega
  have i1 : (i : Int) < (m : Int) + 1 := by omega
  have i2 : (i : Int) ≤ cap := by omega
  have i3 : (i : Int) + 1 ≤ (m : Int) + 1 := by omega
  have i4 : (m : Int) + 1 ≤ cap := by omega
  have e1 : ((i : Int) == (i : Int) + 1) = false := by simp; omega
  have i5 : (0 : Int) ≤ (i : Int) + 1 := by omega
  have HG := Lib.hid hg
  have hread : ∀ j u, (l.drop ((i + 1) * 10))[j]? = some u → w.drew.cell? ((⟨g, (i + 1) * 10, none⟩ : Addr).add j) = some u := fun j u hu => by
    rw [List.getElem?_drop] at hu
    have := h.cells (g := g) rfl _ _ hu
    rw [show (⟨g, 0, none⟩ : Addr).add ((i + 1) * 10 + j) = ⟨g, 0 + ((i + 1) * 10 + j), none⟩ by unfold Addr.add; split <;> simp_all] at this
    rw [show (⟨g, (i + 1) * 10, none⟩ : Addr).add j = ⟨g, (i + 1) * 10 + j, none⟩ by unfold Addr.add; split <;> simp_all]
    rw [Nat.zero_add] at this
    exact this
  have hnl : (l.drop ((i + 1) * 10)).length = (m - i) * 10 := by rw [List.length_drop, hlen]; omega
  have hone : ∀ u ∈ l.drop ((i + 1) * 10), u.oneCell' = true := fun u hu => hcs1 u (List.mem_of_mem_drop hu)
  have him : i + (m - i) = m := by omega
  have HRUN : Hid (∀ ty ao c, (0 < m - i → ao = some ⟨g, (i + 1) * 10, none⟩) → (Builtin.append_ #[32, 32] ty #[.slice (some ⟨g, 0, none⟩) i cap, .slice ao (m - i) c]).run Try.prog w.drew = .ok (.slice (some ⟨g, 0, none⟩) m cap) (w.drew.setRow g (cur.toList.take (i * 10) ++ l.drop ((i + 1) * 10) ++ cur.toList.drop (i * 10 + (l.drop ((i + 1) * 10)).length)).toArray)) := Lib.hid (fun ty ao c hao => by
    have := run_app_row w.drew 32 ty 29 10 Try.underlying32 mg_size g cap i cur hg ao (m - i) c (l.drop ((i + 1) * 10)) hnl (fun h0 => ⟨_, hao h0, hread⟩) hone (by omega) (by rw [hnl, hcs]; omega)
    rwa [him] at this)
  have m0 : (0 : Int) ≤ m := by omega
  have m1 : (m : Int) ≤ (m : Int) + 1 := by omega
  have m2 : ¬ cap = m := by omega
  have TW := Lib.hid (mg_two_writes (z := [.int .i64 0, .int .i64 0, .int .i64 0, .int .i64 0, .int .i64 0, .int .i64 0, .int .i64 0, .int .i64 0, .int .i64 0, .int .i64 0]) htake hlen (show i ≤ m by omega) rfl rfl)
  have fin : ∀ W : World, W = (w.drew.setRow g (cur.toList.take (i * 10) ++ l.drop ((i + 1) * 10) ++ cur.toList.drop (i * 10 + (l.drop ((i + 1) * 10)).length)).toArray) → ∀ ty c, ∃ W', (Builtin.clear_ #[32] ty #[.slice (some ⟨g, m * 10, none⟩) 1 c]).run Try.prog W = .ok (.tuple #[]) W' ∧ w.grownBy W' (some g) ∧ W'.ownsRow base 29 10 (.slice (some ⟨g, 0, none⟩) m cap) m (l.take (i * 10) ++ l.drop ((i + 1) * 10)) := fun W hW ty c => by
    have hg1 := setRow_get w.drew g cur 29 (cur.toList.take (i * 10) ++ l.drop ((i + 1) * 10) ++ cur.toList.drop (i * 10 + (l.drop ((i + 1) * 10)).length)) hg
    rw [← hW] at hg1
    have hs1 : (cur.toList.take (i * 10) ++ l.drop ((i + 1) * 10) ++ cur.toList.drop (i * 10 + (l.drop ((i + 1) * 10)).length)).length = cap * 10 := by
      simp only [List.length_append, List.length_take, List.length_drop, Array.length_toList, hcs, hlen]
      omega
    have hr := run_clear_one W 32 ty 29 _ 10 Try.underlying32 mg_zero rfl mg_zc (by decide) g (m * 10) c _ hg1 (by simp only [List.size_toArray, hs1]; omega)
    refine ⟨_, hr, ?_, ?_⟩
    · have g1 := setRow_grown w.drew g (cur.toList.take (i * 10) ++ l.drop ((i + 1) * 10) ++ cur.toList.drop (i * 10 + (l.drop ((i + 1) * 10)).length)).toArray
      rw [← hW] at g1
      have g2 := setRow_grown W g ((cur.toList.take (i * 10) ++ l.drop ((i + 1) * 10) ++ cur.toList.drop (i * 10 + (l.drop ((i + 1) * 10)).length)).toArray.toList.take (m * 10) ++ (Value.agg #[.int .i64 0, .int .i64 0, .int .i64 0, .int .i64 0, .int .i64 0, .int .i64 0, .int .i64 0, .int .i64 0, .int .i64 0, .int .i64 0]).cells.toList ++ (cur.toList.take (i * 10) ++ l.drop ((i + 1) * 10) ++ cur.toList.drop (i * 10 + (l.drop ((i + 1) * 10)).length)).toArray.toList.drop (m * 10 + 10)).toArray
      exact ⟨g2.os.trans g1.os, g2.tape.trans g1.tape, g2.output.trans g1.output, Nat.le_trans g1.size g2.size, fun k hk hne => (g2.block k (Nat.lt_of_lt_of_le hk g1.size) hne).trans (g1.block k hk hne)⟩
    · refine ⟨by rw [List.length_append, List.length_take, List.length_drop, hlen]; omega, .inr ⟨g, cap, _, rfl, hb, setRow_get W g _ _ _ hg1, by omega, hcm, ?_, ?_⟩⟩
      · have hz3 : (Value.agg #[.int .i64 0, .int .i64 0, .int .i64 0, .int .i64 0, .int .i64 0, .int .i64 0, .int .i64 0, .int .i64 0, .int .i64 0, .int .i64 0]).cells.toList.length = 10 := rfl
        simp only [List.size_toArray, List.length_append, List.length_take, List.length_drop, hz3, Array.length_toList, hcs, hlen]
        omega
      · exact TW.out
  have FIN := Lib.hid fin
  have HRUN2 : Hid (∀ ty ao c, (0 < m - i → ao = some ⟨g, (i + 1) * 10, none⟩) → ∃ W, (Builtin.append_ #[32, 32] ty #[.slice (some ⟨g, 0, none⟩) i cap, .slice ao (m - i) c]).run Try.prog w.drew = .ok (.slice (some ⟨g, 0, none⟩) m cap) W ∧ ∀ ty c, ∃ W', (Builtin.clear_ #[32] ty #[.slice (some ⟨g, m * 10, none⟩) 1 c]).run Try.prog W = .ok (.tuple #[]) W' ∧ w.grownBy W' (some g) ∧ W'.ownsRow base 29 10 (.slice (some ⟨g, 0, none⟩) m cap) m (l.take (i * 10) ++ l.drop ((i + 1) * 10))) := Lib.hid (fun ty ao c h => ⟨_, HRUN.out ty ao c h, FIN.out _ rfl⟩)
  clear h fin hread hnl hone hg HRUN FIN TW htake hcs
  by_cases hq : cap = i + 1
  · obtain rfl : i = m := by omega
    subst hq
    simp only [Nat.sub_self] at HRUN2
    go_enter Try.func27, Try.ntmps27
    go_wp2
    refine wp_region_tail 6 (by kernel_rfl) (by kernel_rfl) ?_
    simp only [List.take_succ_cons, List.take_zero, List.drop_succ_cons, List.drop_zero]
    repeat still_step
    refine wpStill_nil ?_
    go_wp2_with (at_builtin; apply stop_here)
    unfold Stop
    obtain ⟨W, hr, hc⟩ := HRUN2.out 32 (some ⟨g, 0, none⟩) (0) (fun h => absurd h (by simp))
    clear HRUN2
    refine wpList_append_runY _ rfl _ _ 32 32 rfl _ _ rfl rfl _ _ hr ?_
    clear hr
    obtain ⟨W', hcl, hgr, hown⟩ := hc 0 (1)
    have HH := Lib.hid (And.intro hgr hown)
    clear hgr hown hc
    go_wp2
    go_returns
    exact ⟨rfl, HH.out⟩
  · have hq' : ¬ (cap : Int) = (i : Int) + 1 := by omega
    go_enter Try.func27, Try.ntmps27
    go_wp2
    refine wp_region_tail 6 (by kernel_rfl) (by kernel_rfl) ?_
    simp only [List.take_succ_cons, List.take_zero, List.drop_succ_cons, List.drop_zero]
    repeat still_step
    refine wpStill_nil ?_
    go_wp2_with (at_builtin; apply stop_here)
    unfold Stop
    obtain ⟨W, hr, hc⟩ := HRUN2.out 32 (some ⟨g, (i + 1) * 10, none⟩) (cap - (i + 1)) (fun _ => rfl)
    clear HRUN2
    refine wpList_append_runY _ rfl _ _ 32 32 rfl _ _ rfl rfl _ _ hr ?_
    clear hr
    obtain ⟨W', hcl, hgr, hown⟩ := hc 0 (cap - m)
    have HH := Lib.hid (And.intro hgr hown)
    clear hgr hown hc
    go_wp2
    go_returns
    exact ⟨rfl, HH.out⟩

theorem info_mg : (Try.prog.info? 29).map (fun i => (i.zero, i.size, i.bytes)) = some (some (.agg #[.int .i64 0, .int .i64 0, .int .i64 0, .int .i64 0, .int .i64 0, .int .i64 0, .int .i64 0, .int .i64 0, .int .i64 0, .int .i64 0]), 10, 80) := by kernel_rfl

theorem clone_mg (v : Value) (n : Nat) (cs : List Value) (w : World) (h : Rd w 10 n v cs) (hl : n ≤ 1073741824) (hone : ∀ u ∈ cs, u.oneCell' = true) :
    Calls Try.prog 30 #[v] w fun e w' => ∃ v', e = .returned v' ∧ Ext w w' ∧ w'.ownsRow w.heap.size 29 10 v' n cs := by
  have q : ∀ (w : World) (a : Option Addr) (n c n' c' : Nat), (binOp .eql 32 (.slice a n c) (.slice none n' c')).run Try.prog w = .ok (.bool a.isNone) w := fun w a n c n' c' => Lib.run_eql_slice_nil w _ _ a n c n' c' Try.underlying32
  have q' : (binOp .eql 32 (.slice none 0 0) (.slice none 0 0)).run Try.prog w = .ok (.bool true) w := q w none 0 0 0 0
  obtain ⟨a, cap, rfl⟩ := h.form
  rcases Nat.eq_zero_or_pos n with h0 | h0
  · subst h0
    obtain rfl : cs = [] := by simpa using h.len
    cases a with
    | none =>
      go_enter Try.func30, Try.ntmps30
      go_wp2
      all_goals (go_ret; exact ⟨_, rfl, by (repeat' (first | with_reducible exact Ext.refl _ | with_reducible refine Ext.ext ?_ _ | with_reducible refine Ext.alloc ?_ _ | with_reducible refine Ext.drew ?_ | with_reducible refine Ext.drewN ?_ _ | with_reducible assumption)), World.ownsRow_nil _ _ _ _⟩)
    | some ad =>
      obtain ⟨i0, hi0, hz0, hz1, hz2⟩ := info_parts info_mg
      go_enter Try.func30, Try.ntmps30
      go_wp2_with (at_builtin; refine wpList_append_own _ rfl _ _ 32 rfl w.heap.size 29 i0 _ 10 80 Try.underlying32 hi0 hz0 hz1 hz2 rfl (by decide) _ 0 [] rfl (World.ownsRow_made w #[] 0 (Nat.le_refl _) (by decide) (by simp)) ad 0 cap [] rfl (by simp) (by simp) (by simp) (by decide) (by decide) (by simp) ?_; intro v' w1 hown1 hgrow1 hnil1)
      go_ret
      refine ⟨_, rfl, Ext.grown (by (repeat' (first | with_reducible exact Ext.refl _ | with_reducible refine Ext.ext ?_ _ | with_reducible refine Ext.alloc ?_ _ | with_reducible refine Ext.drew ?_ | with_reducible refine Ext.drewN ?_ _ | with_reducible assumption))) hgrow1 (fun k hk => Nat.le_of_eq (Option.some.inj hk)), by simpa using hown1⟩
  · obtain ⟨b, off, rfl, hc⟩ := h.cells h0
    have HC := Lib.hid hc
    have HH := Lib.hid h
    have HO := Lib.hid hone
    clear hc h hone
    go_enter Try.func30, Try.ntmps30
    go_wp2_with (at_builtin; refine wpList_pushS rfl _ _ 32 rfl 29 (.agg #[.int .i64 0, .int .i64 0, .int .i64 0, .int .i64 0, .int .i64 0, .int .i64 0, .int .i64 0, .int .i64 0, .int .i64 0, .int .i64 0]) 10 80 Try.underlying32 info_mg rfl (by decide) w _ (by (repeat' (first | with_reducible exact Ext.refl _ | with_reducible refine Ext.ext ?_ _ | with_reducible refine Ext.alloc ?_ _ | with_reducible refine Ext.drew ?_ | with_reducible refine Ext.drewN ?_ _ | with_reducible assumption))) w.heap.size _ 0 [] (World.ownsRow_made w #[] 0 (Nat.le_refl _) (by decide) (by simp)) n _ cs rfl rfl (HH.out.of_ext (by (repeat' (first | with_reducible exact Ext.refl _ | with_reducible refine Ext.ext ?_ _ | with_reducible refine Ext.alloc ?_ _ | with_reducible refine Ext.drew ?_ | with_reducible refine Ext.drewN ?_ _ | with_reducible assumption)))) HO.out h0 (by unfold maxLen; omega) (by omega) (by simp) (Nat.le_refl _) ?_; intro g cap1 y hown1 hgrow1 hat)
    go_ret
    simp only [Nat.zero_add, List.nil_append] at hown1 ⊢
    exact ⟨_, rfl, by (repeat' (first | with_reducible exact Ext.refl _ | with_reducible refine Ext.ext ?_ _ | with_reducible refine Ext.alloc ?_ _ | with_reducible refine Ext.drew ?_ | with_reducible refine Ext.drewN ?_ _ | with_reducible assumption)), hown1⟩

end Go.Proofs.Ytlhmifkimnmnmaa
