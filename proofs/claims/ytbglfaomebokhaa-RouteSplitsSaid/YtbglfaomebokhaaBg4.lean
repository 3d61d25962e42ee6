/- Rows of the call's own: copy, append where there is room, clear, elements of any size. No program in sight. slices.Delete. -/
import Derived.Test.YtbglfaomebokhaaBg3
import Derived.Laws.CopyRow
namespace Go.Proofs.Ytbglfaomebokhaa
set_option linter.unusedSimpArgs false
set_option linter.unusedVariables false
open Go.RowKit

section
variable {P : Program}
theorem run_app_row (w : World) (t ty e : TypeId) (k : Nat) (ht : P.underlying t = some (.slice e)) (hk : (P.info? e).map (·.size) = some k) (g cap i : Nat) (cur : Array Value) (hg : w.heap[g]? = some (.cells cur e (0, 0))) (ao : Option Addr) (m c : Nat) (news : List Value)
    (hl : news.length = m * k) (hx : 0 < m → ∃ a, ao = some a ∧ ∀ j u, news[j]? = some u → w.cell? (a.add j) = some u) (h1 : ∀ u ∈ news, u.oneCell' = true) (hroom : i + m ≤ cap) (hfit : i * k + news.length ≤ cur.size) :
    (Builtin.append_ #[t, t] ty #[.slice (some ⟨g, 0, none⟩) i cap, .slice ao m c]).run P w = .ok (.slice (some ⟨g, 0, none⟩) (i + m) cap) (w.setRow g (cur.toList.take (i * k) ++ news ++ cur.toList.drop (i * k + news.length)).toArray) := by
  obtain ⟨ti, hti, hts⟩ := Option.map_eq_some_iff.1 hk
  have hst := run_storeCells_at P g (i * k) e news 0 cur w hg (by simpa using hfit) h1
  simp only [Nat.add_zero] at hst
  have hadd : (⟨g, 0, none⟩ : Addr).add (i * k) = ⟨g, i * k, none⟩ := by rw [show (⟨g, 0, none⟩ : Addr).add (i * k) = ⟨g, 0 + i * k, none⟩ by unfold Addr.add; split <;> simp_all, Nat.zero_add]
  rcases Nat.eq_zero_or_pos m with h0 | h0
  · subst h0
    obtain rfl : news = [] := by simpa using hl
    have hs0 : w.setRow g (cur.toList.take (i * k) ++ [] ++ cur.toList.drop (i * k + ([] : List Value).length)).toArray = w := by
      simp only [List.append_nil, List.length_nil, Nat.add_zero, List.take_append_drop, Array.toArray_toList]
      exact setRow_self w g cur e (0, 0) hg
    rw [hs0]
    cases ao with
    | none => simp [Builtin.append_, run_underlying ht, sizeOf, typeInfo, hti, hts, Builtin.lenOf, Builtin.firstCells, show i ≤ cap by omega, storeCells]
    | some a =>
      have hll := run_loadCells_list (P := P) w a [] (fun j u hu => by simp at hu)
      simp only [List.length_nil] at hll
      simp [Builtin.append_, run_underlying ht, sizeOf, typeInfo, hti, hts, Builtin.lenOf, Builtin.firstCells, show i ≤ cap by omega, storeCells, hll]
  · obtain ⟨a, rfl, hc⟩ := hx h0
    have hll := run_loadCells_list (P := P) w a news hc
    rw [hl] at hll
    simp [Builtin.append_, run_underlying ht, sizeOf, typeInfo, hti, hts, Builtin.lenOf, Builtin.firstCells, hroom, hll, hadd, hst]
theorem run_copy_rowk (w : World) (t ty e : TypeId) (k : Nat) (ht : P.underlying t = some (.slice e)) (hk : (P.info? e).map (·.size) = some k) (g d dLen dCap : Nat) (cur : Array Value) (hg : w.heap[g]? = some (.cells cur e (0, 0))) (a : Addr) (sLen sCap m : Nat) (cs : List Value)
    (hm : Nat.min sLen dLen = m) (hl : cs.length = m * k) (hsrc : ∀ j v, cs[j]? = some v → w.cell? (a.add j) = some v) (hfit : d + cs.length ≤ cur.size) (h1 : ∀ v ∈ cs, v.oneCell' = true) :
    (Builtin.copy_ #[t, t] ty #[.slice (some ⟨g, d, none⟩) dLen dCap, .slice (some a) sLen sCap]).run P w = .ok (goInt m) (w.setRow g (cur.toList.take d ++ cs ++ cur.toList.drop (d + cs.length)).toArray) := by
  obtain ⟨ti, hti, hts⟩ := Option.map_eq_some_iff.1 hk
  have hll := run_loadCells_list (P := P) w a cs hsrc
  rw [hl] at hll
  have hst := run_storeCells_at P g d e cs 0 cur w hg (by simpa using hfit) h1
  simp only [Nat.add_zero] at hst
  simp [Builtin.copy_, run_underlying ht, Builtin.lenOf, Builtin.firstCells, sizeOf, typeInfo, hti, hts, hm, hll, hst]
theorem run_clear_one (w : World) (t ty e : TypeId) (z : Value) (k : Nat) (ht : P.underlying t = some (.slice e)) (hz : ∀ w, (zeroValue e).run P w = .ok z w) (hzs : z.cells.size = k) (hzc : (Builtin.zeroCells z.cells 1).toList = z.cells.toList) (hone : ∀ v ∈ z.cells.toList, v.oneCell' = true) (g d c : Nat) (cur : Array Value) (hg : w.heap[g]? = some (.cells cur e (0, 0))) (hfit : d + k ≤ cur.size) :
    (Builtin.clear_ #[t] ty #[.slice (some ⟨g, d, none⟩) 1 c]).run P w = .ok (.tuple #[]) (w.setRow g (cur.toList.take d ++ z.cells.toList ++ cur.toList.drop (d + k)).toArray) := by
  have hst := run_storeCells_at P g d e z.cells.toList 0 cur w hg (by simpa [hzs] using hfit) hone
  simp only [Nat.add_zero, Array.length_toList, hzs] at hst
  simp [Builtin.clear_, run_underlying ht, hz, hzc, hst]
variable {ops : Array Oper} {rest : List Oper} {o : Oper} {a : Act} {Q : Exit → Act → World → Prop}
theorem wpList_append_runY (w : World) (hgd : o.guard = none) (s x : Operand) (t tn : TypeId) (ho : o.op = .call { callee := .builtin .append, args := #[s, x], argTypes := #[t, tn] }) (vs vx : Value) (hs : a.eval s = vs) (hx : a.eval x = vx)
    (v' : Value) (w' : World) (hr : (Builtin.append_ #[t, tn] o.type #[vs, vx]).run P w = .ok v' w') (h : wpList P ops Q rest (a.put o.dst v') w') : wpList P ops Q (o :: rest) a w := by
  refine wpList_plain hgd fun K hK => ?_
  unfold Oper.wp execOp
  simp only [ho, resolve, invoke, builtin, Sem.run_bind, Sem.run_pure, Result.andThen_ok, List.map_toArray, List.map_cons, List.map_nil, hs, hx, hr]
  exact hK _ _ h
theorem wpList_copy_runY (w : World) (hgd : o.guard = none) (s x : Operand) (t tn : TypeId) (ho : o.op = .call { callee := .builtin .copy, args := #[s, x], argTypes := #[t, tn] }) (vs vx : Value) (hs : a.eval s = vs) (hx : a.eval x = vx)
    (v' : Value) (w' : World) (hr : (Builtin.copy_ #[t, tn] o.type #[vs, vx]).run P w = .ok v' w') (h : wpList P ops Q rest (a.put o.dst v') w') : wpList P ops Q (o :: rest) a w := by
  refine wpList_plain hgd fun K hK => ?_
  unfold Oper.wp execOp
  simp only [ho, resolve, invoke, builtin, Sem.run_bind, Sem.run_pure, Result.andThen_ok, List.map_toArray, List.map_cons, List.map_nil, hs, hx, hr]
  exact hK _ _ h
theorem wpList_clear_runY (w : World) (hgd : o.guard = none) (x : Operand) (t : TypeId) (ho : o.op = .call { callee := .builtin .clear, args := #[x], argTypes := #[t] }) (vx : Value) (hx : a.eval x = vx)
    (v' : Value) (w' : World) (hr : (Builtin.clear_ #[t] o.type #[vx]).run P w = .ok v' w') (h : wpList P ops Q rest (a.put o.dst v') w') : wpList P ops Q (o :: rest) a w := by
  refine wpList_plain hgd fun K hK => ?_
  unfold Oper.wp execOp
  simp only [ho, resolve, invoke, builtin, Sem.run_bind, Sem.run_pure, Result.andThen_ok, List.map_toArray, List.map_cons, List.map_nil, hx, hr]
  exact hK _ _ h
end
theorem setRow_grown (w : World) (g : Nat) (cur : Array Value) : w.grownBy (w.setRow g cur) (some g) :=
  ⟨rfl, rfl, rfl, by simp [World.setRow], fun k _ hk => setRow_other _ g k _ (fun e => hk (by rw [e]))⟩
theorem info_item : (Try.prog.info? 30).map (·.size) = some 3 := by kernel_rfl
theorem own_parts {w : World} {b : Nat} {e : TypeId} {k n m c g : Nat} {xs : List Value} (h : w.ownsRow b e k (.slice (some ⟨g, 0, none⟩) m c) n xs) : m = n ∧ b ≤ g ∧ n ≤ c ∧ c ≤ maxLen ∧ xs.length = n * k ∧ ∃ cur : Array Value, w.heap[g]? = some (.cells cur e (0, 0)) ∧ cur.size = c * k ∧ cur.toList.take (n * k) = xs := by
  obtain ⟨h1, h2⟩ := h
  rcases h2 with ⟨h2, _⟩ | ⟨g', cap, cur, hv, hg, hh, hnc, hcm, hcs, htake⟩
  · cases h2
  · obtain ⟨hg', rfl, rfl⟩ := Value.slice.inj hv
    obtain rfl : g = g' := by simpa using hg'
    exact ⟨rfl, hg, hnc, hcm, h1, cur, hh, hcs, htake⟩
theorem its_take : ∀ (l : List It) (m : Nat), its (l.take m) = (its l).take (m * 3)
  | [], m => by simp [its]
  | a :: l, 0 => by simp [its]
  | a :: l, m + 1 => by
    rw [show (m + 1) * 3 = m * 3 + 1 + 1 + 1 by omega]
    simp only [List.take_succ_cons, its, its_take l m]
theorem its_drop : ∀ (l : List It) (m : Nat), its (l.drop m) = (its l).drop (m * 3)
  | [], m => by simp [its]
  | a :: l, 0 => by simp
  | a :: l, m + 1 => by
    rw [show (m + 1) * 3 = m * 3 + 1 + 1 + 1 by omega]
    simp only [List.drop_succ_cons, its, its_drop l m]
theorem its_erase (l : List It) (i : Nat) : its (l.eraseIdx i) = (its l).take (i * 3) ++ (its l).drop ((i + 1) * 3) := by
  rw [List.eraseIdx_eq_take_drop_succ, its_append, its_take, its_drop]
theorem item_zero (w : World) : (zeroValue 30).run Try.prog w = .ok (.agg #[.int .i64 0, .int .i64 0, .int .i64 0]) w := by rfl
theorem item_zc : (Builtin.zeroCells (Value.agg #[.int .i64 0, .int .i64 0, .int .i64 0]).cells 1).toList = (Value.agg #[.int .i64 0, .int .i64 0, .int .i64 0]).cells.toList := by
  first | (simp [Builtin.zeroCells, Value.cells]; done) | (simp [Builtin.zeroCells, Value.cells, Array.range]; done) | kernel_rfl
theorem setRow_get (w : World) (g : Nat) (cur : Array Value) (e : TypeId) (c : List Value) (hg : w.heap[g]? = some (.cells cur e (0, 0))) : (w.setRow g c.toArray).heap[g]? = some (.cells c.toArray e (0, 0)) := setRow_heap w g cur c.toArray e (0, 0) hg
/-- What two writes leave of a row's beginning. -/
theorem two_writes {cur xs news z : List Value} {i m : Nat} (hx : cur.take ((m + 1) * 3) = xs) (hl : xs.length = (m + 1) * 3) (hi : i ≤ m) (hnews : news = xs.drop ((i + 1) * 3)) (hz : z.length = 3) :
    ((cur.take (i * 3) ++ news ++ cur.drop (i * 3 + news.length)).take (m * 3) ++ z ++ (cur.take (i * 3) ++ news ++ cur.drop (i * 3 + news.length)).drop (m * 3 + 3)).take (m * 3) = xs.take (i * 3) ++ xs.drop ((i + 1) * 3) := by
  have hcl : (m + 1) * 3 ≤ cur.length := by
    have := congrArg List.length hx
    rw [List.length_take, hl] at this
    omega
  have hnl : news.length = (m - i) * 3 := by rw [hnews, List.length_drop, hl]; omega
  have h1 : (cur.take (i * 3) ++ news ++ cur.drop (i * 3 + news.length)).take (m * 3) = cur.take (i * 3) ++ news := by
    rw [List.take_append_of_le_length (by simp only [List.length_append, List.length_take, hnl]; omega)]
    exact List.take_of_length_le (by simp only [List.length_append, List.length_take, hnl]; omega)
  have h2 : (cur.take (i * 3) ++ news).length = m * 3 := by simp only [List.length_append, List.length_take, hnl]; omega
  rw [h1, List.append_assoc, List.take_append_of_le_length (by rw [h2]; exact Nat.le_refl _), List.take_of_length_le (by rw [h2]; exact Nat.le_refl _), hnews, ← hx, List.take_take, Nat.min_eq_left (by omega)]
/-- slices.Delete of one element. -/
theorem del_any (l : List It) (g cap m i : Nat) (base : Nat) (w : World) (h : w.ownsRow base 30 3 (.slice (some ⟨g, 0, none⟩) (m + 1) cap) (m + 1) (its l)) (hi : i < m + 1) (hn : m ≤ 1073741824) :
    Calls Try.prog 53 #[.slice (some ⟨g, 0, none⟩) (m + 1) cap, .int .i64 i, .int .i64 ((i : Int) + 1)] w fun e w' => e = .returned (.slice (some ⟨g, 0, none⟩) m cap) ∧ w.grownBy w' (some g) ∧ w'.ownsRow base 30 3 (.slice (some ⟨g, 0, none⟩) m cap) m (its (l.eraseIdx i)) := by
  obtain ⟨-, hb, hnc, hcm, hlen, cur, hg, hcs, htake⟩ := own_parts h
  have i0 : (0 : Int) ≤ i := by omega
  have i1 : (i : Int) < (m : Int) + 1 := by omega
  have i2 : (i : Int) ≤ cap := by omega
  have i3 : (i : Int) + 1 ≤ (m : Int) + 1 := by omega
  have i4 : (m : Int) + 1 ≤ cap := by omega
  have e1 : ((i : Int) == (i : Int) + 1) = false := by simp; omega
  have i5 : (0 : Int) ≤ (i : Int) + 1 := by omega
  have HG := Lib.hid hg
  have hread : ∀ j u, ((its l).drop ((i + 1) * 3))[j]? = some u → w.drew.cell? ((⟨g, (i + 1) * 3, none⟩ : Addr).add j) = some u := fun j u hu => by
    rw [List.getElem?_drop] at hu
    have := h.cells (g := g) rfl _ _ hu
    rw [show (⟨g, 0, none⟩ : Addr).add ((i + 1) * 3 + j) = ⟨g, 0 + ((i + 1) * 3 + j), none⟩ by unfold Addr.add; split <;> simp_all] at this
    rw [show (⟨g, (i + 1) * 3, none⟩ : Addr).add j = ⟨g, (i + 1) * 3 + j, none⟩ by unfold Addr.add; split <;> simp_all]
    rw [Nat.zero_add] at this
    exact this
  have hnl : ((its l).drop ((i + 1) * 3)).length = (m - i) * 3 := by rw [List.length_drop, hlen]; omega
  have hone : ∀ u ∈ (its l).drop ((i + 1) * 3), u.oneCell' = true := fun u hu => its_one l u (List.mem_of_mem_drop hu)
  have him : i + (m - i) = m := by omega
  have HRUN : Hid (∀ ty ao c, (0 < m - i → ao = some ⟨g, (i + 1) * 3, none⟩) → (Builtin.append_ #[22, 22] ty #[.slice (some ⟨g, 0, none⟩) i cap, .slice ao (m - i) c]).run Try.prog w.drew = .ok (.slice (some ⟨g, 0, none⟩) m cap) (w.drew.setRow g (cur.toList.take (i * 3) ++ (its l).drop ((i + 1) * 3) ++ cur.toList.drop (i * 3 + ((its l).drop ((i + 1) * 3)).length)).toArray)) := Lib.hid (fun ty ao c hao => by
    have := run_app_row w.drew 22 ty 30 3 Try.underlying22 info_item g cap i cur hg ao (m - i) c ((its l).drop ((i + 1) * 3)) hnl (fun h0 => ⟨_, hao h0, hread⟩) hone (by omega) (by rw [hnl, hcs]; omega)
    rwa [him] at this)
  have m0 : (0 : Int) ≤ m := by omega
  have m1 : (m : Int) ≤ (m : Int) + 1 := by omega
  have m2 : ¬ cap = m := by omega
  have TW := Lib.hid (two_writes (z := [.int .i64 0, .int .i64 0, .int .i64 0]) htake hlen (show i ≤ m by omega) rfl rfl)
  have fin : ∀ W : World, W = (w.drew.setRow g (cur.toList.take (i * 3) ++ (its l).drop ((i + 1) * 3) ++ cur.toList.drop (i * 3 + ((its l).drop ((i + 1) * 3)).length)).toArray) → ∀ ty c, ∃ W', (Builtin.clear_ #[22] ty #[.slice (some ⟨g, m * 3, none⟩) 1 c]).run Try.prog W = .ok (.tuple #[]) W' ∧ w.grownBy W' (some g) ∧ W'.ownsRow base 30 3 (.slice (some ⟨g, 0, none⟩) m cap) m (its (l.eraseIdx i)) := fun W hW ty c => by
    have hg1 := setRow_get w.drew g cur 30 (cur.toList.take (i * 3) ++ (its l).drop ((i + 1) * 3) ++ cur.toList.drop (i * 3 + ((its l).drop ((i + 1) * 3)).length)) hg
    rw [← hW] at hg1
    have hs1 : (cur.toList.take (i * 3) ++ (its l).drop ((i + 1) * 3) ++ cur.toList.drop (i * 3 + ((its l).drop ((i + 1) * 3)).length)).length = cap * 3 := by
      simp only [List.length_append, List.length_take, List.length_drop, Array.length_toList, hcs, hlen]
      omega
    have hr := run_clear_one W 22 ty 30 _ 3 Try.underlying22 item_zero rfl item_zc (by decide) g (m * 3) c _ hg1 (by simp only [List.size_toArray, hs1]; omega)
    refine ⟨_, hr, ?_, ?_⟩
    · have g1 := setRow_grown w.drew g (cur.toList.take (i * 3) ++ (its l).drop ((i + 1) * 3) ++ cur.toList.drop (i * 3 + ((its l).drop ((i + 1) * 3)).length)).toArray
      rw [← hW] at g1
      have g2 := setRow_grown W g ((cur.toList.take (i * 3) ++ (its l).drop ((i + 1) * 3) ++ cur.toList.drop (i * 3 + ((its l).drop ((i + 1) * 3)).length)).toArray.toList.take (m * 3) ++ (Value.agg #[.int .i64 0, .int .i64 0, .int .i64 0]).cells.toList ++ (cur.toList.take (i * 3) ++ (its l).drop ((i + 1) * 3) ++ cur.toList.drop (i * 3 + ((its l).drop ((i + 1) * 3)).length)).toArray.toList.drop (m * 3 + 3)).toArray
      exact ⟨g2.os.trans g1.os, g2.tape.trans g1.tape, g2.output.trans g1.output, Nat.le_trans g1.size g2.size, fun k hk hne => (g2.block k (Nat.lt_of_lt_of_le hk g1.size) hne).trans (g1.block k hk hne)⟩
    · refine ⟨by rw [its_erase, List.length_append, List.length_take, List.length_drop, hlen]; omega, .inr ⟨g, cap, _, rfl, hb, setRow_get W g _ _ _ hg1, by omega, hcm, ?_, ?_⟩⟩
      · have hz3 : (Value.agg #[.int .i64 0, .int .i64 0, .int .i64 0]).cells.toList.length = 3 := rfl
        simp only [List.size_toArray, List.length_append, List.length_take, List.length_drop, hz3, Array.length_toList, hcs, hlen]
        omega
      · rw [its_erase]
        exact TW.out
  have FIN := Lib.hid fin
  have HRUN2 : Hid (∀ ty ao c, (0 < m - i → ao = some ⟨g, (i + 1) * 3, none⟩) → ∃ W, (Builtin.append_ #[22, 22] ty #[.slice (some ⟨g, 0, none⟩) i cap, .slice ao (m - i) c]).run Try.prog w.drew = .ok (.slice (some ⟨g, 0, none⟩) m cap) W ∧ ∀ ty c, ∃ W', (Builtin.clear_ #[22] ty #[.slice (some ⟨g, m * 3, none⟩) 1 c]).run Try.prog W = .ok (.tuple #[]) W' ∧ w.grownBy W' (some g) ∧ W'.ownsRow base 30 3 (.slice (some ⟨g, 0, none⟩) m cap) m (its (l.eraseIdx i))) := Lib.hid (fun ty ao c h => ⟨_, HRUN.out ty ao c h, FIN.out _ rfl⟩)
  clear h fin hread hnl hone hg HRUN FIN TW htake hcs
  by_cases hq : cap = i + 1
  · obtain rfl : i = m := by omega
    subst hq
    simp only [Nat.sub_self] at HRUN2
    go_enter Try.func53, Try.ntmps53
    go_wp2
    refine wp_region_tail 6 (by kernel_rfl) (by kernel_rfl) ?_
    simp only [List.take_succ_cons, List.take_zero, List.drop_succ_cons, List.drop_zero]
    repeat still_step
    refine wpStill_nil ?_
    go_wp2_with (at_builtin; apply stop_here)
    unfold Stop
    obtain ⟨W, hr, hc⟩ := HRUN2.out 22 (some ⟨g, 0, none⟩) (0) (fun h => absurd h (by simp))
    clear HRUN2
    refine wpList_append_runY _ rfl _ _ 22 22 rfl _ _ rfl rfl _ _ hr ?_
    clear hr
    obtain ⟨W', hcl, hgr, hown⟩ := hc 0 (1)
    have HH := Lib.hid (And.intro hgr hown)
    clear hgr hown hc
    go_wp2
    go_returns
    exact ⟨rfl, HH.out⟩
  · have hq' : ¬ (cap : Int) = (i : Int) + 1 := by omega
    go_enter Try.func53, Try.ntmps53
    go_wp2
    refine wp_region_tail 6 (by kernel_rfl) (by kernel_rfl) ?_
    simp only [List.take_succ_cons, List.take_zero, List.drop_succ_cons, List.drop_zero]
    repeat still_step
    refine wpStill_nil ?_
    go_wp2_with (at_builtin; apply stop_here)
    unfold Stop
    obtain ⟨W, hr, hc⟩ := HRUN2.out 22 (some ⟨g, (i + 1) * 3, none⟩) (cap - (i + 1)) (fun _ => rfl)
    clear HRUN2
    refine wpList_append_runY _ rfl _ _ 22 22 rfl _ _ rfl rfl _ _ hr ?_
    clear hr
    obtain ⟨W', hcl, hgr, hown⟩ := hc 0 (cap - m)
    have HH := Lib.hid (And.intro hgr hown)
    clear hgr hown hc
    go_wp2
    go_returns
    exact ⟨rfl, HH.out⟩
end Go.Proofs.Ytbglfaomebokhaa
