/- Chain: rows of the call's own; the laws of XBg4. -/
import Derived.Test.YtmngjifcgfnogaaChA
import Derived.Laws.CopyRow
namespace Go.Proofs.Ytmngjifcgfnogaa
set_option linter.unusedSimpArgs false
set_option linter.unusedVariables false
set_option maxRecDepth 100000
open Go.RowKit

section
variable {P : Program}
theorem run_app_row (w : World) (t ty e : TypeId) (k : Nat) (ht : P.underlying t = some (.slice e)) (hk : (P.info? e).map (·.size) = some k) (g cap i : Nat) (cur : Array Value) (hg : w.heap[g]? = some (.cells cur e (0, 0))) (ao : Option Addr) (m c : Nat) (news : List Value)
    (hl : news.length = m * k) (hx : 0 < m → ∃ a, ao = some a ∧ ∀ j u, news[j]? = some u → w.cell? (a.add j) = some u) (h1 : ∀ u ∈ news, u.oneCell' = true) (hroom : i + m ≤ cap) (hfit : i * k + news.length ≤ cur.size) :
    (Builtin.append_ #[t, t] ty #[.slice (some ⟨g, 0, none⟩) i cap, .slice ao m c]).run P w = .ok (.slice (some ⟨g, 0, none⟩) (i + m) cap) (w.setRow g (cur.toList.take (i * k) ++ news ++ cur.toList.drop (i * k + news.length)).toArray) := by
  obtain ⟨ti, hti, hts⟩ := Option.map_eq_some_iff.1 hk
  have hst := run_storeCells_at P g (i * k) e news 0 cur w hg (by simpa using hfit) h1
  simp only [Nat.add_zero] at hst
  have hadd : (⟨g, 0, none⟩ : Addr).add (i * k) = ⟨g, i * k, none⟩ := by rw [show (⟨g, 0, none⟩ : Addr).add (i * k) = ⟨g, 0 + i * k, none⟩ by unfold Addr.add; split <;> simp_all, Nat.zero_add]
  rcases Nat.eq_zero_or_pos m with h0 | h0
  · subst h0
    obtain rfl : news = [] := by simpa using hl
    have hs0 : w.setRow g (cur.toList.take (i * k) ++ [] ++ cur.toList.drop (i * k + ([] : List Value).length)).toArray = w := by
      simp only [List.append_nil, List.length_nil, Nat.add_zero, List.take_append_drop, Array.toArray_toList]
      exact setRow_self w g cur e (0, 0) hg
    rw [hs0]
    cases ao with
    | none => simp [Builtin.append_, run_underlying ht, sizeOf, typeInfo, hti, hts, Builtin.lenOf, Builtin.firstCells, show i ≤ cap by omega, storeCells]
    | some a =>
      have hll := run_loadCells_list (P := P) w a [] (fun j u hu => by simp at hu)
      simp only [List.length_nil] at hll
      simp [Builtin.append_, run_underlying ht, sizeOf, typeInfo, hti, hts, Builtin.lenOf, Builtin.firstCells, show i ≤ cap by omega, storeCells, hll]
  · obtain ⟨a, rfl, hc⟩ := hx h0
    have hll := run_loadCells_list (P := P) w a news hc
    rw [hl] at hll
    simp [Builtin.append_, run_underlying ht, sizeOf, typeInfo, hti, hts, Builtin.lenOf, Builtin.firstCells, hroom, hll, hadd, hst]
theorem run_copy_rowk (w : World) (t ty e : TypeId) (k : Nat) (ht : P.underlying t = some (.slice e)) (hk : (P.info? e).map (·.size) = some k) (g d dLen dCap : Nat) (cur : Array Value) (hg : w.heap[g]? = some (.cells cur e (0, 0))) (a : Addr) (sLen sCap m : Nat) (cs : List Value)
    (hm : Nat.min sLen dLen = m) (hl : cs.length = m * k) (hsrc : ∀ j v, cs[j]? = some v → w.cell? (a.add j) = some v) (hfit : d + cs.length ≤ cur.size) (h1 : ∀ v ∈ cs, v.oneCell' = true) :
    (Builtin.copy_ #[t, t] ty #[.slice (some ⟨g, d, none⟩) dLen dCap, .slice (some a) sLen sCap]).run P w = .ok (goInt m) (w.setRow g (cur.toList.take d ++ cs ++ cur.toList.drop (d + cs.length)).toArray) := by
  obtain ⟨ti, hti, hts⟩ := Option.map_eq_some_iff.1 hk
  have hll := run_loadCells_list (P := P) w a cs hsrc
  rw [hl] at hll
  have hst := run_storeCells_at P g d e cs 0 cur w hg (by simpa using hfit) h1
  simp only [Nat.add_zero] at hst
  simp [Builtin.copy_, run_underlying ht, Builtin.lenOf, Builtin.firstCells, sizeOf, typeInfo, hti, hts, hm, hll, hst]
theorem run_clear_one (w : World) (t ty e : TypeId) (z : Value) (k : Nat) (ht : P.underlying t = some (.slice e)) (hz : ∀ w, (zeroValue e).run P w = .ok z w) (hzs : z.cells.size = k) (hzc : (Builtin.zeroCells z.cells 1).toList = z.cells.toList) (hone : ∀ v ∈ z.cells.toList, v.oneCell' = true) (g d c : Nat) (cur : Array Value) (hg : w.heap[g]? = some (.cells cur e (0, 0))) (hfit : d + k ≤ cur.size) :
    (Builtin.clear_ #[t] ty #[.slice (some ⟨g, d, none⟩) 1 c]).run P w = .ok (.tuple #[]) (w.setRow g (cur.toList.take d ++ z.cells.toList ++ cur.toList.drop (d + k)).toArray) := by
  have hst := run_storeCells_at P g d e z.cells.toList 0 cur w hg (by simpa [hzs] using hfit) hone
  simp only [Nat.add_zero, Array.length_toList, hzs] at hst
  simp [Builtin.clear_, run_underlying ht, hz, hzc, hst]
variable {ops : Array Oper} {rest : List Oper} {o : Oper} {a : Act} {Q : Exit → Act → World → Prop}
theorem wpList_append_runY (w : World) (hgd : o.guard = none) (s x : Operand) (t tn : TypeId) (ho : o.op = .call { callee := .builtin .append, args := #[s, x], argTypes := #[t, tn] }) (vs vx : Value) (hs : a.eval s = vs) (hx : a.eval x = vx)
    (v' : Value) (w' : World) (hr : (Builtin.append_ #[t, tn] o.type #[vs, vx]).run P w = .ok v' w') (h : wpList P ops Q rest (a.put o.dst v') w') : wpList P ops Q (o :: rest) a w := by
  refine wpList_plain hgd fun K hK => ?_
  unfold Oper.wp execOp
  simp only [ho, resolve, invoke, builtin, Sem.run_bind, Sem.run_pure, Result.andThen_ok, List.map_toArray, List.map_cons, List.map_nil, hs, hx, hr]
  exact hK _ _ h
theorem wpList_copy_runY (w : World) (hgd : o.guard = none) (s x : Operand) (t tn : TypeId) (ho : o.op = .call { callee := .builtin .copy, args := #[s, x], argTypes := #[t, tn] }) (vs vx : Value) (hs : a.eval s = vs) (hx : a.eval x = vx)
    (v' : Value) (w' : World) (hr : (Builtin.copy_ #[t, tn] o.type #[vs, vx]).run P w = .ok v' w') (h : wpList P ops Q rest (a.put o.dst v') w') : wpList P ops Q (o :: rest) a w := by
  refine wpList_plain hgd fun K hK => ?_
  unfold Oper.wp execOp
  simp only [ho, resolve, invoke, builtin, Sem.run_bind, Sem.run_pure, Result.andThen_ok, List.map_toArray, List.map_cons, List.map_nil, hs, hx, hr]
  exact hK _ _ h
theorem wpList_clear_runY (w : World) (hgd : o.guard = none) (x : Operand) (t : TypeId) (ho : o.op = .call { callee := .builtin .clear, args := #[x], argTypes := #[t] }) (vx : Value) (hx : a.eval x = vx)
    (v' : Value) (w' : World) (hr : (Builtin.clear_ #[t] o.type #[vx]).run P w = .ok v' w') (h : wpList P ops Q rest (a.put o.dst v') w') : wpList P ops Q (o :: rest) a w := by
  refine wpList_plain hgd fun K hK => ?_
  unfold Oper.wp execOp
  simp only [ho, resolve, invoke, builtin, Sem.run_bind, Sem.run_pure, Result.andThen_ok, List.map_toArray, List.map_cons, List.map_nil, hx, hr]
  exact hK _ _ h
end
theorem setRow_grown (w : World) (g : Nat) (cur : Array Value) : w.grownBy (w.setRow g cur) (some g) :=
  ⟨rfl, rfl, rfl, by simp [World.setRow], fun k _ hk => setRow_other _ g k _ (fun e => hk (by rw [e]))⟩
theorem info_item : (Try.prog.info? 47).map (·.size) = some 5 := by kernel_rfl
theorem own_parts {w : World} {b : Nat} {e : TypeId} {k n m c g : Nat} {xs : List Value} (h : w.ownsRow b e k (.slice (some ⟨g, 0, none⟩) m c) n xs) : m = n ∧ b ≤ g ∧ n ≤ c ∧ c ≤ maxLen ∧ xs.length = n * k ∧ ∃ cur : Array Value, w.heap[g]? = some (.cells cur e (0, 0)) ∧ cur.size = c * k ∧ cur.toList.take (n * k) = xs := by
  obtain ⟨h1, h2⟩ := h
  rcases h2 with ⟨h2, _⟩ | ⟨g', cap, cur, hv, hg, hh, hnc, hcm, hcs, htake⟩
  · cases h2
  · obtain ⟨hg', rfl, rfl⟩ := Value.slice.inj hv
    obtain rfl : g = g' := by simpa using hg'
    exact ⟨rfl, hg, hnc, hcm, h1, cur, hh, hcs, htake⟩
theorem tms_take : ∀ (l : List Tm) (m : Nat), tms (l.take m) = (tms l).take (m * 5)
  | [], m => by simp [tms]
  | a :: l, 0 => by simp [tms]
  | a :: l, m + 1 => by
    rw [show (m + 1) * 5 = m * 5 + 1 + 1 + 1 + 1 + 1 by omega]
    simp only [List.take_succ_cons, tms, tms_take l m]
theorem tms_drop : ∀ (l : List Tm) (m : Nat), tms (l.drop m) = (tms l).drop (m * 5)
  | [], m => by simp [tms]
  | a :: l, 0 => by simp
  | a :: l, m + 1 => by
    rw [show (m + 1) * 5 = m * 5 + 1 + 1 + 1 + 1 + 1 by omega]
    simp only [List.drop_succ_cons, tms, tms_drop l m]
theorem setRow_get (w : World) (g : Nat) (cur : Array Value) (e : TypeId) (c : List Value) (hg : w.heap[g]? = some (.cells cur e (0, 0))) : (w.setRow g c.toArray).heap[g]? = some (.cells c.toArray e (0, 0)) := setRow_heap w g cur c.toArray e (0, 0) hg
end Go.Proofs.Ytmngjifcgfnogaa
