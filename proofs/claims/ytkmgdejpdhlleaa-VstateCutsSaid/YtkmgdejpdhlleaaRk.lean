/- Rows of elements of any size: append, copy, clear, stores. -/
import Derived.Test.YtkmgdejpdhlleaaRows
import Derived.Test.YtkmgdejpdhlleaaOwnG
import Derived.Test.YtkmgdejpdhlleaaNew
import Derived.Test.YtkmgdejpdhlleaaStop
import Derived.Test.YtkmgdejpdhlleaaApp
import Derived.StillTailTactics
import Derived.Laws.CopyRow
import Derived.Lib.Overlaps
import Derived.Laws.Externs
import Derived.Lib.AppendZerosOnto
namespace Go.Proofs.Ytkmgdejpdhlleaa
set_option linter.unusedSimpArgs false
set_option linter.unusedVariables false
set_option maxRecDepth 100000
open Go.RowKit

/-- A region that draws its order: all but its last operations only read, or call what leaves the world alone. -/
theorem wp_region_tail {P : Program} {id : Nat} {Q : Exit → Act → World → Prop} {a : Act} {w : World} {l : List Oper} (n : Nat) (hm : P.follows .mixedOrders = true) (hB : Region.lexTailB .any l.toArray n = true)
    (h : wpStill P l.toArray w.drew (fun a' => wpList P l.toArray Q (l.drop n) a' w.drew) (l.take n) a) : (Code.region id l.toArray true).wp P Q a w := wp_region_still_tail n hm hB h
theorem cell_lit (w : World) (cs : Array Value) (e : TypeId) (g i : Nat) (u : Value) (hg : g = w.heap.size) (hu : cs[i]? = some u) : (w.alloc (.cells cs e)).cell? ⟨g, i, none⟩ = some u := by
  subst hg
  rw [cell_of_row _ _ _ cs e (0, 0) (heap_alloc_new w _), hu]

theorem keep_add {w : World} {z : Inc} {b i : Nat} {v : Value} (h : ∀ u, (ext w (z.add u)).cell? ⟨b, i, none⟩ = some v) : (ext w z).cell? ⟨b, i, none⟩ = some v := by
  have h1 := h ⟨[], z.n⟩
  have e : z.add ⟨[], z.n⟩ = z := by cases z; simp [Inc.add]
  rwa [e] at h1
/-- What leaves the world alone only grows it. -/
theorem still_quiet {P : Program} {f : FuncId} {args : Array Value} {w : World} {v : Value} (h : Calls P f args w fun e w' => e = .returned v ∧ w' = w) : Calls P f args w fun e w' => e = .returned v ∧ Ext w w' :=
  h.mono fun _ _ ⟨h1, h2⟩ => ⟨h1, h2 ▸ Ext.refl w⟩

section
variable {P : Program}
theorem run_app_row (w : World) (t ty e : TypeId) (k : Nat) (ht : P.underlying t = some (.slice e)) (hk : (P.info? e).map (·.size) = some k) (g cap i : Nat) (cur : Array Value) (hg : w.heap[g]? = some (.cells cur e (0, 0))) (ao : Option Addr) (m c : Nat) (news : List Value)
    (hl : news.length = m * k) (hx : 0 < m → ∃ a, ao = some a ∧ ∀ j u, news[j]? = some u → w.cell? (a.add j) = some u) (h1 : ∀ u ∈ news, u.oneCell' = true) (hroom : i + m ≤ cap) (hfit : i * k + news.length ≤ cur.size) :
    (Builtin.append_ #[t, t] ty #[.slice (some ⟨g, 0, none⟩) i cap, .slice ao m c]).run P w = .ok (.slice (some ⟨g, 0, none⟩) (i + m) cap) (w.setRow g (cur.toList.take (i * k) ++ news ++ cur.toList.drop (i * k + news.length)).toArray) := by
  obtain ⟨ti, hti, hts⟩ := Option.map_eq_some_iff.1 hk
  have hst := run_storeCells_at P g (i * k) e news 0 cur w hg (by simpa using hfit) h1
  simp only [Nat.add_zero] at hst
  have hadd : (⟨g, 0, none⟩ : Addr).add (i * k) = ⟨g, i * k, none⟩ := by rw [show (⟨g, 0, none⟩ : Addr).add (i * k) = ⟨g, 0 + i * k, none⟩ by unfold Addr.add; split <;> simp_all, Nat.zero_add]
  rcases Nat.eq_zero_or_pos m with h0 | h0
  · subst h0
    obtain rfl : news = [] := by simpa using hl
    have hs0 : w.setRow g (cur.toList.take (i * k) ++ [] ++ cur.toList.drop (i * k + ([] : List Value).length)).toArray = w := by
      simp only [List.append_nil, List.length_nil, Nat.add_zero, List.take_append_drop, Array.toArray_toList]
      exact setRow_self w g cur e (0, 0) hg
    rw [hs0]
    cases ao with
    | none => simp [Builtin.append_, run_underlying ht, sizeOf, typeInfo, hti, hts, Builtin.lenOf, Builtin.firstCells, show i ≤ cap by omega, storeCells]
    | some a =>
      have hll := run_loadCells_list (P := P) w a [] (fun j u hu => by simp at hu)
      simp only [List.length_nil] at hll
      simp [Builtin.append_, run_underlying ht, sizeOf, typeInfo, hti, hts, Builtin.lenOf, Builtin.firstCells, show i ≤ cap by omega, storeCells, hll]
  · obtain ⟨a, rfl, hc⟩ := hx h0
    have hll := run_loadCells_list (P := P) w a news hc
    rw [hl] at hll
    simp [Builtin.append_, run_underlying ht, sizeOf, typeInfo, hti, hts, Builtin.lenOf, Builtin.firstCells, hroom, hll, hadd, hst]
theorem run_copy_rowk (w : World) (t ty e : TypeId) (k : Nat) (ht : P.underlying t = some (.slice e)) (hk : (P.info? e).map (·.size) = some k) (g d dLen dCap : Nat) (cur : Array Value) (hg : w.heap[g]? = some (.cells cur e (0, 0))) (a : Addr) (sLen sCap m : Nat) (cs : List Value)
    (hm : Nat.min sLen dLen = m) (hl : cs.length = m * k) (hsrc : ∀ j v, cs[j]? = some v → w.cell? (a.add j) = some v) (hfit : d + cs.length ≤ cur.size) (h1 : ∀ v ∈ cs, v.oneCell' = true) :
    (Builtin.copy_ #[t, t] ty #[.slice (some ⟨g, d, none⟩) dLen dCap, .slice (some a) sLen sCap]).run P w = .ok (goInt m) (w.setRow g (cur.toList.take d ++ cs ++ cur.toList.drop (d + cs.length)).toArray) := by
  obtain ⟨ti, hti, hts⟩ := Option.map_eq_some_iff.1 hk
  have hll := run_loadCells_list (P := P) w a cs hsrc
  rw [hl] at hll
  have hst := run_storeCells_at P g d e cs 0 cur w hg (by simpa using hfit) h1
  simp only [Nat.add_zero] at hst
  simp [Builtin.copy_, run_underlying ht, Builtin.lenOf, Builtin.firstCells, sizeOf, typeInfo, hti, hts, hm, hll, hst]
theorem run_clear_one (w : World) (t ty e : TypeId) (z : Value) (k : Nat) (ht : P.underlying t = some (.slice e)) (hz : ∀ w, (zeroValue e).run P w = .ok z w) (hzs : z.cells.size = k) (hzc : (Builtin.zeroCells z.cells 1).toList = z.cells.toList) (hone : ∀ v ∈ z.cells.toList, v.oneCell' = true) (g d c : Nat) (cur : Array Value) (hg : w.heap[g]? = some (.cells cur e (0, 0))) (hfit : d + k ≤ cur.size) :
    (Builtin.clear_ #[t] ty #[.slice (some ⟨g, d, none⟩) 1 c]).run P w = .ok (.tuple #[]) (w.setRow g (cur.toList.take d ++ z.cells.toList ++ cur.toList.drop (d + k)).toArray) := by
  have hst := run_storeCells_at P g d e z.cells.toList 0 cur w hg (by simpa [hzs] using hfit) hone
  simp only [Nat.add_zero, Array.length_toList, hzs] at hst
  simp [Builtin.clear_, run_underlying ht, hz, hzc, hst]
variable {ops : Array Oper} {rest : List Oper} {o : Oper} {a : Act} {Q : Exit → Act → World → Prop}
theorem wpList_append_runY (w : World) (hgd : o.guard = none) (s x : Operand) (t tn : TypeId) (ho : o.op = .call { callee := .builtin .append, args := #[s, x], argTypes := #[t, tn] }) (vs vx : Value) (hs : a.eval s = vs) (hx : a.eval x = vx)
    (v' : Value) (w' : World) (hr : (Builtin.append_ #[t, tn] o.type #[vs, vx]).run P w = .ok v' w') (h : wpList P ops Q rest (a.put o.dst v') w') : wpList P ops Q (o :: rest) a w := by
  refine wpList_plain hgd fun K hK => ?_
  unfold Oper.wp execOp
  simp only [ho, resolve, invoke, builtin, Sem.run_bind, Sem.run_pure, Result.andThen_ok, List.map_toArray, List.map_cons, List.map_nil, hs, hx, hr]
  exact hK _ _ h
theorem wpList_copy_runY (w : World) (hgd : o.guard = none) (s x : Operand) (t tn : TypeId) (ho : o.op = .call { callee := .builtin .copy, args := #[s, x], argTypes := #[t, tn] }) (vs vx : Value) (hs : a.eval s = vs) (hx : a.eval x = vx)
    (v' : Value) (w' : World) (hr : (Builtin.copy_ #[t, tn] o.type #[vs, vx]).run P w = .ok v' w') (h : wpList P ops Q rest (a.put o.dst v') w') : wpList P ops Q (o :: rest) a w := by
  refine wpList_plain hgd fun K hK => ?_
  unfold Oper.wp execOp
  simp only [ho, resolve, invoke, builtin, Sem.run_bind, Sem.run_pure, Result.andThen_ok, List.map_toArray, List.map_cons, List.map_nil, hs, hx, hr]
  exact hK _ _ h
theorem wpList_clear_runY (w : World) (hgd : o.guard = none) (x : Operand) (t : TypeId) (ho : o.op = .call { callee := .builtin .clear, args := #[x], argTypes := #[t] }) (vx : Value) (hx : a.eval x = vx)
    (v' : Value) (w' : World) (hr : (Builtin.clear_ #[t] o.type #[vx]).run P w = .ok v' w') (h : wpList P ops Q rest (a.put o.dst v') w') : wpList P ops Q (o :: rest) a w := by
  refine wpList_plain hgd fun K hK => ?_
  unfold Oper.wp execOp
  simp only [ho, resolve, invoke, builtin, Sem.run_bind, Sem.run_pure, Result.andThen_ok, List.map_toArray, List.map_cons, List.map_nil, hx, hr]
  exact hK _ _ h
end
theorem setRow_grown (w : World) (g : Nat) (cur : Array Value) : w.grownBy (w.setRow g cur) (some g) :=
  ⟨rfl, rfl, rfl, by simp [World.setRow], fun k _ hk => setRow_other _ g k _ (fun e => hk (by rw [e]))⟩

theorem own_parts {w : World} {b : Nat} {e : TypeId} {k n m c g : Nat} {xs : List Value} (h : w.ownsRow b e k (.slice (some ⟨g, 0, none⟩) m c) n xs) : m = n ∧ b ≤ g ∧ n ≤ c ∧ c ≤ maxLen ∧ xs.length = n * k ∧ ∃ cur : Array Value, w.heap[g]? = some (.cells cur e (0, 0)) ∧ cur.size = c * k ∧ cur.toList.take (n * k) = xs := by
  obtain ⟨h1, h2⟩ := h
  rcases h2 with ⟨h2, _⟩ | ⟨g', cap, cur, hv, hg, hh, hnc, hcm, hcs, htake⟩
  · cases h2
  · obtain ⟨hg', rfl, rfl⟩ := Value.slice.inj hv
    obtain rfl : g = g' := by simpa using hg'
    exact ⟨rfl, hg, hnc, hcm, h1, cur, hh, hcs, htake⟩

theorem setRow_get (w : World) (g : Nat) (cur : Array Value) (e : TypeId) (c : List Value) (hg : w.heap[g]? = some (.cells cur e (0, 0))) : (w.setRow g c.toArray).heap[g]? = some (.cells c.toArray e (0, 0)) := setRow_heap w g cur c.toArray e (0, 0) hg

theorem own_capY {w : World} {b : Nat} {e : TypeId} {k n m c : Nat} {a : Option Addr} {xs : List Value} (h : w.ownsRow b e k (.slice a m c) n xs) : m ≤ c := by
  rcases h.2 with ⟨h2, _⟩ | ⟨g', cap, cur, hv, hg, hh, hnc, _⟩
  · cases h2; exact Nat.le_refl _
  · obtain ⟨_, rfl, rfl⟩ := Value.slice.inj hv
    exact hnc

theorem shape_row {w : World} {g : Nat} {cur : Array Value} {e : TypeId} (h : w.heap[g]? = some (.cells cur e (0, 0))) : w.shape? g = some (e, cur.size) := by
  unfold World.shape?
  rw [h]
theorem frozen_row {w : World} {g i : Nat} {cur : Array Value} {e : TypeId} (h : w.heap[g]? = some (.cells cur e (0, 0))) : w.frozen? ⟨g, i, none⟩ = false := by
  simp [World.frozen?, h]

theorem grown_any {w w' : World} {r : Option Nat} (h : w.grownBy w' none) : w.grownBy w' r := ⟨h.os, h.tape, h.output, h.size, fun k hk _ => h.block k hk (by simp)⟩

theorem own_of_extY {w w' : World} {b : Nat} {e : TypeId} {size n : Nat} {v : Value} {xs : List Value} (h : w.ownsRow b e size v n xs) (hx : Ext w w') : w'.ownsRow b e size v n xs := by
  obtain ⟨z, rfl⟩ := hx
  exact own_ext h z
theorem Ext.grows {w w' : World} (hx : Ext w w') (r : Option Nat) : w.grownBy w' r := by
  obtain ⟨z, rfl⟩ := hx
  exact ⟨rfl, rfl, rfl, by simp, fun k hk _ => ext_get w z k hk⟩

/-- A store of one cell into a row of the call's own. -/
theorem own_put {w : World} {b g k n c off : Nat} {e : TypeId} {xs : List Value} (h : w.ownsRow b e k (.slice (some ⟨g, 0, none⟩) n c) n xs) (u : Value) : (w.setCell ⟨g, off, none⟩ u).ownsRow b e k (.slice (some ⟨g, 0, none⟩) n c) n (xs.set off u) := by
  obtain ⟨-, hb, hnc, hcm, hlen, cur, hg, hcs, htake⟩ := own_parts h
  refine ⟨by rw [List.length_set, hlen], .inr ⟨g, c, cur.setIfInBounds off u, rfl, hb, ?_, hnc, hcm, by rw [Array.size_setIfInBounds, hcs], ?_⟩⟩
  · simp [World.setCell, Array.getElem?_modify, hg]
  · rw [Array.toList_setIfInBounds, List.take_set, htake]
theorem put_grown (w : World) (g off : Nat) (u : Value) : w.grownBy (w.setCell ⟨g, off, none⟩ u) (some g) := by
  refine ⟨rfl, rfl, rfl, by rw [World.size_setCell]; exact Nat.le_refl _, fun k hk hne => ?_⟩
  simp only [World.setCell, Array.getElem?_modify]
  rw [if_neg (fun e => hne (by rw [e]))]

theorem ext_more2 (w : World) (x y : Inc) : Ext (ext w x) (ext w (x.add y)) := ⟨y, (ext_ext _ _ _).symm⟩

end Go.Proofs.Ytkmgdejpdhlleaa
