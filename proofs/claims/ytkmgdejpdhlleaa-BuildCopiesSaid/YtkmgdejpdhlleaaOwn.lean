/- Rows of the call's own, in worlds of the form 'ext w0 x': append, store, load. No program in sight. -/
import Derived.Test.YtkmgdejpdhlleaaMem
import Derived.OwnWalk
import Derived.Deep.AppendLies
namespace Go.Proofs.Ytkmgdejpdhlleaa
set_option linter.unusedSimpArgs false
set_option linter.unusedVariables false
set_option maxRecDepth 100000
open Go.RowKit

theorem own_base {w : World} {b b' : Nat} {e : TypeId} {size n : Nat} {v : Value} {xs : List Value} (h : w.ownsRow b e size v n xs) (hb : b' ≤ b) : w.ownsRow b' e size v n xs := by
  obtain ⟨h1, h2⟩ := h
  refine ⟨h1, ?_⟩
  rcases h2 with h2 | ⟨g, cap, cur, hv, hg, r⟩
  · exact .inl h2
  · exact .inr ⟨g, cap, cur, hv, by omega, r⟩
theorem own_ext {w : World} {b : Nat} {e : TypeId} {size n : Nat} {v : Value} {xs : List Value} (h : w.ownsRow b e size v n xs) (x : Inc) : (ext w x).ownsRow b e size v n xs :=
  h.kept (row := none) ⟨rfl, rfl, rfl, by simp, fun k hk _ => ext_get w x k hk⟩ (by cases hv : v.ownBlock <;> simp)

section
variable {P : Program} {ops : Array Oper} {rest : List Oper} {o : Oper} {a : Act} {Q : Exit → Act → World → Prop}

/-- 'append(v, x..)' onto a row of the call's own, what is appended lying in a block that was just laid. -/
theorem wpList_push (hgd : o.guard = none) (s x : Operand) (t : TypeId)
    (ho : o.op = .call { callee := .builtin .append, args := #[s, x], argTypes := #[t, t] })
    (e : TypeId) (z : Value) (size bytes : Nat) (ht : P.underlying t = some (.slice e)) (hi : (P.info? e).map (fun i => (i.zero, i.size, i.bytes)) = some (some z, size, bytes))
    (hzs : z.cells.size = size) (hsz : 0 < size)
    (w0 : World) (i : Inc) (base : Nat) (v : Value) (n : Nat) (xs : List Value) (hown : (ext w0 i).ownsRow base e size v n xs)
    (h m c : Nat) (cs : Array Value) (hs : a.eval s = v) (hx : a.eval x = .slice (some ⟨h, 0, none⟩) m c) (hcs : cs.size = m * size) (hone : ∀ u ∈ cs.toList, u.oneCell' = true)
    (hm : 0 < m) (hh : h = (ext w0 i).heap.size) (h63 : n + m ≤ maxLen) (hbytes : (n + m) * bytes ≤ 140737488355328) (hb : base ≤ (ext w0 i).heap.size) (hb0 : w0.heap.size ≤ base)
    (k : ∀ g cap y, (ext w0 y).ownsRow base e size (.slice (some ⟨g, 0, none⟩) (n + m) cap) (n + m) (xs ++ cs.toList) → wpList P ops Q rest (a.put o.dst (.slice (some ⟨g, 0, none⟩) (n + m) cap)) (ext w0 y)) :
    wpList P ops Q (o :: rest) a ((ext w0 i).alloc (.cells cs e)) := by
  obtain ⟨i0, hi0, hz0, hz1, hz2⟩ := info_parts hi
  subst hh
  refine wpList_plain hgd fun K hK => ?_
  refine wp_append_lies _ s x t ho base e i0 z size bytes ht hi0 hz0 hz1 hz2 hzs hsz v n xs hs (hown.alloc _) ⟨(ext w0 i).heap.size, 0, none⟩ m c cs.toList hx (by simpa using hcs) ?_ hone hm h63 hbytes
    (by rw [World.size_alloc]; omega) _ rfl ?_
  · exact World.news_of_block (cs := cs) (t := e) (fr := (0, 0)) (heap_alloc_new (ext w0 i) _)
  · intro g cap w1 hown1 hgrow _ _
    obtain ⟨y, rfl⟩ : Ext w0 w1 := (((Ext.refl w0).ext i).alloc _).grown hgrow (fun k hk => by
      have := (hown.lt k hk).1
      omega)
    exact hK _ _ (k g cap y hown1)

/-- A store into a row of the call's own: whatever the value's number of cells. -/
theorem wpList_store_row (hgd : o.guard = none) (p x : Operand) (t : TypeId) (ho : o.op = .store t p x)
    (w0 : World) (i : Inc) (base : Nat) (e : TypeId) (size n cap g : Nat) (xs : List Value) (hown : (ext w0 i).ownsRow base e size (.slice (some ⟨g, 0, none⟩) n cap) n xs)
    (off : Nat) (u : Value) (hp : a.eval p = .pointer (some ⟨g, off, none⟩)) (hx : a.eval x = u) (us : List Value) (hu : u.cells.toList = us) (hone : ∀ c ∈ us, c.oneCell' = true)
    (hsz : (P.info? t).map (·.size) = some us.length) (hfit : off + us.length ≤ n * size) (hb0 : w0.heap.size ≤ base)
    (k : ∀ y, (ext w0 y).ownsRow base e size (.slice (some ⟨g, 0, none⟩) n cap) n (xs.take off ++ us ++ xs.drop (off + us.length)) → wpList P ops Q rest (a.put o.dst undef) (ext w0 y)) :
    wpList P ops Q (o :: rest) a (ext w0 i) := by
  obtain ⟨ti, hti, hts⟩ := Option.map_eq_some_iff.1 hsz
  obtain ⟨h1, h2⟩ := hown
  rcases h2 with ⟨h', _⟩ | ⟨g', cap', cur, h', hbg, hg, hnc, hcm, hcs, htake⟩
  · simp at h'
  simp only [Value.slice.injEq, Option.some.injEq, Addr.mk.injEq, and_true, true_and] at h'
  obtain ⟨rfl, rfl⟩ := h'
  have hcur : n * size ≤ cur.size := by rw [hcs]; exact Nat.mul_le_mul_right _ hnc
  have hst := run_storeCells_at P g off e us 0 cur (ext w0 i) hg (by simp only [Nat.add_zero]; omega) hone
  simp only [Nat.add_zero] at hst
  refine wpList_plain hgd fun K hK => ?_
  have hrun : (execOp a.eval o).run P (ext w0 i) = .ok .skip ((ext w0 i).setRow g (cur.toList.take off ++ us ++ cur.toList.drop (off + us.length)).toArray) ∨
      (execOp a.eval o).run P (ext w0 i) = .ok (.value undef) ((ext w0 i).setRow g (cur.toList.take off ++ us ++ cur.toList.drop (off + us.length)).toArray) := by
    unfold execOp
    have hl : u.cells.size = us.length := by rw [← hu]; simp
    simp only [ho, hp, hx]
    simp [Instr.storeAt, Instr.sureAddr, storeVar, sizeOf, typeInfo, hti, hl, hts, hu, hst]
  have hnext : wpList P ops Q rest (a.put o.dst undef) ((ext w0 i).setRow g (cur.toList.take off ++ us ++ cur.toList.drop (off + us.length)).toArray) := by
    have hgr : (ext w0 i).grownBy ((ext w0 i).setRow g (cur.toList.take off ++ us ++ cur.toList.drop (off + us.length)).toArray) (some g) :=
      ⟨rfl, rfl, rfl, by simp [World.setRow], fun k _ hk => setRow_other _ g k _ (fun e => hk (by rw [e]))⟩
    obtain ⟨y, hy⟩ : Ext w0 ((ext w0 i).setRow g (cur.toList.take off ++ us ++ cur.toList.drop (off + us.length)).toArray) :=
      ((Ext.refl w0).ext i).grown hgr (fun k hk => by simp at hk; omega)
    have hh := setRow_heap (ext w0 i) g cur (cur.toList.take off ++ us ++ cur.toList.drop (off + us.length)).toArray e (0, 0) hg
    rw [hy] at hh ⊢
    refine k y ⟨?_, .inr ⟨g, cap, _, rfl, hbg, hh, hnc, hcm, ?_, ?_⟩⟩
    · simp only [List.length_append, List.length_take, List.length_drop]; omega
    · simp only [List.size_toArray, List.length_append, List.length_take, List.length_drop, Array.length_toList]; omega
    · rw [← htake]
      apply List.ext_getElem?
      intro j
      simp only [List.getElem?_take, List.getElem?_append, List.length_take, List.length_append, List.getElem?_drop, Array.length_toList]
      repeat' split
      all_goals first | rfl | omega | (congr 1; omega) | skip
  unfold Oper.wp
  rcases hrun with hr | hr <;> rw [hr] <;> exact hK _ _ hnext
end
end Go.Proofs.Ytkmgdejpdhlleaa
