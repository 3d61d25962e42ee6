/- append of whatever slice reads, nil and empty too, onto a row of the call's own. No program in sight. -/
import Derived.Test.YtkmgdejpdhlleaaNew
import Derived.Maps.AppendAt
namespace Go.Proofs.Ytkmgdejpdhlleaa
set_option linter.unusedSimpArgs false
set_option linter.unusedVariables false
set_option maxRecDepth 100000
open Go.RowKit

section
variable {P : Program}
theorem run_app_nil {w : World} {base n size c : Nat} {t ty e : TypeId} {i : TypeInfo} {v : Value} {xs : List Value} (ht : P.underlying t = some (.slice e)) (hi : P.info? e = some i) (hown : w.ownsRow base e size v n xs) :
    (Builtin.append_ #[t, t] ty #[v, .slice none 0 c]).run P w = .ok v w := by
  rcases hown.2 with ⟨rfl, _⟩ | ⟨g, cap, cur, rfl, _, _, hnc, _⟩
  · simp [Builtin.append_, run_underlying ht, sizeOf, typeInfo, hi, Builtin.lenOf, Builtin.firstCells]
  · simp [Builtin.append_, run_underlying ht, sizeOf, typeInfo, hi, Builtin.lenOf, Builtin.firstCells, hnc, storeCells]

theorem run_app {w : World} (t ty : TypeId) (e : TypeId) (z : Value) (size bytes : Nat) (ht : P.underlying t = some (.slice e)) (hi : (P.info? e).map (fun i => (i.zero, i.size, i.bytes)) = some (some z, size, bytes)) (hzs : z.cells.size = size) (hsz : 0 < size)
    (w0 : World) (hx0 : Ext w0 w) (base : Nat) (v : Value) (n : Nat) (xs : List Value) (hown : w.ownsRow base e size v n xs)
    (m : Nat) (u : Value) (cs : List Value) (hr : Rd w size m u cs) (hone : ∀ u ∈ cs, u.oneCell' = true) (h63 : n + m ≤ maxLen) (hbytes : (n + m) * bytes ≤ 140737488355328) (hb : base ≤ w.heap.size) (hb0 : w0.heap.size ≤ base) :
    ∃ a c w', (Builtin.append_ #[t, t] ty #[v, u]).run P w = .ok (.slice a (n + m) c) w' ∧ (∃ y, w' = ext w0 y) ∧ w'.ownsRow base e size (.slice a (n + m) c) (n + m) (xs ++ cs) ∧ w.grownBy w' v.ownBlock ∧ (v.ownBlock = (Value.slice a (n + m) c).ownBlock ∨ (Value.slice a (n + m) c).ownBlock = some w.heap.size) := by
  obtain ⟨i0, hi0, hz0, hz1, hz2⟩ := info_parts hi
  obtain ⟨ad, c, rfl⟩ := hr.form
  have fin : ∀ v' w', (Builtin.append_ #[t, t] ty #[v, .slice ad m c]).run P w = .ok v' w' → w'.ownsRow base e size v' (n + m) (xs ++ cs) → w.grownBy w' v.ownBlock → (v'.ownBlock = v.ownBlock ∨ v'.ownBlock = some w.heap.size) →
      ∃ a c_1 w', (Builtin.append_ #[t, t] ty #[v, .slice ad m c]).run P w = .ok (.slice a (n + m) c_1) w' ∧ (∃ y, w' = ext w0 y) ∧ w'.ownsRow base e size (.slice a (n + m) c_1) (n + m) (xs ++ cs) ∧ w.grownBy w' v.ownBlock ∧ (v.ownBlock = (Value.slice a (n + m) c_1).ownBlock ∨ (Value.slice a (n + m) c_1).ownBlock = some w.heap.size) := by
    intro v' w' hrun h2 h3 h4
    obtain ⟨a, c', rfl⟩ := (own_rd h2).form
    obtain ⟨y, rfl⟩ : Ext w0 w' := hx0.grown h3 (fun k hk => by
      have := (hown.lt k hk).1
      omega)
    exact ⟨a, c', _, hrun, ⟨y, rfl⟩, h2, h3, h4.imp Eq.symm id⟩
  rcases Nat.eq_zero_or_pos m with h0 | h0
  · subst h0
    obtain rfl : cs = [] := by simpa using hr.len
    cases ad with
    | none => exact fin _ _ (run_app_nil ht hi0 hown) (by simpa using hown) (World.grownBy.refl w _) (.inl rfl)
    | some ad =>
      obtain ⟨v', w', hrun, h2, h3, _, h5⟩ := run_append_own_at (P := P) w base t ty e i0 z size bytes ht hi0 hz0 hz1 hz2 hzs hsz v n xs hown ad 0 c [] (by simp) (by simp) (by simp) h63 hbytes hb
      exact fin _ _ hrun h2 h3 h5
  · obtain ⟨b, off, rfl, hc⟩ := hr.cells h0
    obtain ⟨v', w', hrun, h2, h3, _, h5⟩ := run_append_own_at (P := P) w base t ty e i0 z size bytes ht hi0 hz0 hz1 hz2 hzs hsz v n xs hown ⟨b, off, none⟩ m c cs hr.len (fun j u hu => by
      rw [show (⟨b, off, none⟩ : Addr).add j = ⟨b, off + j, none⟩ by unfold Addr.add; split <;> simp_all]
      exact hc j u hu) hone h63 hbytes hb
    exact fin _ _ hrun h2 h3 h5

variable {ops : Array Oper} {rest : List Oper} {o : Oper} {a : Act} {Q : Exit → Act → World → Prop}
theorem wp_app {w : World} {K : Act → World → Prop} (s x : Operand) (t : TypeId)
    (ho : o.op = .call { callee := .builtin .append, args := #[s, x], argTypes := #[t, t] })
    (e : TypeId) (z : Value) (size bytes : Nat) (ht : P.underlying t = some (.slice e)) (hi : (P.info? e).map (fun i => (i.zero, i.size, i.bytes)) = some (some z, size, bytes)) (hzs : z.cells.size = size) (hsz : 0 < size)
    (w0 : World) (hx0 : Ext w0 w) (base : Nat) (v : Value) (n : Nat) (xs : List Value) (hown : w.ownsRow base e size v n xs)
    (m : Nat) (u : Value) (cs : List Value) (hs : a.eval s = v) (hx : a.eval x = u) (hr : Rd w size m u cs) (hone : ∀ u ∈ cs, u.oneCell' = true) (h63 : n + m ≤ maxLen) (hbytes : (n + m) * bytes ≤ 140737488355328) (hb : base ≤ w.heap.size) (hb0 : w0.heap.size ≤ base)
    (k : ∀ b c y, (ext w0 y).ownsRow base e size (.slice b (n + m) c) (n + m) (xs ++ cs) → w.grownBy (ext w0 y) v.ownBlock → (v.ownBlock = (Value.slice b (n + m) c).ownBlock ∨ (Value.slice b (n + m) c).ownBlock = some w.heap.size) → K (a.put o.dst (.slice b (n + m) c)) (ext w0 y)) : o.wp P a w K Q := by
  obtain ⟨b, c, w', hr, ⟨y, rfl⟩, h2, h3, h4⟩ := run_app (P := P) t o.type e z size bytes ht hi hzs hsz w0 hx0 base v n xs hown m u cs hr hone h63 hbytes hb hb0
  unfold Oper.wp execOp
  simp only [ho, resolve, invoke, builtin, Sem.run_bind, Sem.run_pure, Result.andThen_ok, List.map_toArray, List.map_cons, List.map_nil, hs, hx, hr]
  exact k b c y h2 h3 h4
/-- In a plain region. -/
theorem wpList_app (hgd : o.guard = none) {w : World} (s x : Operand) (t : TypeId)
    (ho : o.op = .call { callee := .builtin .append, args := #[s, x], argTypes := #[t, t] })
    (e : TypeId) (z : Value) (size bytes : Nat) (ht : P.underlying t = some (.slice e)) (hi : (P.info? e).map (fun i => (i.zero, i.size, i.bytes)) = some (some z, size, bytes)) (hzs : z.cells.size = size) (hsz : 0 < size)
    (w0 : World) (hx0 : Ext w0 w) (base : Nat) (v : Value) (n : Nat) (xs : List Value) (hown : w.ownsRow base e size v n xs)
    (m : Nat) (u : Value) (cs : List Value) (hs : a.eval s = v) (hx : a.eval x = u) (hr : Rd w size m u cs) (hone : ∀ u ∈ cs, u.oneCell' = true) (h63 : n + m ≤ maxLen) (hbytes : (n + m) * bytes ≤ 140737488355328) (hb : base ≤ w.heap.size) (hb0 : w0.heap.size ≤ base)
    (k : ∀ b c y, (ext w0 y).ownsRow base e size (.slice b (n + m) c) (n + m) (xs ++ cs) → w.grownBy (ext w0 y) v.ownBlock → (v.ownBlock = (Value.slice b (n + m) c).ownBlock ∨ (Value.slice b (n + m) c).ownBlock = some w.heap.size) → wpList P ops Q rest (a.put o.dst (.slice b (n + m) c)) (ext w0 y)) :
    wpList P ops Q (o :: rest) a w :=
  wpList_plain hgd fun _ hK => wp_app s x t ho e z size bytes ht hi hzs hsz w0 hx0 base v n xs hown m u cs hs hx hr hone h63 hbytes hb hb0 fun b c y h1 h2 h3 => hK _ _ (k b c y h1 h2 h3)
/-- In a region that draws its order. -/
theorem step_app {w : World} {K : Act → World → Prop} {E : Prop} (hgd : o.guard = none) (s x : Operand) (t : TypeId)
    (ho : o.op = .call { callee := .builtin .append, args := #[s, x], argTypes := #[t, t] })
    (e : TypeId) (z : Value) (size bytes : Nat) (ht : P.underlying t = some (.slice e)) (hi : (P.info? e).map (fun i => (i.zero, i.size, i.bytes)) = some (some z, size, bytes)) (hzs : z.cells.size = size) (hsz : 0 < size)
    (w0 : World) (hx0 : Ext w0 w) (base : Nat) (v : Value) (n : Nat) (xs : List Value) (hown : w.ownsRow base e size v n xs)
    (m : Nat) (u : Value) (cs : List Value) (hs : a.eval s = v) (hx : a.eval x = u) (hr : Rd w size m u cs) (hone : ∀ u ∈ cs, u.oneCell' = true) (h63 : n + m ≤ maxLen) (hbytes : (n + m) * bytes ≤ 140737488355328) (hb : base ≤ w.heap.size) (hb0 : w0.heap.size ≤ base)
    (k : ∀ b c y, (ext w0 y).ownsRow base e size (.slice b (n + m) c) (n + m) (xs ++ cs) → w.grownBy (ext w0 y) v.ownBlock → (v.ownBlock = (Value.slice b (n + m) c).ownBlock ∨ (Value.slice b (n + m) c).ownBlock = some w.heap.size) → K (a.put o.dst (.slice b (n + m) c)) (ext w0 y)) :
    if Region.wanted o (yielded ops a.tmps) = true then Oper.wp P o a w K Q else E := by
  have hw : Region.wanted o (yielded ops a.tmps) = true := by simp [Region.wanted, hgd]
  rw [if_pos hw]
  exact wp_app s x t ho e z size bytes ht hi hzs hsz w0 hx0 base v n xs hown m u cs hs hx hr hone h63 hbytes hb hb0 k
end
end Go.Proofs.Ytkmgdejpdhlleaa
