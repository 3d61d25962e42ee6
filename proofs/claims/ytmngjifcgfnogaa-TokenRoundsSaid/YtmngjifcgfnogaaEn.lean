/- How values with depth lie in memory: readings that say which blocks they keep off, rows of the call's own. No program in sight. -/
import Derived.Test.YtmngjifcgfnogaaSl
import Derived.Test.YtmngjifcgfnogaaApp
namespace Go.Proofs.Ytmngjifcgfnogaa
set_option linter.unusedSimpArgs false
set_option linter.unusedVariables false
set_option maxRecDepth 100000
open Go.RowKit

/-- Blocks outside A stay as they are. -/
def Keeps (A : Nat → Prop) (w w' : World) : Prop := ∀ b o, ¬ A b → w.heap[b]? = some o → w'.heap[b]? = some o
theorem Keeps.refl (A : Nat → Prop) (w : World) : Keeps A w w := fun _ _ _ h => h
theorem Keeps.trans {A : Nat → Prop} {w w' w'' : World} (h : Keeps A w w') (k : Keeps A w' w'') : Keeps A w w'' := fun b o hb ho => k b o hb (h b o hb ho)
theorem Keeps.ext {A : Nat → Prop} {w w' : World} (h : Ext w w') : Keeps A w w' := by
  obtain ⟨x, rfl⟩ := h
  intro b o _ ho
  rw [ext_get _ _ _ (Array.getElem?_eq_some_iff.1 ho).1, ho]
theorem Keeps.set {A : Nat → Prop} {w : World} {p : Addr} (hp : A p.block) (u : Value) : Keeps A w (w.setCell p u) := by
  intro b o hb ho
  have hne : p.block ≠ b := fun e => hb (e ▸ hp)
  simp only [World.setCell, Array.getElem?_modify]
  rw [if_neg hne]
  exact ho
theorem Keeps.grown {A : Nat → Prop} {w w' : World} {r : Option Nat} (h : w.grownBy w' r) (hr : ∀ k, r = some k → A k) : Keeps A w w' := by
  intro b o hb ho
  have hlt := (Array.getElem?_eq_some_iff.1 ho).1
  rw [h.block b hlt (fun e => hb (hr b e.symm))]
  exact ho
theorem Keeps.weak {A A' : Nat → Prop} {w w' : World} (h : Keeps A w w') (hw : ∀ b, A b → A' b) : Keeps A' w w' := fun b o hb ho => h b o (fun e => hb (hw b e)) ho
theorem Keeps.cell {A : Nat → Prop} {w w' : World} (h : Keeps A w w') {b i : Nat} {u : Value} (hb : ¬ A b) (hc : w.cell? ⟨b, i, none⟩ = some u) : w'.cell? ⟨b, i, none⟩ = some u := by
  have hlt : b < w.heap.size := World.block_lt_of_cell? _ _ hc
  have ho : w.heap[b]? = some w.heap[b] := Array.getElem?_eq_getElem hlt
  rw [World.cell?_of_block (a := ⟨b, i, none⟩) ((h b _ hb ho).trans ho.symm)]
  exact hc
/-- How a value lies in K cells; what it reads keeps off the blocks of A. -/
structure En (α : Type) where
  K : Nat
  hK : 0 < K
  rd : (Nat → Prop) → World → α → List Value → Prop
  len : ∀ {A w x cs}, rd A w x cs → cs.length = K
  one : ∀ {A w x cs}, rd A w x cs → ∀ c ∈ cs, c.oneCell' = true
  keep : ∀ {A w w' x cs}, rd A w x cs → Keeps A w w' → rd A w' x cs
  weak : ∀ {A A' w x cs}, rd A w x cs → (∀ b, A' b → A b) → rd A' w x cs
  low : ∀ {A w x cs}, rd A w x cs → rd (fun b => A b ∨ w.heap.size ≤ b) w x cs
/-- A value that holds no memory. -/
def En.flat {α : Type} (K : Nat) (hK : 0 < K) (f : α → List Value) (hl : ∀ x, (f x).length = K) (h1 : ∀ x, ∀ c ∈ f x, c.oneCell' = true) : En α where
  K := K
  hK := hK
  rd := fun _ _ x cs => cs = f x
  len := fun h => by rw [h]; exact hl _
  one := fun h => by rw [h]; exact h1 _
  keep := fun h _ => h
  weak := fun h _ => h
  low := fun h => h
section
variable {α β : Type} (E : En α)
/-- The value reads as this list. -/
def Rs (A : Nat → Prop) (w : World) (l : List α) (v : Value) : Prop :=
  ∃ a c, v = .slice a l.length c ∧ (l ≠ [] → ∃ b off, a = some ⟨b, off, none⟩ ∧ ¬ A b ∧ ∀ (i : Nat) x, l[i]? = some x → ∃ cs, E.rd A w x cs ∧ ∀ (j : Nat) u, cs[j]? = some u → w.cell? ⟨b, off + i * E.K + j, none⟩ = some u)
variable {E}
theorem Rs.keep {A : Nat → Prop} {w w' : World} {l : List α} {v : Value} (h : Rs E A w l v) (hk : Keeps A w w') : Rs E A w' l v := by
  obtain ⟨a, c, rfl, h⟩ := h
  refine ⟨a, c, rfl, fun hl => ?_⟩
  obtain ⟨b, off, rfl, hb, h⟩ := h hl
  refine ⟨b, off, rfl, hb, fun i x hi => ?_⟩
  obtain ⟨cs, h1, h2⟩ := h i x hi
  exact ⟨cs, E.keep h1 hk, fun j u hj => hk.cell hb (h2 j u hj)⟩
theorem Rs.on {A : Nat → Prop} {w w' : World} {l : List α} {v : Value} (h : Rs E A w l v) (hx : Ext w w') : Rs E A w' l v := h.keep (Keeps.ext hx)
theorem Rs.weak {A A' : Nat → Prop} {w : World} {l : List α} {v : Value} (h : Rs E A w l v) (hA : ∀ b, A' b → A b) : Rs E A' w l v := by
  obtain ⟨a, c, rfl, h⟩ := h
  refine ⟨a, c, rfl, fun hl => ?_⟩
  obtain ⟨b, off, rfl, hb, h⟩ := h hl
  refine ⟨b, off, rfl, fun e => hb (hA b e), fun i x hi => ?_⟩
  obtain ⟨cs, h1, h2⟩ := h i x hi
  exact ⟨cs, E.weak h1 hA, h2⟩
theorem Rs.low {A : Nat → Prop} {w : World} {l : List α} {v : Value} (h : Rs E A w l v) : Rs E (fun b => A b ∨ w.heap.size ≤ b) w l v := by
  obtain ⟨a, c, rfl, h⟩ := h
  refine ⟨a, c, rfl, fun hl => ?_⟩
  obtain ⟨b, off, rfl, hb, h⟩ := h hl
  refine ⟨b, off, rfl, fun e => ?_, fun i x hi => ?_⟩
  · rcases e with e | e
    · exact hb e
    · obtain ⟨x, l', rfl⟩ : ∃ x l', l = x :: l' := by
        cases l with
        | nil => exact absurd rfl hl
        | cons x l' => exact ⟨x, l', rfl⟩
      obtain ⟨cs, h1, h2⟩ := h 0 x rfl
      have hl := E.len h1
      have hK := E.hK
      have h3 := h2 0 (cs[0]'(by omega)) (List.getElem?_eq_getElem (by omega))
      have : b < w.heap.size := World.block_lt_of_cell? _ _ h3
      omega
  · obtain ⟨cs, h1, h2⟩ := h i x hi
    exact ⟨cs, E.low h1, h2⟩
/-- What is read in a world keeps off all that is laid later. -/
theorem Rs.off {A A' : Nat → Prop} {w : World} {l : List α} {v : Value} (h : Rs E A w l v) (hA : ∀ b, A' b → A b ∨ w.heap.size ≤ b) : Rs E A' w l v := h.low.weak hA
theorem Rs.one {A : Nat → Prop} {w : World} {l : List α} {v : Value} (h : Rs E A w l v) : v.oneCell' = true := by
  obtain ⟨a, c, rfl, -⟩ := h
  rfl
theorem Rs.nil (A : Nat → Prop) (w : World) (a : Option Addr) (c : Nat) : Rs E A w [] (.slice a 0 c) := ⟨a, c, rfl, fun h => absurd rfl h⟩
theorem Rs.form {A : Nat → Prop} {w : World} {l : List α} {v : Value} (h : Rs E A w l v) : ∃ a c, v = .slice a l.length c := by
  obtain ⟨a, c, rfl, -⟩ := h
  exact ⟨a, c, rfl⟩
/-- One of the elements: its cells. -/
theorem Rs.at {A : Nat → Prop} {w : World} {l : List α} {a : Option Addr} {n c : Nat} (h : Rs E A w l (.slice a n c)) {i : Nat} {x : α} (hi : l[i]? = some x) :
    ∃ b off cs, a = some ⟨b, off, none⟩ ∧ n = l.length ∧ i < l.length ∧ E.rd A w x cs ∧ ∀ (j : Nat) u, cs[j]? = some u → w.cell? ⟨b, off + i * E.K + j, none⟩ = some u := by
  obtain ⟨a', c', he, h⟩ := h
  obtain ⟨rfl, rfl, rfl⟩ := Value.slice.inj he
  have hlt := (List.getElem?_eq_some_iff.1 hi).1
  obtain ⟨b, off, rfl, -, h⟩ := h (fun e => by rw [e] at hlt; simp at hlt)
  obtain ⟨cs, h1, h2⟩ := h i x hi
  exact ⟨b, off, cs, rfl, rfl, hlt, h1, h2⟩
/-- A beginning, and an end, of a slice. -/
theorem Rs.take {A : Nat → Prop} {w : World} {l : List α} {a : Option Addr} {c : Nat} (h : Rs E A w l (.slice a l.length c)) {m : Nat} (hm : m ≤ l.length) : Rs E A w (l.take m) (.slice a m c) := by
  have hl : (l.take m).length = m := by rw [List.length_take]; omega
  obtain ⟨a', c', he, h⟩ := h
  obtain ⟨rfl, -, rfl⟩ := Value.slice.inj he
  refine ⟨a, c, by rw [hl], fun hne => ?_⟩
  obtain ⟨b, off, rfl, hb, h⟩ := h (fun e => hne (by rw [e]; simp))
  refine ⟨b, off, rfl, hb, fun i x hi => h i x ?_⟩
  rw [List.getElem?_take] at hi
  split at hi
  · exact hi
  · cases hi
theorem Rs.drop {A : Nat → Prop} {w : World} {l : List α} {b off c c' : Nat} {ao : Option Addr} (h : Rs E A w l (.slice (some ⟨b, off, none⟩) l.length c)) {m : Nat} (hm : m ≤ l.length) (ha : m < l.length → ao = some ⟨b, off + m * E.K, none⟩) : Rs E A w (l.drop m) (.slice ao (l.length - m) c') := by
  obtain ⟨a', c0, he, h⟩ := h
  obtain ⟨rfl, -, rfl⟩ := Value.slice.inj he
  refine ⟨ao, c', by rw [List.length_drop], fun hne => ?_⟩
  have hlt : m < l.length := by
    apply Classical.byContradiction
    intro hn
    exact hne (List.drop_of_length_le (by omega))
  obtain ⟨b', off', hbe, hb, h⟩ := h (fun e => by rw [e] at hlt; simp at hlt)
  obtain ⟨rfl, rfl⟩ : b = b' ∧ off = off' := by simpa using hbe
  refine ⟨b, off + m * E.K, ha hlt, hb, fun i x hi => ?_⟩
  rw [List.getElem?_drop] at hi
  obtain ⟨cs, h1, h2⟩ := h _ x hi
  refine ⟨cs, h1, fun j u hj => ?_⟩
  rw [show off + m * E.K + i * E.K + j = off + (m + i) * E.K + j by rw [Nat.add_mul]; omega]
  exact h2 j u hj
/-- A list lies in one cell. -/
def En.list (E : En α) : En (List α) where
  K := 1
  hK := Nat.one_pos
  rd := fun A w l cs => ∃ v, cs = [v] ∧ Rs E A w l v
  len := fun ⟨v, h, _⟩ => by rw [h]; rfl
  one := fun ⟨v, h, hr⟩ c hc => by rw [h] at hc; rw [List.mem_singleton.1 hc]; exact hr.one
  keep := fun ⟨v, h, hr⟩ hk => ⟨v, h, hr.keep hk⟩
  weak := fun ⟨v, h, hr⟩ hA => ⟨v, h, hr.weak hA⟩
  low := fun ⟨v, h, hr⟩ => ⟨v, h, hr.low⟩
/-- One of the lists of a list. -/
theorem Rs.atl {A : Nat → Prop} {w : World} {l : List (List α)} {a : Option Addr} {n c : Nat} (h : Rs E.list A w l (.slice a n c)) {i : Nat} {x : List α} (hi : l[i]? = some x) :
    ∃ b off v, a = some ⟨b, off, none⟩ ∧ n = l.length ∧ i < l.length ∧ Rs E A w x v ∧ w.cell? ⟨b, off + i, none⟩ = some v := by
  obtain ⟨b, off, cs, rfl, hn, hlt, ⟨v, rfl, hr⟩, hc⟩ := h.at hi
  refine ⟨b, off, v, rfl, hn, hlt, hr, ?_⟩
  have := hc 0 v rfl
  rwa [show E.list.K = 1 from rfl, Nat.mul_one, Nat.add_zero] at this
/-- Elements that hold no memory: the cells of all, one behind the other. -/
theorem Rs.rd {A : Nat → Prop} {w : World} {K : Nat} {hK : 0 < K} {f : α → List Value} {hl : ∀ x, (f x).length = K} {h1 : ∀ x, ∀ c ∈ f x, c.oneCell' = true} {l : List α} {v : Value} (h : Rs (En.flat K hK f hl h1) A w l v) : Rd w K l.length v (l.flatMap f) := by
  obtain ⟨a, c, rfl, h⟩ := h
  have hlen : ∀ l : List α, (l.flatMap f).length = l.length * K := fun l => by
    induction l with
    | nil => simp
    | cons x l ih => rw [List.flatMap_cons, List.length_append, hl, ih, List.length_cons, Nat.succ_mul]; omega
  refine ⟨hlen l, a, c, rfl, fun hn => ?_⟩
  obtain ⟨b, off, rfl, -, h⟩ := h (fun e => by rw [e] at hn; exact absurd hn (by simp))
  refine ⟨b, off, rfl, ?_⟩
  have key : ∀ (m : List α) (q : Nat), (∀ (i : Nat) x, m[i]? = some x → ∀ (j : Nat) u, (f x)[j]? = some u → w.cell? ⟨b, off + q + i * K + j, none⟩ = some u) → ∀ i u, (m.flatMap f)[i]? = some u → w.cell? ⟨b, off + q + i, none⟩ = some u := by
    intro m
    induction m with
    | nil => intro q _ i u hu; simp at hu
    | cons x m ih =>
      intro q hm i u hu
      rw [List.flatMap_cons, List.getElem?_append] at hu
      split at hu
      · have := hm 0 x rfl i u hu
        rwa [Nat.zero_mul, Nat.add_zero] at this
      · next hge =>
        rw [hl] at hu hge
        have := ih (q + K) (fun i' y hi' j u' hj => by
          have := hm (i' + 1) y (by simpa using hi') j u' hj
          rwa [show off + q + (i' + 1) * K + j = off + (q + K) + i' * K + j by rw [Nat.succ_mul]; omega] at this) (i - K) u hu
        rwa [show off + (q + K) + (i - K) = off + q + i by omega] at this
  have := key l 0 (fun i x hi j u hj => by
    obtain ⟨cs, rfl, h2⟩ := h i x hi
    exact h2 j u hj)
  simpa using this
theorem Rs.of_rd {A : Nat → Prop} {w : World} {K : Nat} {hK : 0 < K} {f : α → List Value} {hl : ∀ x, (f x).length = K} {h1 : ∀ x, ∀ c ∈ f x, c.oneCell' = true} {l : List α} {a : Option Addr} {c : Nat} (h : Rd w K l.length (.slice a l.length c) (l.flatMap f)) (hA : ∀ b, (Value.slice a l.length c).ownBlock = some b → ¬ A b) : Rs (En.flat K hK f hl h1) A w l (.slice a l.length c) := by
  refine ⟨a, c, rfl, fun hne => ?_⟩
  have hpos : 0 < l.length := by cases l with | nil => exact absurd rfl hne | cons _ _ => simp
  obtain ⟨b, off, rfl, hc⟩ := h.cells hpos
  refine ⟨b, off, rfl, hA b rfl, fun i x hi => ⟨f x, rfl, fun j u hj => ?_⟩⟩
  have hj' : j < K := by have := (List.getElem?_eq_some_iff.1 hj).1; rw [hl] at this; exact this
  have key : ∀ (m : List α) (i : Nat), m[i]? = some x → (m.flatMap f)[i * K + j]? = some u := by
    intro m
    induction m with
    | nil => intro i hi; simp at hi
    | cons y m ih =>
      intro i hi
      rw [List.flatMap_cons]
      cases i with
      | zero =>
        obtain rfl : y = x := by simpa using hi
        rw [Nat.zero_mul, Nat.zero_add, List.getElem?_append_left (by rw [hl]; exact hj'), hj]
      | succ i =>
        rw [List.getElem?_append_right (by rw [hl, Nat.succ_mul]; omega), hl, show (i + 1) * K + j - K = i * K + j by rw [Nat.succ_mul]; omega]
        exact ih i (by simpa using hi)
  have := hc _ _ (key l i hi)
  rwa [← Nat.add_assoc] at this
variable (E)
/-- A row of the call's own, new at or above 'base'; what its elements read keeps off A and the row itself. -/
def Ow (T : TypeId) (base : Nat) (A : Nat → Prop) (w : World) (l : List α) (v : Value) : Prop :=
  ∃ a c cs, v = .slice a l.length c ∧ w.ownsRow base T E.K (.slice a l.length c) l.length cs ∧ ∀ (i : Nat) x, l[i]? = some x → E.rd (fun b => A b ∨ (Value.slice a l.length c).ownBlock = some b) w x ((cs.drop (i * E.K)).take E.K)
variable {E}
theorem Ow.rs {T : TypeId} {base : Nat} {A : Nat → Prop} {w : World} {l : List α} {v : Value} (h : Ow E T base A w l v) (hA : ∀ b, A b → b < base) : Rs E A w l v := by
  obtain ⟨a, c, cs, rfl, ho, he⟩ := h
  refine ⟨a, c, rfl, fun hne => ?_⟩
  have hpos : 0 < l.length := by cases l with | nil => exact absurd rfl hne | cons _ _ => simp
  have hr := own_rd ho
  obtain ⟨b, off, rfl, hc⟩ := hr.cells hpos
  refine ⟨b, off, rfl, fun e => ?_, fun i x hi => ⟨_, E.weak (he i x hi) (fun b hb => .inl hb), fun j u hj => ?_⟩⟩
  · have h1 := hA b e
    have h2 := (ho.lt b rfl).1
    omega
  · rw [List.getElem?_take] at hj
    split at hj
    · rw [List.getElem?_drop] at hj
      have := hc _ _ hj
      rwa [← Nat.add_assoc] at this
    · cases hj
theorem Ow.keep {T : TypeId} {base : Nat} {A : Nat → Prop} {w w' : World} {l : List α} {v : Value} (h : Ow E T base A w l v) (hA : ∀ b, A b → b < base) (hk : Keeps A w w') : Ow E T base A w' l v := by
  obtain ⟨a, c, cs, rfl, ho, he⟩ := h
  refine ⟨a, c, cs, rfl, ⟨ho.1, ?_⟩, fun i x hi => E.keep (he i x hi) (hk.weak fun b hb => .inl hb)⟩
  rcases ho.2 with h2 | ⟨g, cap, cur, hv, hb, hg, r⟩
  · exact .inl h2
  · exact .inr ⟨g, cap, cur, hv, hb, hk g _ (fun e => by have := hA g e; omega) hg, r⟩
theorem Ow.on {T : TypeId} {base : Nat} {A : Nat → Prop} {w w' : World} {l : List α} {v : Value} (h : Ow E T base A w l v) (hx : Ext w w') : Ow E T base A w' l v := by
  obtain ⟨a, c, cs, rfl, ho, he⟩ := h
  obtain ⟨z, rfl⟩ := hx
  exact ⟨a, c, cs, rfl, own_ext ho z, fun i x hi => E.keep (he i x hi) (Keeps.ext ⟨z, rfl⟩)⟩
theorem Ow.nil (T : TypeId) (base : Nat) (A : Nat → Prop) (w : World) : Ow E T base A w [] (.slice none 0 0) := ⟨none, 0, [], rfl, World.ownsRow_nil _ _ _ _, fun i x hi => by simp at hi⟩
theorem Ow.form {T : TypeId} {base : Nat} {A : Nat → Prop} {w : World} {l : List α} {v : Value} (h : Ow E T base A w l v) : ∃ a c, v = .slice a l.length c := by
  obtain ⟨a, c, _, rfl, -⟩ := h
  exact ⟨a, c, rfl⟩
theorem Ow.base {T : TypeId} {b b' : Nat} {A : Nat → Prop} {w : World} {l : List α} {v : Value} (h : Ow E T b A w l v) (hb : b' ≤ b) : Ow E T b' A w l v := by
  obtain ⟨a, c, cs, rfl, ho, he⟩ := h
  exact ⟨a, c, cs, rfl, own_base ho hb, he⟩
theorem Ow.weak {T : TypeId} {b : Nat} {A A' : Nat → Prop} {w : World} {l : List α} {v : Value} (h : Ow E T b A w l v) (hA : ∀ k, A' k → A k) : Ow E T b A' w l v := by
  obtain ⟨a, c, cs, rfl, ho, he⟩ := h
  exact ⟨a, c, cs, rfl, ho, fun i x hi => E.weak (he i x hi) (fun k hk => hk.imp (hA k) id)⟩
/-- The cells of all elements of a slice that reads. -/
theorem Rs.cells {A : Nat → Prop} {w : World} {l : List α} {v : Value} (h : Rs E A w l v) : ∃ cs, Rd w E.K l.length v cs ∧ (∀ c ∈ cs, c.oneCell' = true) ∧ ∀ (i : Nat) x, l[i]? = some x → E.rd A w x ((cs.drop (i * E.K)).take E.K) := by
  obtain ⟨a, c, rfl, h⟩ := h
  by_cases hl : l = []
  · subst hl
    exact ⟨[], Rd.nil _ _ _ _, by simp, fun i x hi => by simp at hi⟩
  · obtain ⟨b, off, rfl, -, h⟩ := h hl
    have key : ∀ (m : List α) (q : Nat), (∀ (i : Nat) x, m[i]? = some x → ∃ cs, E.rd A w x cs ∧ ∀ (j : Nat) u, cs[j]? = some u → w.cell? ⟨b, off + q + i * E.K + j, none⟩ = some u) →
        ∃ cs : List Value, cs.length = m.length * E.K ∧ (∀ c ∈ cs, c.oneCell' = true) ∧ (∀ i u, cs[i]? = some u → w.cell? ⟨b, off + q + i, none⟩ = some u) ∧ ∀ (i : Nat) x, m[i]? = some x → E.rd A w x ((cs.drop (i * E.K)).take E.K) := by
      intro m
      induction m with
      | nil => intro q _; exact ⟨[], by simp, by simp, by simp, fun i x hi => by simp at hi⟩
      | cons x m ih =>
        intro q hm
        obtain ⟨c0, h1, h2⟩ := hm 0 x rfl
        have hl0 := E.len h1
        obtain ⟨cs, g1, g2, g3, g4⟩ := ih (q + E.K) (fun i y hi => by
          obtain ⟨c1, k1, k2⟩ := hm (i + 1) y (by simpa using hi)
          refine ⟨c1, k1, fun j u hj => ?_⟩
          have := k2 j u hj
          rwa [show off + q + (i + 1) * E.K + j = off + (q + E.K) + i * E.K + j by rw [Nat.succ_mul]; omega] at this)
        refine ⟨c0 ++ cs, by rw [List.length_append, g1, hl0, List.length_cons, Nat.succ_mul]; omega, ?_, ?_, ?_⟩
        · intro c hc
          rcases List.mem_append.1 hc with hc | hc
          · exact E.one h1 c hc
          · exact g2 c hc
        · intro i u hu
          rw [List.getElem?_append] at hu
          split at hu
          · have := h2 i u hu
            rwa [Nat.zero_mul, Nat.add_zero] at this
          · next hge =>
            have := g3 _ u hu
            rwa [hl0, show off + (q + E.K) + (i - E.K) = off + q + i by omega] at this
        · intro i y hi
          cases i with
          | zero =>
            obtain rfl : x = y := by simpa using hi
            rw [Nat.zero_mul, List.drop_zero, List.take_append_of_le_length (by omega), List.take_of_length_le (by omega)]
            exact h1
          | succ i =>
            rw [List.drop_append, List.drop_of_length_le (by rw [hl0, Nat.succ_mul]; omega), List.nil_append, hl0, show (i + 1) * E.K - E.K = i * E.K by rw [Nat.succ_mul]; omega]
            exact g4 i y (by simpa using hi)
    obtain ⟨cs, g1, g2, g3, g4⟩ := key l 0 (fun i x hi => by simpa using h i x hi)
    exact ⟨cs, ⟨g1, some ⟨b, off, none⟩, c, rfl, fun _ => ⟨b, off, rfl, by simpa using g3⟩⟩, g2, g4⟩
end
end Go.Proofs.Ytmngjifcgfnogaa
