/- Arguments opened to deep values. -/
import Derived.Test.YtkmgdejpdhlleaaDqB
import Derived.Test.YtkmgdejpdhlleaaOpenSl
import Derived.OpenShut
import Derived.Laws.IdiomArrays
namespace Go.Proofs.Ytkmgdejpdhlleaa.Dq
set_option linter.unusedSimpArgs false
set_option linter.unusedVariables false
set_option maxRecDepth 100000
open Go.RowKit Go.WideShapes Go.ChangeShapes Go.Deep

/-- The cells of a memory. -/
def inW (w : World) : Pr := fun b _ => b < w.heap.size
theorem inW_of {w : World} {b i : Nat} {v : Value} (h : w.cell? ⟨b, i, none⟩ = some v) : inW w b i := World.block_lt_of_cell? _ _ h
/-- A type's values read as such letters. -/
def OpD (P : Program) (w : World) (t : TypeId) (p : List D → Prop) : Prop :=
  ∀ ⦃H : Type⦄ (enc : TypeId × Value → H) (base : Nat) (spare : Nat → Bool) (held : Bool) (fuel : Nat) (cs : List Value) (x : DataW H × List MemPlace), DataW.trod enc P w base spare held fuel t cs = some x → ∃ ds, DenL (inW w) w ds cs ∧ p ds
section
variable {P : Program} {w : World}
theorem opd_int {t : TypeId} {k : IntKind} (ht : P.underlying t = some (.int k)) : OpD P w t (fun ds => ∃ n, ds = [.int k n] ∧ k.min ≤ n ∧ n ≤ k.max) := by
  intro H enc base spare held fuel cs x h
  obtain ⟨n, rfl, _, hw⟩ := DataW.trod_int ht h
  exact ⟨_, DenL.single (.int k n), n, rfl, by simpa [Lit.wf] using hw⟩
theorem opd_bool {t : TypeId} (ht : P.underlying t = some .bool) : OpD P w t (fun ds => ∃ b, ds = [.bool b]) := by
  intro H enc base spare held fuel cs x h
  obtain ⟨b, rfl, _⟩ := DataW.trod_bool ht h
  exact ⟨_, DenL.single (.bool b), b, rfl⟩
theorem opd_mono {t : TypeId} {p q : List D → Prop} (h : OpD P w t p) (hq : ∀ ds, p ds → q ds) : OpD P w t q := by
  intro H enc base spare held fuel cs x hx
  obtain ⟨ds, h1, h2⟩ := h enc base spare held fuel cs x hx
  exact ⟨ds, h1, hq _ h2⟩
theorem opd_sl {t e : TypeId} {k : Nat} {p : List D → Prop} (ht : P.underlying t = some (.slice e)) (hk : P.cellsOf e = k) (hk0 : 0 < k) (he : OpD P w e p) :
    OpD P w t (fun ds => ∃ l : List (List D), ds = [.sl l] ∧ (∀ x ∈ l, p x) ∧ l.length ≤ maxLen) := by
  intro H enc base spare held fuel cs x h
  rcases open_slice ht h with ⟨h0, _⟩ | ⟨a, len, cap, m, n, Dd, Pl, h0, hb, hl, hm, hmm, _, hx⟩
  · subst h0
    exact ⟨_, DenL.single (.nil _ _), [], rfl, by simp, by simp⟩
  · subst h0
    rw [hk] at hx
    have hle : len ≤ m := by rw [hmm]; split <;> omega
    have each : ∀ i, i < len → ∃ z : List D × List Value, DenL (inW w) w z.1 z.2 ∧ p z.1 ∧ z.2.length = k ∧ ∀ j, j < k → w.cell? (a.add (i * k + j)) = z.2[j]? := by
      intro i hi
      obtain ⟨cs', h1, h2⟩ := hx i (by omega)
      obtain ⟨ds, hd, hp⟩ := he _ _ _ _ _ _ _ h2
      obtain ⟨_, hlen, hc⟩ := World.cells?_some h1
      refine ⟨(ds, cs'), hd, hp, hlen, fun j hj => ?_⟩
      dsimp only
      rw [← hc j hj]
      congr 1
      unfold Addr.add
      repeat' split
      all_goals first | rfl | omega | (simp_all; done) | (simp; omega) | skip
      all_goals simp_all <;> omega
    cases len with
    | zero => exact ⟨_, DenL.single (.nil _ _), [], rfl, by simp, by simp⟩
    | succ len =>
    haveI : Inhabited (List D × List Value) := ⟨([], [])⟩
    obtain ⟨Y, hY⟩ := choose_lt (α := List D × List Value) (p := fun i z => DenL (inW w) w z.1 z.2 ∧ p z.1 ∧ z.2.length = k ∧ ∀ j, j < k → w.cell? (a.add (i * k + j)) = z.2[j]?) each
    have ha : a = ⟨a.block, a.off, none⟩ := by
      obtain ⟨-, -, g3, g4⟩ := hY 0 (by omega)
      have h3 := g4 0 hk0
      rw [show (0 * k + 0) = 0 by omega] at h3
      have h4 : a.add 0 = a := by simp [Addr.add]
      rw [h4, List.getElem?_eq_getElem (by omega)] at h3
      exact cell_addr h3
    have key : Den (inW w) w (.sl ((List.range (len + 1)).map fun i => (Y i).1)) (.slice (some ⟨a.block, a.off, none⟩) ((List.range (len + 1)).map fun i => (Y i).1).length cap) := by
      refine .sl _ k a.block a.off cap (fun i j => ((Y i).2[j]?).getD undef) (by simp) (by simp; omega) ?_ ?_ ?_
      · intro cs hcs
        obtain ⟨i, hi, rfl⟩ := List.mem_map.1 hcs
        obtain ⟨g1, -, g3, -⟩ := hY i (by simpa using hi)
        rw [g1.1, g3]
      · intro i j hi hj
        obtain ⟨-, -, g3, g4⟩ := hY i (by simpa using hi)
        have := g4 j hj
        rw [ha, addr_add, List.getElem?_eq_getElem (by omega), ← Nat.add_assoc] at this
        refine ⟨inW_of this, ?_⟩
        rw [this, List.getElem?_eq_getElem (by omega)]
        rfl
      · intro i cs j d hi hj
        have hlt : i < len + 1 := by simpa using (List.getElem?_eq_some_iff.1 hi).1
        obtain ⟨g1, -, g3, -⟩ := hY i hlt
        obtain rfl : (Y i).1 = cs := by
          rw [List.getElem?_map, List.getElem?_range hlt] at hi
          simpa using hi
        obtain ⟨u, hu, hd⟩ := g1.get hj
        rw [hu]
        exact hd
    rw [List.length_map, List.length_range, ← ha] at key
    refine ⟨_, DenL.single key, _, rfl, ?_, by rw [List.length_map, List.length_range]; omega⟩
    intro x hx
    obtain ⟨i, hi, rfl⟩ := List.mem_map.1 hx
    exact (hY i (by simpa using hi)).2.1
def lay (P : Program) : Nat → List Field → Nat → Bool
  | o, [], n => o == n
  | o, f :: fs, n => f.offset == o && lay P (o + P.cellsOf f.type) fs n
def Parts : List (List D → Prop) → List D → Prop
  | [], ds => ds = []
  | p :: ps, ds => ∃ a b, ds = a ++ b ∧ p a ∧ Parts ps b
inductive OpF (P : Program) (w : World) : List Field → List (List D → Prop) → Prop
  | nil : OpF P w [] []
  | cons {f : Field} {p : List D → Prop} {fs : List Field} {ps : List (List D → Prop)} (h : OpD P w f.type p) (t : OpF P w fs ps) : OpF P w (f :: fs) (p :: ps)
theorem fields_den {H : Type} (enc : TypeId × Value → H) (base : Nat) (spare : Nat → Bool) (held : Bool) (n : Nat) (cs : List Value) {fs : List Field} {ps : List (List D → Prop)} (hp : OpF P w fs ps) :
    ∀ (o : Nat), o ≤ cs.length → lay P o fs cs.length = true → (∀ f ∈ fs, ∃ y, DataW.trod enc P w base spare held n f.type ((cs.drop f.offset).take (P.cellsOf f.type)) = some y) → ∃ ds, DenL (inW w) w ds (cs.drop o) ∧ Parts ps ds := by
  induction hp with
  | nil =>
    intro o ho hl _
    have : o = cs.length := by simpa [lay] using hl
    subst this
    rw [List.drop_length]
    exact ⟨[], DenL.nil, rfl⟩
  | @cons f p fs ps h t ih =>
    intro o ho hl hf
    have hl' : f.offset = o ∧ lay P (o + P.cellsOf f.type) fs cs.length = true := by simpa [lay] using hl
    obtain ⟨rfl, hl⟩ := hl'
    obtain ⟨y, hy⟩ := hf f List.mem_cons_self
    obtain ⟨a, ha, hpa⟩ := h _ _ _ _ _ _ _ hy
    have hmono : ∀ (fs : List Field) (o : Nat), lay P o fs cs.length = true → o ≤ cs.length := by
      intro fs
      induction fs with
      | nil => intro o h; have : o = cs.length := by simpa [lay] using h
               omega
      | cons f fs ih => intro o h; have h' : f.offset = o ∧ lay P (o + P.cellsOf f.type) fs cs.length = true := by simpa [lay] using h
                        have := ih _ h'.2; omega
    obtain ⟨b, hb, hpb⟩ := ih (f.offset + P.cellsOf f.type) (hmono _ _ hl) hl (fun g hg => hf g (List.mem_cons_of_mem _ hg))
    refine ⟨a ++ b, ?_, a, b, rfl, hpa, hpb⟩
    have e : cs.drop f.offset = (cs.drop f.offset).take (P.cellsOf f.type) ++ cs.drop (f.offset + P.cellsOf f.type) := by
      conv => lhs; rw [← List.take_append_drop (P.cellsOf f.type) (cs.drop f.offset)]
      rw [List.drop_drop]
    rw [e]
    exact ha.append hb
theorem opd_struct {t : TypeId} {fs : Array Field} {ps : List (List D → Prop)} (ht : P.underlying t = some (.struct fs)) (hl : lay P 0 fs.toList (P.cellsOf t) = true) (hp : OpF P w fs.toList ps) : OpD P w t (Parts ps) := by
  intro H enc base spare held fuel cs x h
  obtain ⟨xs, n, -, -, hlen, hxl, hf⟩ := DataW.trod_struct ht h
  have := fields_den enc base spare held n cs hp 0 (Nat.zero_le _) (by rw [hlen]; exact hl) (fun f hm => by
    obtain ⟨i, hi⟩ := List.getElem?_of_mem hm
    rw [Array.getElem?_toList] at hi
    have hlt := (Array.getElem?_eq_some_iff.1 hi).1
    rw [hf i f hi, List.getElem?_eq_getElem (by omega)]
    exact ⟨_, rfl⟩)
  simpa using this
end
/-- Elements of a coded list. -/
theorem as_encL {α : Type} {C : Cod α} {good : α → Prop} : ∀ {l : List (List D)}, (∀ x ∈ l, ∃ a, x = C.enc a ∧ good a) → ∃ xs, l = encL C xs ∧ ∀ a ∈ xs, good a
  | [], _ => ⟨[], rfl, by simp⟩
  | x :: l, h => by
    obtain ⟨a, rfl, hg⟩ := h x List.mem_cons_self
    obtain ⟨xs, rfl, hs⟩ := as_encL (l := l) (fun y hy => h y (List.mem_cons_of_mem _ hy))
    refine ⟨a :: xs, by rw [encL_cons], fun y hy => ?_⟩
    rcases List.mem_cons.1 hy with rfl | hy
    · exact hg
    · exact hs y hy
/-- A type whose values are letters of a code. -/
abbrev OpC {α : Type} (P : Program) (w : World) (t : TypeId) (C : Cod α) (good : α → Prop) : Prop := OpD P w t (fun ds => ∃ a, ds = C.enc a ∧ good a)
abbrev OpS {α : Type} (P : Program) (w : World) (t : TypeId) (C : Cod α) (good : α → Prop) : Prop := OpD P w t (fun ds => ∃ l : List α, ds = [.sl (encL C l)] ∧ (∀ a ∈ l, good a) ∧ l.length ≤ maxLen)
theorem ops_of {α : Type} {P : Program} {w : World} {t e : TypeId} {C : Cod α} {good : α → Prop} {k : Nat} (ht : P.underlying t = some (.slice e)) (hk : P.cellsOf e = k) (hk0 : 0 < k) (he : OpC P w e C good) : OpS P w t C good :=
  opd_mono (opd_sl ht hk hk0 he) fun ds ⟨l, h1, h2, h3⟩ => by
    obtain ⟨xs, rfl, hs⟩ := as_encL h2
    exact ⟨xs, h1, hs, by rwa [encL_len] at h3⟩
section
variable {H : Type} {enc : TypeId × Value → H} {P : Program} {w : World} {base : Nat} {spare : Nat → Bool} {held : Bool}
/-- An argument: a slice. -/
theorem arg_sl {α : Type} {t e : TypeId} {C : Cod α} {good : α → Prop} (ht : P.underlying t = some (.slice e)) (h : OpS P w t C good) {v : Value} {d : DataW H} {ps : List MemPlace} (hd : DataW.Trod enc P w base spare held t v d ps) (hv : v.cells.toList = [v]) :
    ∃ l : List α, Den (inW w) w (.sl (encL C l)) v ∧ (∀ a ∈ l, good a) ∧ l.length ≤ maxLen := by
  obtain ⟨fuel, hd⟩ := hd
  rw [hv] at hd
  obtain ⟨ds, h1, l, rfl, h2, h3⟩ := h _ _ _ _ _ _ _ hd
  obtain ⟨u, hu, hden⟩ := h1.get (j := 0) rfl
  obtain rfl : v = u := by simpa using hu
  exact ⟨l, hden, h2, h3⟩
/-- An argument: a struct. -/
theorem arg_agg {t : TypeId} {p : List D → Prop} (h : OpD P w t p) {us : Array Value} {d : DataW H} {ps : List MemPlace} (hd : DataW.Trod enc P w base spare held t (.agg us) d ps) : ∃ ds, DenL (inW w) w ds us.toList ∧ p ds := by
  obtain ⟨fuel, hd⟩ := hd
  exact h _ _ _ _ _ _ _ hd
end
/-- A struct's value is an aggregate. -/
theorem okWide_agg {P : Program} {w : World} {r : Reach} {b : Nat} {t : TypeId} {fs : Array Field} {v : Value} (ht : P.underlying t = some (.struct fs)) (hv : Value.okWide P w r b t v) : ∃ us, v = .agg us := by
  unfold Value.okWide at hv
  rw [ht] at hv
  obtain ⟨cs, rfl, -⟩ := hv
  exact ⟨_, rfl⟩
theorem D1L.n {G : Gh} {w : World} : D1L G w [] [] := ⟨rfl, fun j x u h => by simp at h⟩
theorem D1L.c {G : Gh} {w : World} {x : S1} {v : Value} {l : List S1} {us : List Value} (h : D1 G w x v) (t : D1L G w l us) : D1L G w (x :: l) (v :: us) := ⟨by simp [t.1], fun j y u h1 h2 => by
  cases j with
  | zero =>
    obtain rfl : x = y := by simpa using h1
    obtain rfl : v = u := by simpa using h2
    exact h
  | succ j => exact t.2 j y u (by simpa using h1) (by simpa using h2)⟩
/-- A law whose walk answers 'true'. -/
theorem said {P : Program} {f : FuncId} {args : List S1} {w : World} {vs : List Value} (h : Cal P f args (.one (.c (.bool true)))) (hv : D1L (gh (inW w)) w args vs) : Calls P f vs.toArray w fun e w' => e = .returned (.bool true) ∧ Ext w w' :=
  (h (inW w) w vs (fun b i h => h) hv).mono fun e w' ⟨v, A', he, hx, _, _, hr⟩ => by
    have hv : v = .bool true := by
      cases hr with
      | bool => rfl
    exact ⟨by rw [he, hv], hx⟩
end Go.Proofs.Ytkmgdejpdhlleaa.Dq
