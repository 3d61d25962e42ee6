/- Deep values, the second generation: what they are, and each operation, first part. -/
import Derived.Test.YtkmgdejpdhlleaaApp
import Derived.Test.YtkmgdejpdhlleaaInv3
import Derived.Great.BuildSlice
import Derived.Laws.OwnMore
import Derived.Laws.MakeOwn
namespace Go.Proofs.Ytkmgdejpdhlleaa.Dq
set_option linter.unusedSimpArgs false
set_option linter.unusedVariables false
set_option maxRecDepth 100000
open Go.RowKit

/-- What one cell reads as. -/
inductive D where
  | int (k : IntKind) (n : Int)
  | bool (b : Bool)
  | sl (l : List (List D))
  | nl
  | lk (k n : Nat)
  | fb (f : FuncId) (ks : List Nat)
  | fz
/-- Cells that stay as they are. -/
abbrev Pr := Nat → Nat → Prop
inductive Den (A : Pr) (w : World) : D → Value → Prop
  | int (k : IntKind) (n : Int) : Den A w (.int k n) (.int k n)
  | bool (b : Bool) : Den A w (.bool b) (.bool b)
  | nil (a : Option Addr) (c : Nat) : Den A w (.sl []) (.slice a 0 c)
  | nl : Den A w .nl (.slice none 0 0)
  | fz : Den A w .fz .nilFunc
  | sl (l : List (List D)) (K b off c : Nat) (u : Nat → Nat → Value) (h0 : l ≠ []) (hc : l.length ≤ c) (hK : ∀ cs ∈ l, cs.length = K)
      (hA : ∀ i j, i < l.length → j < K → A b (off + i * K + j) ∧ w.cell? ⟨b, off + i * K + j, none⟩ = some (u i j))
      (hu : ∀ (i : Nat) cs (j : Nat) d, l[i]? = some cs → cs[j]? = some d → Den A w d (u i j)) : Den A w (.sl l) (.slice (some ⟨b, off, none⟩) l.length c)
def Kp (A : Pr) (w w' : World) : Prop := ∀ b i v, A b i → w.cell? ⟨b, i, none⟩ = some v → w'.cell? ⟨b, i, none⟩ = some v
theorem Kp.refl (A : Pr) (w : World) : Kp A w w := fun _ _ _ _ h => h
theorem Kp.ext {A : Pr} {w w' : World} (h : Ext w w') : Kp A w w' := fun b i v _ hc => by
  obtain ⟨x, rfl⟩ := h
  rw [cell_ext_a _ _ _ (World.block_lt_of_cell? _ _ hc), hc]
theorem Den.mono {A A' : Pr} {w w' : World} {d : D} {v : Value} (h : Den A w d v) (hA : ∀ b i, A b i → A' b i) (hk : Kp A w w') : Den A' w' d v := by
  induction h with
  | int k n => exact .int k n
  | bool b => exact .bool b
  | nil a c => exact .nil a c
  | nl => exact .nl
  | fz => exact .fz
  | sl l K b off c u h0 hc hK hA' hu ih => exact .sl l K b off c u h0 hc hK (fun i j hi hj => ⟨hA _ _ (hA' i j hi hj).1, hk _ _ _ (hA' i j hi hj).1 (hA' i j hi hj).2⟩) ih
theorem Den.one {A : Pr} {w : World} {d : D} {v : Value} (h : Den A w d v) : v.oneCell' = true := by cases h <;> rfl
theorem Den.cells {A : Pr} {w : World} {d : D} {v : Value} (h : Den A w d v) : v.cells = #[v] := by cases h <;> rfl
theorem Den.noAgg {A : Pr} {w : World} {d : D} {v : Value} (h : Den A w d v) : (∀ x, v ≠ .agg x) ∧ (∀ x, v ≠ .tuple x) := by cases h <;> exact ⟨fun _ => nofun, fun _ => nofun⟩
/-- A list of cells. -/
def AL (R : D → Value → Prop) (ds : List D) (us : List Value) : Prop := ds.length = us.length ∧ ∀ (j : Nat) d u, ds[j]? = some d → us[j]? = some u → R d u
section
variable {R R' : D → Value → Prop} {ds es : List D} {us vs : List Value}
theorem AL.map (h : AL R ds us) (hR : ∀ d u, R d u → R' d u) : AL R' ds us := ⟨h.1, fun j d u h1 h2 => hR _ _ (h.2 j d u h1 h2)⟩
theorem AL.nil : AL R [] [] := ⟨rfl, fun j d u h => by simp at h⟩
theorem AL.single {d : D} {u : Value} (h : R d u) : AL R [d] [u] := ⟨rfl, fun j d' u' h1 h2 => by
  cases j with
  | zero =>
    obtain rfl : d = d' := by simpa using h1
    obtain rfl : u = u' := by simpa using h2
    exact h
  | succ j => simp at h1⟩
theorem AL.append (h : AL R ds us) (k : AL R es vs) : AL R (ds ++ es) (us ++ vs) := by
  refine ⟨by simp [h.1, k.1], fun j d u h1 h2 => ?_⟩
  have hl := h.1
  by_cases hj : j < ds.length
  · rw [List.getElem?_append_left hj] at h1
    rw [List.getElem?_append_left (by omega)] at h2
    exact h.2 j d u h1 h2
  · rw [List.getElem?_append_right (by omega)] at h1
    rw [List.getElem?_append_right (by omega), ← hl] at h2
    exact k.2 _ d u h1 h2
theorem AL.drop (h : AL R ds us) (n : Nat) : AL R (ds.drop n) (us.drop n) := ⟨by simp [h.1], fun j d u h1 h2 => by
  rw [List.getElem?_drop] at h1 h2
  exact h.2 _ d u h1 h2⟩
theorem AL.take (h : AL R ds us) (n : Nat) : AL R (ds.take n) (us.take n) := ⟨by simp [h.1], fun j d u h1 h2 => by
  rw [List.getElem?_take] at h1 h2
  split at h1
  · next hj => rw [if_pos hj] at h2; exact h.2 _ d u h1 h2
  · cases h1⟩
theorem AL.get (h : AL R ds us) {j : Nat} {d : D} (hd : ds[j]? = some d) : ∃ u, us[j]? = some u ∧ R d u := by
  have hlt := (List.getElem?_eq_some_iff.1 hd).1
  have hl := h.1
  exact ⟨us[j]'(by omega), List.getElem?_eq_getElem _, h.2 j d _ hd (List.getElem?_eq_getElem _)⟩
theorem AL.uget (h : AL R ds us) {u : Value} (hu : u ∈ us) : ∃ d ∈ ds, R d u := by
  obtain ⟨j, hj⟩ := List.getElem?_of_mem hu
  have hlt := (List.getElem?_eq_some_iff.1 hj).1
  have hl := h.1
  exact ⟨_, List.getElem_mem _, h.2 j _ u (List.getElem?_eq_getElem (by omega)) hj⟩
theorem AL.cons_inv {d : D} (h : AL R (d :: ds) us) : ∃ u us', us = u :: us' ∧ R d u ∧ AL R ds us' := by
  cases us with
  | nil => have := h.1; simp at this
  | cons u us' => exact ⟨u, us', rfl, h.2 0 d u rfl rfl, by simpa using h.1, fun j d' u' h1 h2 => h.2 (j + 1) d' u' (by simpa using h1) (by simpa using h2)⟩
theorem AL.set (h : AL R ds us) (i : Nat) {d : D} {u : Value} (hd : R d u) : AL R (ds.set i d) (us.set i u) := ⟨by simp [h.1], fun j d' u' h1 h2 => by
  rw [List.getElem?_set] at h1 h2
  have hl := h.1
  by_cases hij : i = j
  · rw [if_pos hij] at h1 h2
    split at h1
    · rw [if_pos (by omega)] at h2
      obtain rfl := Option.some.inj h1
      obtain rfl := Option.some.inj h2
      exact hd
    · cases h1
  · rw [if_neg hij] at h1 h2
    exact h.2 j d' u' h1 h2⟩
end
abbrev DenL (A : Pr) (w : World) (ds : List D) (us : List Value) : Prop := AL (Den A w) ds us
theorem DenL.mono {A A' : Pr} {w w' : World} {ds : List D} {us : List Value} (h : DenL A w ds us) (hA : ∀ b i, A b i → A' b i) (hk : Kp A w w') : DenL A' w' ds us := AL.map h fun _ _ h => h.mono hA hk
theorem DenL.nil {A : Pr} {w : World} : DenL A w [] [] := AL.nil
theorem DenL.single {A : Pr} {w : World} {d : D} {u : Value} (h : Den A w d u) : DenL A w [d] [u] := AL.single h
theorem DenL.one {A : Pr} {w : World} {ds : List D} {us : List Value} (h : DenL A w ds us) : ∀ u ∈ us, u.oneCell' = true := fun u hu => by
  obtain ⟨d, -, hd⟩ := AL.uget h hu
  exact hd.one
theorem flatten_length {K : Nat} : ∀ {l : List (List D)}, (∀ cs ∈ l, cs.length = K) → l.flatten.length = l.length * K
  | [], _ => by simp
  | x :: l, h => by
    rw [List.flatten_cons, List.length_append, flatten_length (fun cs hc => h cs (List.mem_cons_of_mem _ hc)), h x List.mem_cons_self, List.length_cons, Nat.succ_mul]
    omega
theorem flatten_get {K : Nat} : ∀ {l : List (List D)} (i j : Nat) {cs : List D}, (∀ cs ∈ l, cs.length = K) → l[i]? = some cs → j < K → l.flatten[i * K + j]? = cs[j]?
  | [], i, j, cs, _, h, _ => by simp at h
  | x :: l, 0, j, cs, hK, h, hj => by
    obtain rfl : x = cs := by simpa using h
    rw [List.flatten_cons, Nat.zero_mul, Nat.zero_add, List.getElem?_append_left (by rw [hK x List.mem_cons_self]; exact hj)]
  | x :: l, i + 1, j, cs, hK, h, hj => by
    have hx := hK x List.mem_cons_self
    rw [List.flatten_cons, List.getElem?_append_right (by rw [hx, Nat.succ_mul]; omega), hx, show (i + 1) * K + j - K = i * K + j by rw [Nat.succ_mul]; omega]
    exact flatten_get i j (fun cs hc => hK cs (List.mem_cons_of_mem _ hc)) (by simpa using h) hj
/-- The cells of a slice that reads. -/
theorem cells_of_den {A : Pr} {w : World} {l : List (List D)} {v : Value} {K : Nat} (h : Den A w (.sl l) v) (hK : ∀ cs ∈ l, cs.length = K) :
    ∃ a c us, v = .slice a l.length c ∧ Rd w K l.length (.slice a l.length c) us ∧ DenL A w l.flatten us ∧ l.length ≤ c ∧ ∀ b off i, a = some ⟨b, off, none⟩ → i < l.length * K → A b (off + i) := by
  cases h with
  | nil a c => exact ⟨a, c, [], rfl, Rd.nil _ _ _ _, DenL.nil, Nat.zero_le _, fun b off i _ hi => by simp at hi⟩
  | sl _ K' b off c u h0 hc hK' hA hu =>
    obtain rfl : K' = K := by
      cases l with
      | nil => exact absurd rfl h0
      | cons x l => rw [← hK' x List.mem_cons_self, hK x List.mem_cons_self]
    have dm : ∀ i, i < l.length * K' → i / K' < l.length ∧ i % K' < K' ∧ i / K' * K' + i % K' = i := fun i hi => by
      have hp : 0 < K' := by
        rcases Nat.eq_zero_or_pos K' with h | h
        · rw [h] at hi; simp at hi
        · exact h
      refine ⟨Nat.div_lt_of_lt_mul (by rwa [Nat.mul_comm]), Nat.mod_lt _ hp, ?_⟩
      rw [Nat.mul_comm]
      exact Nat.div_add_mod i K'
    have hus : ∀ i x, ((List.range (l.length * K')).map fun i => u (i / K') (i % K'))[i]? = some x → i < l.length * K' ∧ x = u (i / K') (i % K') := fun i x h => by
      rw [List.getElem?_map] at h
      by_cases hi : i < l.length * K'
      · rw [List.getElem?_range hi] at h
        exact ⟨hi, by simpa using h.symm⟩
      · rw [List.getElem?_eq_none (by simpa using hi)] at h
        cases h
    refine ⟨some ⟨b, off, none⟩, c, (List.range (l.length * K')).map fun i => u (i / K') (i % K'), rfl, ⟨by simp, _, _, rfl, fun _ => ⟨b, off, rfl, fun i x hx => ?_⟩⟩, ⟨by simp [flatten_length hK], fun j d x h1 h2 => ?_⟩, hc, fun b' off' i hb hi => ?_⟩
    · obtain ⟨hi, rfl⟩ := hus i x hx
      obtain ⟨h1, h2, h3⟩ := dm i hi
      have := (hA _ _ h1 h2).2
      rwa [Nat.add_assoc, h3] at this
    · obtain ⟨hi, rfl⟩ := hus j x h2
      obtain ⟨g1, g2, g3⟩ := dm j hi
      obtain ⟨cs, hcs⟩ : ∃ cs, l[j / K']? = some cs := ⟨l[j / K'], List.getElem?_eq_getElem _⟩
      have := flatten_get (j / K') (j % K') hK hcs g2
      rw [g3, h1] at this
      exact hu _ cs _ d hcs this.symm
    · obtain ⟨rfl, rfl⟩ : b = b' ∧ off = off' := by simpa using hb
      obtain ⟨h1, h2, h3⟩ := dm i hi
      have := (hA _ _ h1 h2).1
      rwa [Nat.add_assoc, h3] at this
theorem den_of_cells {A : Pr} {w : World} {l : List (List D)} {a : Option Addr} {c K : Nat} {us : List Value} (hK : ∀ cs ∈ l, cs.length = K) (hcap : l.length ≤ c) (hd : DenL A w l.flatten us)
    (h : l ≠ [] → ∃ b off, a = some ⟨b, off, none⟩ ∧ ∀ (i : Nat) u, us[i]? = some u → A b (off + i) ∧ w.cell? ⟨b, off + i, none⟩ = some u) : Den A w (.sl l) (.slice a l.length c) := by
  by_cases h0 : l = []
  · subst h0
    exact .nil a c
  · obtain ⟨b, off, rfl, hc⟩ := h h0
    have hl := flatten_length hK
    have hus : ∀ i j, i < l.length → j < K → ∃ x, us[i * K + j]? = some x := fun i j hi hj => by
      have h1 := hd.1
      have : i * K + j < l.length * K := by
        have := Nat.mul_le_mul_right K hi
        rw [Nat.succ_mul] at this
        omega
      exact ⟨us[i * K + j]'(by omega), List.getElem?_eq_getElem _⟩
    refine .sl l K b off c (fun i j => (us[i * K + j]?).getD undef) h0 hcap hK (fun i j hi hj => ?_) (fun i cs j d h1 h2 => ?_)
    · obtain ⟨x, hx⟩ := hus i j hi hj
      have := hc _ x hx
      rw [← Nat.add_assoc] at this
      rw [hx]
      exact this
    · have hi := (List.getElem?_eq_some_iff.1 h1).1
      have hj : j < K := by
        have := (List.getElem?_eq_some_iff.1 h2).1
        rwa [hK cs (List.mem_of_getElem? h1)] at this
      obtain ⟨x, hx⟩ := hus i j hi hj
      rw [hx]
      exact hd.2 (i * K + j) d x ((flatten_get i j hK h1 hj).trans h2) hx
theorem den_len {A : Pr} {w : World} {l : List (List D)} {v : Value} (h : Den A w (.sl l) v) : ∃ a c, v = .slice a l.length c := by
  cases h with
  | nil a c => exact ⟨a, c, rfl⟩
  | sl _ K b off c => exact ⟨_, c, rfl⟩
/-- Cells from a place on. -/
def At (A : Pr) (w : World) (b off : Nat) (ds : List D) : Prop := ∀ (j : Nat) d, ds[j]? = some d → A b (off + j) ∧ ∃ u, w.cell? ⟨b, off + j, none⟩ = some u ∧ Den A w d u
theorem At.mono {A A' : Pr} {w w' : World} {b off : Nat} {ds : List D} (h : At A w b off ds) (hA : ∀ b i, A b i → A' b i) (hk : Kp A w w') : At A' w' b off ds := fun j d hd => by
  obtain ⟨h1, u, h2, h3⟩ := h j d hd
  exact ⟨hA _ _ h1, u, hk _ _ _ h1 h2, h3.mono hA hk⟩
theorem At.drop {A : Pr} {w : World} {b off : Nat} {ds : List D} (h : At A w b off ds) (n : Nat) : At A w b (off + n) (ds.drop n) := fun j d hd => by
  rw [List.getElem?_drop] at hd
  have := h _ d hd
  rwa [← Nat.add_assoc] at this
theorem At.cells {A : Pr} {w : World} {b off : Nat} : ∀ {ds : List D}, At A w b off ds → ∃ us, DenL A w ds us ∧ ∀ (j : Nat) u, us[j]? = some u → w.cell? ⟨b, off + j, none⟩ = some u
  | [], _ => ⟨[], DenL.nil, fun j u h => by simp at h⟩
  | d :: ds, h => by
    obtain ⟨-, u, h1, h2⟩ := h 0 d rfl
    obtain ⟨us, h3, h4⟩ := At.cells (ds := ds) (off := off + 1) (fun j d' hd => by
      have := h (j + 1) d' (by simpa using hd)
      rwa [show off + (j + 1) = off + 1 + j by omega] at this)
    refine ⟨u :: us, (DenL.single h2).append h3, fun j x hx => ?_⟩
    cases j with
    | zero =>
      obtain rfl : u = x := by simpa using hx
      exact h1
    | succ j =>
      have := h4 j x (by simpa using hx)
      rwa [show off + (j + 1) = off + 1 + j by omega]
/-- One of the elements of a slice. -/
theorem den_at {A : Pr} {w : World} {l : List (List D)} {v : Value} (h : Den A w (.sl l) v) {i : Nat} {cs : List D} (hi : l[i]? = some cs) :
    ∃ b off c K, v = .slice (some ⟨b, off, none⟩) l.length c ∧ (∀ cs ∈ l, cs.length = K) ∧ At A w b (off + i * K) cs := by
  have hlt := (List.getElem?_eq_some_iff.1 hi).1
  cases h with
  | nil a c => simp at hi
  | sl _ K b off c u h0 hc hK hA hu =>
    refine ⟨b, off, c, K, rfl, hK, fun j d hd => ?_⟩
    have hj : j < K := by
      have := (List.getElem?_eq_some_iff.1 hd).1
      rwa [hK cs (List.mem_of_getElem? hi)] at this
    obtain ⟨h1, h2⟩ := hA i j hlt hj
    exact ⟨h1, _, h2, hu i cs j d hi hd⟩
def slen : Value → Nat
  | .slice _ n _ => n
  | _ => 0
/-- The block of a header. -/
def blk : Value → Option Nat
  | .slice (some a) _ _ => some a.block
  | .pointer (some a) => some a.block
  | _ => none
/-- What is known of memory: cells that stay; the headers of objects, those of them that are gone; rows that may grow. -/
structure Gh where
  A : Pr
  β : Nat → Option Value
  dead : Nat → Prop
  ρ : Nat → Option (Value × Nat)
/-- What is not mine stays as it is. -/
structure Chg (M : Nat → Prop) (w w' : World) : Prop where
  os : w'.os = w.os
  tape : w'.tape = w.tape
  output : w'.output = w.output
  size : w.heap.size ≤ w'.heap.size
  block : ∀ b, b < w.heap.size → ¬ M b → w'.heap[b]? = w.heap[b]?
theorem Chg.trans {M : Nat → Prop} {a b c : World} (h : Chg M a b) (k : Chg M b c) : Chg M a c :=
  ⟨k.os.trans h.os, k.tape.trans h.tape, k.output.trans h.output, Nat.le_trans h.size k.size, fun i hi hm => (k.block i (Nat.lt_of_lt_of_le hi h.size) hm).trans (h.block i hi hm)⟩
theorem Chg.ext {M : Nat → Prop} {a b : World} (h : Ext a b) : Chg M a b := ⟨h.below.os, h.below.tape, h.below.output, h.below.size, fun i hi _ => h.below.block i hi⟩
theorem Chg.refl (M : Nat → Prop) (w : World) : Chg M w w := Chg.ext (Ext.refl w)
theorem Chg.on {M : Nat → Prop} {a b c : World} (h : Chg M a b) (k : Ext b c) : Chg M a c := h.trans (Chg.ext k)
theorem Chg.toExt {w w' : World} (h : Chg (fun b => w.heap.size ≤ b) w w') : Ext w w' := ext_of_below ⟨h.os, h.tape, h.output, h.size, fun k hk => h.block k hk (by omega)⟩
theorem Chg.weak {M M' : Nat → Prop} {w w' : World} (h : Chg M w w') (hM : ∀ b, b < w.heap.size → M b → M' b) : Chg M' w w' := ⟨h.os, h.tape, h.output, h.size, fun b hb hm => h.block b hb fun k => hm (hM b hb k)⟩
theorem Chg.set {M : Nat → Prop} {w : World} {p : Addr} (hp : M p.block) (u : Value) : Chg M w (w.setCell p u) := by
  refine ⟨rfl, rfl, rfl, by simp [World.setCell], fun b _ hm => ?_⟩
  have hne : p.block ≠ b := fun e => hm (e ▸ hp)
  simp only [World.setCell, Array.getElem?_modify]
  rw [if_neg hne]
theorem Chg.grown {M : Nat → Prop} {w w' : World} {r : Option Nat} (h : w.grownBy w' r) (hr : ∀ k, r = some k → M k) : Chg M w w' :=
  ⟨h.os, h.tape, h.output, h.size, fun b hb hm => h.block b hb fun e => hm (hr b e.symm)⟩
structure GOK (M : Nat → Prop) (A0 : Pr) (G : Gh) (W : World) : Prop where
  fr : ∀ b, W.heap.size ≤ b → M b
  lt : ∀ b i, G.A b i → b < W.heap.size ∧ (¬ M b → A0 b i)
  box : ∀ k u b, G.β k = some u → blk u = some b → b < W.heap.size ∧ (¬ G.dead k → M b ∧ ∀ i, ¬ G.A b i)
  boxI : ∀ k k' u u' b, G.β k = some u → G.β k' = some u' → blk u = some b → blk u' = some b → ¬ G.dead k → ¬ G.dead k' → k = k'
  row : ∀ t u K g, G.ρ t = some (u, K) → u.ownBlock = some g → M g ∧ g < W.heap.size ∧ (∀ k v, G.β k = some v → ¬ G.dead k → blk v ≠ some g) ∧ ∀ i, G.A g i → i < slen u * K
  rowI : ∀ t t' u u' K K' g, G.ρ t = some (u, K) → G.ρ t' = some (u', K') → u.ownBlock = some g → u'.ownBlock = some g → t = t'
structure Evo (wb wr : List Nat) (G : Gh) (W : World) (G' : Gh) (W' : World) : Prop where
  keep : Kp G.A W W'
  sub : ∀ b i, G.A b i → G'.A b i
  β : ∀ k u, G.β k = some u → G'.β k = some u
  β0 : ∀ k, k ∉ wb → G.β k = none → G'.β k = none
  dd : ∀ k, k ∉ wb → (G'.dead k ↔ G.dead k)
  box : ∀ k u b, k ∉ wb → G.β k = some u → ¬ G.dead k → blk u = some b → W'.heap[b]? = W.heap[b]?
  ρ : ∀ t u K, G.ρ t = some (u, K) → ∃ u', G'.ρ t = some (u', K) ∧ slen u ≤ slen u' ∧ (slen u = slen u' → u = u')
  ρ0 : ∀ t, t ∉ wr → G.ρ t = none → G'.ρ t = none
  row : ∀ t u K, t ∉ wr → G.ρ t = some (u, K) → G'.ρ t = some (u, K) ∧ ∀ g, u.ownBlock = some g → W'.heap[g]? = W.heap[g]?
theorem Evo.refl (G : Gh) (W : World) : Evo [] [] G W G W := ⟨Kp.refl _ _, fun _ _ h => h, fun _ _ h => h, fun _ _ h => h, fun _ _ => Iff.rfl, fun _ _ _ _ _ _ _ => rfl, fun t u K h => ⟨u, h, Nat.le_refl _, fun _ => rfl⟩, fun _ _ h => h, fun _ _ _ _ h => ⟨h, fun _ _ => rfl⟩⟩
/-- New blocks only. -/
theorem Evo.ext {G : Gh} {W W' : World} {M : Nat → Prop} {A0 : Pr} (hG : GOK M A0 G W) (h : Ext W W') : Evo [] [] G W G W' := by
  have hb : ∀ b, b < W.heap.size → W'.heap[b]? = W.heap[b]? := fun b hb => by
    obtain ⟨x, rfl⟩ := h
    exact ext_get _ _ _ hb
  exact ⟨Kp.ext h, fun _ _ h => h, fun _ _ h => h, fun _ _ h => h, fun _ _ => Iff.rfl, fun k u b _ hk _ hu => hb b (hG.box k u b hk hu).1, fun t u K h => ⟨u, h, Nat.le_refl _, fun _ => rfl⟩, fun _ _ h => h, fun t u K _ h => ⟨h, fun g hg => hb g (hG.row t u K g h hg).2.1⟩⟩
theorem GOK.ext {G : Gh} {W W' : World} {M : Nat → Prop} {A0 : Pr} (hG : GOK M A0 G W) (h : Ext W W') : GOK M A0 G W' := by
  have hl := h.below.size
  exact ⟨fun b hb => hG.fr b (Nat.le_trans hl hb), fun b i hb => ⟨Nat.lt_of_lt_of_le (hG.lt b i hb).1 hl, (hG.lt b i hb).2⟩, fun k u b hk hu => ⟨Nat.lt_of_lt_of_le (hG.box k u b hk hu).1 hl, (hG.box k u b hk hu).2⟩, hG.boxI, fun t u K g h1 h2 => ⟨(hG.row t u K g h1 h2).1, Nat.lt_of_lt_of_le (hG.row t u K g h1 h2).2.1 hl, (hG.row t u K g h1 h2).2.2⟩, hG.rowI⟩
/-- Pointers to boxes. -/
def FbL (G : Gh) (ks : List Nat) (us : List Value) : Prop := ks.length = us.length ∧ ∀ (j : Nat) k u, ks[j]? = some k → us[j]? = some u → ∃ b, G.β k = some (.pointer (some ⟨b, 0, none⟩)) ∧ u = .pointer (some ⟨b, 0, none⟩)
theorem FbL.evo {wb wr : List Nat} {G G' : Gh} {W W' : World} {ks : List Nat} {us : List Value} (h : FbL G ks us) (e : Evo wb wr G W G' W') : FbL G' ks us := ⟨h.1, fun j k u h1 h2 => by
  obtain ⟨b, h3, h4⟩ := h.2 j k u h1 h2
  exact ⟨b, e.β _ _ h3, h4⟩⟩
/-- A cell's word; it may be the header of an object. -/
def DenX (G : Gh) (W : World) : D → Value → Prop
  | .lk k n, v => ∃ a N c, G.β k = some (.slice a N c) ∧ n ≤ N ∧ N ≤ c ∧ (N = 0 ∨ ∃ b, a = some ⟨b, 0, none⟩) ∧ v = .slice a n c
  | .fb f ks, v => ks ≠ [] ∧ ∃ us, v = .func (.func f) #[] us ∧ FbL G ks us.toList
  | d, v => Den G.A W d v
theorem DenX.of {G : Gh} {W : World} {d : D} {v : Value} (h : Den G.A W d v) : DenX G W d v := by
  cases h with
  | int k n => exact .int k n
  | bool b => exact .bool b
  | nil a c => exact .nil a c
  | nl => exact .nl
  | fz => exact .fz
  | sl l K b off c u h0 hc hK hA hu => exact .sl l K b off c u h0 hc hK hA hu
theorem DenX.evo {wb wr : List Nat} {G G' : Gh} {W W' : World} {d : D} {v : Value} (h : DenX G W d v) (e : Evo wb wr G W G' W') : DenX G' W' d v := by
  cases d with
  | lk k n => obtain ⟨a, N, c, h1, h2⟩ := h; exact ⟨a, N, c, e.β _ _ h1, h2⟩
  | fb f ks => obtain ⟨h0, us, h1, h2⟩ := h; exact ⟨h0, us, h1, h2.evo e⟩
  | _ => exact Den.mono (A := G.A) h e.sub e.keep
theorem DenX.one {G : Gh} {W : World} {d : D} {v : Value} (h : DenX G W d v) : v.oneCell' = true := by
  cases d with
  | lk k n => obtain ⟨a, N, c, h1, -, -, -, rfl⟩ := h; rfl
  | fb f ks => obtain ⟨-, us, rfl, -⟩ := h; rfl
  | _ => exact Den.one (A := G.A) h
theorem DenX.cells {G : Gh} {W : World} {d : D} {v : Value} (h : DenX G W d v) : v.cells = #[v] := by
  cases d with
  | lk k n => obtain ⟨a, N, c, h1, -, -, -, rfl⟩ := h; rfl
  | fb f ks => obtain ⟨-, us, rfl, -⟩ := h; rfl
  | _ => exact Den.cells (A := G.A) h
theorem DenX.noAgg {G : Gh} {W : World} {d : D} {v : Value} (h : DenX G W d v) : (∀ x, v ≠ .agg x) ∧ (∀ x, v ≠ .tuple x) := by
  cases d with
  | lk k n => obtain ⟨a, N, c, h1, -, -, -, rfl⟩ := h; exact ⟨fun _ => nofun, fun _ => nofun⟩
  | fb f ks => obtain ⟨-, us, rfl, -⟩ := h; exact ⟨fun _ => nofun, fun _ => nofun⟩
  | _ => exact Den.noAgg (A := G.A) h
abbrev DenXL (G : Gh) (W : World) (ds : List D) (us : List Value) : Prop := AL (DenX G W) ds us
theorem DenXL.of {G : Gh} {W : World} {ds : List D} {us : List Value} (h : DenL G.A W ds us) : DenXL G W ds us := AL.map h fun _ _ h => DenX.of h
theorem DenXL.evo {wb wr : List Nat} {G G' : Gh} {W W' : World} {ds : List D} {us : List Value} (h : DenXL G W ds us) (e : Evo wb wr G W G' W') : DenXL G' W' ds us := AL.map h fun _ _ h => h.evo e
theorem DenXL.one {G : Gh} {W : World} {ds : List D} {us : List Value} (h : DenXL G W ds us) : ∀ u ∈ us, u.oneCell' = true := fun u hu => by
  obtain ⟨d, -, hd⟩ := AL.uget h hu
  exact hd.one
/-- No header of an object in it. -/
def lf : D → Bool
  | .lk _ _ => false
  | .fb _ _ => false
  | _ => true
def lfs : List D → Bool
  | [] => true
  | d :: l => lf d && lfs l
theorem lfs_get : ∀ {l : List D} {j : Nat} {d : D}, lfs l = true → l[j]? = some d → lf d = true
  | [], _, _, _, h => by simp at h
  | x :: l, 0, d, hl, h => by
    obtain rfl : x = d := by simpa using h
    exact ((Bool.and_eq_true _ _).mp hl).1
  | x :: l, j + 1, d, hl, h => lfs_get ((Bool.and_eq_true _ _).mp hl).2 (by simpa using h)
theorem DenX.den {G : Gh} {W : World} {d : D} {v : Value} (h : DenX G W d v) (hl : lf d = true) : Den G.A W d v := by
  cases d with
  | lk k n => cases hl
  | fb f ks => cases hl
  | _ => exact h
theorem DenXL.den {G : Gh} {W : World} {ds : List D} {us : List Value} (h : DenXL G W ds us) (hl : lfs ds = true) : DenL G.A W ds us := ⟨h.1, fun j d u h1 h2 => (h.2 j d u h1 h2).den (lfs_get hl h1)⟩
/-- Is a slice nil? -/
def nilB : Value → Bool
  | .slice none _ _ => true
  | _ => false
/-- What a closure holds. -/
inductive Cp where
  | c (d : D)
  | box (k off : Nat)
  | ptr (cs : List D)
/-- What a slot holds. -/
inductive S1 where
  | c (d : D)
  | agg (l : List D)
  | own (t K : Nat) (l : List (List D))
  | box (k off : Nat)
  | xp (k K i j : Nat)
  | ptr (cs : List D)
  | fn (f : FuncId) (ps : List Cp)
  | sn (b : Bool) (l : List (List D))
  | nil
  | k (v : Value)
  | tl (k K i n : Nat)
def DenC (G : Gh) (W : World) : Cp → Value → Prop
  | .c d, v => DenX G W d v
  | .box k off, v => ∃ b, G.β k = some (.pointer (some ⟨b, 0, none⟩)) ∧ v = .pointer (some ⟨b, off, none⟩)
  | .ptr cs, v => ∃ b o, v = .pointer (some ⟨b, o, none⟩) ∧ At G.A W b o cs
theorem DenC.evo {wb wr : List Nat} {G G' : Gh} {W W' : World} {x : Cp} {v : Value} (h : DenC G W x v) (e : Evo wb wr G W G' W') : DenC G' W' x v := by
  cases x with
  | c d => exact DenX.evo h e
  | box k off => obtain ⟨b, h1, h2⟩ := h; exact ⟨b, e.β _ _ h1, h2⟩
  | ptr cs => obtain ⟨b, o, h1, h2⟩ := h; exact ⟨b, o, h1, h2.mono e.sub e.keep⟩
def DenCL (G : Gh) (W : World) (ps : List Cp) (us : List Value) : Prop := ps.length = us.length ∧ ∀ (j : Nat) x u, ps[j]? = some x → us[j]? = some u → DenC G W x u
theorem DenCL.evo {wb wr : List Nat} {G G' : Gh} {W W' : World} {ps : List Cp} {us : List Value} (h : DenCL G W ps us) (e : Evo wb wr G W G' W') : DenCL G' W' ps us := ⟨h.1, fun j x u h1 h2 => (h.2 j x u h1 h2).evo e⟩
def D1 (G : Gh) (W : World) : S1 → Value → Prop
  | .c d, v => DenX G W d v
  | .agg l, v => ∃ us, v = .agg us ∧ DenXL G W l us.toList
  | .own t K l, v => Den G.A W (.sl l) v ∧ (∀ cs ∈ l, cs.length = K) ∧ ∃ u, G.ρ t = some (u, K) ∧ slen v ≤ slen u ∧ (slen v = slen u → v = u)
  | .box k off, v => ∃ b, G.β k = some (.pointer (some ⟨b, 0, none⟩)) ∧ v = .pointer (some ⟨b, off, none⟩)
  | .xp k K i j, v => ∃ b N c, G.β k = some (.slice (some ⟨b, 0, none⟩) N c) ∧ v = .pointer (some ⟨b, i * K + j, none⟩)
  | .ptr cs, v => ∃ b o, v = .pointer (some ⟨b, o, none⟩) ∧ At G.A W b o cs
  | .fn f ps, v => ∃ us, v = .func (.func f) #[] us ∧ DenCL G W ps us.toList
  | .sn b l, v => Den G.A W (.sl l) v ∧ nilB v = b
  | .nil, v => v = .slice none 0 0
  | .k x, v => v = x
  | .tl k K i n, v => ∃ b N c c', G.β k = some (.slice (some ⟨b, 0, none⟩) N c) ∧ v = .slice (some ⟨b, i * K, none⟩) n c' ∧ 0 < n
theorem D1.evo {wb wr : List Nat} {G G' : Gh} {W W' : World} {x : S1} {v : Value} (h : D1 G W x v) (e : Evo wb wr G W G' W') : D1 G' W' x v := by
  cases x with
  | c d => exact DenX.evo h e
  | agg l => obtain ⟨us, rfl, h⟩ := h; exact ⟨us, rfl, DenXL.evo h e⟩
  | own t K l =>
    obtain ⟨h1, h2, u, h3, h4, h5⟩ := h
    obtain ⟨u', g1, g2, g3⟩ := e.ρ t u K h3
    exact ⟨h1.mono e.sub e.keep, h2, u', g1, Nat.le_trans h4 g2, fun he => by
      have : slen u = slen u' := by omega
      rw [h5 (by omega)]
      exact g3 this⟩
  | box k off => obtain ⟨b, h1, h2⟩ := h; exact ⟨b, e.β _ _ h1, h2⟩
  | xp k K i j => obtain ⟨b, N, c, h1, h2⟩ := h; exact ⟨b, N, c, e.β _ _ h1, h2⟩
  | ptr cs => obtain ⟨b, o, h1, h2⟩ := h; exact ⟨b, o, h1, h2.mono e.sub e.keep⟩
  | fn f ps => obtain ⟨us, h1, h2⟩ := h; exact ⟨us, h1, h2.evo e⟩
  | sn b l => exact ⟨h.1.mono e.sub e.keep, h.2⟩
  | nil => exact h
  | k x => exact h
  | tl k K i n => obtain ⟨b, N, c, c', h1, h2⟩ := h; exact ⟨b, N, c, c', e.β _ _ h1, h2⟩
inductive SV where
  | top
  | v (g : Bool) (x : S1)
  | tup (g : Bool) (l : List S1)
def D1L (G : Gh) (W : World) (l : List S1) (us : List Value) : Prop := l.length = us.length ∧ ∀ (j : Nat) x u, l[j]? = some x → us[j]? = some u → D1 G W x u
theorem D1L.evo {wb wr : List Nat} {G G' : Gh} {W W' : World} {l : List S1} {us : List Value} (h : D1L G W l us) (e : Evo wb wr G W G' W') : D1L G' W' l us := ⟨h.1, fun j x u h1 h2 => (h.2 j x u h1 h2).evo e⟩
def Hs (G : Gh) (W : World) : SV → Value → Prop
  | .top, _ => True
  | .v g x, v => (g = true → D1 G W x v) ∧ (g = false → v = undef)
  | .tup g l, v => (g = true → ∃ us, v = .tuple us ∧ D1L G W l us.toList) ∧ (g = false → v = undef)
theorem Hs.evo {wb wr : List Nat} {G G' : Gh} {W W' : World} {x : SV} {v : Value} (h : Hs G W x v) (e : Evo wb wr G W G' W') : Hs G' W' x v := by
  cases x with
  | top => trivial
  | v g x => exact ⟨fun hg => (h.1 hg).evo e, h.2⟩
  | tup g l => exact ⟨fun hg => by obtain ⟨us, h1, h2⟩ := h.1 hg; exact ⟨us, h1, h2.evo e⟩, h.2⟩
/-- A row that may grow: its elements' type, their cells, how many there are. -/
structure RowI where
  e : TypeId
  K : Nat
  n : Nat
/-- What an object holds: a box has one element, a row as many as there are. -/
structure Ob where
  e : TypeId
  K : Nat
  l : List (List D)
abbrev Bt := List (Nat × Option Ob)
/-- How an object lies in memory. -/
def Mem (W : World) (e : TypeId) (K n : Nat) (us : List Value) : Value → Prop
  | .pointer (some ⟨b, 0, none⟩) => n = 1 ∧ ∃ arr T, W.heap[b]? = some (.cells arr T (0, 0)) ∧ arr.toList = us
  | u => W.ownsRow 0 e K u n us
def Hb (G : Gh) (W : World) (k : Nat) : Option (Option Ob) → Prop
  | none => G.β k = none
  | some none => ∃ u, G.β k = some u ∧ G.dead k
  | some (some o) => ∃ u us, G.β k = some u ∧ ¬ G.dead k ∧ Mem W o.e o.K o.l.length us u ∧ DenXL G W o.l.flatten us ∧ ((∃ b, u = .pointer (some ⟨b, 0, none⟩)) ∨ ∀ cs ∈ o.l, cs.length = o.K)
def Hr (G : Gh) (W : World) (t : Nat) : Option RowI → Prop
  | none => G.ρ t = none
  | some ri => ∃ u cs, G.ρ t = some (u, ri.K) ∧ slen u = ri.n ∧ W.ownsRow 0 ri.e ri.K u ri.n cs
theorem own_same {W W' : World} {b : Nat} {e : TypeId} {K n : Nat} {u : Value} {cs : List Value} (h : W.ownsRow b e K u n cs) (hs : ∀ g, u.ownBlock = some g → W'.heap[g]? = W.heap[g]?) : W'.ownsRow b e K u n cs := by
  refine ⟨h.1, ?_⟩
  rcases h.2 with h2 | ⟨g, cap, cur, hv, hb, hg, r⟩
  · exact .inl h2
  · exact .inr ⟨g, cap, cur, hv, hb, (hs g (by rw [hv]; rfl)).trans hg, r⟩
theorem own_zero {W : World} {b : Nat} {e : TypeId} {K n : Nat} {u : Value} {cs : List Value} (h : W.ownsRow b e K u n cs) : W.ownsRow 0 e K u n cs := by
  refine ⟨h.1, ?_⟩
  rcases h.2 with h2 | ⟨g, cap, cur, hv, hb, r⟩
  · exact .inl h2
  · exact .inr ⟨g, cap, cur, hv, Nat.zero_le _, r⟩
theorem blk_own {u : Value} {g : Nat} (h : u.ownBlock = some g) : blk u = some g := by
  unfold Value.ownBlock at h
  split at h
  · exact h
  · cases h
theorem Mem.same {W W' : World} {e : TypeId} {K n : Nat} {us : List Value} {u : Value} (h : Mem W e K n us u) (hs : ∀ b, blk u = some b → W'.heap[b]? = W.heap[b]?) : Mem W' e K n us u := by
  unfold Mem at h ⊢
  split at h
  · next b =>
    obtain ⟨h0, arr, T, h1, h2⟩ := h
    exact ⟨h0, arr, T, (hs b rfl).trans h1, h2⟩
  · exact own_same h fun g hg => hs g (blk_own hg)
theorem Hb.evo {wb wr : List Nat} {G G' : Gh} {W W' : World} {k : Nat} {c : Option (Option Ob)} (h : Hb G W k c) (e : Evo wb wr G W G' W') (hk : k ∉ wb) : Hb G' W' k c := by
  cases c with
  | none => exact e.β0 k hk h
  | some o =>
    cases o with
    | none => obtain ⟨u, h1, h2⟩ := h; exact ⟨u, e.β _ _ h1, (e.dd k hk).2 h2⟩
    | some o =>
      obtain ⟨u, us, h1, h2, h3, h4, h5⟩ := h
      exact ⟨u, us, e.β _ _ h1, fun hd => h2 ((e.dd k hk).1 hd), h3.same (fun b hb => e.box k u b hk h1 h2 hb), h4.evo e, h5⟩
theorem Hr.evo {wb wr : List Nat} {G G' : Gh} {W W' : World} {t : Nat} {c : Option RowI} (h : Hr G W t c) (e : Evo wb wr G W G' W') (ht : t ∉ wr) : Hr G' W' t c := by
  cases c with
  | none => exact e.ρ0 t ht h
  | some ri =>
    obtain ⟨u, cs, h1, h2, h3⟩ := h
    obtain ⟨h4, h5⟩ := e.row t u ri.K ht h1
    exact ⟨u, cs, h4, h2, own_same h3 h5⟩
section
variable (P : Program)
def sz (t : TypeId) : Nat := P.cellsOf t
def ag (t : TypeId) : Bool := match P.underlying t with
  | some (.struct _) | some (.array _ _) => true
  | _ => false
def un (t : TypeId) : Bool := (P.underlying t).isSome
def fo (t : TypeId) (f : Nat) : Option (Nat × TypeId) := match P.underlying t with
  | some (.struct fs) => (fs[f]?).map fun f => (f.offset, f.type)
  | _ => none
def isSl (t : TypeId) : Option TypeId := match P.underlying t with
  | some (.slice e) => some e
  | _ => none
def isAr (t : TypeId) : Option (Nat × TypeId) := match P.underlying t with
  | some (.array n e) => some (n, e)
  | _ => none
def ik (t : TypeId) : Option IntKind := match P.underlying t with
  | some (.int k) => some k
  | _ => none
def isB (t : TypeId) : Bool := match P.underlying t with
  | some .bool => true
  | _ => false
def byt (t : TypeId) : Nat := P.bytesOf t
def zD : Value → Option D
  | .int k n => some (.int k n)
  | .bool b => some (.bool b)
  | .slice none 0 0 => some .nl
  | .nilFunc => some .fz
  | _ => none
def zr (t : TypeId) : Option (List D) := ((P.info? t).bind (·.zero)).bind fun z => z.cells.toList.mapM zD
end
theorem run_sz {P : Program} {t : TypeId} (h : 0 < sz P t) (w : World) : (sizeOf t).run P w = .ok (sz P t) w := by
  unfold sz Program.cellsOf at *
  cases hi : P.info? t with
  | none => rw [hi] at h; simp at h
  | some i => simp [sizeOf, typeInfo, hi]
theorem run_ag {P : Program} {t : TypeId} (h : un P t = true) (w : World) : (isAgg t).run P w = .ok (ag P t) w := by
  unfold un at h
  unfold ag
  cases hu : P.underlying t with
  | none => rw [hu] at h; cases h
  | some d =>
    simp only [isAgg, Sem.run_bind, run_underlying hu, Result.andThen_ok]
    cases d <;> rfl
/-- Of two lists of plain cells: are they the same? -/
def eqF : List D → List D → Bool
  | [], [] => true
  | .int k n :: l, .int k' m :: l' => (k == k' && n == m) && eqF l l'
  | .bool a :: l, .bool b :: l' => (a == b) && eqF l l'
  | _, _ => false
def Xe : D → Bool
  | .int _ _ | .bool _ => true
  | _ => false
def EqOk (P : Program) (t : TypeId) (l l' : List D) : Prop := ∀ (G : Gh) (w : World) (us vs : Array Value) (x y : Operand), DenXL G w l us.toList → DenXL G w l' vs.toList →
  (eqGuard .eql t x y (.agg us) (.agg vs)).run P w = .ok () w ∧ (eqGuard .neq t x y (.agg us) (.agg vs)).run P w = .ok () w ∧ (Op.equal t (.agg us) (.agg vs)).run P w = .ok (eqF l l') w
inductive V1 where
  | one (x : S1)
  | tup (l : List S1)
structure Ev where
  x : Option V1
  ob : Prop
  rb : List Nat := []
  wb : Bt := []
  rr : List Nat := []
  wr : List (Nat × RowI) := []
structure St where
  s : List (Nat × SV)
  b : Bt
  r : List (Nat × RowI)
def gs : List (Nat × SV) → Nat → SV
  | [], _ => .top
  | (k, v) :: l, t => if k = t then v else gs l t
def gb {α : Type} : List (Nat × α) → Nat → Option α
  | [], _ => none
  | (k, v) :: l, t => if k = t then some v else gb l t
def cst : Value → S1
  | .int k n => .c (.int k n)
  | .bool b => .c (.bool b)
  | .slice none 0 0 => .nil
  | v => .k v
def opd (s : List (Nat × SV)) (g : Bool) : Operand → S1 × Prop
  | .tmp t => match gs s t with
    | .v g' x => (x, g = true → g' = true)
    | _ => (.k undef, False)
  | .const v => (cst v, True)
  | .func f => (.fn f [], True)
  | .global _ => (.k undef, False)
/-- Boxes that a closure holds. -/
def bxs : List Cp → Option (List Nat)
  | [] => some []
  | .box k 0 :: l => match bxs l with
    | some ks => some (k :: ks)
    | none => none
  | _ => none
def QK : S1 → List D
  | .fn f (p :: ps) => match bxs (p :: ps) with
    | some ks => [.fb f ks]
    | none => []
  | .c d => [d]
  | .agg l => l
  | .own _ _ l => [.sl l]
  | .sn _ l => [.sl l]
  | .nil => [.nl]
  | _ => []
def okS : S1 → Bool
  | .c _ | .agg _ | .own .. | .sn .. | .nil => true
  | .fn _ (p :: ps) => (bxs (p :: ps)).isSome
  | _ => false
/-- Nil as a list without elements. -/
def QW : D → D
  | .nl => .sl []
  | d => d
def QY : List D → List D
  | [] => []
  | d :: l => QW d :: QY l
def QL : S1 → Option (List (List D))
  | .c (.sl l) => some l
  | .own _ _ l => some l
  | .sn _ l => some l
  | .nil => some []
  | .c .nl => some []
  | _ => none
def setAt (cs : List D) (off : Nat) (xs : List D) : List D := cs.take off ++ xs ++ cs.drop (off + xs.length)
/-- What a slot's operand is told of. -/
def Okd (G : Gh) (W : World) (s : List (Nat × SV)) (a : Act) : Operand → Prop
  | .tmp t => Hs G W (gs s t) (V a t)
  | _ => True
theorem opd_ok {G : Gh} {W : World} {s : List (Nat × SV)} {a : Act} {x : Operand} {g : Bool} (hg : g = true) (h : Okd G W s a x) (ho : (opd s g x).2) : D1 G W (opd s g x).1 (a.eval x) := by
  cases x with
  | tmp t =>
    rw [V_eval]
    change Hs G W (gs s t) (V a t) at h
    change (match gs s t with
      | .v g' x => (x, g = true → g' = true)
      | _ => ((.k undef, False) : S1 × Prop)).2 at ho
    change D1 G W (match gs s t with
      | .v g' x => (x, g = true → g' = true)
      | _ => ((.k undef, False) : S1 × Prop)).1 (V a t)
    cases he : gs s t with
    | v g' x =>
      rw [he] at h ho
      exact h.1 (ho hg)
    | top => rw [he] at ho; exact ho.elim
    | tup g' l => rw [he] at ho; exact ho.elim
  | const v =>
    show D1 G W (cst v) v
    unfold cst
    split
    · exact Den.int _ _
    · exact Den.bool _
    · rfl
    · rfl
  | func f => exact ⟨#[], rfl, rfl, fun j x u h => by simp at h⟩
  | global g => exact ho.elim
theorem D1_int {G : Gh} {W : World} {k : IntKind} {n : Int} {v : Value} (h : D1 G W (.c (.int k n)) v) : v = .int k n := by
  change Den G.A W (.int k n) v at h
  generalize hd : D.int k n = d at h
  cases h <;> cases hd
  rfl
theorem D1_bool {G : Gh} {W : World} {b : Bool} {v : Value} (h : D1 G W (.c (.bool b)) v) : v = .bool b := by
  change Den G.A W (.bool b) v at h
  generalize hd : D.bool b = d at h
  cases h <;> cases hd
  rfl
theorem D1_nl {G : Gh} {W : World} {v : Value} (h : D1 G W (.c .nl) v) : v = .slice none 0 0 := by
  change Den G.A W .nl v at h
  generalize hd : D.nl = d at h
  cases h <;> cases hd
  rfl
theorem bxs_ok {G : Gh} {W : World} : ∀ {ps : List Cp} {ks : List Nat} {us : List Value}, bxs ps = some ks → DenCL G W ps us → FbL G ks us
  | [], ks, us, h, hd => by
    obtain rfl := Option.some.inj h
    exact ⟨hd.1, fun j k u h => by simp at h⟩
  | .box k (o + 1) :: l, _, _, h, _ => by cases h
  | .c d :: l, _, _, h, _ => by cases h
  | .ptr cs :: l, _, _, h, _ => by cases h
  | .box k 0 :: l, ks, us, h, hd => by
    have h : (match bxs l with
      | some ks => some (k :: ks)
      | none => none) = some ks := h
    cases hk : bxs l with
    | none => rw [hk] at h; cases h
    | some ks' =>
      rw [hk] at h
      obtain rfl := Option.some.inj h
      cases us with
      | nil => have := hd.1; simp at this
      | cons u us =>
        have g := bxs_ok (us := us) hk ⟨by simpa using hd.1, fun j x u h1 h2 => hd.2 (j + 1) x u (by simpa using h1) (by simpa using h2)⟩
        obtain ⟨b, h1, h2⟩ := hd.2 0 (.box k 0) u rfl rfl
        refine ⟨by simp [g.1], fun j x z h3 h4 => ?_⟩
        cases j with
        | zero =>
          obtain rfl : k = x := by simpa using h3
          obtain rfl : u = z := by simpa using h4
          exact ⟨b, h1, h2⟩
        | succ j => exact g.2 j x z (by simpa using h3) (by simpa using h4)
theorem bxs_ne {p : Cp} {ps : List Cp} {ks : List Nat} (h : bxs (p :: ps) = some ks) : ks ≠ [] := by
  rintro rfl
  cases p with
  | c d => cases h
  | ptr cs => cases h
  | box k o =>
    cases o with
    | succ o => cases h
    | zero =>
      have h : (match bxs ps with
        | some ks => some (k :: ks)
        | none => none) = some [] := h
      cases hk : bxs ps with
      | none => rw [hk] at h; cases h
      | some ks' => rw [hk] at h; cases h
theorem cellsS_ok {G : Gh} {W : World} {x : S1} {v : Value} (h : D1 G W x v) (ho : okS x = true) : DenXL G W (QK x) v.cells.toList := by
  cases x with
  | c d => rw [DenX.cells h]; exact AL.single h
  | agg l => obtain ⟨us, rfl, h⟩ := h; exact h
  | own t K l => rw [Den.cells h.1]; exact AL.single (R := DenX G W) (show DenX G W (.sl l) v from h.1)
  | sn b l => rw [Den.cells h.1]; exact AL.single (R := DenX G W) (show DenX G W (.sl l) v from h.1)
  | nil => obtain rfl := h; exact AL.single (R := DenX G W) (show DenX G W .nl _ from Den.nl)
  | box | ptr | k | xp | tl => cases ho
  | fn f ps =>
    obtain ⟨us, rfl, hd⟩ := h
    cases ps with
    | nil => cases ho
    | cons p ps =>
      cases hb : bxs (p :: ps) with
      | none => simp [okS, hb] at ho
      | some ks =>
        simp only [QK, hb]
        exact AL.single (R := DenX G W) (show DenX G W (.fb f ks) (.func (.func f) #[] us) from ⟨bxs_ne hb, us, rfl, bxs_ok hb hd⟩)
theorem deNl_ok {G : Gh} {W : World} {d : D} {v : Value} (h : DenX G W d v) : DenX G W (QW d) v := by
  cases d with
  | nl => obtain rfl := D1_nl h; exact Den.nil _ _
  | _ => exact h
theorem deNls_len : ∀ {l : List D}, (QY l).length = l.length
  | [] => rfl
  | d :: l => by simp [QY, deNls_len (l := l)]
theorem deNls_ok {G : Gh} {W : World} : ∀ {l : List D} {us : List Value}, DenXL G W l us → DenXL G W (QY l) us
  | [], us, h => h
  | d :: l, us, h => by
    obtain ⟨u, us', rfl, h1, h2⟩ := AL.cons_inv h
    exact (AL.single (deNl_ok h1)).append (deNls_ok h2)
theorem asSl_ok {G : Gh} {W : World} {x : S1} {v : Value} {l : List (List D)} (h : D1 G W x v) (ho : QL x = some l) : Den G.A W (.sl l) v := by
  unfold QL at ho
  split at ho
  · obtain rfl := Option.some.inj ho; exact h
  · obtain rfl := Option.some.inj ho; exact h.1
  · obtain rfl := Option.some.inj ho; exact h.1
  · obtain rfl := Option.some.inj ho; obtain rfl := h; exact .nil _ _
  · obtain rfl := Option.some.inj ho; obtain rfl := D1_nl h; exact .nil _ _
  · cases ho
def Vd (G : Gh) (W : World) : Option V1 → Value → Prop
  | none, v => v = undef
  | some (.one x), v => D1 G W x v
  | some (.tup l), v => ∃ us, v = .tuple us ∧ D1L G W l us.toList
/-- What an operation does. -/
def Does (P : Program) (M : Nat → Prop) (A0 : Pr) (w0 : World) (G : Gh) (a : Act) (W : World) (o : Oper) (e : Ev) : Prop :=
  ∃ v W' G' n, (execOp a.eval o).run P W = .ok n W' ∧ (n = .value v ∨ (n = .skip ∧ v = undef)) ∧ GOK M A0 G' W' ∧ Chg M w0 W' ∧ Evo (e.wb.map (·.1)) (e.wr.map (·.1)) G W G' W' ∧ Vd G' W' e.x v ∧ (∀ p ∈ e.wb, Hb G' W' p.1 (some p.2)) ∧ ∀ p ∈ e.wr, Hr G' W' p.1 (some p.2)
section
variable {P : Program} {M : Nat → Prop} {A0 : Pr} {w0 : World} {G : Gh} {a : Act} {W : World} {o : Oper}
theorem does_pure (hG : GOK M A0 G W) (hx : Chg M w0 W) {v : Value} {x : V1} {ob : Prop} {rb rr : List Nat} (hr : (execOp a.eval o).run P W = .ok (.value v) W) (h : Vd G W (some x) v) : Does P M A0 w0 G a W o { x := some x, ob := ob, rb := rb, rr := rr } :=
  ⟨v, W, G, _, hr, .inl rfl, hG, hx, Evo.refl _ _, h, nofun, nofun⟩
variable {s : List (Nat × SV)} {g : Bool} (hg : g = true) (hG : GOK M A0 G W) (hx : Chg M w0 W)
include hg hG hx
def Qd (s : List (Nat × SV)) (g : Bool) (x : Operand) : Ev := match x with
  | .tmp t => match gs s t with
    | .tup g' l => { x := some (.tup l), ob := g = true → g' = true }
    | _ => { x := some (.one (opd s g x).1), ob := (opd s g x).2 }
  | x => { x := some (.one (opd s g x).1), ob := (opd s g x).2 }
theorem ok_move {x : Operand} (ho : o.op = .move x ∨ o.op = .assign x) (h : Okd G W s a x) (hob : (Qd s g x).ob) : Does P M A0 w0 G a W o (Qd s g x) := by
  have hrun : (execOp a.eval o).run P W = .ok (.value (a.eval x)) W := by rcases ho with ho | ho <;> simp [execOp, ho]
  cases x with
  | tmp t =>
    unfold Qd at hob ⊢
    dsimp only at hob ⊢
    split at hob
    · next g' l he =>
      change Hs G W (gs s t) (V a t) at h
      rw [he] at h
      exact does_pure hG hx hrun (by rw [V_eval]; exact h.1 (hob hg))
    · exact does_pure hG hx hrun (opd_ok hg h hob)
  | const v => exact does_pure hG hx hrun (opd_ok hg h hob)
  | func f => exact does_pure hG hx hrun (opd_ok hg h hob)
  | global v => exact does_pure hG hx hrun (opd_ok hg h hob)
def Qe (s : List (Nat × SV)) (g : Bool) (c x y : Operand) : Ev := match opd s g c with
  | (.c (.bool b), p) => match opd s (g && b) x, opd s (g && !b) y with
    | (.c (.bool u), q), (.c (.bool v), r) => { x := some (.one (.c (.bool (bif b then u else v)))), ob := p ∧ q ∧ r }
    | (.c (.bool u), q), (_, _) => { x := some (.one (.c (.bool u))), ob := p ∧ q ∧ b = true }
    | (_, _), (.c (.bool v), r) => { x := some (.one (.c (.bool v))), ob := p ∧ r ∧ b = false }
    | _, _ => { x := none, ob := False }
  | _ => { x := none, ob := False }
theorem ok_pick {c x y : Operand} (ho : o.op = .pick c x y) (hc : Okd G W s a c) (hx' : Okd G W s a x) (hy : Okd G W s a y) (hob : (Qe s g c x y).ob) : Does P M A0 w0 G a W o (Qe s g c x y) := by
  subst hg
  unfold Qe at hob ⊢
  split at hob
  · next b p hcv =>
    have h1 := opd_ok (g := true) rfl hc
    rw [hcv] at h1
    split at hob
    · next u q v r hu hv =>
      obtain ⟨h2, h3, h4⟩ := hob
      have e1 : a.eval c = .bool b := D1_bool (h1 h2)
      cases b
      · have h6 := opd_ok (g := true && !false) rfl hy (by rw [hv]; exact h4)
        rw [hv] at h6
        have e2 : a.eval y = .bool v := D1_bool h6
        exact does_pure hG hx (v := .bool v) (by simp [execOp, ho, e1, e2, asBool]) (Den.bool _)
      · have h6 := opd_ok (g := true && true) rfl hx' (by rw [hu]; exact h3)
        rw [hu] at h6
        have e2 : a.eval x = .bool u := D1_bool h6
        exact does_pure hG hx (v := .bool u) (by simp [execOp, ho, e1, e2, asBool]) (Den.bool _)
    · next u q _ _ _ hu _ =>
      obtain ⟨h2, h3, rfl⟩ := hob
      have e1 : a.eval c = .bool true := D1_bool (h1 h2)
      have h6 := opd_ok (g := true && true) rfl hx' (by rw [hu]; exact h3)
      rw [hu] at h6
      have e2 : a.eval x = .bool u := D1_bool h6
      exact does_pure hG hx (v := .bool u) (by simp [execOp, ho, e1, e2, asBool]) (Den.bool _)
    · next _ _ v r _ _ hv =>
      obtain ⟨h2, h4, rfl⟩ := hob
      have e1 : a.eval c = .bool false := D1_bool (h1 h2)
      have h6 := opd_ok (g := true && !false) rfl hy (by rw [hv]; exact h4)
      rw [hv] at h6
      have e2 : a.eval y = .bool v := D1_bool h6
      exact does_pure hG hx (v := .bool v) (by simp [execOp, ho, e1, e2, asBool]) (Den.bool _)
    · exact hob.elim
  · exact hob.elim
end
theorem addr_add' (b o j : Nat) : (⟨b, o, none⟩ : Addr).add j = ⟨b, o + j, none⟩ := by unfold Addr.add; split <;> simp_all
/-- Plain cells are what they say. -/
def plainV : List D → Option (List Value)
  | [] => some []
  | .int k n :: l => (plainV l).map (Value.int k n :: ·)
  | .bool b :: l => (plainV l).map (Value.bool b :: ·)
  | _ :: _ => none
theorem flatX {G : Gh} {w : World} : ∀ {l : List D} {us vs : List Value}, DenXL G w l us → plainV l = some vs → us = vs
  | [], us, vs, h, hv => by
    obtain rfl : [] = vs := Option.some.inj hv
    exact List.eq_nil_of_length_eq_zero h.1.symm
  | d :: l, us, vs, h, hv => by
    obtain ⟨u, us', rfl, h1, h2⟩ := AL.cons_inv h
    cases d with
    | int k n =>
      unfold plainV at hv
      obtain ⟨ws, hw, rfl⟩ := Option.map_eq_some_iff.1 hv
      rw [flatX h2 hw, D1_int (G := G) (W := w) h1]
    | bool b =>
      unfold plainV at hv
      obtain ⟨ws, hw, rfl⟩ := Option.map_eq_some_iff.1 hv
      rw [flatX h2 hw, D1_bool (G := G) (W := w) h1]
    | _ => cases hv
def gh (A : Pr) : Gh := ⟨A, fun _ => none, fun _ => False, fun _ => none⟩
theorem flatXU {G : Gh} {w : World} {l : List D} {us : Array Value} {vs : List Value} (h : DenXL G w l us.toList) (hv : plainV l = some vs := by rfl) : us = vs.toArray := by
  apply Array.toList_inj.1
  rw [flatX h hv]
def bad : Ev := { x := none, ob := False }
section
variable {P : Program} {M : Nat → Prop} {A0 : Pr} {w0 : World} {G : Gh} {a : Act} {W : World} {o : Oper}
variable {s : List (Nat × SV)} {g : Bool} (hg : g = true) (hG : GOK M A0 G W) (hx : Chg M w0 W)
include hg hG hx
omit hg hG hx in
theorem run_gd {op : BinOp} {t : TypeId} {x y : Operand} {u v : Value} (h : (∀ z, u ≠ .agg z) ∧ u ≠ .nilIface) : (eqGuard op t x y u v).run P W = .ok () W := by
  cases op <;> cases u <;> first | rfl | (exact absurd rfl (h.1 _)) | (exact absurd rfl h.2) | simp [eqGuard]
omit hg hG hx in
theorem run_eqb {t : TypeId} (h : P.underlying t = some .bool) (u v : Bool) (w : World) : (Op.equal t (.bool u) (.bool v)).run P w = .ok (u == v) w := by
  show (Op.equalIn (9999 + 1) t (.bool u) (.bool v)).run P w = _
  rw [Op.equalIn]
  simp only [Sem.run_bind, run_underlying h, Result.andThen_ok, Sem.run_pure]
/-- Is a pointer nil? -/
def Xp : S1 → Option Bool
  | .box _ _ => some false
  | .xp _ _ _ _ => some false
  | .ptr _ => some false
  | .k (.pointer none) => some true
  | _ => none
def isPt (P : Program) (t : TypeId) : Bool := match P.underlying t with
  | some (.pointer _) => true
  | _ => false
omit hg hG hx in
theorem nilP_ok {x : S1} {v : Value} {b : Bool} (h : D1 G W x v) (hb : Xp x = some b) : ∃ a, v = .pointer a ∧ a.isNone = b := by
  cases x with
  | box k off => obtain ⟨c, -, rfl⟩ := h; exact ⟨_, rfl, Option.some.inj hb⟩
  | xp k K i j => obtain ⟨c, -, -, -, rfl⟩ := h; exact ⟨_, rfl, Option.some.inj hb⟩
  | ptr cs => obtain ⟨c, o, rfl, -⟩ := h; exact ⟨_, rfl, Option.some.inj hb⟩
  | k u =>
    have h : v = u := h
    subst h
    cases v with
    | pointer a =>
      cases a with
      | none => exact ⟨_, rfl, Option.some.inj hb⟩
      | some a => cases hb
    | _ => cases hb
  | _ => cases hb
omit hg hG hx in
theorem run_eqp {t : TypeId} (h : isPt P t = true) (a : Option Addr) (w : World) : (Op.equal t (.pointer a) (.pointer none)).run P w = .ok a.isNone w := by
  unfold isPt at h
  split at h
  · next e hu =>
    show (Op.equalIn (9999 + 1) t (.pointer a) (.pointer none)).run P w = _
    rw [Op.equalIn]
    simp only [Sem.run_bind, run_underlying hu, Result.andThen_ok]
    cases a <;> rfl
  · cases h
omit hg hG hx in
theorem run_eqs {t : TypeId} (h : (isSl P t).isSome = true) (a : Option Addr) (n c : Nat) (w : World) : (Op.equal t (.slice a n c) (.slice none 0 0)).run P w = .ok a.isNone w := by
  obtain ⟨e, he⟩ := Option.isSome_iff_exists.1 h
  unfold isSl at he
  split at he
  · next e' hu =>
    show (Op.equalIn (9999 + 1) t (.slice a n c) (.slice none 0 0)).run P w = _
    rw [Op.equalIn]
    simp only [Sem.run_bind, run_underlying hu, Result.andThen_ok]
    cases a <;> rfl
  · cases he
def Qg (P : Program) (s : List (Nat × SV)) (g : Bool) (op : BinOp) (t : TypeId) (x y : Operand) : Ev :=
  match opd s g x, opd s g y with
  | (.c (.int k m), p), (.c (.int k' n), q) => match op with
    | .add => { x := some (.one (.c (.int k (k.wrap (m + n))))), ob := p ∧ q ∧ k = k' }
    | .sub => { x := some (.one (.c (.int k (k.wrap (m - n))))), ob := p ∧ q ∧ k = k' }
    | .mul => { x := some (.one (.c (.int k (k.wrap (m * n))))), ob := p ∧ q ∧ k = k' }
    | .quo => { x := some (.one (.c (.int k (k.wrap (m.tdiv n))))), ob := p ∧ q ∧ k = k' ∧ n ≠ 0 }
    | .rem => { x := some (.one (.c (.int k (m.tmod n)))), ob := p ∧ q ∧ k = k' ∧ n ≠ 0 }
    | .shr => { x := some (.one (.c (.int k (m / 2 ^ n.toNat)))), ob := p ∧ q ∧ k = k' ∧ 0 ≤ n ∧ n ≤ 8 }
    | .eql => { x := some (.one (.c (.bool (m == n)))), ob := p ∧ q ∧ k = k' }
    | .neq => { x := some (.one (.c (.bool (m != n)))), ob := p ∧ q ∧ k = k' }
    | .lss => { x := some (.one (.c (.bool (decide (m < n))))), ob := p ∧ q ∧ k = k' }
    | .leq => { x := some (.one (.c (.bool (decide (m ≤ n))))), ob := p ∧ q ∧ k = k' }
    | .gtr => { x := some (.one (.c (.bool (decide (n < m))))), ob := p ∧ q ∧ k = k' }
    | .geq => { x := some (.one (.c (.bool (decide (n ≤ m))))), ob := p ∧ q ∧ k = k' }
    | _ => bad
  | (.c (.bool u), p), (.c (.bool v), q) => match op with
    | .eql => { x := some (.one (.c (.bool (u == v)))), ob := p ∧ q ∧ isB P t = true }
    | .neq => { x := some (.one (.c (.bool (u != v)))), ob := p ∧ q ∧ isB P t = true }
    | _ => bad
  | (.agg l, p), (.agg l', q) => match op with
    | .eql => { x := some (.one (.c (.bool (eqF l l')))), ob := p ∧ q ∧ EqOk P t l l' }
    | .neq => { x := some (.one (.c (.bool (!eqF l l')))), ob := p ∧ q ∧ EqOk P t l l' }
    | _ => bad
  | (x, p), (.k (.pointer none), q) => match Xp x with
    | some b => match op with
      | .eql => { x := some (.one (.c (.bool b))), ob := p ∧ q ∧ isPt P t = true }
      | .neq => { x := some (.one (.c (.bool (!b)))), ob := p ∧ q ∧ isPt P t = true }
      | _ => bad
    | none => bad
  | (.sn b l, p), (.nil, q) => match op with
    | .eql => { x := some (.one (.c (.bool b))), ob := p ∧ q ∧ (isSl P t).isSome = true }
    | .neq => { x := some (.one (.c (.bool (!b)))), ob := p ∧ q ∧ (isSl P t).isSome = true }
    | _ => bad
  | _, _ => bad
theorem ok_bin {op : BinOp} {t t' : TypeId} {x y : Operand} (ho : o.op = .binOp op t x y t') (h1 : Okd G W s a x) (h2 : Okd G W s a y) (hob : (Qg P s g op t x y).ob) : Does P M A0 w0 G a W o (Qg P s g op t x y) := by
  have d1 := opd_ok hg h1
  have d2 := opd_ok hg h2
  unfold Qg at hob ⊢
  split at hob
  · next k m p k' n q e1 e2 =>
    rw [e1] at d1
    rw [e2] at d2
    have key : ∀ v : Value, p ∧ q ∧ (k = k' → (binOp op t (.int k m) (.int k' n)).run P W = .ok v W) ∧ k = k' → (execOp a.eval o).run P W = .ok (.value v) W := fun v ⟨hp, hq, hr, hk⟩ => by
      have f1 := D1_int (d1 hp)
      have f2 := D1_int (d2 hq)
      have hgd := run_gd (P := P) (W := W) (op := op) (t := t) (x := x) (y := y) (u := .int k m) (v := .int k' n) ⟨nofun, nofun⟩
      simp [execOp, ho, f1, f2, hgd, hr hk]
    cases op <;> dsimp only at hob ⊢
    case add => exact does_pure hG hx (key _ ⟨hob.1, hob.2.1, fun hk => by subst hk; simp [binOp, Op.intArith], hob.2.2⟩) (Den.int _ _)
    case sub => exact does_pure hG hx (key _ ⟨hob.1, hob.2.1, fun hk => by subst hk; simp [binOp, Op.intArith], hob.2.2⟩) (Den.int _ _)
    case mul => exact does_pure hG hx (key _ ⟨hob.1, hob.2.1, fun hk => by subst hk; simp [binOp, Op.intArith], hob.2.2⟩) (Den.int _ _)
    case quo => exact does_pure hG hx (key _ ⟨hob.1, hob.2.1, fun hk => by subst hk; simp [binOp, Op.intDiv, hob.2.2.2], hob.2.2.1⟩) (Den.int _ _)
    case rem => exact does_pure hG hx (key _ ⟨hob.1, hob.2.1, fun hk => by subst hk; simp [binOp, Op.intDiv, hob.2.2.2], hob.2.2.1⟩) (Den.int _ _)
    case shr => exact does_pure hG hx (key _ ⟨hob.1, hob.2.1, fun hk => by subst hk; rw [binOp_shr, shift_shr k k m n hob.2.2.2.1 (Int.le_trans hob.2.2.2.2 (by cases k <;> decide))]; rfl, hob.2.2.1⟩) (Den.int _ _)
    case eql => exact does_pure hG hx (key _ ⟨hob.1, hob.2.1, fun hk => by subst hk; simp [binOp, Op.intCmp] <;> rfl, hob.2.2⟩) (Den.bool _)
    case neq => exact does_pure hG hx (key _ ⟨hob.1, hob.2.1, fun hk => by subst hk; simp [binOp, Op.intCmp] <;> rfl, hob.2.2⟩) (Den.bool _)
    case lss => exact does_pure hG hx (key _ ⟨hob.1, hob.2.1, fun hk => by subst hk; simp [binOp, Op.intCmp] <;> rfl, hob.2.2⟩) (Den.bool _)
    case leq => exact does_pure hG hx (key _ ⟨hob.1, hob.2.1, fun hk => by subst hk; simp [binOp, Op.intCmp] <;> rfl, hob.2.2⟩) (Den.bool _)
    case gtr => exact does_pure hG hx (key _ ⟨hob.1, hob.2.1, fun hk => by subst hk; simp [binOp, Op.intCmp] <;> rfl, hob.2.2⟩) (Den.bool _)
    case geq => exact does_pure hG hx (key _ ⟨hob.1, hob.2.1, fun hk => by subst hk; simp [binOp, Op.intCmp] <;> rfl, hob.2.2⟩) (Den.bool _)
    all_goals exact hob.elim
  · next u p v q e1 e2 =>
    rw [e1] at d1
    rw [e2] at d2
    have key : ∀ z : Value, p ∧ q ∧ (P.underlying t = some .bool → (binOp op t (.bool u) (.bool v)).run P W = .ok z W) ∧ isB P t = true → (execOp a.eval o).run P W = .ok (.value z) W := fun z ⟨hp, hq, hr, hk⟩ => by
      have f1 := D1_bool (d1 hp)
      have f2 := D1_bool (d2 hq)
      have hgd := run_gd (P := P) (W := W) (op := op) (t := t) (x := x) (y := y) (u := .bool u) (v := .bool v) ⟨nofun, nofun⟩
      have hu : P.underlying t = some .bool := by
        unfold isB at hk
        split at hk
        · assumption
        · cases hk
      simp [execOp, ho, f1, f2, hgd, hr hu]
    cases op <;> dsimp only at hob ⊢
    case eql => exact does_pure hG hx (key _ ⟨hob.1, hob.2.1, fun hk => by simp only [binOp, run_eqb hk, Sem.run_bind, Sem.run_pure, Result.andThen_ok] <;> rfl, hob.2.2⟩) (Den.bool _)
    case neq => exact does_pure hG hx (key _ ⟨hob.1, hob.2.1, fun hk => by simp only [binOp, run_eqb hk, Sem.run_bind, Sem.run_pure, Result.andThen_ok] <;> rfl, hob.2.2⟩) (Den.bool _)
    all_goals exact hob.elim
  · next l p l' q e1 e2 =>
    rw [e1] at d1
    rw [e2] at d2
    cases op <;> dsimp only at hob ⊢
    case eql =>
      obtain ⟨hp, hq, he⟩ := hob
      obtain ⟨us, f1, g1⟩ := d1 hp
      obtain ⟨vs, f2, g2⟩ := d2 hq
      obtain ⟨k1, -, k2⟩ := he _ W us vs x y g1 g2
      exact does_pure hG hx (v := .bool (eqF l l')) (by simp [execOp, ho, f1, f2, k1, k2, binOp]) (Den.bool _)
    case neq =>
      obtain ⟨hp, hq, he⟩ := hob
      obtain ⟨us, f1, g1⟩ := d1 hp
      obtain ⟨vs, f2, g2⟩ := d2 hq
      obtain ⟨-, k1, k2⟩ := he _ W us vs x y g1 g2
      exact does_pure hG hx (v := .bool (!eqF l l')) (by simp [execOp, ho, f1, f2, k1, k2, binOp]) (Den.bool _)
    all_goals exact hob.elim
  · next _ x' p q e1 e2 =>
    rw [e1] at d1
    rw [e2] at d2
    split at hob
    · next b hb =>
      have key : ∀ z : Value, p ∧ q ∧ (∀ u : Option Addr, u.isNone = b → isPt P t = true → (binOp op t (.pointer u) (.pointer none)).run P W = .ok z W) ∧ isPt P t = true → (execOp a.eval o).run P W = .ok (.value z) W := fun z ⟨hp, hq, hr, hk⟩ => by
        obtain ⟨u, f1, hu⟩ := nilP_ok (d1 hp) hb
        have f2 : a.eval y = .pointer none := d2 hq
        have hgd := run_gd (P := P) (W := W) (op := op) (t := t) (x := x) (y := y) (u := .pointer u) (v := .pointer none) ⟨nofun, nofun⟩
        simp [execOp, ho, f1, f2, hgd, hr u hu hk]
      cases op <;> dsimp only at hob ⊢
      case eql => exact does_pure hG hx (key _ ⟨hob.1, hob.2.1, fun u hu hk => by subst hu; simp only [binOp, run_eqp hk, Sem.run_bind, Sem.run_pure, Result.andThen_ok] <;> rfl, hob.2.2⟩) (Den.bool _)
      case neq => exact does_pure hG hx (key _ ⟨hob.1, hob.2.1, fun u hu hk => by subst hu; simp only [binOp, run_eqp hk, Sem.run_bind, Sem.run_pure, Result.andThen_ok] <;> rfl, hob.2.2⟩) (Den.bool _)
      all_goals exact hob.elim
    · exact hob.elim
  · next b l p q e1 e2 =>
    rw [e1] at d1
    rw [e2] at d2
    have key : ∀ z : Value, p ∧ q ∧ (∀ (u : Option Addr) n c, u.isNone = b → (isSl P t).isSome = true → (binOp op t (.slice u n c) (.slice none 0 0)).run P W = .ok z W) ∧ (isSl P t).isSome = true → (execOp a.eval o).run P W = .ok (.value z) W := fun z ⟨hp, hq, hr, hk⟩ => by
      obtain ⟨f1, hu⟩ := d1 hp
      have f2 : a.eval y = .slice none 0 0 := d2 hq
      obtain ⟨u, c, f3⟩ := den_len f1
      have hgd := run_gd (P := P) (W := W) (op := op) (t := t) (x := x) (y := y) (u := .slice u l.length c) (v := .slice none 0 0) ⟨nofun, nofun⟩
      have hub : u.isNone = b := by rw [← hu, f3]; cases u <;> rfl
      simp [execOp, ho, f3, f2, hgd, hr u _ _ hub hk]
    cases op <;> dsimp only at hob ⊢
    case eql => exact does_pure hG hx (key _ ⟨hob.1, hob.2.1, fun u n c hu hk => by subst hu; simp only [binOp, run_eqs hk, Sem.run_bind, Sem.run_pure, Result.andThen_ok] <;> rfl, hob.2.2⟩) (Den.bool _)
    case neq => exact does_pure hG hx (key _ ⟨hob.1, hob.2.1, fun u n c hu hk => by subst hu; simp only [binOp, run_eqs hk, Sem.run_bind, Sem.run_pure, Result.andThen_ok] <;> rfl, hob.2.2⟩) (Den.bool _)
    all_goals exact hob.elim
  · exact hob.elim
def Qh (s : List (Nat × SV)) (g : Bool) (op : UnOp) (x : Operand) : Ev := match opd s g x, op with
  | (.c (.bool b), p), .not => { x := some (.one (.c (.bool (!b)))), ob := p }
  | (.c (.int k n), p), .neg => { x := some (.one (.c (.int k (k.wrap (0 - n))))), ob := p }
  | _, _ => bad
theorem ok_un {op : UnOp} {t : TypeId} {x : Operand} (ho : o.op = .unOp op t x) (h1 : Okd G W s a x) (hob : (Qh s g op x).ob) : Does P M A0 w0 G a W o (Qh s g op x) := by
  have d1 := opd_ok hg h1
  unfold Qh at hob ⊢
  split at hob
  · next b p e1 =>
    rw [e1] at d1
    exact does_pure hG hx (v := .bool (!b)) (by simp [execOp, ho, D1_bool (d1 hob), Op.unary]) (Den.bool _)
  · next k n p e1 =>
    rw [e1] at d1
    exact does_pure hG hx (v := .int k (k.wrap (0 - n))) (by simp [execOp, ho, D1_int (d1 hob), Op.unary, Op.intArith]) (Den.int _ _)
  · exact hob.elim
def Qj (P : Program) (s : List (Nat × SV)) (g : Bool) (src dst : TypeId) (x : Operand) : Ev := match opd s g x, ik P dst with
  | (.c (.int _ n), p), some k => { x := some (.one (.c (.int k (k.wrap n)))), ob := p ∧ un P src = true }
  | _, _ => bad
theorem ok_conv {src dst : TypeId} {x : Operand} (ho : o.op = .convert src dst x) (h1 : Okd G W s a x) (hob : (Qj P s g src dst x).ob) : Does P M A0 w0 G a W o (Qj P s g src dst x) := by
  have d1 := opd_ok hg h1
  unfold Qj at hob ⊢
  split at hob
  · next k0 n p k e1 e2 =>
    rw [e1] at d1
    have hd : P.underlying dst = some (.int k) := by
      unfold ik at e2
      split at e2
      · next hu => rw [hu]; obtain rfl := Option.some.inj e2; rfl
      · cases e2
    have hs := hob.2
    unfold un at hs
    obtain ⟨ds, hs⟩ := Option.isSome_iff_exists.1 hs
    exact does_pure hG hx (v := .int k (k.wrap n)) (by simp [execOp, ho, D1_int (d1 hob.1), convert, run_underlying hs, run_underlying hd, Conv.intToInt]) (Den.int _ _)
  · exact hob.elim
omit hg hG hx in
theorem fo_spec {t : TypeId} {f off : Nat} {ft : TypeId} (h : fo P t f = some (off, ft)) : ∃ fs fd, P.underlying t = some (.struct fs) ∧ fs[f]? = some fd ∧ fd.offset = off ∧ fd.type = ft := by
  unfold fo at h
  split at h
  · next fs hu =>
    cases hf : fs[f]? with
    | none => rw [hf] at h; cases h
    | some fd =>
      rw [hf] at h
      have := Option.some.inj h
      exact ⟨fs, fd, hu, hf, (Prod.mk.inj this).1, (Prod.mk.inj this).2⟩
  · cases h
omit hg hG hx in
theorem run_fieldAt {t : TypeId} {f off : Nat} {ft : TypeId} (h : fo P t f = some (off, ft)) (hs : 0 < sz P ft) (b i : Nat) : (Instr.fieldAt t (.pointer (some ⟨b, i, none⟩)) f).run P W = .ok (.pointer (some ⟨b, i + off, none⟩)) W := by
  obtain ⟨fs, fd, h1, h2, rfl, rfl⟩ := fo_spec h
  have h3 : sz P fd.type ≠ 0 := by omega
  simp [Instr.fieldAt, run_underlying h1, h2, Instr.sureAddr, fieldPlace, run_sz hs, h3, addr_add']
def Qk (P : Program) (s : List (Nat × SV)) (g : Bool) (t : TypeId) (x : Operand) (f : Nat) : Ev := match opd s g x, fo P t f with
  | (.box k i, p), some (off, ft) => { x := some (.one (.box k (i + off))), ob := p ∧ 0 < sz P ft }
  | (.ptr cs, p), some (off, ft) => { x := some (.one (.ptr (cs.drop off))), ob := p ∧ 0 < sz P ft }
  | (.xp k K i j, p), some (off, ft) => { x := some (.one (.xp k K i (j + off))), ob := p ∧ 0 < sz P ft }
  | _, _ => bad
theorem ok_fieldAddr {t : TypeId} {x : Operand} {f : Nat} (ho : o.op = .fieldAddr t x f) (h1 : Okd G W s a x) (hob : (Qk P s g t x f).ob) : Does P M A0 w0 G a W o (Qk P s g t x f) := by
  have d1 := opd_ok hg h1
  unfold Qk at hob ⊢
  split at hob
  · next k i p off ft e1 e2 =>
    rw [e1] at d1
    obtain ⟨b, hb, he⟩ := d1 hob.1
    exact does_pure hG hx (v := .pointer (some ⟨b, i + off, none⟩)) (by simp [execOp, ho, he, run_fieldAt e2 hob.2]) ⟨b, hb, rfl⟩
  · next cs p off ft e1 e2 =>
    rw [e1] at d1
    obtain ⟨b, i, he, hb⟩ := d1 hob.1
    exact does_pure hG hx (v := .pointer (some ⟨b, i + off, none⟩)) (by simp [execOp, ho, he, run_fieldAt e2 hob.2]) ⟨b, _, rfl, hb.drop off⟩
  · next k K i j p off ft e1 e2 =>
    rw [e1] at d1
    obtain ⟨b, N, c, hb, he⟩ := d1 hob.1
    exact does_pure hG hx (v := .pointer (some ⟨b, i * K + j + off, none⟩)) (by simp [execOp, ho, he, run_fieldAt e2 hob.2]) ⟨b, N, c, hb, by rw [Nat.add_assoc]⟩
  · exact hob.elim
/-- A value out of cells. -/
def XW (a : Bool) (n : Nat) (cs : List D) : S1 × Prop := if a then (.agg (cs.take n), n ≤ cs.length) else match cs with
  | .nl :: _ => (.nil, True)
  | d :: _ => (.c d, True)
  | [] => (.k undef, False)
omit hg hG hx in
theorem outS_c {G : Gh} {W : World} {d : D} {ds : List D} {v : Value} (h : DenX G W d v) : D1 G W (match d :: ds with
  | .nl :: _ => ((.nil, True) : S1 × Prop)
  | d :: _ => (.c d, True)
  | [] => (.k undef, False)).1 v := by
  cases d with
  | nl => exact D1_nl h
  | _ => exact h
def Qm (P : Program) (s : List (Nat × SV)) (g : Bool) (t : TypeId) (x : Operand) (f : Nat) : Ev := match opd s g x, fo P t f with
  | (.agg l, p), some (off, ft) => { x := some (.one (XW (ag P ft) (sz P ft) (l.drop off)).1), ob := p ∧ un P ft = true ∧ 0 < sz P ft ∧ (XW (ag P ft) (sz P ft) (l.drop off)).2 }
  | _, _ => bad
omit hg hG hx in
theorem run_part {t : TypeId} {l : List D} {us : Array Value} (hu : un P t = true) (hs : 0 < sz P t) (h : DenXL G W l us.toList) (off : Nat) (ho : (XW (ag P t) (sz P t) (l.drop off)).2) :
    ∃ v, (part t us off).run P W = .ok v W ∧ D1 G W (XW (ag P t) (sz P t) (l.drop off)).1 v := by
  unfold XW at ho ⊢
  cases hag : ag P t
  · rw [hag] at ho
    simp only [Bool.false_eq_true, if_false] at ho ⊢
    cases hd : l.drop off with
    | nil => rw [hd] at ho; exact ho.elim
    | cons d ds =>
      have h1 : l[off]? = some d := by
        have := congrArg (fun z : List D => z[0]?) hd
        simpa using this
      obtain ⟨u, h2, h3⟩ := h.get h1
      exact ⟨u, by simp [part, run_ag hu, hag, show us[off]? = some u by simpa using h2], outS_c h3⟩
  · simp only [if_true]
    refine ⟨.agg (us.extract off (off + sz P t)), by simp [part, run_ag hu, hag, run_sz hs], ?_⟩
    refine ⟨_, rfl, ?_⟩
    have := (h.drop off).take (sz P t)
    rw [Array.toList_extract]
    simpa [List.extract] using this
theorem ok_field {t : TypeId} {x : Operand} {f : Nat} (ho : o.op = .field t x f) (h1 : Okd G W s a x) (hob : (Qm P s g t x f).ob) : Does P M A0 w0 G a W o (Qm P s g t x f) := by
  have d1 := opd_ok hg h1
  unfold Qm at hob ⊢
  split at hob
  · next l p off ft e1 e2 =>
    rw [e1] at d1
    obtain ⟨us, he, hd⟩ := d1 hob.1
    obtain ⟨fs, fd, f1, f2, rfl, rfl⟩ := fo_spec e2
    obtain ⟨v, hv, hd2⟩ := run_part hob.2.1 hob.2.2.1 hd fd.offset hob.2.2.2
    exact does_pure hG hx (v := v) (by simp [execOp, ho, he, Instr.field, run_underlying f1, f2, asAgg, hv]) hd2
  · exact hob.elim
omit hg hG hx in
theorem isSl_spec {t e : TypeId} (h : isSl P t = some e) : P.underlying t = some (.slice e) := by
  unfold isSl at h
  split at h
  · next hu => rw [hu]; obtain rfl := Option.some.inj h; rfl
  · cases h
omit hg hG hx in
theorem isAr_spec {t e : TypeId} {n : Nat} (h : isAr P t = some (n, e)) : P.underlying t = some (.array n e) := by
  unfold isAr at h
  split at h
  · next hu => rw [hu]; obtain ⟨rfl, rfl⟩ := Prod.mk.inj (Option.some.inj h); rfl
  · cases h
def Qo (P : Program) (s : List (Nat × SV)) (g : Bool) (t : TypeId) (x i : Operand) : Ev := match opd s g i with
  | (.c (.int _ n), q) => match isSl P t with
    | some e => match QL (opd s g x).1 with
      | some l => { x := some (.one (.ptr ((l[n.toNat]?).getD []))), ob := (opd s g x).2 ∧ q ∧ 0 ≤ n ∧ n < l.length ∧ 0 < sz P e ∧ ((l[n.toNat]?).getD []).length = sz P e }
      | none => match (opd s g x).1 with
        | .c (.lk k m) => { x := some (.one (.xp k (sz P e) n.toNat 0)), ob := (opd s g x).2 ∧ q ∧ 0 ≤ n ∧ n < m ∧ 0 < sz P e }
        | _ => bad
    | none => match isAr P t with
      | some (m, e) => match opd s g x with
        | (.box k j, p) => { x := some (.one (.box k (j + n.toNat * sz P e))), ob := p ∧ q ∧ 0 ≤ n ∧ n < m ∧ 0 < sz P e }
        | (.ptr cs, p) => { x := some (.one (.ptr (cs.drop (n.toNat * sz P e)))), ob := p ∧ q ∧ 0 ≤ n ∧ n < m ∧ 0 < sz P e }
        | (.xp k K i j, p) => { x := some (.one (.xp k K i (j + n.toNat * sz P e))), ob := p ∧ q ∧ 0 ≤ n ∧ n < m ∧ 0 < sz P e }
        | _ => bad
      | none => bad
  | _ => bad
theorem ok_indexAddr {t : TypeId} {x i : Operand} (ho : o.op = .indexAddr t x i) (h1 : Okd G W s a x) (h2 : Okd G W s a i) (hob : (Qo P s g t x i).ob) : Does P M A0 w0 G a W o (Qo P s g t x i) := by
  have d1 := opd_ok hg h1
  have d2 := opd_ok hg h2
  unfold Qo at hob ⊢
  split at hob
  · next k n q e2 =>
    rw [e2] at d2
    split at hob
    · next e hsl =>
      split at hob
      · next l hl =>
        obtain ⟨hp, hq, hn0, hnl, hs0, hlen⟩ := hob
        have hi := D1_int (d2 hq)
        have hd := asSl_ok (d1 hp) hl
        have hlt : n.toNat < l.length := by omega
        have hc : l[n.toNat]? = some l[n.toNat] := List.getElem?_eq_getElem hlt
        obtain ⟨b, off, c, K, he, hK, hat⟩ := den_at hd hc
        have hKs : K = sz P e := by rw [← hlen, hc]; exact (hK _ (List.getElem_mem _)).symm
        subst hKs
        have hnl' : n < (l.length : Int) := hnl
        refine does_pure hG hx (v := .pointer (some ⟨b, off + n.toNat * sz P e, none⟩)) ?_ ⟨b, _, rfl, by rw [hc]; exact hat⟩
        simp [execOp, ho, he, hi, Instr.indexAt, run_underlying (isSl_spec hsl), asIntOf, hn0, hnl', run_sz hs0, addr_add']
      · split at hob
        · next k m hlk =>
          obtain ⟨hp, hq, hn0, hnl, hs0⟩ := hob
          have hi := D1_int (d2 hq)
          have d3 := d1 hp
          rw [hlk] at d3
          obtain ⟨ad, N, c, g1, g2, -, g3, he⟩ := d3
          have hnl' : n < (m : Int) := hnl
          rcases g3 with g3 | ⟨b, rfl⟩
          · omega
          refine does_pure hG hx (v := .pointer (some ⟨b, n.toNat * sz P e + 0, none⟩)) ?_ ⟨b, N, c, g1, rfl⟩
          simp [execOp, ho, he, hi, Instr.indexAt, run_underlying (isSl_spec hsl), asIntOf, hn0, hnl', run_sz hs0, addr_add']
        · exact hob.elim
    · split at hob
      · next m e har =>
        split at hob
        · next k j p e1 =>
          rw [e1] at d1
          obtain ⟨hp, hq, hn0, hnl, hs0⟩ := hob
          have hi := D1_int (d2 hq)
          obtain ⟨b, hb, he⟩ := d1 hp
          refine does_pure hG hx (v := .pointer (some ⟨b, j + n.toNat * sz P e, none⟩)) ?_ ⟨b, hb, rfl⟩
          simp [execOp, ho, he, hi, Instr.indexAt, run_underlying (isAr_spec har), asIntOf, Instr.sureAddr, hn0, hnl, run_sz hs0, addr_add']
        · next cs p e1 =>
          rw [e1] at d1
          obtain ⟨hp, hq, hn0, hnl, hs0⟩ := hob
          have hi := D1_int (d2 hq)
          obtain ⟨b, j, he, hb⟩ := d1 hp
          refine does_pure hG hx (v := .pointer (some ⟨b, j + n.toNat * sz P e, none⟩)) ?_ ⟨b, _, rfl, hb.drop _⟩
          simp [execOp, ho, he, hi, Instr.indexAt, run_underlying (isAr_spec har), asIntOf, Instr.sureAddr, hn0, hnl, run_sz hs0, addr_add']
        · next k K i' j p e1 =>
          rw [e1] at d1
          obtain ⟨hp, hq, hn0, hnl, hs0⟩ := hob
          have hi := D1_int (d2 hq)
          obtain ⟨b, N, c, hb, he⟩ := d1 hp
          refine does_pure hG hx (v := .pointer (some ⟨b, i' * K + j + n.toNat * sz P e, none⟩)) ?_ ⟨b, N, c, hb, by rw [Nat.add_assoc]⟩
          simp [execOp, ho, he, hi, Instr.indexAt, run_underlying (isAr_spec har), asIntOf, Instr.sureAddr, hn0, hnl, run_sz hs0, addr_add']
        · exact hob.elim
      · exact hob.elim
  · exact hob.elim
def Qp (P : Program) (s : List (Nat × SV)) (g : Bool) (t : TypeId) (x i : Operand) : Ev := match opd s g x, opd s g i, isAr P t with
  | (.agg l, p), (.c (.int _ n), q), some (m, e) => { x := some (.one (XW (ag P e) (sz P e) (l.drop (n.toNat * sz P e))).1), ob := p ∧ q ∧ 0 ≤ n ∧ n < m ∧ un P e = true ∧ 0 < sz P e ∧ (XW (ag P e) (sz P e) (l.drop (n.toNat * sz P e))).2 }
  | _, _, _ => bad
theorem ok_index {t : TypeId} {x i : Operand} (ho : o.op = .index t x i) (h1 : Okd G W s a x) (h2 : Okd G W s a i) (hob : (Qp P s g t x i).ob) : Does P M A0 w0 G a W o (Qp P s g t x i) := by
  have d1 := opd_ok hg h1
  have d2 := opd_ok hg h2
  unfold Qp at hob ⊢
  split at hob
  · next l p k n q m e e1 e2 har =>
    rw [e1] at d1
    rw [e2] at d2
    obtain ⟨hp, hq, hn0, hnl, hu, hs0, hout⟩ := hob
    obtain ⟨us, he, hd⟩ := d1 hp
    have hi := D1_int (d2 hq)
    obtain ⟨v, hv, hd2⟩ := run_part hu hs0 hd (n.toNat * sz P e) hout
    exact does_pure hG hx (v := v) (by simp [execOp, ho, he, hi, Instr.index, run_underlying (isAr_spec har), asIntOf, hn0, hnl, run_sz hs0, hv]) hd2
  · exact hob.elim
def Qr (s : List (Nat × SV)) (g : Bool) (t : Operand) (i : Nat) : Ev := match t with
  | .tmp t => match gs s t with
    | .tup g' l => match l[i]? with
      | some x => { x := some (.one x), ob := g = true → g' = true }
      | none => bad
    | _ => bad
  | _ => bad
theorem ok_extract {t : Operand} {i : Nat} (ho : o.op = .extract t i) (h1 : Okd G W s a t) (hob : (Qr s g t i).ob) : Does P M A0 w0 G a W o (Qr s g t i) := by
  unfold Qr at hob ⊢
  split at hob
  · next t =>
    change Hs G W (gs s t) (V a t) at h1
    split at hob
    · next g' l e1 =>
      rw [e1] at h1
      split at hob
      · next x hl =>
        obtain ⟨us, he, hd⟩ := h1.1 (hob hg)
        have hlt := (List.getElem?_eq_some_iff.1 hl).1
        have hlen := hd.1
        have hu : us.toList[i]? = some (us.toList[i]'(by omega)) := List.getElem?_eq_getElem _
        refine does_pure hG hx (v := us.toList[i]'(by omega)) ?_ (hd.2 i x _ hl hu)
        have hu' : us[i]? = some (us.toList[i]'(by omega)) := by rw [← hu]; simp
        simp only [execOp, ho, V_eval, he, Instr.extract, hu']
        rfl
      · exact hob.elim
    · exact hob.elim
  · exact hob.elim
end
section
variable {P : Program} {M : Nat → Prop} {A0 : Pr} {w0 : World} {G : Gh} {a : Act} {W : World} {o : Oper}
theorem info_of_sz {t : TypeId} (h : 0 < sz P t) : ∃ i, P.info? t = some i ∧ i.size = sz P t := by
  unfold sz Program.cellsOf at *
  cases hi : P.info? t with
  | none => rw [hi] at h; simp at h
  | some i => exact ⟨i, rfl, by simp⟩
theorem zD_ok {v : Value} {d : D} (h : zD v = some d) (A : Pr) (w : World) : Den A w d v := by
  unfold zD at h
  split at h
  · obtain rfl := Option.some.inj h; exact .int _ _
  · obtain rfl := Option.some.inj h; exact .bool _
  · obtain rfl := Option.some.inj h; exact .nl
  · obtain rfl := Option.some.inj h; exact .fz
  · cases h
theorem zDs_ok (A : Pr) (w : World) : ∀ {vs : List Value} {ds : List D}, vs.mapM zD = some ds → DenL A w ds vs
  | [], ds, h => by
    obtain rfl : [] = ds := by simpa using h
    exact DenL.nil
  | v :: vs, ds, h => by
    rw [List.mapM_cons] at h
    cases hv : zD v with
    | none => rw [hv] at h; cases h
    | some d =>
      cases hvs : vs.mapM zD with
      | none => rw [hv, hvs] at h; cases h
      | some ds' =>
        rw [hv, hvs] at h
        obtain rfl : d :: ds' = ds := by simpa using h
        exact (DenL.single (zD_ok hv A w)).append (zDs_ok A w hvs)
theorem zr_ok {t : TypeId} {ds : List D} (h : zr P t = some ds) : ∃ i z, P.info? t = some i ∧ i.zero = some z ∧ ∀ A w, DenL A w ds z.cells.toList := by
  unfold zr at h
  cases hi : P.info? t with
  | none => rw [hi] at h; cases h
  | some i =>
    rw [hi] at h
    cases hz : i.zero with
    | none => simp [hz] at h
    | some z =>
      simp only [Option.bind_some, hz] at h
      exact ⟨i, z, rfl, hz, fun A w => zDs_ok A w h⟩
/-- A new row: what it reads as. -/
theorem new_row (hG : GOK M A0 G W) {us : Array Value} {T : TypeId} {K : Nat} {ls : List (List D)} (hK : ∀ cs ∈ ls, cs.length = K) (hd : DenL G.A W ls.flatten us.toList) :
    GOK M A0 { G with A := fun b i => G.A b i ∨ (b = W.heap.size ∧ i < us.size) } (W.alloc (.cells us T)) ∧ Evo [] [] G W { G with A := fun b i => G.A b i ∨ (b = W.heap.size ∧ i < us.size) } (W.alloc (.cells us T)) ∧
    ∀ c, ls.length ≤ c → Den (fun b i => G.A b i ∨ (b = W.heap.size ∧ i < us.size)) (W.alloc (.cells us T)) (.sl ls) (.slice (some ⟨W.heap.size, 0, none⟩) ls.length c) := by
  have hx : Ext W (W.alloc (.cells us T)) := (Ext.refl W).alloc _
  have hG' := hG.ext hx
  have hE := Evo.ext hG hx
  refine ⟨⟨hG'.fr, ?_, ?_, hG'.boxI, ?_, hG'.rowI⟩, ⟨hE.keep, fun b i h => .inl h, hE.β, hE.β0, hE.dd, hE.box, hE.ρ, hE.ρ0, hE.row⟩, fun c hc => ?_⟩
  · rintro b i (h | ⟨rfl, h⟩)
    · exact hG'.lt b i h
    · exact ⟨by simp, fun h => absurd (hG.fr _ (Nat.le_refl _)) h⟩
  · intro k u b hk hu
    obtain ⟨h1, h2⟩ := hG'.box k u b hk hu
    have h4 := (hG.box k u b hk hu).1
    refine ⟨h1, fun hd => ⟨(h2 hd).1, fun i => ?_⟩⟩
    rintro (h | ⟨rfl, h⟩)
    · exact (h2 hd).2 i h
    · omega
  · intro t u K' g h1 h2
    obtain ⟨g1, g2, g3, g4⟩ := hG'.row t u K' g h1 h2
    have g5 := (hG.row t u K' g h1 h2).2.1
    refine ⟨g1, g2, g3, fun i => ?_⟩
    rintro (h | ⟨rfl, h⟩)
    · exact g4 i h
    · omega
  · refine den_of_cells hK hc (hd.mono (fun b i h => .inl h) hE.keep) (fun _ => ⟨_, 0, rfl, fun i u hu => ?_⟩)
    have hlt := (List.getElem?_eq_some_iff.1 hu).1
    refine ⟨.inr ⟨rfl, by simpa using hlt⟩, ?_⟩
    rw [cell_of_row _ _ _ _ _ _ (heap_alloc_new W _), Nat.zero_add]
    simpa using hu
/-- A row gets a tag: it may grow. -/
theorem tag_row {A' : Pr} (hG : GOK M A0 { G with A := A' } W) {e : TypeId} {K n d : Nat} {u : Value} {cs : List Value} (hd : G.ρ d = none) (ho : W.ownsRow 0 e K u n cs) (hn : slen u = n)
    (hfresh : ∀ g, u.ownBlock = some g → M g ∧ (∀ k v, G.β k = some v → ¬ G.dead k → blk v ≠ some g) ∧ (∀ t u' K', G.ρ t = some (u', K') → u'.ownBlock ≠ some g) ∧ ∀ i, A' g i → i < n * K) :
    GOK M A0 { A := A', β := G.β, dead := G.dead, ρ := fun t => if t = d then some (u, K) else G.ρ t } W ∧ Hr { A := A', β := G.β, dead := G.dead, ρ := fun t => if t = d then some (u, K) else G.ρ t } W d (some ⟨e, K, n⟩) := by
  refine ⟨⟨hG.fr, hG.lt, hG.box, hG.boxI, ?_, ?_⟩, ⟨u, cs, by simp, hn, ho⟩⟩
  · intro t u' K' g h1 h2
    dsimp only at h1
    split at h1
    · obtain ⟨rfl, rfl⟩ := Prod.mk.inj (Option.some.inj h1)
      obtain ⟨f0, f1, -, f3⟩ := hfresh g h2
      have := ho.lt g h2
      exact ⟨f0, this.2, f1, fun i hi => by rw [hn]; exact f3 i hi⟩
    · exact hG.row t u' K' g h1 h2
  · intro t t' u1 u2 K1 K2 g h1 h2 h3 h4
    dsimp only at h1 h2
    split at h1 <;> split at h2
    · omega
    · obtain ⟨rfl, rfl⟩ := Prod.mk.inj (Option.some.inj h1)
      exact absurd h4 ((hfresh g h3).2.2.1 t' u2 K2 h2)
    · obtain ⟨rfl, rfl⟩ := Prod.mk.inj (Option.some.inj h2)
      exact absurd h3 ((hfresh g h4).2.2.1 t u1 K1 h1)
    · exact hG.rowI t t' u1 u2 K1 K2 g h1 h2 h3 h4
theorem evo_tag {A' : Pr} {W' : World} (hE : Evo [] [] G W { G with A := A' } W') {d : Nat} (hd : G.ρ d = none) (x : Value × Nat) : Evo [] [d] G W { A := A', β := G.β, dead := G.dead, ρ := fun t => if t = d then some x else G.ρ t } W' := by
  refine ⟨hE.keep, hE.sub, hE.β, hE.β0, hE.dd, hE.box, fun t u K h => ?_, fun t ht h => ?_, fun t u K ht h => ?_⟩
  · have hne : t ≠ d := fun e => by rw [e, hd] at h; cases h
    refine ⟨u, ?_, Nat.le_refl _, fun _ => rfl⟩
    dsimp only
    rw [if_neg hne]
    exact h
  · dsimp only
    rw [if_neg (by simpa using ht)]
    exact h
  · obtain ⟨-, h2⟩ := hE.row t u K (by simp) h
    refine ⟨?_, h2⟩
    dsimp only
    rw [if_neg (by simpa using ht)]
    exact h
def putβ (G : Gh) (d : Nat) (u : Value) : Gh := { G with β := fun k => if k = d then some u else G.β k, dead := fun k => k ≠ d ∧ G.dead k }
/-- A new object: its block is new. -/
theorem new_obj (hG : GOK M A0 G W) {W' : World} (hx : Chg M W W') (hsame : ∀ b, b < W.heap.size → W'.heap[b]? = W.heap[b]?) {u : Value} {d : Nat} {o : Ob} {us : List Value} (hu : ∀ b, blk u = some b → W.heap.size ≤ b ∧ b < W'.heap.size) (hβ : G.β d = none)
    (hm : Mem W' o.e o.K o.l.length us u) (hd : DenXL G W o.l.flatten us) (hK : (∃ b, u = .pointer (some ⟨b, 0, none⟩)) ∨ ∀ cs ∈ o.l, cs.length = o.K) :
    GOK M A0 (putβ G d u) W' ∧ Evo [d] [] G W (putβ G d u) W' ∧ Hb (putβ G d u) W' d (some (some o)) ∧ (putβ G d u).β d = some u := by
  have hkp : Kp G.A W W' := fun b i v hA hc => by
    rw [World.cell?_of_block (a := ⟨b, i, none⟩) (hsame b (hG.lt b i hA).1)]
    exact hc
  have hE : Evo [d] [] G W (putβ G d u) W' := by
    refine ⟨hkp, fun b i h => h, fun k v hk => ?_, fun k hk h => ?_, fun k hk => ?_, fun k v b hk h _ hb => hsame b (hG.box k v b h hb).1, fun t u K h => ⟨u, h, Nat.le_refl _, fun _ => rfl⟩, fun _ _ h => h, fun t u K _ h => ⟨h, fun g hg => hsame g (hG.row t u K g h hg).2.1⟩⟩
    · show (if k = d then _ else _) = _
      rw [if_neg (fun e => by rw [e, hβ] at hk; cases hk)]
      exact hk
    · show (if k = d then _ else _) = _
      rw [if_neg (by simpa using hk)]
      exact h
    · have : k ≠ d := by simpa using hk
      exact ⟨fun h => h.2, fun h => ⟨this, h⟩⟩
  have hnew : ∀ k v b, G.β k = some v → blk v = some b → blk u = some b → False := fun k v b hk hb hb' => by
    have h1 := (hG.box k v b hk hb).1
    have h2 := (hu b hb').1
    omega
  refine ⟨⟨fun b hb => hG.fr b (Nat.le_trans hx.size hb), fun b i h => ⟨Nat.lt_of_lt_of_le (hG.lt b i h).1 hx.size, (hG.lt b i h).2⟩, ?_, ?_, ?_, hG.rowI⟩, hE, ⟨u, us, by show (if d = d then _ else _) = _; rw [if_pos rfl], fun h => h.1 rfl, hm, hd.evo hE, hK⟩, by show (if d = d then _ else _) = _; rw [if_pos rfl]⟩
  · intro k v b hk hb
    change (if k = d then _ else _) = _ at hk
    split at hk
    · next hkd =>
      obtain rfl := Option.some.inj hk
      have := hu b hb
      exact ⟨this.2, fun _ => ⟨hG.fr b this.1, fun i hi => by have := (hG.lt b i hi).1; omega⟩⟩
    · next hkd =>
      obtain ⟨h1, h2⟩ := hG.box k v b hk hb
      exact ⟨Nat.lt_of_lt_of_le h1 hx.size, fun hdd => h2 (fun h => hdd ⟨hkd, h⟩)⟩
  · intro k k' v v' b hk hk' hb hb' hdk hdk'
    change (if k = d then _ else _) = _ at hk
    change (if k' = d then _ else _) = _ at hk'
    split at hk <;> split at hk'
    · omega
    · obtain rfl := Option.some.inj hk
      exact (hnew _ _ b hk' hb' hb).elim
    · obtain rfl := Option.some.inj hk'
      exact (hnew _ _ b hk hb hb').elim
    · next h1 h2 => exact hG.boxI k k' v v' b hk hk' hb hb' (fun h => hdk ⟨h1, h⟩) (fun h => hdk' ⟨h2, h⟩)
  · intro t v K g h1 h2
    obtain ⟨g1, g2, g3, g4⟩ := hG.row t v K g h1 h2
    refine ⟨g1, Nat.lt_of_lt_of_le g2 hx.size, fun k v' hk hdd hb => ?_, g4⟩
    change (if k = d then _ else _) = _ at hk
    split at hk
    · obtain rfl := Option.some.inj hk
      have := (hu g hb).1
      omega
    · next hkd => exact g3 k v' hk (fun h => hdd ⟨hkd, h⟩) hb
theorem flatten_one {α : Type} (l : List α) : [l].flatten = l := by simp
/-- A new box. -/
theorem new_box (hG : GOK M A0 G W) {us : Array Value} {T : TypeId} {ds : List D} {d : Nat} (hd : DenXL G W ds us.toList) (hβ : G.β d = none) :
    GOK M A0 (putβ G d (.pointer (some ⟨W.heap.size, 0, none⟩))) (W.alloc (.cells us T)) ∧ Evo [d] [] G W (putβ G d (.pointer (some ⟨W.heap.size, 0, none⟩))) (W.alloc (.cells us T)) ∧
    Hb (putβ G d (.pointer (some ⟨W.heap.size, 0, none⟩))) (W.alloc (.cells us T)) d (some (some ⟨0, 0, [ds]⟩)) ∧ D1 (putβ G d (.pointer (some ⟨W.heap.size, 0, none⟩))) (W.alloc (.cells us T)) (.box d 0) (.pointer (some ⟨W.heap.size, 0, none⟩)) := by
  have hx : Ext W (W.alloc (.cells us T)) := (Ext.refl W).alloc _
  obtain ⟨h1, h2, h3, h4⟩ := new_obj hG (W' := W.alloc (.cells us T)) (Chg.ext hx) (fun b hb => hx.below.block b hb) (u := .pointer (some ⟨W.heap.size, 0, none⟩)) (d := d) (o := ⟨0, 0, [ds]⟩) (us := us.toList) (fun b hb => by obtain rfl : W.heap.size = b := Option.some.inj hb; exact ⟨Nat.le_refl _, by simp⟩) hβ ⟨rfl, us, T, heap_alloc_new W _, rfl⟩ (by rw [flatten_one]; exact hd) (.inl ⟨_, rfl⟩)
  exact ⟨h1, h2, h3, _, h4, rfl⟩
/-- Cells are loaded. -/
theorem run_loadv {t : TypeId} {b off : Nat} {ds : List D} {us : List Value} (hu : un P t = true) (hs : 0 < sz P t) (hd : DenXL G W ds us) (hc : ∀ (j : Nat) u, us[j]? = some u → W.cell? ⟨b, off + j, none⟩ = some u) (ho : (XW (ag P t) (sz P t) ds).2) :
    ∃ v, (Instr.loadAt t (.pointer (some ⟨b, off, none⟩))).run P W = .ok v W ∧ D1 G W (XW (ag P t) (sz P t) ds).1 v := by
  unfold XW at ho ⊢
  cases hag : ag P t
  · rw [hag] at ho
    simp only [Bool.false_eq_true, if_false] at ho ⊢
    cases ds with
    | nil => exact ho.elim
    | cons d ds =>
      obtain ⟨u, h2, h3⟩ := AL.get hd (j := 0) rfl
      have h4 := hc 0 u h2
      rw [Nat.add_zero] at h4
      exact ⟨u, by simp [Instr.loadAt, Instr.sureAddr, loadVar, run_ag hu, hag, h4], outS_c h3⟩
  · rw [hag] at ho
    simp only [if_true] at ho ⊢
    have hl := hd.1
    have hlen : (us.take (sz P t)).length = sz P t := by rw [List.length_take]; omega
    have hrun := run_loadCells_list (P := P) W ⟨b, off, none⟩ (us.take (sz P t)) (fun j u hj => by
      rw [List.getElem?_take] at hj
      split at hj
      · rw [addr_add']; exact hc j u hj
      · cases hj)
    rw [hlen] at hrun
    refine ⟨.agg (us.take (sz P t)).toArray, by simp [Instr.loadAt, Instr.sureAddr, loadVar, run_ag hu, hag, run_sz hs, hrun], ?_⟩
    exact ⟨_, rfl, by simpa using AL.take hd (sz P t)⟩
/-- The cells of an object in memory. -/
theorem Mem.cell {e : TypeId} {K n : Nat} {us : List Value} {u : Value} (h : Mem W e K n us u) {b : Nat} (hb : blk u = some b) {j : Nat} {v : Value} (hj : us[j]? = some v) : W.cell? ⟨b, j, none⟩ = some v := by
  unfold Mem at h
  split at h
  · next b' =>
    obtain rfl : b' = b := Option.some.inj hb
    obtain ⟨-, arr, T, h1, rfl⟩ := h
    rw [cell_of_row _ _ _ _ _ _ h1]
    simpa using hj
  · rcases h.2 with ⟨rfl, h0⟩ | ⟨g, cap, cur, rfl, -, hg, -, -, hcs, ht⟩
    · cases hb
    · obtain rfl : g = b := Option.some.inj hb
      rw [cell_of_row _ _ _ _ _ _ hg]
      rw [← ht, List.getElem?_take] at hj
      split at hj
      · simpa using hj
      · cases hj
/-- Cells of an object are written. -/
theorem Mem.write {e : TypeId} {K n : Nat} {us : List Value} {u : Value} (h : Mem W e K n us u) {b : Nat} (hb : blk u = some b) {off : Nat} {cs : List Value} (hfit : off + cs.length ≤ us.length) (h1 : ∀ v ∈ cs, v.oneCell' = true) :
    ∃ vs, (storeCells ⟨b, off, none⟩ cs).run P W = .ok () (W.setRow b vs) ∧ Mem (W.setRow b vs) e K n (us.take off ++ cs ++ us.drop (off + cs.length)) u := by
  unfold Mem at h
  split at h
  · next b' =>
    obtain rfl : b' = b := Option.some.inj hb
    obtain ⟨h0, arr, T, hh, rfl⟩ := h
    have hrun := run_storeCells_at P b' off T cs 0 arr W hh (by rw [Nat.add_zero]; simpa using hfit) h1
    rw [Nat.add_zero] at hrun
    exact ⟨_, hrun, h0, _, T, setRow_heap W b' arr _ T _ hh, by simp⟩
  · rcases h.2 with ⟨rfl, h0⟩ | ⟨g, cap, cur, rfl, hbg, hg, hnc, hcm, hcs, ht⟩
    · cases hb
    · obtain rfl : g = b := Option.some.inj hb
      have hul : us.length = n * K := h.1
      have hnk : n * K ≤ cap * K := Nat.mul_le_mul_right K hnc
      have hrun := run_storeCells_at P g off e cs 0 cur W hg (by rw [Nat.add_zero]; omega) h1
      rw [Nat.add_zero] at hrun
      refine ⟨_, hrun, ?_⟩
      show World.ownsRow _ _ _ _ _ _ _
      refine ⟨by simp only [List.length_append, List.length_take, List.length_drop]; omega, .inr ⟨g, cap, _, rfl, hbg, setRow_heap W g cur _ e _ hg, hnc, hcm, by simp only [List.size_toArray, List.length_append, List.length_take, List.length_drop, Array.length_toList]; omega, ?_⟩⟩
      rw [← ht]
      simp only []
      apply List.ext_getElem?
      intro i
      have hcl : cur.toList.length = cap * K := by simpa using hcs
      simp only [List.getElem?_take, List.getElem?_append, List.getElem?_drop, List.length_take, List.length_append]
      have hfit' : off + cs.length ≤ n * K := by omega
      by_cases hi : i < n * K
      · rw [if_pos hi]
        by_cases h3 : i < off
        · rw [if_pos (by omega), if_pos (by omega), if_pos (by omega), if_pos (by omega), if_pos h3, if_pos (by omega)]
          try rw [if_pos hi]
        · by_cases h4 : i < off + cs.length
          · rw [if_pos (by omega), if_neg (by omega), if_pos (by omega), if_neg (by omega)]
            congr 1
            omega
          · rw [if_neg (by omega), if_neg (by omega), if_pos (by omega)]
            congr 1
            omega
      · rw [if_neg hi, if_neg (by omega), if_neg (by omega)]
theorem flatten_seg {K : Nat} {l : List (List D)} {i : Nat} {cs : List D} (hK : ∀ cs ∈ l, cs.length = K) (hi : l[i]? = some cs) : (l.flatten.drop (i * K)).take K = cs := by
  apply List.ext_getElem?
  intro j
  rw [List.getElem?_take, List.getElem?_drop]
  have hc := hK cs (List.mem_of_getElem? hi)
  split
  · next hj => exact flatten_get i j hK hi hj
  · rw [List.getElem?_eq_none (by omega)]
theorem flatten_upd {K : Nat} : ∀ {l : List (List D)} {i j : Nat} {cs xs : List D}, (∀ cs ∈ l, cs.length = K) → l[i]? = some cs → j + xs.length ≤ K → (l.set i (setAt cs j xs)).flatten = setAt l.flatten (i * K + j) xs
  | [], i, j, cs, xs, _, h, _ => by simp at h
  | x :: l, 0, j, cs, xs, hK, h, hj => by
    obtain rfl : x = cs := by simpa using h
    have hx := hK x List.mem_cons_self
    simp only [List.set_cons_zero, List.flatten_cons, setAt, Nat.zero_mul, Nat.zero_add]
    rw [List.take_append_of_le_length (by omega), List.drop_append_of_le_length (by omega), List.append_assoc, List.append_assoc]
  | x :: l, i + 1, j, cs, xs, hK, h, hj => by
    have hx := hK x List.mem_cons_self
    have ih := flatten_upd (fun cs hc => hK cs (List.mem_cons_of_mem _ hc)) (show l[i]? = some cs by simpa using h) hj
    rw [List.set_cons_succ, List.flatten_cons, ih, List.flatten_cons]
    unfold setAt
    rw [show (i + 1) * K + j = x.length + (i * K + j) by rw [Nat.succ_mul]; omega, List.take_length_add_append, show x.length + (i * K + j) + xs.length = x.length + (i * K + j + xs.length) by omega, List.drop_length_add_append]
    simp only [List.append_assoc]
theorem setAt_length {cs xs : List D} {j : Nat} (h : j + xs.length ≤ cs.length) : (setAt cs j xs).length = cs.length := by
  unfold setAt
  simp only [List.length_append, List.length_take, List.length_drop]
  omega
theorem AL.setAt {R : D → Value → Prop} {ds es : List D} {us vs : List Value} (h : AL R ds us) (k : AL R es vs) (off : Nat) : AL R (Dq.setAt ds off es) (us.take off ++ vs ++ us.drop (off + vs.length)) := by
  unfold Dq.setAt
  rw [← k.1]
  exact ((h.take off).append k).append (h.drop _)
/-- A place in an object. -/
def asP : S1 → Option (Nat × Nat × Nat × Option Nat)
  | .box k j => some (k, 0, j, none)
  | .xp k K i j => some (k, i, j, some K)
  | _ => none
def pOk (kK : Option Nat) (o : Ob) : Prop := match kK with
  | none => True
  | some K => o.K = K
/-- Where a place lies. -/
theorem place_ok {x : S1} {v : Value} {k i j : Nat} {q : Option Nat} {o : Ob} (h : D1 G W x v) (hp : asP x = some (k, i, j, q)) (hb : Hb G W k (some (some o))) (hq : pOk q o) {cs : List D} (hi : o.l[i]? = some cs) :
    ∃ u us b K, G.β k = some u ∧ ¬ G.dead k ∧ Mem W o.e o.K o.l.length us u ∧ DenXL G W o.l.flatten us ∧ blk u = some b ∧ v = .pointer (some ⟨b, i * K + j, none⟩) ∧ (∀ c ∈ o.l, c.length = K) ∧ ((∃ b, u = .pointer (some ⟨b, 0, none⟩)) ∨ ∀ cs ∈ o.l, cs.length = o.K) := by
  obtain ⟨u, us, h1, h2, h3, h4, h5⟩ := hb
  cases x with
  | box k' j' =>
    obtain ⟨rfl, rfl, rfl, rfl⟩ : k' = k ∧ 0 = i ∧ j' = j ∧ none = q := by simpa [asP] using hp
    obtain ⟨b, g1, rfl⟩ := h
    obtain rfl := Option.some.inj (g1.symm.trans h1)
    have hl : o.l.length = 1 := h3.1
    have ho : o.l = [cs] := by
      match hol : o.l, hl with
      | [c], _ => rw [hol] at hi; obtain rfl : c = cs := by simpa using hi
                  rfl
    exact ⟨_, us, b, cs.length, h1, h2, h3, h4, rfl, by rw [Nat.zero_mul, Nat.zero_add], by rw [ho]; simp, h5⟩
  | xp k' K i' j' =>
    obtain ⟨rfl, rfl, rfl, rfl⟩ : k' = k ∧ i' = i ∧ j' = j ∧ some K = q := by simpa [asP] using hp
    obtain ⟨b, N, c, g1, rfl⟩ := h
    obtain rfl := Option.some.inj (g1.symm.trans h1)
    have hq : o.K = K := hq
    subst hq
    have h5' : ∀ cs ∈ o.l, cs.length = o.K := by
      rcases h5 with ⟨b', e⟩ | h5
      · cases e
      · exact h5
    exact ⟨_, us, b, o.K, h1, h2, h3, h4, rfl, rfl, h5', h5⟩
  | _ => cases hp
variable {s : List (Nat × SV)} {bx : Bt} {g : Bool} (hg : g = true) (hG : GOK M A0 G W) (hx : Chg M w0 W)
def Qs (P : Program) (s : List (Nat × SV)) (bx : Bt) (g : Bool) (t : TypeId) (x : Operand) : Ev := match asP (opd s g x).1 with
  | some (k, i, j, q) => match gb bx k with
    | some (some o) => { x := some (.one (XW (ag P t) (sz P t) (((o.l[i]?).getD []).drop j)).1), ob := (opd s g x).2 ∧ un P t = true ∧ 0 < sz P t ∧ i < o.l.length ∧ pOk q o ∧ (XW (ag P t) (sz P t) (((o.l[i]?).getD []).drop j)).2, rb := [k] }
    | _ => bad
  | none => match opd s g x with
    | (.ptr cs, p) => { x := some (.one (XW (ag P t) (sz P t) cs).1), ob := p ∧ un P t = true ∧ 0 < sz P t ∧ (XW (ag P t) (sz P t) cs).2 }
    | _ => bad
include hg hG hx
theorem ok_load {t : TypeId} {x : Operand} (ho : o.op = .load t x) (h1 : Okd G W s a x) (hb : ∀ k ∈ (Qs P s bx g t x).rb, Hb G W k (gb bx k)) (hob : (Qs P s bx g t x).ob) : Does P M A0 w0 G a W o (Qs P s bx g t x) := by
  have d1 := opd_ok hg h1
  unfold Qs at hob hb ⊢
  split at hob
  · next k i j q e1 =>
    split at hob
    · next ob hcs =>
      simp only [e1, hcs] at hb
      obtain ⟨hp, hu, hs, hi, hq, hout⟩ := hob
      have hbk := hb k List.mem_cons_self
      have hcs' : ob.l[i]? = some ob.l[i] := List.getElem?_eq_getElem hi
      obtain ⟨u, us, b, K, g1, g2, g3, g4, g5, he, g6, -⟩ := place_ok (d1 hp) e1 (hcs ▸ hbk) hq hcs'
      have hseg := flatten_seg g6 hcs'
      have hd : DenXL G W ((ob.l[i]?).getD []) ((us.drop (i * K)).take K) := by
        rw [hcs']
        have := AL.take (AL.drop g4 (i * K)) K
        rw [hseg] at this
        exact this
      obtain ⟨v, hv, hd2⟩ := run_loadv (P := P) (W := W) (b := b) (off := i * K + j) hu hs (AL.drop hd j) (fun j' u hj => by
        rw [List.getElem?_drop, List.getElem?_take] at hj
        split at hj
        · rw [List.getElem?_drop] at hj
          rw [Nat.add_assoc]
          exact g3.cell g5 hj
        · cases hj) hout
      exact does_pure hG hx (v := v) (by simp [execOp, ho, he, hv]) hd2
    · exact hob.elim
  · split at hob
    · next cs p e1 =>
      rw [e1] at d1
      obtain ⟨hp, hu, hs, hout⟩ := hob
      obtain ⟨b, off, he, hat⟩ := d1 hp
      obtain ⟨us, hd, hc⟩ := hat.cells
      obtain ⟨v, hv, hd2⟩ := run_loadv (P := P) (W := W) (b := b) (off := off) hu hs (DenXL.of hd) hc hout
      exact does_pure hG hx (v := v) (by simp [execOp, ho, he, hv]) hd2
    · exact hob.elim
def Qt (P : Program) (bx : Bt) (g : Bool) (d : Nat) (t : TypeId) : Ev := match zr P t with
  | some z => { x := some (.one (.box d 0)), ob := gb bx d = none ∧ g = true, wb := [(d, some ⟨0, 0, [z]⟩)] }
  | none => bad
omit hg in
theorem ok_alloc {t : TypeId} {d : Nat} (ho : o.op = .alloc t) (hb : ∀ p ∈ (Qt P bx g d t).wb, Hb G W p.1 (gb bx p.1)) (hob : (Qt P bx g d t).ob) : Does P M A0 w0 G a W o (Qt P bx g d t) := by
  unfold Qt at hob hb ⊢
  split at hob
  · next z hz =>
    obtain ⟨i, zv, hi, hzv, hd⟩ := zr_ok hz
    simp only [hz] at hb
    have hβ := hb (d, some ⟨0, 0, [z]⟩) (List.mem_singleton.2 rfl)
    dsimp only at hβ
    rw [hob.1] at hβ
    obtain ⟨g1, g2, g3, g4⟩ := new_box hG (T := t) (DenXL.of (hd G.A W)) hβ
    refine ⟨_, _, _, _, ?_, .inl rfl, g1, hx.on ((Ext.refl _).alloc _), g2, g4, fun p hp => ?_, nofun⟩
    · simp [execOp, ho, Instr.alloc, zeroValue, typeInfo, hi, hzv, newVar, newRow] <;> rfl
    · obtain rfl := List.mem_singleton.1 hp
      exact g3
  · exact hob.elim
def Qu (s : List (Nat × SV)) (bx : Bt) (g : Bool) (d : Nat) (x : Operand) : Ev := { x := some (.one (.box d 0)), ob := gb bx d = none ∧ g = true ∧ (opd s g x).2 ∧ okS (opd s g x).1 = true, wb := [(d, some ⟨0, 0, [QK (opd s g x).1]⟩)] }
theorem ok_box {t : TypeId} {d : Nat} {x : Operand} (ho : o.op = .box t x) (h1 : Okd G W s a x) (hb : ∀ p ∈ (Qu s bx g d x).wb, Hb G W p.1 (gb bx p.1)) (hob : (Qu s bx g d x).ob) : Does P M A0 w0 G a W o (Qu s bx g d x) := by
  obtain ⟨hn, -, hp, hok⟩ := hob
  have d1 := cellsS_ok (opd_ok hg h1 hp) hok
  have hβ := hb (d, some ⟨0, 0, [QK (opd s g x).1]⟩) (by simp [Qu])
  dsimp only at hβ
  rw [hn] at hβ
  obtain ⟨g1, g2, g3, g4⟩ := new_box hG (T := t) d1 hβ
  refine ⟨_, _, _, _, ?_, .inl rfl, g1, hx.on ((Ext.refl _).alloc _), g2, g4, fun p hp => ?_, nofun⟩
  · simp [execOp, ho, Instr.box, newVar, newRow] <;> rfl
  · obtain rfl := List.mem_singleton.1 hp
    exact g3
def stC (q : Option Nat) (cs : List D) : List D := match q with
  | none => cs
  | some _ => QY cs
omit hg hG hx in
theorem stC_len {q : Option Nat} {cs : List D} : (stC q cs).length = cs.length := by cases q; rfl; exact deNls_len
omit hg hG hx in
theorem stC_ok {q : Option Nat} {cs : List D} {us : List Value} (h : DenXL G W cs us) : DenXL G W (stC q cs) us := by cases q; exact h; exact deNls_ok h
def Qv (P : Program) (s : List (Nat × SV)) (bx : Bt) (g : Bool) (t : TypeId) (x y : Operand) : Ev := match asP (opd s g x).1 with
  | some (k, i, j, q) => match gb bx k with
    | some (some o) => { x := none, ob := g = true ∧ (opd s g x).2 ∧ (opd s g y).2 ∧ okS (opd s g y).1 = true ∧ (QK (opd s g y).1).length = sz P t ∧ 0 < sz P t ∧ i < o.l.length ∧ pOk q o ∧ j + sz P t ≤ ((o.l[i]?).getD []).length, wb := [(k, some { o with l := o.l.set i (setAt ((o.l[i]?).getD []) j (stC q (QK (opd s g y).1))) })] }
    | _ => bad
  | _ => bad
theorem ok_store {t : TypeId} {x y : Operand} (ho : o.op = .store t x y) (h1 : Okd G W s a x) (h2 : Okd G W s a y) (hb : ∀ p ∈ (Qv P s bx g t x y).wb, Hb G W p.1 (gb bx p.1)) (hob : (Qv P s bx g t x y).ob) : Does P M A0 w0 G a W o (Qv P s bx g t x y) := by
  have d1 := opd_ok hg h1
  unfold Qv at hob hb ⊢
  split at hob
  · next k i j q e1 =>
    split at hob
    · next ob hcs =>
      simp only [e1, hcs] at hb
      obtain ⟨-, hp, hq, hok, hlen, hs, hi, hpk, hfit⟩ := hob
      have d2 := stC_ok (q := q) (cellsS_ok (opd_ok hg h2 hq) hok)
      rw [← stC_len (q := q)] at hlen
      have hbk := hb _ (List.mem_singleton.2 rfl)
      have hcs' : ob.l[i]? = some ob.l[i] := List.getElem?_eq_getElem hi
      obtain ⟨u, us, b, K, hk, hnd, g3, g4, g5, he, g6, g7⟩ := place_ok (d1 hp) e1 (show Hb G W k (some (some ob)) from (by simpa [hcs] using hbk)) hpk hcs'
      obtain ⟨hb1, hb2⟩ := hG.box k u b hk g5
      obtain ⟨hb2, hb3⟩ := hb2 hnd
      have hl2 := d2.1
      have hcl : ob.l[i].length = K := g6 _ (List.getElem_mem _)
      have hfit' : j + (stC q (QK (opd s g y).1)).length ≤ K := by
        rw [hcs'] at hfit
        change _ ≤ ob.l[i].length at hfit
        omega
      have hful : i * K + j + (stC q (QK (opd s g y).1)).length ≤ us.length := by
        rw [← g4.1, flatten_length g6]
        have := Nat.mul_le_mul_right K hi
        rw [Nat.succ_mul] at this
        omega
      obtain ⟨vs, hrun, hmem⟩ := g3.write (P := P) g5 (off := i * K + j) (cs := (a.eval y).cells.toList) (by rw [← hl2]; exact hful) (cellsS_ok (opd_ok hg h2 hq) hok).one
      have hother : ∀ b', b' ≠ b → (W.setRow b vs).heap[b']? = W.heap[b']? := fun b' hne => setRow_other W b b' _ hne
      have hsize : (W.setRow b vs).heap.size = W.heap.size := by simp [World.setRow]
      have hkeep : Kp G.A W (W.setRow b vs) := fun b' i v hA hc => by
        rw [World.cell?_of_block (a := ⟨b', i, none⟩) (hother b' (fun e => hb3 i (e ▸ hA)))]
        exact hc
      have hxt : Chg M W (W.setRow b vs) := ⟨rfl, rfl, rfl, by rw [hsize]; exact Nat.le_refl _, fun k' hk' hne => hother k' (fun e => hne (by rw [e]; exact hb2))⟩
      have hE : Evo [k] [] G W G (W.setRow b vs) := ⟨hkeep, fun _ _ h => h, fun _ _ h => h, fun _ _ h => h, fun _ _ => Iff.rfl, fun k' u' b' hk1 hk2 hd' hb' => hother b' (fun e => hk1 (List.mem_singleton.2 (hG.boxI k' k u' u b hk2 hk (e ▸ hb') g5 hd' hnd))), fun t u K h => ⟨u, h, Nat.le_refl _, fun _ => rfl⟩, fun _ _ h => h, fun t u' K _ h => ⟨h, fun g' hg' => hother g' (fun e => (hG.row t u' K g' h hg').2.2.1 k u hk hnd (by rw [e]; exact g5))⟩⟩
      have hset : (ob.l.set i (setAt ((ob.l[i]?).getD []) j (stC q (QK (opd s g y).1)))).flatten = setAt ob.l.flatten (i * K + j) (stC q (QK (opd s g y).1)) := by
        rw [hcs']
        exact flatten_upd g6 hcs' hfit'
      refine ⟨undef, W.setRow b vs, G, .skip, ?_, .inr ⟨rfl, rfl⟩, ⟨by rw [hsize]; exact hG.fr, fun b i h => by rw [hsize]; exact hG.lt b i h, fun k u b h hu => by rw [hsize]; exact hG.box k u b h hu, hG.boxI, fun t u K g h h' => by rw [hsize]; exact hG.row t u K g h h', hG.rowI⟩, hx.trans hxt, hE, rfl, fun p hp => ?_, nofun⟩
      · have hsz2 : (a.eval y).cells.size = sz P t := by rw [← hlen, hl2]; simp
        have hrun' : (storeCells ⟨b, i * K + j, none⟩ (a.eval y).cells.toList).run P W = .ok () (W.setRow b vs) := hrun
        simp [execOp, ho, he, Instr.storeAt, Instr.sureAddr, storeVar, run_sz hs, hsz2, hrun']
      · obtain rfl := List.mem_singleton.1 hp
        refine ⟨u, us.take (i * K + j) ++ (a.eval y).cells.toList ++ us.drop (i * K + j + (a.eval y).cells.toList.length), hk, hnd, ?_, ?_, ?_⟩
        · rw [List.length_set]; exact hmem
        · rw [hset]
          exact (AL.setAt g4 d2 _).map fun _ _ h => h.evo hE
        · rcases g7 with g7 | g7
          · exact .inl g7
          · refine .inr fun c hc => ?_
            rcases List.mem_or_eq_of_mem_set hc with h | rfl
            · exact g7 c h
            · rw [hcs']
              show (setAt ob.l[i] j _).length = _
              rw [setAt_length (by omega)]
              exact g7 _ (List.getElem_mem _)
    · exact hob.elim
  · exact hob.elim
/-- A new row of zeros. -/
def QG (P : Program) (s : List (Nat × SV)) (bx : Bt) (g : Bool) (d : Nat) (t : TypeId) (x y : Operand) : Ev := match isSl P t, opd s g x, opd s g y with
  | some e, (.c (.int _ n), p), (.c (.int _ m), q) => match zr P e with
    | some z => { x := some (.one (.c (.lk d n.toNat))), ob := p ∧ q ∧ gb bx d = none ∧ g = true ∧ 0 ≤ n ∧ m = n ∧ n ≤ 1000000 ∧ byt P e ≤ 1000000 ∧ z.length = sz P e ∧ 0 < sz P e, wb := [(d, some ⟨e, sz P e, List.replicate n.toNat (QY z)⟩)] }
    | none => bad
  | _, _, _ => bad
omit hg hG hx in
theorem flatten_rep {z : List D} {K : Nat} (hz : z.length = K) (n i : Nat) (hi : i < n * K) : (List.replicate n z).flatten[i]? = z[i % K]? := by
  have hp : 0 < K := by
    rcases Nat.eq_zero_or_pos K with h | h
    · rw [h] at hi; simp at hi
    · exact h
  have h1 : i / K < n := Nat.div_lt_of_lt_mul (by rwa [Nat.mul_comm])
  have h2 : i % K < K := Nat.mod_lt _ hp
  have h3 : i / K * K + i % K = i := by rw [Nat.mul_comm]; exact Nat.div_add_mod i K
  have := flatten_get (l := List.replicate n z) (K := K) (cs := z) (i / K) (i % K) (fun cs hc => by rw [(List.mem_replicate.1 hc).2]; exact hz) (by rw [List.getElem?_replicate, if_pos h1]) h2
  rwa [h3] at this
theorem ok_make {t : TypeId} {d : Nat} {x y : Operand} (ho : o.op = .makeSlice t x y) (h1 : Okd G W s a x) (h2 : Okd G W s a y) (hb : ∀ p ∈ (QG P s bx g d t x y).wb, Hb G W p.1 (gb bx p.1)) (hob : (QG P s bx g d t x y).ob) : Does P M A0 w0 G a W o (QG P s bx g d t x y) := by
  have d1 := opd_ok hg h1
  have d2 := opd_ok hg h2
  unfold QG at hob hb ⊢
  split at hob
  · next e k1 n p k2 m q hsl e1 e2 =>
    rw [e1] at d1
    rw [e2] at d2
    split at hob
    · next z hz =>
      simp only [hsl, e1, e2, hz] at hb
      obtain ⟨hp, hq, hn, -, hn0, rfl, hn1, hbyt, hzl, hs0⟩ := hob
      obtain ⟨i, zv, hi, hzv, hd⟩ := zr_ok hz
      obtain ⟨Z, hZ⟩ : ∃ Z, Z = QY z := ⟨_, rfl⟩
      have hZl : Z.length = sz P e := by rw [hZ, deNls_len]; exact hzl
      have hZd : DenXL G W Z zv.cells.toList := by rw [hZ]; exact deNls_ok (DenXL.of (hd G.A W))
      rw [← hZ]
      have hβ := hb _ (List.mem_singleton.2 rfl)
      dsimp only at hβ
      rw [hn] at hβ
      obtain ⟨N, rfl⟩ : ∃ N : Nat, m = (N : Int) := ⟨m.toNat, by omega⟩
      have hby : i.bytes ≤ 1000000 := by
        have h : byt P e = i.bytes := by
          unfold byt Program.bytesOf
          rw [hi]
          rfl
        rw [← h]; exact hbyt
      have hmul : (i.bytes : Int) * (N : Int) ≤ 281474976710656 := by
        have h3 : i.bytes * N ≤ 1000000 * 1000000 := Nat.mul_le_mul hby (by omega)
        have h4 : ((i.bytes * N : Nat) : Int) = (i.bytes : Int) * (N : Int) := Int.natCast_mul _ _
        omega
      have hrun := run_make (P := P) W t e i zv (isSl_spec hsl) hi hzv k1 k2 (N : Int) (N : Int) (by omega) (Int.le_refl _) hmul (by omega)
      simp only [Int.toNat_natCast] at hrun
      have hisz : i.size = sz P e := by
        obtain ⟨i', hi', hs'⟩ := info_of_sz hs0
        obtain rfl := Option.some.inj (hi.symm.trans hi')
        exact hs'
      rw [hisz] at hrun
      have hzc := hZd.1
      have hcells : DenXL G W (List.replicate N Z).flatten (madeCells zv.cells (N * sz P e)).toList := by
        have hfl : (List.replicate N Z).flatten.length = N * sz P e := by
          rw [flatten_length (K := sz P e) (fun cs hc => by rw [(List.mem_replicate.1 hc).2]; exact hZl), List.length_replicate]
        refine ⟨by rw [hfl, Array.length_toList, size_madeCells], fun j dd u h3 h4 => ?_⟩
        have hj : j < N * sz P e := by rw [← hfl]; exact (List.getElem?_eq_some_iff.1 h3).1
        rw [flatten_rep hZl N j hj] at h3
        have hzs : zv.cells.size = sz P e := by rw [← hZl, hzc]; simp
        have hjm : j % sz P e < zv.cells.size := by rw [hzs]; exact Nat.mod_lt _ hs0
        obtain rfl : zv.cells[j % sz P e] = u := by
          have h5 : (madeCells zv.cells (N * sz P e))[j]? = some u := by simpa using h4
          unfold madeCells at h5
          rw [Array.getElem?_map, Array.getElem?_range] at h5
          simp only [hj, if_true, Option.map_some, hzs] at h5
          rw [getElem!_pos zv.cells (j % sz P e) hjm] at h5
          exact Option.some.inj h5
        exact hZd.2 (j % sz P e) dd _ h3 (by simp)
      have hx' : Ext W (W.alloc (.cells (madeCells zv.cells (N * sz P e)) e)) := (Ext.refl W).alloc _
      have hN : N ≤ maxLen := Nat.le_trans (by omega : N ≤ 1000000) (by decide)
      have hown : (W.alloc (.cells (madeCells zv.cells (N * sz P e)) e)).ownsRow 0 e (sz P e) (.slice (some ⟨W.heap.size, 0, none⟩) N N) N (madeCells zv.cells (N * sz P e)).toList :=
        ⟨by rw [Array.length_toList, size_madeCells], .inr ⟨_, N, _, rfl, Nat.zero_le _, heap_alloc_new W _, Nat.le_refl _, hN, size_madeCells _ _, by rw [List.take_of_length_le]; rw [Array.length_toList, size_madeCells]; exact Nat.le_refl _⟩⟩
      obtain ⟨g1, g2, g3, g4⟩ := new_obj hG (W' := W.alloc (.cells (madeCells zv.cells (N * sz P e)) e)) (Chg.ext hx') (fun b hb => hx'.below.block b hb) (u := .slice (some ⟨W.heap.size, 0, none⟩) N N) (d := d) (o := ⟨e, sz P e, List.replicate N Z⟩) (us := (madeCells zv.cells (N * sz P e)).toList)
        (fun b hb => by obtain rfl : W.heap.size = b := Option.some.inj hb; exact ⟨Nat.le_refl _, by simp⟩) hβ (by show World.ownsRow _ _ _ _ _ _ _; rw [List.length_replicate]; exact hown) hcells (.inr fun cs hc => by rw [(List.mem_replicate.1 hc).2]; exact hZl)
      refine ⟨_, _, _, _, ?_, .inl rfl, g1, hx.on hx', g2, ⟨_, N, N, g4, Nat.le_refl _, Nat.le_refl _, .inr ⟨_, rfl⟩, rfl⟩, fun p hp => ?_, nofun⟩
      · have f1 := D1_int (d1 hp)
        have f2 := D1_int (d2 hq)
        simp [execOp, ho, f1, f2, hrun]
      · obtain rfl := List.mem_singleton.1 hp
        exact g3
    · exact hob.elim
  · exact hob.elim
/-- A made slice that need not stay the call's own: read as it is. -/
def QH (P : Program) (s : List (Nat × SV)) (g : Bool) (t : TypeId) (x y : Operand) : Ev := match isSl P t, opd s g x, opd s g y with
  | some e, (.c (.int _ n), p), (.c (.int _ m), q) => match zr P e with
    | some z => { x := some (.one (.c (.sl (List.replicate n.toNat (QY z))))), ob := p ∧ q ∧ 0 ≤ n ∧ m = n ∧ n ≤ 1000000 ∧ byt P e ≤ 1000000 ∧ z.length = sz P e ∧ 0 < sz P e ∧ lfs (QY z) = true }
    | none => bad
  | _, _, _ => bad
omit hg hG hx in
theorem lfs_ap : ∀ {l m : List D}, lfs l = true → lfs m = true → lfs (l ++ m) = true
  | [], m, _, h => h
  | d :: l, m, h, h' => by
    rw [List.cons_append]
    have h := (Bool.and_eq_true _ _).mp h
    exact (Bool.and_eq_true _ _).mpr ⟨h.1, lfs_ap h.2 h'⟩
theorem ok_makeP {t : TypeId} {x y : Operand} (ho : o.op = .makeSlice t x y) (h1 : Okd G W s a x) (h2 : Okd G W s a y) (hob : (QH P s g t x y).ob) : Does P M A0 w0 G a W o (QH P s g t x y) := by
  have d1 := opd_ok hg h1
  have d2 := opd_ok hg h2
  unfold QH at hob ⊢
  split at hob
  · next e k1 n p k2 m q hsl e1 e2 =>
    rw [e1] at d1
    rw [e2] at d2
    split at hob
    · next z hz =>
      obtain ⟨hp, hq, hn0, rfl, hn1, hbyt, hzl, hs0, hlz⟩ := hob
      obtain ⟨i, zv, hi, hzv, hd⟩ := zr_ok hz
      obtain ⟨Z, hZ⟩ : ∃ Z, Z = QY z := ⟨_, rfl⟩
      have hZl : Z.length = sz P e := by rw [hZ, deNls_len]; exact hzl
      have hZd : DenXL G W Z zv.cells.toList := by rw [hZ]; exact deNls_ok (DenXL.of (hd G.A W))
      rw [← hZ] at hlz ⊢
      obtain ⟨N, rfl⟩ : ∃ N : Nat, m = (N : Int) := ⟨m.toNat, by omega⟩
      have hby : i.bytes ≤ 1000000 := by
        have h : byt P e = i.bytes := by
          unfold byt Program.bytesOf
          rw [hi]
          rfl
        rw [← h]; exact hbyt
      have hmul : (i.bytes : Int) * (N : Int) ≤ 281474976710656 := by
        have h3 : i.bytes * N ≤ 1000000 * 1000000 := Nat.mul_le_mul hby (by omega)
        have h4 : ((i.bytes * N : Nat) : Int) = (i.bytes : Int) * (N : Int) := Int.natCast_mul _ _
        omega
      have hrun := run_make (P := P) W t e i zv (isSl_spec hsl) hi hzv k1 k2 (N : Int) (N : Int) (by omega) (Int.le_refl _) hmul (by omega)
      simp only [Int.toNat_natCast] at hrun
      have hisz : i.size = sz P e := by
        obtain ⟨i', hi', hs'⟩ := info_of_sz hs0
        obtain rfl := Option.some.inj (hi.symm.trans hi')
        exact hs'
      rw [hisz] at hrun
      have hzc := hZd.1
      have hcells : DenXL G W (List.replicate N Z).flatten (madeCells zv.cells (N * sz P e)).toList := by
        have hfl : (List.replicate N Z).flatten.length = N * sz P e := by
          rw [flatten_length (K := sz P e) (fun cs hc => by rw [(List.mem_replicate.1 hc).2]; exact hZl), List.length_replicate]
        refine ⟨by rw [hfl, Array.length_toList, size_madeCells], fun j dd u h3 h4 => ?_⟩
        have hj : j < N * sz P e := by rw [← hfl]; exact (List.getElem?_eq_some_iff.1 h3).1
        rw [flatten_rep hZl N j hj] at h3
        have hzs : zv.cells.size = sz P e := by rw [← hZl, hzc]; simp
        have hjm : j % sz P e < zv.cells.size := by rw [hzs]; exact Nat.mod_lt _ hs0
        obtain rfl : zv.cells[j % sz P e] = u := by
          have h5 : (madeCells zv.cells (N * sz P e))[j]? = some u := by simpa using h4
          unfold madeCells at h5
          rw [Array.getElem?_map, Array.getElem?_range] at h5
          simp only [hj, if_true, Option.map_some, hzs] at h5
          rw [getElem!_pos zv.cells (j % sz P e) hjm] at h5
          exact Option.some.inj h5
        exact hZd.2 (j % sz P e) dd _ h3 (by simp)
      have hx' : Ext W (W.alloc (.cells (madeCells zv.cells (N * sz P e)) e)) := (Ext.refl W).alloc _
      have hN : N ≤ maxLen := Nat.le_trans (by omega : N ≤ 1000000) (by decide)
      have hown : (W.alloc (.cells (madeCells zv.cells (N * sz P e)) e)).ownsRow 0 e (sz P e) (.slice (some ⟨W.heap.size, 0, none⟩) N N) N (madeCells zv.cells (N * sz P e)).toList :=
        ⟨by rw [Array.length_toList, size_madeCells], .inr ⟨_, N, _, rfl, Nat.zero_le _, heap_alloc_new W _, Nat.le_refl _, hN, size_madeCells _ _, by rw [List.take_of_length_le]; rw [Array.length_toList, size_madeCells]; exact Nat.le_refl _⟩⟩
      have hK : ∀ cs ∈ List.replicate N Z, cs.length = sz P e := fun cs hc => by rw [(List.mem_replicate.1 hc).2]; exact hZl
      have hfl : ∀ n : Nat, lfs (List.replicate n Z).flatten = true := fun n => by
        induction n with
        | zero => rfl
        | succ n ih => rw [List.replicate_succ, List.flatten_cons, lfs_ap hlz ih]
      obtain ⟨k1, k2, k3⟩ := new_row hG (T := e) hK (hcells.den (hfl N))
      have k4 := k3 N (by rw [List.length_replicate]; exact Nat.le_refl _)
      rw [List.length_replicate] at k4
      have f1 := D1_int (d1 hp)
      have f2 := D1_int (d2 hq)
      exact ⟨_, _, _, _, by simp [execOp, ho, f1, f2, hrun], .inl rfl, k1, hx.on hx', k2, k4, nofun, nofun⟩
    · exact hob.elim
  · exact hob.elim
end
/-- Places of a literal's parts. -/
def plc (P : Program) (t : TypeId) : Option (List (Nat × Nat)) := match P.underlying t with
  | some (.struct fs) => fs.toList.mapM fun f => (P.info? f.type).map fun i => (f.offset, i.size)
  | some (.array n e) => (P.info? e).map fun i => (List.range n).map fun j => (j * i.size, i.size)
  | _ => none
def QO (pl : List (Nat × Nat)) : List D → List (Nat × (S1 × Prop)) → List D × Prop
  | cs, [] => (cs, True)
  | cs, (i, x) :: rest => match pl[i]? with
    | some (off, n) => let r := QO pl (setAt cs off (QK x.1)) rest
      (r.1, x.2 ∧ okS x.1 = true ∧ (QK x.1).length = n ∧ off + n ≤ cs.length ∧ r.2)
    | none => (cs, False)
section
variable {P : Program} {M : Nat → Prop} {A0 : Pr} {w0 : World} {G : Gh} {a : Act} {W : World} {o : Oper}
theorem setAt_foldl : ∀ (vs : List Value) (k off : Nat) (cells : Array Value), off + k + vs.length ≤ cells.size →
    ((vs.zipIdx k).foldl (fun (cs : Array Value) (p : Value × Nat) => cs.setIfInBounds (off + p.2) p.1) cells).toList = cells.toList.take (off + k) ++ vs ++ cells.toList.drop (off + k + vs.length)
  | [], k, off, cells, _ => by simp
  | v :: vs, k, off, cells, h => by
    simp only [List.length_cons] at h
    rw [List.zipIdx_cons, List.foldl_cons, setAt_foldl vs (k + 1) off _ (by simp; omega)]
    have hlt : off + k < cells.toList.length := by simp; omega
    rw [Array.toList_setIfInBounds]
    have e1 : (cells.toList.set (off + k) v).take (off + (k + 1)) = cells.toList.take (off + k) ++ [v] := by
      rw [show off + (k + 1) = off + k + 1 by omega, List.take_set, List.take_add_one, List.getElem?_eq_getElem hlt, List.set_append_right _ _ (by simp; omega)]
      have hm : min (off + k) cells.size = off + k := Nat.min_eq_left (by simp at hlt; omega)
      simp [hm]
    have e2 : (cells.toList.set (off + k) v).drop (off + (k + 1) + vs.length) = cells.toList.drop (off + k + (v :: vs).length) := by
      rw [List.drop_set_of_lt (by omega)]
      congr 1
      simp only [List.length_cons]
      omega
    rw [e1, e2]
    simp
theorem fill_ok (place : Nat → Option (Nat × Nat)) (pl : List (Nat × Nat)) (hp : ∀ i x, pl[i]? = some x → place i = some x) : ∀ (parts : List (Nat × (S1 × Prop))) (vs : List (Nat × Value)) (ds : List D) (cells : Array Value),
    DenXL G W ds cells.toList → parts.map (·.1) = vs.map (·.1) → (∀ (j : Nat) p v, parts[j]? = some p → vs[j]? = some v → p.2.2 → okS p.2.1 = true → DenXL G W (QK p.2.1) v.2.cells.toList) → (QO pl ds parts).2 →
    ∃ r, Instr.fill place cells vs = some r ∧ DenXL G W (QO pl ds parts).1 r.toList
  | [], vs, ds, cells, hd, hm, _, _ => by
    obtain rfl : vs = [] := by simpa using hm.symm
    exact ⟨cells, rfl, hd⟩
  | (i, x) :: parts, vs, ds, cells, hd, hm, hv, hob => by
    cases vs with
    | nil => simp at hm
    | cons v vs =>
      simp only [List.map_cons, List.cons.injEq] at hm
      obtain ⟨hi, hm⟩ := hm
      obtain ⟨vi, v⟩ := v
      dsimp only at hi
      subst hi
      unfold QO at hob ⊢
      cases hpl : pl[i]? with
      | none => rw [hpl] at hob; exact hob.elim
      | some x' =>
        obtain ⟨off, n⟩ := x'
        rw [hpl] at hob
        dsimp only at hob ⊢
        obtain ⟨h1, h2, h3, h4, h5⟩ := hob
        have hdv := hv 0 _ _ rfl rfl h1 h2
        dsimp only at hdv
        have hl := hdv.1
        have hl2 := hd.1
        have hsz : v.cells.size = n := by rw [← h3, hl]; simp
        have hsz2 : cells.size = ds.length := by rw [hl2]; simp
        have e := setAt_foldl v.cells.toList 0 off cells (by simp; omega)
        have e' : (v.cells.zipIdx.foldl (fun (cs : Array Value) (p : Value × Nat) => cs.setIfInBounds (off + p.2) p.1) cells).toList = cells.toList.take off ++ v.cells.toList ++ cells.toList.drop (off + v.cells.toList.length) := by
          rw [← Array.foldl_toList, Array.toList_zipIdx]
          simpa using e
        have hd' : DenXL G W (setAt ds off (QK x.1)) (v.cells.zipIdx.foldl (fun (cs : Array Value) (p : Value × Nat) => cs.setIfInBounds (off + p.2) p.1) cells).toList := by
          rw [e', setAt, hl]
          exact ((hd.take off).append hdv).append (hd.drop _)
        obtain ⟨r, hr1, hr2⟩ := fill_ok place pl hp parts vs _ _ hd' hm (fun j p v h h' => hv (j + 1) p v (by simpa using h) (by simpa using h')) h5
        refine ⟨r, ?_, hr2⟩
        unfold Instr.fill
        rw [hp _ _ hpl]
        dsimp only
        rw [if_neg (by rw [hsz]; simp; omega)]
        exact hr1
variable {s : List (Nat × SV)} {bx : Bt} {rx : List (Nat × RowI)} {g : Bool} (hg : g = true) (hG : GOK M A0 G W) (hx : Chg M w0 W)
def Qw (P : Program) (s : List (Nat × SV)) (g : Bool) (t : TypeId) (ps : List (Nat × Operand)) : Ev := match plc P t, zr P t with
  | some pl, some z => { x := some (.one (.agg (QO pl z (ps.map fun p => (p.1, opd s g p.2))).1)), ob := (QO pl z (ps.map fun p => (p.1, opd s g p.2))).2 }
  | _, _ => bad
theorem built_ok {t : TypeId} {pl : List (Nat × Nat)} {z : List D} (hpl : plc P t = some pl) (hz : zr P t = some z) (parts : List (Nat × (S1 × Prop))) (vs : List (Nat × Value)) (hm : parts.map (·.1) = vs.map (·.1)) (hv : ∀ (j : Nat) p v, parts[j]? = some p → vs[j]? = some v → p.2.2 → okS p.2.1 = true → DenXL G W (QK p.2.1) v.2.cells.toList) (hob : (QO pl z parts).2) :
    ∃ r, P.built t vs = some r ∧ DenXL G W (QO pl z parts).1 r.toList := by
  obtain ⟨i, zv, hi, hzv, hd⟩ := zr_ok hz
  unfold plc at hpl
  unfold Program.built
  rw [hi]
  split at hpl
  · next fs hu =>
    rw [hu]
    simp only [hzv, hpl]
    exact fill_ok _ pl (fun i x h => by simpa using h) parts vs z _ (DenXL.of (hd G.A W)) hm hv hob
  · next n e hu =>
    rw [hu]
    cases hie : P.info? e with
    | none => rw [hie] at hpl; cases hpl
    | some ie =>
      rw [hie] at hpl
      obtain rfl := Option.some.inj hpl
      simp only [hzv, hie]
      refine fill_ok _ _ (fun i x h => ?_) parts vs z _ (DenXL.of (hd G.A W)) hm hv hob
      rw [List.getElem?_map] at h
      by_cases hlt : i < n
      · rw [List.getElem?_range hlt] at h
        simpa using h
      · rw [List.getElem?_eq_none (by simpa using hlt)] at h
        cases h
  · cases hpl
include hg hG hx
theorem ok_build {t : TypeId} {ps : Array (Nat × Operand)} (ho : o.op = .build t ps) (h1 : ∀ p ∈ ps.toList, Okd G W s a p.2) (hob : (Qw P s g t ps.toList).ob) : Does P M A0 w0 G a W o (Qw P s g t ps.toList) := by
  unfold Qw at hob ⊢
  split at hob
  · next pl z hpl hz =>
    obtain ⟨r, hr, hd⟩ := built_ok (G := G) (W := W) hpl hz (ps.toList.map fun p => (p.1, opd s g p.2)) (ps.toList.map fun p => (p.1, a.eval p.2)) (by simp) (fun j p v h h' hp hok => by
      rw [List.getElem?_map] at h h'
      cases hj : ps.toList[j]? with
      | none => rw [hj] at h; cases h
      | some q =>
        rw [hj] at h h'
        obtain rfl := Option.some.inj h
        obtain rfl := Option.some.inj h'
        exact cellsS_ok (opd_ok hg (h1 q (List.mem_of_getElem? hj)) hp) hok) hob
    have hrun := run_build (P := P) W t (ps.map fun (i, x) => (i, a.eval x)) r (by rw [Array.toList_map]; exact hr)
    exact does_pure hG hx (v := .agg r) (by simp [execOp, ho, hrun]) ⟨_, rfl, hd⟩
  · exact hob.elim
/-- A slice literal, all of whose elements are given, in order. -/
def QM : List (S1 × Prop) → List (List D)
  | [] => []
  | x :: l => QY (QK x.1) :: QM l
def QN (K : Nat) : List (S1 × Prop) → Prop
  | [] => True
  | x :: l => (x.2 ∧ okS x.1 = true ∧ (QK x.1).length = K) ∧ QN K l
def Xv : List (S1 × Prop) → Prop
  | [] => True
  | x :: l => lfs (QY (QK x.1)) = true ∧ Xv l
def Qy (P : Program) (s : List (Nat × SV)) (bx : Bt) (rx : List (Nat × RowI)) (xl ug : Bool) (g : Bool) (d : Nat) (t : TypeId) (n : Nat) (ps : List (Nat × Operand)) : Ev := match isSl P t with
  | some e => if xl then { x := some (.one (.c (.lk d n))), ob := gb bx d = none ∧ g = true ∧ ps.map (·.1) = List.range n ∧ (zr P e).isSome = true ∧ 0 < sz P e ∧ n * sz P e ≤ 100000 ∧ QN (sz P e) (ps.map fun p => opd s g p.2), wb := [(d, some ⟨e, sz P e, QM (ps.map fun p => opd s g p.2)⟩)] }
    else if ug then { x := some (.one (.own d (sz P e) (QM (ps.map fun p => opd s g p.2)))), ob := gb rx d = none ∧ ps.map (·.1) = List.range n ∧ (zr P e).isSome = true ∧ 0 < sz P e ∧ n * sz P e ≤ 100000 ∧ QN (sz P e) (ps.map fun p => opd s g p.2) ∧ Xv (ps.map fun p => opd s g p.2), wr := [(d, ⟨e, sz P e, n⟩)] }
    else { x := some (.one (.c (.sl (QM (ps.map fun p => opd s g p.2))))), ob := ps.map (·.1) = List.range n ∧ (zr P e).isSome = true ∧ 0 < sz P e ∧ n * sz P e ≤ 100000 ∧ QN (sz P e) (ps.map fun p => opd s g p.2) ∧ Xv (ps.map fun p => opd s g p.2) }
  | none => bad
omit hg hG hx in
theorem lfs_app : ∀ {l m : List D}, lfs l = true → lfs m = true → lfs (l ++ m) = true
  | [], m, _, h => h
  | d :: l, m, h, h' => by
    rw [List.cons_append]
    have h := (Bool.and_eq_true _ _).mp h
    exact (Bool.and_eq_true _ _).mpr ⟨h.1, lfs_app h.2 h'⟩
omit hg hG hx in
theorem els_lf : ∀ {xs : List (S1 × Prop)}, Xv xs → lfs (QM xs).flatten = true
  | [], _ => rfl
  | x :: xs, h => by
    simp only [QM, List.flatten_cons]
    exact lfs_app h.1 (els_lf h.2)
omit hg hG hx in
theorem els_ok {G : Gh} {K : Nat} : ∀ (xs : List (S1 × Prop)) (vs : List Value), (∀ (j : Nat) p v, xs[j]? = some p → vs[j]? = some v → p.2 → D1 G W p.1 v) → xs.length = vs.length → QN K xs →
    (∀ cs ∈ QM xs, cs.length = K) ∧ DenXL G W (QM xs).flatten (vs.flatMap fun v => v.cells.toList) ∧ (∀ v ∈ vs, v.cells.size = K) ∧ (QM xs).length = xs.length
  | [], vs, _, hl, _ => by
    obtain rfl : vs = [] := List.eq_nil_of_length_eq_zero hl.symm
    exact ⟨nofun, AL.nil, nofun, rfl⟩
  | x :: xs, vs, h, hl, hob => by
    cases vs with
    | nil => simp at hl
    | cons v vs =>
      obtain ⟨⟨h1, h2, h3⟩, h4⟩ := hob
      obtain ⟨g1, g2, g3, g4⟩ := els_ok xs vs (fun j p v' k k' => h (j + 1) p v' (by simpa using k) (by simpa using k')) (by simpa using hl) h4
      have hd0 := cellsS_ok (h 0 x v rfl rfl h1) h2
      have hd := deNls_ok hd0
      rw [← deNls_len] at h3
      refine ⟨fun cs hc => ?_, ?_, fun u hu => ?_, by simp [QM, g4]⟩
      · rcases List.mem_cons.1 hc with rfl | hc
        · exact h3
        · exact g1 cs hc
      · simp only [QM, List.flatten_cons, List.flatMap_cons]
        exact hd.append g2
      · rcases List.mem_cons.1 hu with rfl | hu
        · rw [← h3, hd.1]; simp
        · exact g3 u hu
theorem ok_lit {t : TypeId} {n d : Nat} {xl ug : Bool} {ps : Array (Nat × Operand)} (ho : o.op = .buildSlice t n ps) (h1 : ∀ p ∈ ps.toList, Okd G W s a p.2) (hb : ∀ p ∈ (Qy P s bx rx xl ug g d t n ps.toList).wb, Hb G W p.1 (gb bx p.1)) (hr : ∀ p ∈ (Qy P s bx rx xl ug g d t n ps.toList).wr, Hr G W p.1 (gb rx p.1)) (hob : (Qy P s bx rx xl ug g d t n ps.toList).ob) : Does P M A0 w0 G a W o (Qy P s bx rx xl ug g d t n ps.toList) := by
  have core : ∀ e, isSl P t = some e → ps.toList.map (·.1) = List.range n → (zr P e).isSome = true → 0 < sz P e → n * sz P e ≤ 100000 → QN (sz P e) (ps.toList.map fun p => opd s g p.2) →
      ∃ us : Array Value, (execOp a.eval o).run P W = .ok (.value (.slice (some ⟨W.heap.size, 0, none⟩) n n)) (W.alloc (.cells us e)) ∧ us.size = n * sz P e ∧ (QM (ps.toList.map fun p => opd s g p.2)).length = n ∧ (∀ cs ∈ QM (ps.toList.map fun p => opd s g p.2), cs.length = sz P e) ∧ DenXL G W (QM (ps.toList.map fun p => opd s g p.2)).flatten us.toList := by
    intro e hsl hm hz hs hn hels
    obtain ⟨z, hz⟩ := Option.isSome_iff_exists.1 hz
    obtain ⟨i, zv, hi, hzv, -⟩ := zr_ok hz
    obtain ⟨i', hi', his⟩ := info_of_sz hs
    obtain rfl : i = i' := Option.some.inj (hi.symm.trans hi')
    have hlen : ps.toList.length = n := by have := congrArg List.length hm; simpa using this
    obtain ⟨g1, g2, g3, g4⟩ := els_ok (W := W) (G := G) (K := sz P e) (ps.toList.map fun p => opd s g p.2) (ps.toList.map fun p => a.eval p.2) (fun j p v h h' hp => by
      rw [List.getElem?_map] at h h'
      cases hj : ps.toList[j]? with
      | none => rw [hj] at h; cases h
      | some q =>
        rw [hj] at h h'
        obtain rfl := Option.some.inj h
        obtain rfl := Option.some.inj h'
        exact opd_ok hg (h1 q (List.mem_of_getElem? hj)) hp) (by simp) hels
    have hflat : ((ps.toList.map fun p => a.eval p.2).flatMap fun v => v.cells.toList).length = n * sz P e := by
      have := g2.1
      rw [← this, flatten_length g1, g4, List.length_map, hlen]
    refine ⟨((ps.toList.map fun p => a.eval p.2).flatMap fun v => v.cells.toList).toArray, ?_, by simpa using hflat, by rw [g4, List.length_map, hlen], g1, by simpa using g2⟩
    by_cases h0 : n = 0
    · subst h0
      have hps : ps = #[] := by
        apply Array.toList_inj.1
        exact List.eq_nil_of_length_eq_zero hlen
      subst hps
      simp [execOp, ho, Instr.buildSlice, run_underlying (isSl_spec hsl), run_sz hs, Instr.fill, newRow, show Array.range 0 = #[] from rfl]
      try rfl
    · have hpos : ¬ n * i.size = 0 := by
        rw [his]
        exact Nat.mul_ne_zero h0 (by omega)
      have hparts : (ps.map fun (i, x) => (i, a.eval x)).toList = ((ps.toList.map fun p => a.eval p.2).zipIdx 0).map fun x => (x.2, x.1) := by
        rw [Array.toList_map]
        apply List.ext_getElem?
        intro j
        rw [List.getElem?_map, List.getElem?_map, List.getElem?_zipIdx, List.getElem?_map]
        cases hj : ps.toList[j]? with
        | none => rfl
        | some q =>
          have : (ps.toList.map (·.1))[j]? = some q.1 := by rw [List.getElem?_map, hj]; rfl
          rw [hm] at this
          have hlt : j < n := by
            have := (List.getElem?_eq_some_iff.1 this).1
            simpa using this
          rw [List.getElem?_range hlt] at this
          obtain rfl := Option.some.inj this
          simp
      have hfill := Go.Great.fill_whole (s := i.size) (by omega) (ps.toList.map fun p => a.eval p.2) ((Array.range (n * i.size)).map (zv.cells[· % zv.cells.size]!)) (by rw [his]; exact g3) (by simp [hlen])
      have hrun := run_buildSlice (P := P) W t e n (ps.map fun (i, x) => (i, a.eval x)) _ i zv (isSl_spec hsl) hi hzv (by rw [his]; omega) hpos (by rw [hparts]; exact hfill)
      simp [execOp, ho, hrun]
  unfold Qy at hob hr hb ⊢
  split at hob
  · next e hsl =>
    simp only [hsl] at hr hb
    have nle : 0 < sz P e → n * sz P e ≤ 100000 → n ≤ maxLen := fun hs hn => by
      have := Nat.le_mul_of_pos_right n hs
      unfold maxLen
      omega
    cases xl
    · simp only [Bool.false_eq_true, if_false] at hob hr hb ⊢
      cases ug
      · simp only [Bool.false_eq_true, if_false] at hob hr ⊢
        obtain ⟨hm, hz, hs, hn, hels, hlf⟩ := hob
        obtain ⟨us, hrun, hsz, hl, hK, hd⟩ := core e hsl hm hz hs hn hels
        obtain ⟨k1, k2, k3⟩ := new_row hG (T := e) hK (hd.den (els_lf hlf))
        have k4 := k3 n (Nat.le_of_eq hl)
        rw [hl] at k4
        exact ⟨_, _, _, _, hrun, .inl rfl, k1, hx.on ((Ext.refl _).alloc _), k2, k4, nofun, nofun⟩
      · simp only [if_true] at hob hr ⊢
        obtain ⟨hrx, hm, hz, hs, hn, hels, hlf⟩ := hob
        obtain ⟨us, hrun, hsz, hl, hK, hd⟩ := core e hsl hm hz hs hn hels
        obtain ⟨k1, k2, k3⟩ := new_row hG (T := e) hK (hd.den (els_lf hlf))
        have k4 := k3 n (Nat.le_of_eq hl)
        rw [hl] at k4
        have hρ := hr _ (List.mem_singleton.2 rfl)
        dsimp only at hρ
        rw [hrx] at hρ
        have hrow : (W.alloc (.cells us e)).ownsRow 0 e (sz P e) (.slice (some ⟨W.heap.size, 0, none⟩) n n) n us.toList := ⟨by simpa using hsz, .inr ⟨W.heap.size, n, us, rfl, Nat.zero_le _, heap_alloc_new W _, Nat.le_refl _, nle hs hn, hsz, by rw [List.take_of_length_le (by simp [hsz])]⟩⟩
        obtain ⟨m1, m2⟩ := tag_row k1 (d := d) (u := .slice (some ⟨W.heap.size, 0, none⟩) n n) hρ hrow rfl (fun g hgg => by
          obtain rfl : W.heap.size = g := Option.some.inj hgg
          refine ⟨hG.fr _ (Nat.le_refl _), fun k v hk _ hb => ?_, fun t u' K' h h' => ?_, fun i hi => ?_⟩
          · have := (hG.box k v _ hk hb).1; omega
          · have := (hG.row t u' K' _ h h').2.1; omega
          · rcases hi with hi | ⟨-, hi⟩
            · have := (hG.lt _ i hi).1; omega
            · omega)
        refine ⟨_, _, _, _, hrun, .inl rfl, m1, hx.on ((Ext.refl _).alloc _), evo_tag k2 hρ _, ⟨k4, hK, _, by dsimp only; rw [if_pos rfl], Nat.le_refl _, fun _ => rfl⟩, nofun, fun p hp => ?_⟩
        obtain rfl := List.mem_singleton.1 hp
        exact m2
    · simp only [if_true] at hob hr hb ⊢
      obtain ⟨hbx, -, hm, hz, hs, hn, hels⟩ := hob
      obtain ⟨us, hrun, hsz, hl, hK, hd⟩ := core e hsl hm hz hs hn hels
      have hβ := hb _ (List.mem_singleton.2 rfl)
      dsimp only at hβ
      rw [hbx] at hβ
      have hx' : Ext W (W.alloc (.cells us e)) := (Ext.refl W).alloc _
      have hrow : (W.alloc (.cells us e)).ownsRow 0 e (sz P e) (.slice (some ⟨W.heap.size, 0, none⟩) n n) n us.toList := ⟨by simpa using hsz, .inr ⟨W.heap.size, n, us, rfl, Nat.zero_le _, heap_alloc_new W _, Nat.le_refl _, nle hs hn, hsz, by rw [List.take_of_length_le (by simp [hsz])]⟩⟩
      obtain ⟨g1, g2, g3, g4⟩ := new_obj hG (W' := W.alloc (.cells us e)) (Chg.ext hx') (fun b hb => hx'.below.block b hb) (u := .slice (some ⟨W.heap.size, 0, none⟩) n n) (d := d) (o := ⟨e, sz P e, QM (ps.toList.map fun p => opd s g p.2)⟩) (us := us.toList)
        (fun b hb => by obtain rfl : W.heap.size = b := Option.some.inj hb; exact ⟨Nat.le_refl _, by simp⟩) hβ (by show World.ownsRow _ _ _ _ _ _ _; rw [hl]; exact hrow) hd (.inr hK)
      refine ⟨_, _, _, _, hrun, .inl rfl, g1, hx.on hx', g2, ⟨_, n, n, g4, Nat.le_refl _, Nat.le_refl _, .inr ⟨_, rfl⟩, rfl⟩, fun p hp => ?_, nofun⟩
      obtain rfl := List.mem_singleton.1 hp
      exact g3
  · exact hob.elim
end
end Go.Proofs.Ytkmgdejpdhlleaa.Dq
