/- Deep values: what a value reads as, whatever memory it lies in. No program in sight. -/
import Derived.Test.YtmngjifcgfnogaaApp
import Derived.Test.YtmngjifcgfnogaaOwnG
import Derived.Test.YtmngjifcgfnogaaInv3
namespace Go.Proofs.Ytmngjifcgfnogaa.Dq
set_option linter.unusedSimpArgs false
set_option linter.unusedVariables false
set_option maxRecDepth 100000
open Go.RowKit

/-- What one cell reads as. -/
inductive D where
  | int (k : IntKind) (n : Int)
  | bool (b : Bool)
  | sl (l : List (List D))
  | nl
  | lk (k n : Nat)
/-- Cells that stay as they are. -/
abbrev Pr := Nat → Nat → Prop
inductive Den (A : Pr) (w : World) : D → Value → Prop
  | int (k : IntKind) (n : Int) : Den A w (.int k n) (.int k n)
  | bool (b : Bool) : Den A w (.bool b) (.bool b)
  | nil (a : Option Addr) (c : Nat) : Den A w (.sl []) (.slice a 0 c)
  | nl : Den A w .nl (.slice none 0 0)
  | sl (l : List (List D)) (K b off c : Nat) (u : Nat → Nat → Value) (h0 : l ≠ []) (hc : l.length ≤ c) (hK : ∀ cs ∈ l, cs.length = K)
      (hA : ∀ i j, i < l.length → j < K → A b (off + i * K + j) ∧ w.cell? ⟨b, off + i * K + j, none⟩ = some (u i j))
      (hu : ∀ (i : Nat) cs (j : Nat) d, l[i]? = some cs → cs[j]? = some d → Den A w d (u i j)) : Den A w (.sl l) (.slice (some ⟨b, off, none⟩) l.length c)
def Kp (A : Pr) (w w' : World) : Prop := ∀ b i v, A b i → w.cell? ⟨b, i, none⟩ = some v → w'.cell? ⟨b, i, none⟩ = some v
theorem Kp.refl (A : Pr) (w : World) : Kp A w w := fun _ _ _ _ h => h
theorem Kp.ext {A : Pr} {w w' : World} (h : Ext w w') : Kp A w w' := fun b i v _ hc => by
  obtain ⟨x, rfl⟩ := h
  rw [cell_ext_a _ _ _ (World.block_lt_of_cell? _ _ hc), hc]
theorem Den.mono {A A' : Pr} {w w' : World} {d : D} {v : Value} (h : Den A w d v) (hA : ∀ b i, A b i → A' b i) (hk : Kp A w w') : Den A' w' d v := by
  induction h with
  | int k n => exact .int k n
  | bool b => exact .bool b
  | nil a c => exact .nil a c
  | nl => exact .nl
  | sl l K b off c u h0 hc hK hA' hu ih => exact .sl l K b off c u h0 hc hK (fun i j hi hj => ⟨hA _ _ (hA' i j hi hj).1, hk _ _ _ (hA' i j hi hj).1 (hA' i j hi hj).2⟩) ih
theorem Den.one {A : Pr} {w : World} {d : D} {v : Value} (h : Den A w d v) : v.oneCell' = true := by cases h <;> rfl
theorem Den.cells {A : Pr} {w : World} {d : D} {v : Value} (h : Den A w d v) : v.cells = #[v] := by cases h <;> rfl
theorem Den.noAgg {A : Pr} {w : World} {d : D} {v : Value} (h : Den A w d v) : (∀ x, v ≠ .agg x) ∧ (∀ x, v ≠ .tuple x) := by cases h <;> exact ⟨fun _ => nofun, fun _ => nofun⟩
/-- A list of cells. -/
def AL (R : D → Value → Prop) (ds : List D) (us : List Value) : Prop := ds.length = us.length ∧ ∀ (j : Nat) d u, ds[j]? = some d → us[j]? = some u → R d u
section
variable {R R' : D → Value → Prop} {ds es : List D} {us vs : List Value}
theorem AL.map (h : AL R ds us) (hR : ∀ d u, R d u → R' d u) : AL R' ds us := ⟨h.1, fun j d u h1 h2 => hR _ _ (h.2 j d u h1 h2)⟩
theorem AL.nil : AL R [] [] := ⟨rfl, fun j d u h => by simp at h⟩
theorem AL.single {d : D} {u : Value} (h : R d u) : AL R [d] [u] := ⟨rfl, fun j d' u' h1 h2 => by
  cases j with
  | zero =>
    obtain rfl : d = d' := by simpa using h1
    obtain rfl : u = u' := by simpa using h2
    exact h
  | succ j => simp at h1⟩
theorem AL.append (h : AL R ds us) (k : AL R es vs) : AL R (ds ++ es) (us ++ vs) := by
  refine ⟨by simp [h.1, k.1], fun j d u h1 h2 => ?_⟩
  have hl := h.1
  by_cases hj : j < ds.length
  · rw [List.getElem?_append_left hj] at h1
    rw [List.getElem?_append_left (by omega)] at h2
    exact h.2 j d u h1 h2
  · rw [List.getElem?_append_right (by omega)] at h1
    rw [List.getElem?_append_right (by omega), ← hl] at h2
    exact k.2 _ d u h1 h2
theorem AL.drop (h : AL R ds us) (n : Nat) : AL R (ds.drop n) (us.drop n) := ⟨by simp [h.1], fun j d u h1 h2 => by
  rw [List.getElem?_drop] at h1 h2
  exact h.2 _ d u h1 h2⟩
theorem AL.take (h : AL R ds us) (n : Nat) : AL R (ds.take n) (us.take n) := ⟨by simp [h.1], fun j d u h1 h2 => by
  rw [List.getElem?_take] at h1 h2
  split at h1
  · next hj => rw [if_pos hj] at h2; exact h.2 _ d u h1 h2
  · cases h1⟩
theorem AL.get (h : AL R ds us) {j : Nat} {d : D} (hd : ds[j]? = some d) : ∃ u, us[j]? = some u ∧ R d u := by
  have hlt := (List.getElem?_eq_some_iff.1 hd).1
  have hl := h.1
  exact ⟨us[j]'(by omega), List.getElem?_eq_getElem _, h.2 j d _ hd (List.getElem?_eq_getElem _)⟩
theorem AL.uget (h : AL R ds us) {u : Value} (hu : u ∈ us) : ∃ d ∈ ds, R d u := by
  obtain ⟨j, hj⟩ := List.getElem?_of_mem hu
  have hlt := (List.getElem?_eq_some_iff.1 hj).1
  have hl := h.1
  exact ⟨_, List.getElem_mem _, h.2 j _ u (List.getElem?_eq_getElem (by omega)) hj⟩
theorem AL.cons_inv {d : D} (h : AL R (d :: ds) us) : ∃ u us', us = u :: us' ∧ R d u ∧ AL R ds us' := by
  cases us with
  | nil => have := h.1; simp at this
  | cons u us' => exact ⟨u, us', rfl, h.2 0 d u rfl rfl, by simpa using h.1, fun j d' u' h1 h2 => h.2 (j + 1) d' u' (by simpa using h1) (by simpa using h2)⟩
theorem AL.set (h : AL R ds us) (i : Nat) {d : D} {u : Value} (hd : R d u) : AL R (ds.set i d) (us.set i u) := ⟨by simp [h.1], fun j d' u' h1 h2 => by
  rw [List.getElem?_set] at h1 h2
  have hl := h.1
  by_cases hij : i = j
  · rw [if_pos hij] at h1 h2
    split at h1
    · rw [if_pos (by omega)] at h2
      obtain rfl := Option.some.inj h1
      obtain rfl := Option.some.inj h2
      exact hd
    · cases h1
  · rw [if_neg hij] at h1 h2
    exact h.2 j d' u' h1 h2⟩
end
abbrev DenL (A : Pr) (w : World) (ds : List D) (us : List Value) : Prop := AL (Den A w) ds us
theorem DenL.mono {A A' : Pr} {w w' : World} {ds : List D} {us : List Value} (h : DenL A w ds us) (hA : ∀ b i, A b i → A' b i) (hk : Kp A w w') : DenL A' w' ds us := AL.map h fun _ _ h => h.mono hA hk
theorem DenL.nil {A : Pr} {w : World} : DenL A w [] [] := AL.nil
theorem DenL.single {A : Pr} {w : World} {d : D} {u : Value} (h : Den A w d u) : DenL A w [d] [u] := AL.single h
theorem DenL.one {A : Pr} {w : World} {ds : List D} {us : List Value} (h : DenL A w ds us) : ∀ u ∈ us, u.oneCell' = true := fun u hu => by
  obtain ⟨d, -, hd⟩ := AL.uget h hu
  exact hd.one
theorem flatten_length {K : Nat} : ∀ {l : List (List D)}, (∀ cs ∈ l, cs.length = K) → l.flatten.length = l.length * K
  | [], _ => by simp
  | x :: l, h => by
    rw [List.flatten_cons, List.length_append, flatten_length (fun cs hc => h cs (List.mem_cons_of_mem _ hc)), h x List.mem_cons_self, List.length_cons, Nat.succ_mul]
    omega
theorem flatten_get {K : Nat} : ∀ {l : List (List D)} (i j : Nat) {cs : List D}, (∀ cs ∈ l, cs.length = K) → l[i]? = some cs → j < K → l.flatten[i * K + j]? = cs[j]?
  | [], i, j, cs, _, h, _ => by simp at h
  | x :: l, 0, j, cs, hK, h, hj => by
    obtain rfl : x = cs := by simpa using h
    rw [List.flatten_cons, Nat.zero_mul, Nat.zero_add, List.getElem?_append_left (by rw [hK x List.mem_cons_self]; exact hj)]
  | x :: l, i + 1, j, cs, hK, h, hj => by
    have hx := hK x List.mem_cons_self
    rw [List.flatten_cons, List.getElem?_append_right (by rw [hx, Nat.succ_mul]; omega), hx, show (i + 1) * K + j - K = i * K + j by rw [Nat.succ_mul]; omega]
    exact flatten_get i j (fun cs hc => hK cs (List.mem_cons_of_mem _ hc)) (by simpa using h) hj
/-- The cells of a slice that reads. -/
theorem cells_of_den {A : Pr} {w : World} {l : List (List D)} {v : Value} {K : Nat} (h : Den A w (.sl l) v) (hK : ∀ cs ∈ l, cs.length = K) :
    ∃ a c us, v = .slice a l.length c ∧ Rd w K l.length (.slice a l.length c) us ∧ DenL A w l.flatten us ∧ l.length ≤ c ∧ ∀ b off i, a = some ⟨b, off, none⟩ → i < l.length * K → A b (off + i) := by
  cases h with
  | nil a c => exact ⟨a, c, [], rfl, Rd.nil _ _ _ _, DenL.nil, Nat.zero_le _, fun b off i _ hi => by simp at hi⟩
  | sl _ K' b off c u h0 hc hK' hA hu =>
    obtain rfl : K' = K := by
      cases l with
      | nil => exact absurd rfl h0
      | cons x l => rw [← hK' x List.mem_cons_self, hK x List.mem_cons_self]
    have dm : ∀ i, i < l.length * K' → i / K' < l.length ∧ i % K' < K' ∧ i / K' * K' + i % K' = i := fun i hi => by
      have hp : 0 < K' := by
        rcases Nat.eq_zero_or_pos K' with h | h
        · rw [h] at hi; simp at hi
        · exact h
      refine ⟨Nat.div_lt_of_lt_mul (by rwa [Nat.mul_comm]), Nat.mod_lt _ hp, ?_⟩
      rw [Nat.mul_comm]
      exact Nat.div_add_mod i K'
    have hus : ∀ i x, ((List.range (l.length * K')).map fun i => u (i / K') (i % K'))[i]? = some x → i < l.length * K' ∧ x = u (i / K') (i % K') := fun i x h => by
      rw [List.getElem?_map] at h
      by_cases hi : i < l.length * K'
      · rw [List.getElem?_range hi] at h
        exact ⟨hi, by simpa using h.symm⟩
      · rw [List.getElem?_eq_none (by simpa using hi)] at h
        cases h
    refine ⟨some ⟨b, off, none⟩, c, (List.range (l.length * K')).map fun i => u (i / K') (i % K'), rfl, ⟨by simp, _, _, rfl, fun _ => ⟨b, off, rfl, fun i x hx => ?_⟩⟩, ⟨by simp [flatten_length hK], fun j d x h1 h2 => ?_⟩, hc, fun b' off' i hb hi => ?_⟩
    · obtain ⟨hi, rfl⟩ := hus i x hx
      obtain ⟨h1, h2, h3⟩ := dm i hi
      have := (hA _ _ h1 h2).2
      rwa [Nat.add_assoc, h3] at this
    · obtain ⟨hi, rfl⟩ := hus j x h2
      obtain ⟨g1, g2, g3⟩ := dm j hi
      obtain ⟨cs, hcs⟩ : ∃ cs, l[j / K']? = some cs := ⟨l[j / K'], List.getElem?_eq_getElem _⟩
      have := flatten_get (j / K') (j % K') hK hcs g2
      rw [g3, h1] at this
      exact hu _ cs _ d hcs this.symm
    · obtain ⟨rfl, rfl⟩ : b = b' ∧ off = off' := by simpa using hb
      obtain ⟨h1, h2, h3⟩ := dm i hi
      have := (hA _ _ h1 h2).1
      rwa [Nat.add_assoc, h3] at this
theorem den_of_cells {A : Pr} {w : World} {l : List (List D)} {a : Option Addr} {c K : Nat} {us : List Value} (hK : ∀ cs ∈ l, cs.length = K) (hcap : l.length ≤ c) (hd : DenL A w l.flatten us)
    (h : l ≠ [] → ∃ b off, a = some ⟨b, off, none⟩ ∧ ∀ (i : Nat) u, us[i]? = some u → A b (off + i) ∧ w.cell? ⟨b, off + i, none⟩ = some u) : Den A w (.sl l) (.slice a l.length c) := by
  by_cases h0 : l = []
  · subst h0
    exact .nil a c
  · obtain ⟨b, off, rfl, hc⟩ := h h0
    have hl := flatten_length hK
    have hus : ∀ i j, i < l.length → j < K → ∃ x, us[i * K + j]? = some x := fun i j hi hj => by
      have h1 := hd.1
      have : i * K + j < l.length * K := by
        have := Nat.mul_le_mul_right K hi
        rw [Nat.succ_mul] at this
        omega
      exact ⟨us[i * K + j]'(by omega), List.getElem?_eq_getElem _⟩
    refine .sl l K b off c (fun i j => (us[i * K + j]?).getD undef) h0 hcap hK (fun i j hi hj => ?_) (fun i cs j d h1 h2 => ?_)
    · obtain ⟨x, hx⟩ := hus i j hi hj
      have := hc _ x hx
      rw [← Nat.add_assoc] at this
      rw [hx]
      exact this
    · have hi := (List.getElem?_eq_some_iff.1 h1).1
      have hj : j < K := by
        have := (List.getElem?_eq_some_iff.1 h2).1
        rwa [hK cs (List.mem_of_getElem? h1)] at this
      obtain ⟨x, hx⟩ := hus i j hi hj
      rw [hx]
      exact hd.2 (i * K + j) d x ((flatten_get i j hK h1 hj).trans h2) hx
theorem den_len {A : Pr} {w : World} {l : List (List D)} {v : Value} (h : Den A w (.sl l) v) : ∃ a c, v = .slice a l.length c := by
  cases h with
  | nil a c => exact ⟨a, c, rfl⟩
  | sl _ K b off c => exact ⟨_, c, rfl⟩
/-- Cells from a place on. -/
def At (A : Pr) (w : World) (b off : Nat) (ds : List D) : Prop := ∀ (j : Nat) d, ds[j]? = some d → A b (off + j) ∧ ∃ u, w.cell? ⟨b, off + j, none⟩ = some u ∧ Den A w d u
theorem At.mono {A A' : Pr} {w w' : World} {b off : Nat} {ds : List D} (h : At A w b off ds) (hA : ∀ b i, A b i → A' b i) (hk : Kp A w w') : At A' w' b off ds := fun j d hd => by
  obtain ⟨h1, u, h2, h3⟩ := h j d hd
  exact ⟨hA _ _ h1, u, hk _ _ _ h1 h2, h3.mono hA hk⟩
theorem At.drop {A : Pr} {w : World} {b off : Nat} {ds : List D} (h : At A w b off ds) (n : Nat) : At A w b (off + n) (ds.drop n) := fun j d hd => by
  rw [List.getElem?_drop] at hd
  have := h _ d hd
  rwa [← Nat.add_assoc] at this
theorem At.cells {A : Pr} {w : World} {b off : Nat} : ∀ {ds : List D}, At A w b off ds → ∃ us, DenL A w ds us ∧ ∀ (j : Nat) u, us[j]? = some u → w.cell? ⟨b, off + j, none⟩ = some u
  | [], _ => ⟨[], DenL.nil, fun j u h => by simp at h⟩
  | d :: ds, h => by
    obtain ⟨-, u, h1, h2⟩ := h 0 d rfl
    obtain ⟨us, h3, h4⟩ := At.cells (ds := ds) (off := off + 1) (fun j d' hd => by
      have := h (j + 1) d' (by simpa using hd)
      rwa [show off + (j + 1) = off + 1 + j by omega] at this)
    refine ⟨u :: us, (DenL.single h2).append h3, fun j x hx => ?_⟩
    cases j with
    | zero =>
      obtain rfl : u = x := by simpa using hx
      exact h1
    | succ j =>
      have := h4 j x (by simpa using hx)
      rwa [show off + (j + 1) = off + 1 + j by omega]
/-- One of the elements of a slice. -/
theorem den_at {A : Pr} {w : World} {l : List (List D)} {v : Value} (h : Den A w (.sl l) v) {i : Nat} {cs : List D} (hi : l[i]? = some cs) :
    ∃ b off c K, v = .slice (some ⟨b, off, none⟩) l.length c ∧ (∀ cs ∈ l, cs.length = K) ∧ At A w b (off + i * K) cs := by
  have hlt := (List.getElem?_eq_some_iff.1 hi).1
  cases h with
  | nil a c => simp at hi
  | sl _ K b off c u h0 hc hK hA hu =>
    refine ⟨b, off, c, K, rfl, hK, fun j d hd => ?_⟩
    have hj : j < K := by
      have := (List.getElem?_eq_some_iff.1 hd).1
      rwa [hK cs (List.mem_of_getElem? hi)] at this
    obtain ⟨h1, h2⟩ := hA i j hlt hj
    exact ⟨h1, _, h2, hu i cs j d hi hd⟩
def slen : Value → Nat
  | .slice _ n _ => n
  | _ => 0
/-- The block of a header. -/
def blk : Value → Option Nat
  | .slice (some a) _ _ => some a.block
  | .pointer (some a) => some a.block
  | _ => none
/-- What is known of memory: cells that stay; the headers of objects, those of them that are gone; rows that may grow. -/
structure Gh where
  A : Pr
  β : Nat → Option Value
  dead : Nat → Prop
  ρ : Nat → Option (Value × Nat)
/-- What is not mine stays as it is. -/
structure Chg (M : Nat → Prop) (w w' : World) : Prop where
  os : w'.os = w.os
  tape : w'.tape = w.tape
  output : w'.output = w.output
  size : w.heap.size ≤ w'.heap.size
  block : ∀ b, b < w.heap.size → ¬ M b → w'.heap[b]? = w.heap[b]?
theorem Chg.trans {M : Nat → Prop} {a b c : World} (h : Chg M a b) (k : Chg M b c) : Chg M a c :=
  ⟨k.os.trans h.os, k.tape.trans h.tape, k.output.trans h.output, Nat.le_trans h.size k.size, fun i hi hm => (k.block i (Nat.lt_of_lt_of_le hi h.size) hm).trans (h.block i hi hm)⟩
theorem Chg.ext {M : Nat → Prop} {a b : World} (h : Ext a b) : Chg M a b := ⟨h.below.os, h.below.tape, h.below.output, h.below.size, fun i hi _ => h.below.block i hi⟩
theorem Chg.refl (M : Nat → Prop) (w : World) : Chg M w w := Chg.ext (Ext.refl w)
theorem Chg.on {M : Nat → Prop} {a b c : World} (h : Chg M a b) (k : Ext b c) : Chg M a c := h.trans (Chg.ext k)
theorem Chg.toExt {w w' : World} (h : Chg (fun b => w.heap.size ≤ b) w w') : Ext w w' := ext_of_below ⟨h.os, h.tape, h.output, h.size, fun k hk => h.block k hk (by omega)⟩
theorem Chg.weak {M M' : Nat → Prop} {w w' : World} (h : Chg M w w') (hM : ∀ b, b < w.heap.size → M b → M' b) : Chg M' w w' := ⟨h.os, h.tape, h.output, h.size, fun b hb hm => h.block b hb fun k => hm (hM b hb k)⟩
theorem Chg.set {M : Nat → Prop} {w : World} {p : Addr} (hp : M p.block) (u : Value) : Chg M w (w.setCell p u) := by
  refine ⟨rfl, rfl, rfl, by simp [World.setCell], fun b _ hm => ?_⟩
  have hne : p.block ≠ b := fun e => hm (e ▸ hp)
  simp only [World.setCell, Array.getElem?_modify]
  rw [if_neg hne]
theorem Chg.grown {M : Nat → Prop} {w w' : World} {r : Option Nat} (h : w.grownBy w' r) (hr : ∀ k, r = some k → M k) : Chg M w w' :=
  ⟨h.os, h.tape, h.output, h.size, fun b hb hm => h.block b hb fun e => hm (hr b e.symm)⟩
structure GOK (M : Nat → Prop) (A0 : Pr) (G : Gh) (W : World) : Prop where
  fr : ∀ b, W.heap.size ≤ b → M b
  lt : ∀ b i, G.A b i → b < W.heap.size ∧ (¬ M b → A0 b i)
  box : ∀ k u b, G.β k = some u → blk u = some b → b < W.heap.size ∧ (¬ G.dead k → M b ∧ ∀ i, ¬ G.A b i)
  boxI : ∀ k k' u u' b, G.β k = some u → G.β k' = some u' → blk u = some b → blk u' = some b → ¬ G.dead k → ¬ G.dead k' → k = k'
  row : ∀ t u K g, G.ρ t = some (u, K) → u.ownBlock = some g → M g ∧ g < W.heap.size ∧ (∀ k v, G.β k = some v → ¬ G.dead k → blk v ≠ some g) ∧ ∀ i, G.A g i → i < slen u * K
  rowI : ∀ t t' u u' K K' g, G.ρ t = some (u, K) → G.ρ t' = some (u', K') → u.ownBlock = some g → u'.ownBlock = some g → t = t'
structure Evo (wb wr : List Nat) (G : Gh) (W : World) (G' : Gh) (W' : World) : Prop where
  keep : Kp G.A W W'
  sub : ∀ b i, G.A b i → G'.A b i
  β : ∀ k u, G.β k = some u → G'.β k = some u
  β0 : ∀ k, k ∉ wb → G.β k = none → G'.β k = none
  dd : ∀ k, k ∉ wb → (G'.dead k ↔ G.dead k)
  box : ∀ k u b, k ∉ wb → G.β k = some u → ¬ G.dead k → blk u = some b → W'.heap[b]? = W.heap[b]?
  ρ : ∀ t u K, G.ρ t = some (u, K) → ∃ u', G'.ρ t = some (u', K) ∧ slen u ≤ slen u' ∧ (slen u = slen u' → u = u')
  ρ0 : ∀ t, t ∉ wr → G.ρ t = none → G'.ρ t = none
  row : ∀ t u K, t ∉ wr → G.ρ t = some (u, K) → G'.ρ t = some (u, K) ∧ ∀ g, u.ownBlock = some g → W'.heap[g]? = W.heap[g]?
theorem Evo.refl (G : Gh) (W : World) : Evo [] [] G W G W := ⟨Kp.refl _ _, fun _ _ h => h, fun _ _ h => h, fun _ _ h => h, fun _ _ => Iff.rfl, fun _ _ _ _ _ _ _ => rfl, fun t u K h => ⟨u, h, Nat.le_refl _, fun _ => rfl⟩, fun _ _ h => h, fun _ _ _ _ h => ⟨h, fun _ _ => rfl⟩⟩
/-- New blocks only. -/
theorem Evo.ext {G : Gh} {W W' : World} {M : Nat → Prop} {A0 : Pr} (hG : GOK M A0 G W) (h : Ext W W') : Evo [] [] G W G W' := by
  have hb : ∀ b, b < W.heap.size → W'.heap[b]? = W.heap[b]? := fun b hb => by
    obtain ⟨x, rfl⟩ := h
    exact ext_get _ _ _ hb
  exact ⟨Kp.ext h, fun _ _ h => h, fun _ _ h => h, fun _ _ h => h, fun _ _ => Iff.rfl, fun k u b _ hk _ hu => hb b (hG.box k u b hk hu).1, fun t u K h => ⟨u, h, Nat.le_refl _, fun _ => rfl⟩, fun _ _ h => h, fun t u K _ h => ⟨h, fun g hg => hb g (hG.row t u K g h hg).2.1⟩⟩
theorem GOK.ext {G : Gh} {W W' : World} {M : Nat → Prop} {A0 : Pr} (hG : GOK M A0 G W) (h : Ext W W') : GOK M A0 G W' := by
  have hl := h.below.size
  exact ⟨fun b hb => hG.fr b (Nat.le_trans hl hb), fun b i hb => ⟨Nat.lt_of_lt_of_le (hG.lt b i hb).1 hl, (hG.lt b i hb).2⟩, fun k u b hk hu => ⟨Nat.lt_of_lt_of_le (hG.box k u b hk hu).1 hl, (hG.box k u b hk hu).2⟩, hG.boxI, fun t u K g h1 h2 => ⟨(hG.row t u K g h1 h2).1, Nat.lt_of_lt_of_le (hG.row t u K g h1 h2).2.1 hl, (hG.row t u K g h1 h2).2.2⟩, hG.rowI⟩
/-- A cell's word; it may be the header of an object. -/
def DenX (G : Gh) (W : World) : D → Value → Prop
  | .lk k n, v => ∃ a N c, G.β k = some (.slice a N c) ∧ n ≤ N ∧ N ≤ c ∧ (N = 0 ∨ ∃ b, a = some ⟨b, 0, none⟩) ∧ v = .slice a n c
  | d, v => Den G.A W d v
theorem DenX.of {G : Gh} {W : World} {d : D} {v : Value} (h : Den G.A W d v) : DenX G W d v := by
  cases h with
  | int k n => exact .int k n
  | bool b => exact .bool b
  | nil a c => exact .nil a c
  | nl => exact .nl
  | sl l K b off c u h0 hc hK hA hu => exact .sl l K b off c u h0 hc hK hA hu
theorem DenX.evo {wb wr : List Nat} {G G' : Gh} {W W' : World} {d : D} {v : Value} (h : DenX G W d v) (e : Evo wb wr G W G' W') : DenX G' W' d v := by
  cases d with
  | lk k n => obtain ⟨a, N, c, h1, h2⟩ := h; exact ⟨a, N, c, e.β _ _ h1, h2⟩
  | _ => exact Den.mono (A := G.A) h e.sub e.keep
theorem DenX.one {G : Gh} {W : World} {d : D} {v : Value} (h : DenX G W d v) : v.oneCell' = true := by
  cases d with
  | lk k n => obtain ⟨a, N, c, h1, -, -, -, rfl⟩ := h; rfl
  | _ => exact Den.one (A := G.A) h
theorem DenX.cells {G : Gh} {W : World} {d : D} {v : Value} (h : DenX G W d v) : v.cells = #[v] := by
  cases d with
  | lk k n => obtain ⟨a, N, c, h1, -, -, -, rfl⟩ := h; rfl
  | _ => exact Den.cells (A := G.A) h
theorem DenX.noAgg {G : Gh} {W : World} {d : D} {v : Value} (h : DenX G W d v) : (∀ x, v ≠ .agg x) ∧ (∀ x, v ≠ .tuple x) := by
  cases d with
  | lk k n => obtain ⟨a, N, c, h1, -, -, -, rfl⟩ := h; exact ⟨fun _ => nofun, fun _ => nofun⟩
  | _ => exact Den.noAgg (A := G.A) h
abbrev DenXL (G : Gh) (W : World) (ds : List D) (us : List Value) : Prop := AL (DenX G W) ds us
theorem DenXL.of {G : Gh} {W : World} {ds : List D} {us : List Value} (h : DenL G.A W ds us) : DenXL G W ds us := AL.map h fun _ _ h => DenX.of h
theorem DenXL.evo {wb wr : List Nat} {G G' : Gh} {W W' : World} {ds : List D} {us : List Value} (h : DenXL G W ds us) (e : Evo wb wr G W G' W') : DenXL G' W' ds us := AL.map h fun _ _ h => h.evo e
theorem DenXL.one {G : Gh} {W : World} {ds : List D} {us : List Value} (h : DenXL G W ds us) : ∀ u ∈ us, u.oneCell' = true := fun u hu => by
  obtain ⟨d, -, hd⟩ := AL.uget h hu
  exact hd.one
/-- No header of an object in it. -/
def lf : D → Bool
  | .lk _ _ => false
  | _ => true
def lfs : List D → Bool
  | [] => true
  | d :: l => lf d && lfs l
theorem lfs_get : ∀ {l : List D} {j : Nat} {d : D}, lfs l = true → l[j]? = some d → lf d = true
  | [], _, _, _, h => by simp at h
  | x :: l, 0, d, hl, h => by
    obtain rfl : x = d := by simpa using h
    exact ((Bool.and_eq_true _ _).mp hl).1
  | x :: l, j + 1, d, hl, h => lfs_get ((Bool.and_eq_true _ _).mp hl).2 (by simpa using h)
theorem DenX.den {G : Gh} {W : World} {d : D} {v : Value} (h : DenX G W d v) (hl : lf d = true) : Den G.A W d v := by
  cases d with
  | lk k n => cases hl
  | _ => exact h
theorem DenXL.den {G : Gh} {W : World} {ds : List D} {us : List Value} (h : DenXL G W ds us) (hl : lfs ds = true) : DenL G.A W ds us := ⟨h.1, fun j d u h1 h2 => (h.2 j d u h1 h2).den (lfs_get hl h1)⟩
/-- Is a slice nil? -/
def nilB : Value → Bool
  | .slice none _ _ => true
  | _ => false
/-- What a closure holds. -/
inductive Cp where
  | c (d : D)
  | box (k off : Nat)
  | ptr (cs : List D)
/-- What a slot holds. -/
inductive S1 where
  | c (d : D)
  | agg (l : List D)
  | own (t K : Nat) (l : List (List D))
  | box (k off : Nat)
  | xp (k K i j : Nat)
  | ptr (cs : List D)
  | fn (f : FuncId) (ps : List Cp)
  | sn (b : Bool) (l : List (List D))
  | nil
  | k (v : Value)
def DenC (G : Gh) (W : World) : Cp → Value → Prop
  | .c d, v => DenX G W d v
  | .box k off, v => ∃ b, G.β k = some (.pointer (some ⟨b, 0, none⟩)) ∧ v = .pointer (some ⟨b, off, none⟩)
  | .ptr cs, v => ∃ b o, v = .pointer (some ⟨b, o, none⟩) ∧ At G.A W b o cs
theorem DenC.evo {wb wr : List Nat} {G G' : Gh} {W W' : World} {x : Cp} {v : Value} (h : DenC G W x v) (e : Evo wb wr G W G' W') : DenC G' W' x v := by
  cases x with
  | c d => exact DenX.evo h e
  | box k off => obtain ⟨b, h1, h2⟩ := h; exact ⟨b, e.β _ _ h1, h2⟩
  | ptr cs => obtain ⟨b, o, h1, h2⟩ := h; exact ⟨b, o, h1, h2.mono e.sub e.keep⟩
def DenCL (G : Gh) (W : World) (ps : List Cp) (us : List Value) : Prop := ps.length = us.length ∧ ∀ (j : Nat) x u, ps[j]? = some x → us[j]? = some u → DenC G W x u
theorem DenCL.evo {wb wr : List Nat} {G G' : Gh} {W W' : World} {ps : List Cp} {us : List Value} (h : DenCL G W ps us) (e : Evo wb wr G W G' W') : DenCL G' W' ps us := ⟨h.1, fun j x u h1 h2 => (h.2 j x u h1 h2).evo e⟩
def D1 (G : Gh) (W : World) : S1 → Value → Prop
  | .c d, v => DenX G W d v
  | .agg l, v => ∃ us, v = .agg us ∧ DenXL G W l us.toList
  | .own t K l, v => Den G.A W (.sl l) v ∧ (∀ cs ∈ l, cs.length = K) ∧ ∃ u, G.ρ t = some (u, K) ∧ slen v ≤ slen u ∧ (slen v = slen u → v = u)
  | .box k off, v => ∃ b, G.β k = some (.pointer (some ⟨b, 0, none⟩)) ∧ v = .pointer (some ⟨b, off, none⟩)
  | .xp k K i j, v => ∃ b N c, G.β k = some (.slice (some ⟨b, 0, none⟩) N c) ∧ v = .pointer (some ⟨b, i * K + j, none⟩)
  | .ptr cs, v => ∃ b o, v = .pointer (some ⟨b, o, none⟩) ∧ At G.A W b o cs
  | .fn f ps, v => ∃ us, v = .func (.func f) #[] us ∧ DenCL G W ps us.toList
  | .sn b l, v => Den G.A W (.sl l) v ∧ nilB v = b
  | .nil, v => v = .slice none 0 0
  | .k x, v => v = x
theorem D1.evo {wb wr : List Nat} {G G' : Gh} {W W' : World} {x : S1} {v : Value} (h : D1 G W x v) (e : Evo wb wr G W G' W') : D1 G' W' x v := by
  cases x with
  | c d => exact DenX.evo h e
  | agg l => obtain ⟨us, rfl, h⟩ := h; exact ⟨us, rfl, DenXL.evo h e⟩
  | own t K l =>
    obtain ⟨h1, h2, u, h3, h4, h5⟩ := h
    obtain ⟨u', g1, g2, g3⟩ := e.ρ t u K h3
    exact ⟨h1.mono e.sub e.keep, h2, u', g1, Nat.le_trans h4 g2, fun he => by
      have : slen u = slen u' := by omega
      rw [h5 (by omega)]
      exact g3 this⟩
  | box k off => obtain ⟨b, h1, h2⟩ := h; exact ⟨b, e.β _ _ h1, h2⟩
  | xp k K i j => obtain ⟨b, N, c, h1, h2⟩ := h; exact ⟨b, N, c, e.β _ _ h1, h2⟩
  | ptr cs => obtain ⟨b, o, h1, h2⟩ := h; exact ⟨b, o, h1, h2.mono e.sub e.keep⟩
  | fn f ps => obtain ⟨us, h1, h2⟩ := h; exact ⟨us, h1, h2.evo e⟩
  | sn b l => exact ⟨h.1.mono e.sub e.keep, h.2⟩
  | nil => exact h
  | k x => exact h
inductive SV where
  | top
  | v (g : Bool) (x : S1)
  | tup (g : Bool) (l : List S1)
def D1L (G : Gh) (W : World) (l : List S1) (us : List Value) : Prop := l.length = us.length ∧ ∀ (j : Nat) x u, l[j]? = some x → us[j]? = some u → D1 G W x u
theorem D1L.evo {wb wr : List Nat} {G G' : Gh} {W W' : World} {l : List S1} {us : List Value} (h : D1L G W l us) (e : Evo wb wr G W G' W') : D1L G' W' l us := ⟨h.1, fun j x u h1 h2 => (h.2 j x u h1 h2).evo e⟩
def Hs (G : Gh) (W : World) : SV → Value → Prop
  | .top, _ => True
  | .v g x, v => (g = true → D1 G W x v) ∧ (g = false → v = undef)
  | .tup g l, v => (g = true → ∃ us, v = .tuple us ∧ D1L G W l us.toList) ∧ (g = false → v = undef)
theorem Hs.evo {wb wr : List Nat} {G G' : Gh} {W W' : World} {x : SV} {v : Value} (h : Hs G W x v) (e : Evo wb wr G W G' W') : Hs G' W' x v := by
  cases x with
  | top => trivial
  | v g x => exact ⟨fun hg => (h.1 hg).evo e, h.2⟩
  | tup g l => exact ⟨fun hg => by obtain ⟨us, h1, h2⟩ := h.1 hg; exact ⟨us, h1, h2.evo e⟩, h.2⟩
/-- A row that may grow: its elements' type, their cells, how many there are. -/
structure RowI where
  e : TypeId
  K : Nat
  n : Nat
/-- What an object holds: a box has one element, a row as many as there are. -/
structure Ob where
  e : TypeId
  K : Nat
  l : List (List D)
abbrev Bt := List (Nat × Option Ob)
/-- How an object lies in memory. -/
def Mem (W : World) (e : TypeId) (K n : Nat) (us : List Value) : Value → Prop
  | .pointer (some ⟨b, 0, none⟩) => n = 1 ∧ ∃ arr T, W.heap[b]? = some (.cells arr T (0, 0)) ∧ arr.toList = us
  | u => W.ownsRow 0 e K u n us
def Hb (G : Gh) (W : World) (k : Nat) : Option (Option Ob) → Prop
  | none => G.β k = none
  | some none => ∃ u, G.β k = some u ∧ G.dead k
  | some (some o) => ∃ u us, G.β k = some u ∧ ¬ G.dead k ∧ Mem W o.e o.K o.l.length us u ∧ DenXL G W o.l.flatten us ∧ ((∃ b, u = .pointer (some ⟨b, 0, none⟩)) ∨ ∀ cs ∈ o.l, cs.length = o.K)
def Hr (G : Gh) (W : World) (t : Nat) : Option RowI → Prop
  | none => G.ρ t = none
  | some ri => ∃ u cs, G.ρ t = some (u, ri.K) ∧ slen u = ri.n ∧ W.ownsRow 0 ri.e ri.K u ri.n cs
theorem own_same {W W' : World} {b : Nat} {e : TypeId} {K n : Nat} {u : Value} {cs : List Value} (h : W.ownsRow b e K u n cs) (hs : ∀ g, u.ownBlock = some g → W'.heap[g]? = W.heap[g]?) : W'.ownsRow b e K u n cs := by
  refine ⟨h.1, ?_⟩
  rcases h.2 with h2 | ⟨g, cap, cur, hv, hb, hg, r⟩
  · exact .inl h2
  · exact .inr ⟨g, cap, cur, hv, hb, (hs g (by rw [hv]; rfl)).trans hg, r⟩
theorem own_zero {W : World} {b : Nat} {e : TypeId} {K n : Nat} {u : Value} {cs : List Value} (h : W.ownsRow b e K u n cs) : W.ownsRow 0 e K u n cs := by
  refine ⟨h.1, ?_⟩
  rcases h.2 with h2 | ⟨g, cap, cur, hv, hb, r⟩
  · exact .inl h2
  · exact .inr ⟨g, cap, cur, hv, Nat.zero_le _, r⟩
theorem blk_own {u : Value} {g : Nat} (h : u.ownBlock = some g) : blk u = some g := by
  unfold Value.ownBlock at h
  split at h
  · exact h
  · cases h
theorem Mem.same {W W' : World} {e : TypeId} {K n : Nat} {us : List Value} {u : Value} (h : Mem W e K n us u) (hs : ∀ b, blk u = some b → W'.heap[b]? = W.heap[b]?) : Mem W' e K n us u := by
  unfold Mem at h ⊢
  split at h
  · next b =>
    obtain ⟨h0, arr, T, h1, h2⟩ := h
    exact ⟨h0, arr, T, (hs b rfl).trans h1, h2⟩
  · exact own_same h fun g hg => hs g (blk_own hg)
theorem Hb.evo {wb wr : List Nat} {G G' : Gh} {W W' : World} {k : Nat} {c : Option (Option Ob)} (h : Hb G W k c) (e : Evo wb wr G W G' W') (hk : k ∉ wb) : Hb G' W' k c := by
  cases c with
  | none => exact e.β0 k hk h
  | some o =>
    cases o with
    | none => obtain ⟨u, h1, h2⟩ := h; exact ⟨u, e.β _ _ h1, (e.dd k hk).2 h2⟩
    | some o =>
      obtain ⟨u, us, h1, h2, h3, h4, h5⟩ := h
      exact ⟨u, us, e.β _ _ h1, fun hd => h2 ((e.dd k hk).1 hd), h3.same (fun b hb => e.box k u b hk h1 h2 hb), h4.evo e, h5⟩
theorem Hr.evo {wb wr : List Nat} {G G' : Gh} {W W' : World} {t : Nat} {c : Option RowI} (h : Hr G W t c) (e : Evo wb wr G W G' W') (ht : t ∉ wr) : Hr G' W' t c := by
  cases c with
  | none => exact e.ρ0 t ht h
  | some ri =>
    obtain ⟨u, cs, h1, h2, h3⟩ := h
    obtain ⟨h4, h5⟩ := e.row t u ri.K ht h1
    exact ⟨u, cs, h4, h2, own_same h3 h5⟩
end Go.Proofs.Ytmngjifcgfnogaa.Dq
