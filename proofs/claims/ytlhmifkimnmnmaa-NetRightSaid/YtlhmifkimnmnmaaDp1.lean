/- Deep values: what a value reads as, whatever memory it lies in. No program in sight. -/
import Derived.Test.YtlhmifkimnmnmaaApp
import Derived.Test.YtlhmifkimnmnmaaOwnG
import Derived.Test.YtlhmifkimnmnmaaInv3
namespace Go.Proofs.Ytlhmifkimnmnmaa.Dp
set_option linter.unusedSimpArgs false
set_option linter.unusedVariables false
open Go.RowKit

/-- What one cell reads as. -/
inductive D where
  | int (k : IntKind) (n : Int)
  | bool (b : Bool)
  | sl (l : List (List D))
/-- Cells that stay as they are. -/
abbrev Pr := Nat → Nat → Prop
inductive Den (A : Pr) (w : World) : D → Value → Prop
  | int (k : IntKind) (n : Int) : Den A w (.int k n) (.int k n)
  | bool (b : Bool) : Den A w (.bool b) (.bool b)
  | nil (a : Option Addr) (c : Nat) : Den A w (.sl []) (.slice a 0 c)
  | sl (l : List (List D)) (K b off c : Nat) (u : Nat → Nat → Value) (h0 : l ≠ []) (hc : l.length ≤ c) (hK : ∀ cs ∈ l, cs.length = K)
      (hA : ∀ i j, i < l.length → j < K → A b (off + i * K + j) ∧ w.cell? ⟨b, off + i * K + j, none⟩ = some (u i j))
      (hu : ∀ (i : Nat) cs (j : Nat) d, l[i]? = some cs → cs[j]? = some d → Den A w d (u i j)) : Den A w (.sl l) (.slice (some ⟨b, off, none⟩) l.length c)
def Kp (A : Pr) (w w' : World) : Prop := ∀ b i v, A b i → w.cell? ⟨b, i, none⟩ = some v → w'.cell? ⟨b, i, none⟩ = some v
theorem Kp.refl (A : Pr) (w : World) : Kp A w w := fun _ _ _ _ h => h
theorem Kp.ext {A : Pr} {w w' : World} (h : Ext w w') : Kp A w w' := fun b i v _ hc => by
  obtain ⟨x, rfl⟩ := h
  rw [cell_ext_a _ _ _ (World.block_lt_of_cell? _ _ hc), hc]
theorem Den.mono {A A' : Pr} {w w' : World} {d : D} {v : Value} (h : Den A w d v) (hA : ∀ b i, A b i → A' b i) (hk : Kp A w w') : Den A' w' d v := by
  induction h with
  | int k n => exact .int k n
  | bool b => exact .bool b
  | nil a c => exact .nil a c
  | sl l K b off c u h0 hc hK hA' hu ih => exact .sl l K b off c u h0 hc hK (fun i j hi hj => ⟨hA _ _ (hA' i j hi hj).1, hk _ _ _ (hA' i j hi hj).1 (hA' i j hi hj).2⟩) ih
theorem Den.one {A : Pr} {w : World} {d : D} {v : Value} (h : Den A w d v) : v.oneCell' = true := by cases h <;> rfl
theorem Den.cells {A : Pr} {w : World} {d : D} {v : Value} (h : Den A w d v) : v.cells = #[v] := by cases h <;> rfl
theorem Den.noAgg {A : Pr} {w : World} {d : D} {v : Value} (h : Den A w d v) : (∀ x, v ≠ .agg x) ∧ (∀ x, v ≠ .tuple x) := by cases h <;> exact ⟨fun _ => nofun, fun _ => nofun⟩
/-- A list of cells. -/
def DenL (A : Pr) (w : World) (ds : List D) (us : List Value) : Prop := ds.length = us.length ∧ ∀ (j : Nat) d u, ds[j]? = some d → us[j]? = some u → Den A w d u
section
variable {A A' : Pr} {w w' : World} {ds es : List D} {us vs : List Value}
theorem DenL.mono (h : DenL A w ds us) (hA : ∀ b i, A b i → A' b i) (hk : Kp A w w') : DenL A' w' ds us := ⟨h.1, fun j d u h1 h2 => (h.2 j d u h1 h2).mono hA hk⟩
theorem DenL.nil : DenL A w [] [] := ⟨rfl, fun j d u h => by simp at h⟩
theorem DenL.single {d : D} {u : Value} (h : Den A w d u) : DenL A w [d] [u] := ⟨rfl, fun j d' u' h1 h2 => by
  cases j with
  | zero =>
    obtain rfl : d = d' := by simpa using h1
    obtain rfl : u = u' := by simpa using h2
    exact h
  | succ j => simp at h1⟩
theorem DenL.append (h : DenL A w ds us) (k : DenL A w es vs) : DenL A w (ds ++ es) (us ++ vs) := by
  refine ⟨by simp [h.1, k.1], fun j d u h1 h2 => ?_⟩
  have hl := h.1
  by_cases hj : j < ds.length
  · rw [List.getElem?_append_left hj] at h1
    rw [List.getElem?_append_left (by omega)] at h2
    exact h.2 j d u h1 h2
  · rw [List.getElem?_append_right (by omega)] at h1
    rw [List.getElem?_append_right (by omega), ← hl] at h2
    exact k.2 _ d u h1 h2
theorem DenL.drop (h : DenL A w ds us) (n : Nat) : DenL A w (ds.drop n) (us.drop n) := ⟨by simp [h.1], fun j d u h1 h2 => by
  rw [List.getElem?_drop] at h1 h2
  exact h.2 _ d u h1 h2⟩
theorem DenL.take (h : DenL A w ds us) (n : Nat) : DenL A w (ds.take n) (us.take n) := ⟨by simp [h.1], fun j d u h1 h2 => by
  rw [List.getElem?_take] at h1 h2
  split at h1
  · next hj => rw [if_pos hj] at h2; exact h.2 _ d u h1 h2
  · cases h1⟩
theorem DenL.one (h : DenL A w ds us) : ∀ u ∈ us, u.oneCell' = true := fun u hu => by
  obtain ⟨j, hj⟩ := List.getElem?_of_mem hu
  have hlt := (List.getElem?_eq_some_iff.1 hj).1
  have hl := h.1
  exact (h.2 j _ u (List.getElem?_eq_getElem (by omega)) hj).one
theorem DenL.get (h : DenL A w ds us) {j : Nat} {d : D} (hd : ds[j]? = some d) : ∃ u, us[j]? = some u ∧ Den A w d u := by
  have hlt := (List.getElem?_eq_some_iff.1 hd).1
  have hl := h.1
  exact ⟨us[j]'(by omega), List.getElem?_eq_getElem _, h.2 j d _ hd (List.getElem?_eq_getElem _)⟩
theorem DenL.cons_inv {d : D} (h : DenL A w (d :: ds) us) : ∃ u us', us = u :: us' ∧ Den A w d u ∧ DenL A w ds us' := by
  cases us with
  | nil => have := h.1; simp at this
  | cons u us' => exact ⟨u, us', rfl, h.2 0 d u rfl rfl, by simpa using h.1, fun j d' u' h1 h2 => h.2 (j + 1) d' u' (by simpa using h1) (by simpa using h2)⟩
end
theorem flatten_length {K : Nat} : ∀ {l : List (List D)}, (∀ cs ∈ l, cs.length = K) → l.flatten.length = l.length * K
  | [], _ => by simp
  | x :: l, h => by
    rw [List.flatten_cons, List.length_append, flatten_length (fun cs hc => h cs (List.mem_cons_of_mem _ hc)), h x List.mem_cons_self, List.length_cons, Nat.succ_mul]
    omega
theorem flatten_get {K : Nat} : ∀ {l : List (List D)} (i j : Nat) {cs : List D}, (∀ cs ∈ l, cs.length = K) → l[i]? = some cs → j < K → l.flatten[i * K + j]? = cs[j]?
  | [], i, j, cs, _, h, _ => by simp at h
  | x :: l, 0, j, cs, hK, h, hj => by
    obtain rfl : x = cs := by simpa using h
    rw [List.flatten_cons, Nat.zero_mul, Nat.zero_add, List.getElem?_append_left (by rw [hK x List.mem_cons_self]; exact hj)]
  | x :: l, i + 1, j, cs, hK, h, hj => by
    have hx := hK x List.mem_cons_self
    rw [List.flatten_cons, List.getElem?_append_right (by rw [hx, Nat.succ_mul]; omega), hx, show (i + 1) * K + j - K = i * K + j by rw [Nat.succ_mul]; omega]
    exact flatten_get i j (fun cs hc => hK cs (List.mem_cons_of_mem _ hc)) (by simpa using h) hj
/-- The cells of a slice that reads. -/
theorem cells_of_den {A : Pr} {w : World} {l : List (List D)} {v : Value} {K : Nat} (h : Den A w (.sl l) v) (hK : ∀ cs ∈ l, cs.length = K) :
    ∃ a c us, v = .slice a l.length c ∧ Rd w K l.length (.slice a l.length c) us ∧ DenL A w l.flatten us ∧ l.length ≤ c ∧ ∀ b off i, a = some ⟨b, off, none⟩ → i < l.length * K → A b (off + i) := by
  cases h with
  | nil a c => exact ⟨a, c, [], rfl, Rd.nil _ _ _ _, DenL.nil, Nat.zero_le _, fun b off i _ hi => by simp at hi⟩
  | sl _ K' b off c u h0 hc hK' hA hu =>
    obtain rfl : K' = K := by
      cases l with
      | nil => exact absurd rfl h0
      | cons x l => rw [← hK' x List.mem_cons_self, hK x List.mem_cons_self]
    have dm : ∀ i, i < l.length * K' → i / K' < l.length ∧ i % K' < K' ∧ i / K' * K' + i % K' = i := fun i hi => by
      have hp : 0 < K' := by
        rcases Nat.eq_zero_or_pos K' with h | h
        · rw [h] at hi; simp at hi
        · exact h
      refine ⟨Nat.div_lt_of_lt_mul (by rwa [Nat.mul_comm]), Nat.mod_lt _ hp, ?_⟩
      rw [Nat.mul_comm]
      exact Nat.div_add_mod i K'
    have hus : ∀ i x, ((List.range (l.length * K')).map fun i => u (i / K') (i % K'))[i]? = some x → i < l.length * K' ∧ x = u (i / K') (i % K') := fun i x h => by
      rw [List.getElem?_map] at h
      by_cases hi : i < l.length * K'
      · rw [List.getElem?_range hi] at h
        exact ⟨hi, by simpa using h.symm⟩
      · rw [List.getElem?_eq_none (by simpa using hi)] at h
        cases h
    refine ⟨some ⟨b, off, none⟩, c, (List.range (l.length * K')).map fun i => u (i / K') (i % K'), rfl, ⟨by simp, _, _, rfl, fun _ => ⟨b, off, rfl, fun i x hx => ?_⟩⟩, ⟨by simp [flatten_length hK], fun j d x h1 h2 => ?_⟩, hc, fun b' off' i hb hi => ?_⟩
    · obtain ⟨hi, rfl⟩ := hus i x hx
      obtain ⟨h1, h2, h3⟩ := dm i hi
      have := (hA _ _ h1 h2).2
      rwa [Nat.add_assoc, h3] at this
    · obtain ⟨hi, rfl⟩ := hus j x h2
      obtain ⟨g1, g2, g3⟩ := dm j hi
      obtain ⟨cs, hcs⟩ : ∃ cs, l[j / K']? = some cs := ⟨l[j / K'], List.getElem?_eq_getElem _⟩
      have := flatten_get (j / K') (j % K') hK hcs g2
      rw [g3, h1] at this
      exact hu _ cs _ d hcs this.symm
    · obtain ⟨rfl, rfl⟩ : b = b' ∧ off = off' := by simpa using hb
      obtain ⟨h1, h2, h3⟩ := dm i hi
      have := (hA _ _ h1 h2).1
      rwa [Nat.add_assoc, h3] at this
theorem den_of_cells {A : Pr} {w : World} {l : List (List D)} {a : Option Addr} {c K : Nat} {us : List Value} (hK : ∀ cs ∈ l, cs.length = K) (hcap : l.length ≤ c) (hd : DenL A w l.flatten us)
    (h : l ≠ [] → ∃ b off, a = some ⟨b, off, none⟩ ∧ ∀ (i : Nat) u, us[i]? = some u → A b (off + i) ∧ w.cell? ⟨b, off + i, none⟩ = some u) : Den A w (.sl l) (.slice a l.length c) := by
  by_cases h0 : l = []
  · subst h0
    exact .nil a c
  · obtain ⟨b, off, rfl, hc⟩ := h h0
    have hl := flatten_length hK
    have hus : ∀ i j, i < l.length → j < K → ∃ x, us[i * K + j]? = some x := fun i j hi hj => by
      have h1 := hd.1
      have : i * K + j < l.length * K := by
        have := Nat.mul_le_mul_right K hi
        rw [Nat.succ_mul] at this
        omega
      exact ⟨us[i * K + j]'(by omega), List.getElem?_eq_getElem _⟩
    refine .sl l K b off c (fun i j => (us[i * K + j]?).getD undef) h0 hcap hK (fun i j hi hj => ?_) (fun i cs j d h1 h2 => ?_)
    · obtain ⟨x, hx⟩ := hus i j hi hj
      have := hc _ x hx
      rw [← Nat.add_assoc] at this
      rw [hx]
      exact this
    · have hi := (List.getElem?_eq_some_iff.1 h1).1
      have hj : j < K := by
        have := (List.getElem?_eq_some_iff.1 h2).1
        rwa [hK cs (List.mem_of_getElem? h1)] at this
      obtain ⟨x, hx⟩ := hus i j hi hj
      rw [hx]
      exact hd.2 (i * K + j) d x ((flatten_get i j hK h1 hj).trans h2) hx
theorem den_len {A : Pr} {w : World} {l : List (List D)} {v : Value} (h : Den A w (.sl l) v) : ∃ a c, v = .slice a l.length c := by
  cases h with
  | nil a c => exact ⟨a, c, rfl⟩
  | sl _ K b off c => exact ⟨_, c, rfl⟩
/-- Cells from a place on. -/
def At (A : Pr) (w : World) (b off : Nat) (ds : List D) : Prop := ∀ (j : Nat) d, ds[j]? = some d → A b (off + j) ∧ ∃ u, w.cell? ⟨b, off + j, none⟩ = some u ∧ Den A w d u
theorem At.mono {A A' : Pr} {w w' : World} {b off : Nat} {ds : List D} (h : At A w b off ds) (hA : ∀ b i, A b i → A' b i) (hk : Kp A w w') : At A' w' b off ds := fun j d hd => by
  obtain ⟨h1, u, h2, h3⟩ := h j d hd
  exact ⟨hA _ _ h1, u, hk _ _ _ h1 h2, h3.mono hA hk⟩
theorem At.drop {A : Pr} {w : World} {b off : Nat} {ds : List D} (h : At A w b off ds) (n : Nat) : At A w b (off + n) (ds.drop n) := fun j d hd => by
  rw [List.getElem?_drop] at hd
  have := h _ d hd
  rwa [← Nat.add_assoc] at this
theorem At.cells {A : Pr} {w : World} {b off : Nat} : ∀ {ds : List D}, At A w b off ds → ∃ us, DenL A w ds us ∧ ∀ (j : Nat) u, us[j]? = some u → w.cell? ⟨b, off + j, none⟩ = some u
  | [], _ => ⟨[], DenL.nil, fun j u h => by simp at h⟩
  | d :: ds, h => by
    obtain ⟨-, u, h1, h2⟩ := h 0 d rfl
    obtain ⟨us, h3, h4⟩ := At.cells (ds := ds) (off := off + 1) (fun j d' hd => by
      have := h (j + 1) d' (by simpa using hd)
      rwa [show off + (j + 1) = off + 1 + j by omega] at this)
    refine ⟨u :: us, (DenL.single h2).append h3, fun j x hx => ?_⟩
    cases j with
    | zero =>
      obtain rfl : u = x := by simpa using hx
      exact h1
    | succ j =>
      have := h4 j x (by simpa using hx)
      rwa [show off + (j + 1) = off + 1 + j by omega]
/-- One of the elements of a slice. -/
theorem den_at {A : Pr} {w : World} {l : List (List D)} {v : Value} (h : Den A w (.sl l) v) {i : Nat} {cs : List D} (hi : l[i]? = some cs) :
    ∃ b off c K, v = .slice (some ⟨b, off, none⟩) l.length c ∧ (∀ cs ∈ l, cs.length = K) ∧ At A w b (off + i * K) cs := by
  have hlt := (List.getElem?_eq_some_iff.1 hi).1
  cases h with
  | nil a c => simp at hi
  | sl _ K b off c u h0 hc hK hA hu =>
    refine ⟨b, off, c, K, rfl, hK, fun j d hd => ?_⟩
    have hj : j < K := by
      have := (List.getElem?_eq_some_iff.1 hd).1
      rwa [hK cs (List.mem_of_getElem? hi)] at this
    obtain ⟨h1, h2⟩ := hA i j hlt hj
    exact ⟨h1, _, h2, hu i cs j d hi hd⟩
def slen : Value → Nat
  | .slice _ n _ => n
  | _ => 0
/-- What is known of memory: cells that stay; where boxes lie; rows that may grow. -/
structure Gh where
  A : Pr
  β : Nat → Option Nat
  ρ : Nat → Option (Value × Nat)
structure GOK (base : Nat) (A0 : Pr) (G : Gh) (W : World) : Prop where
  le : base ≤ W.heap.size
  lt : ∀ b i, G.A b i → b < W.heap.size ∧ (b < base → A0 b i)
  box : ∀ k b, G.β k = some b → base ≤ b ∧ b < W.heap.size ∧ ∀ i, ¬ G.A b i
  boxI : ∀ k k' b, G.β k = some b → G.β k' = some b → k = k'
  row : ∀ t u K g, G.ρ t = some (u, K) → u.ownBlock = some g → base ≤ g ∧ g < W.heap.size ∧ (∀ k, G.β k ≠ some g) ∧ ∀ i, G.A g i → i < slen u * K
  rowI : ∀ t t' u u' K K' g, G.ρ t = some (u, K) → G.ρ t' = some (u', K') → u.ownBlock = some g → u'.ownBlock = some g → t = t'
structure Evo (wb wr : List Nat) (G : Gh) (W : World) (G' : Gh) (W' : World) : Prop where
  keep : Kp G.A W W'
  sub : ∀ b i, G.A b i → G'.A b i
  β : ∀ k b, G.β k = some b → G'.β k = some b
  β0 : ∀ k, k ∉ wb → G.β k = none → G'.β k = none
  box : ∀ k b, k ∉ wb → G.β k = some b → W'.heap[b]? = W.heap[b]?
  ρ : ∀ t u K, G.ρ t = some (u, K) → ∃ u', G'.ρ t = some (u', K) ∧ slen u ≤ slen u' ∧ (slen u = slen u' → u = u')
  ρ0 : ∀ t, t ∉ wr → G.ρ t = none → G'.ρ t = none
  row : ∀ t u K, t ∉ wr → G.ρ t = some (u, K) → G'.ρ t = some (u, K) ∧ ∀ g, u.ownBlock = some g → W'.heap[g]? = W.heap[g]?
theorem Evo.refl (G : Gh) (W : World) : Evo [] [] G W G W := ⟨Kp.refl _ _, fun _ _ h => h, fun _ _ h => h, fun _ _ h => h, fun _ _ _ _ => rfl, fun t u K h => ⟨u, h, Nat.le_refl _, fun _ => rfl⟩, fun _ _ h => h, fun _ _ _ _ h => ⟨h, fun _ _ => rfl⟩⟩
/-- New blocks only. -/
theorem Evo.ext {G : Gh} {W W' : World} {base : Nat} {A0 : Pr} (hG : GOK base A0 G W) (h : Ext W W') : Evo [] [] G W G W' := by
  have hb : ∀ b, b < W.heap.size → W'.heap[b]? = W.heap[b]? := fun b hb => by
    obtain ⟨x, rfl⟩ := h
    exact ext_get _ _ _ hb
  exact ⟨Kp.ext h, fun _ _ h => h, fun _ _ h => h, fun _ _ h => h, fun k b _ hk => hb b (hG.box k b hk).2.1, fun t u K h => ⟨u, h, Nat.le_refl _, fun _ => rfl⟩, fun _ _ h => h, fun t u K _ h => ⟨h, fun g hg => hb g (hG.row t u K g h hg).2.1⟩⟩
theorem GOK.ext {G : Gh} {W W' : World} {base : Nat} {A0 : Pr} (hG : GOK base A0 G W) (h : Ext W W') : GOK base A0 G W' := by
  have hl := h.below.size
  exact ⟨Nat.le_trans hG.le hl, fun b i hb => ⟨Nat.lt_of_lt_of_le (hG.lt b i hb).1 hl, (hG.lt b i hb).2⟩, fun k b hk => ⟨(hG.box k b hk).1, Nat.lt_of_lt_of_le (hG.box k b hk).2.1 hl, (hG.box k b hk).2.2⟩, hG.boxI, fun t u K g h1 h2 => ⟨(hG.row t u K g h1 h2).1, Nat.lt_of_lt_of_le (hG.row t u K g h1 h2).2.1 hl, (hG.row t u K g h1 h2).2.2⟩, hG.rowI⟩
/-- What a slot holds. -/
inductive S1 where
  | c (d : D)
  | agg (l : List D)
  | own (t K : Nat) (l : List (List D))
  | box (k off : Nat)
  | ptr (cs : List D)
  | nil
  | k (v : Value)
def D1 (G : Gh) (W : World) : S1 → Value → Prop
  | .c d, v => Den G.A W d v
  | .agg l, v => ∃ us, v = .agg us ∧ DenL G.A W l us.toList
  | .own t K l, v => Den G.A W (.sl l) v ∧ (∀ cs ∈ l, cs.length = K) ∧ ∃ u, G.ρ t = some (u, K) ∧ slen v ≤ slen u ∧ (slen v = slen u → v = u)
  | .box k off, v => ∃ b, G.β k = some b ∧ v = .pointer (some ⟨b, off, none⟩)
  | .ptr cs, v => ∃ b o, v = .pointer (some ⟨b, o, none⟩) ∧ At G.A W b o cs
  | .nil, v => v = .slice none 0 0
  | .k x, v => v = x
theorem D1.evo {wb wr : List Nat} {G G' : Gh} {W W' : World} {x : S1} {v : Value} (h : D1 G W x v) (e : Evo wb wr G W G' W') : D1 G' W' x v := by
  cases x with
  | c d => exact Den.mono h e.sub e.keep
  | agg l => obtain ⟨us, rfl, h⟩ := h; exact ⟨us, rfl, h.mono e.sub e.keep⟩
  | own t K l =>
    obtain ⟨h1, h2, u, h3, h4, h5⟩ := h
    obtain ⟨u', g1, g2, g3⟩ := e.ρ t u K h3
    exact ⟨h1.mono e.sub e.keep, h2, u', g1, Nat.le_trans h4 g2, fun he => by
      have : slen u = slen u' := by omega
      rw [h5 (by omega)]
      exact g3 this⟩
  | box k off => obtain ⟨b, h1, h2⟩ := h; exact ⟨b, e.β _ _ h1, h2⟩
  | ptr cs => obtain ⟨b, o, h1, h2⟩ := h; exact ⟨b, o, h1, h2.mono e.sub e.keep⟩
  | nil => exact h
  | k x => exact h
inductive SV where
  | top
  | v (g : Bool) (x : S1)
  | tup (g : Bool) (l : List S1)
def D1L (G : Gh) (W : World) (l : List S1) (us : List Value) : Prop := l.length = us.length ∧ ∀ (j : Nat) x u, l[j]? = some x → us[j]? = some u → D1 G W x u
theorem D1L.evo {wb wr : List Nat} {G G' : Gh} {W W' : World} {l : List S1} {us : List Value} (h : D1L G W l us) (e : Evo wb wr G W G' W') : D1L G' W' l us := ⟨h.1, fun j x u h1 h2 => (h.2 j x u h1 h2).evo e⟩
def Hs (G : Gh) (W : World) : SV → Value → Prop
  | .top, _ => True
  | .v g x, v => (g = true → D1 G W x v) ∧ (g = false → v = undef)
  | .tup g l, v => (g = true → ∃ us, v = .tuple us ∧ D1L G W l us.toList) ∧ (g = false → v = undef)
theorem Hs.evo {wb wr : List Nat} {G G' : Gh} {W W' : World} {x : SV} {v : Value} (h : Hs G W x v) (e : Evo wb wr G W G' W') : Hs G' W' x v := by
  cases x with
  | top => trivial
  | v g x => exact ⟨fun hg => (h.1 hg).evo e, h.2⟩
  | tup g l => exact ⟨fun hg => by obtain ⟨us, h1, h2⟩ := h.1 hg; exact ⟨us, h1, h2.evo e⟩, h.2⟩
/-- A row that may grow: its elements' type, their cells, how many there are. -/
structure RowI where
  e : TypeId
  K : Nat
  n : Nat
def Hb (G : Gh) (W : World) (k : Nat) : Option (List D) → Prop
  | none => G.β k = none
  | some cs => ∃ b, G.β k = some b ∧ ∃ arr T, W.heap[b]? = some (.cells arr T (0, 0)) ∧ DenL G.A W cs arr.toList
def Hr (base : Nat) (G : Gh) (W : World) (t : Nat) : Option RowI → Prop
  | none => G.ρ t = none
  | some ri => ∃ u cs, G.ρ t = some (u, ri.K) ∧ slen u = ri.n ∧ W.ownsRow base ri.e ri.K u ri.n cs
theorem Hb.evo {wb wr : List Nat} {G G' : Gh} {W W' : World} {k : Nat} {c : Option (List D)} (h : Hb G W k c) (e : Evo wb wr G W G' W') (hk : k ∉ wb) : Hb G' W' k c := by
  cases c with
  | none => exact e.β0 k hk h
  | some cs =>
    obtain ⟨b, h1, arr, T, h2, h3⟩ := h
    exact ⟨b, e.β _ _ h1, arr, T, (e.box k b hk h1).trans h2, h3.mono e.sub e.keep⟩
theorem own_same {W W' : World} {b : Nat} {e : TypeId} {K n : Nat} {u : Value} {cs : List Value} (h : W.ownsRow b e K u n cs) (hs : ∀ g, u.ownBlock = some g → W'.heap[g]? = W.heap[g]?) : W'.ownsRow b e K u n cs := by
  refine ⟨h.1, ?_⟩
  rcases h.2 with h2 | ⟨g, cap, cur, hv, hb, hg, r⟩
  · exact .inl h2
  · exact .inr ⟨g, cap, cur, hv, hb, (hs g (by rw [hv]; rfl)).trans hg, r⟩
theorem Hr.evo {wb wr : List Nat} {base : Nat} {G G' : Gh} {W W' : World} {t : Nat} {c : Option RowI} (h : Hr base G W t c) (e : Evo wb wr G W G' W') (ht : t ∉ wr) : Hr base G' W' t c := by
  cases c with
  | none => exact e.ρ0 t ht h
  | some ri =>
    obtain ⟨u, cs, h1, h2, h3⟩ := h
    obtain ⟨h4, h5⟩ := e.row t u ri.K ht h1
    exact ⟨u, cs, h4, h2, own_same h3 h5⟩
end Go.Proofs.Ytlhmifkimnmnmaa.Dp
