/- law 25: what comes out of sinks, by epochs. -/
import Derived.Test.YtbglfaomebokhaaDf7
namespace Go.Proofs.Ytbglfaomebokhaa
set_option linter.unusedSimpArgs false
set_option linter.unusedVariables false
open Go.RowKit

structure Ou where
  d : Int
  e : Int
  k : Int
  v : Int
def ous : List Ou → List Value
  | [] => []
  | x :: l => .int .i64 x.d :: .int .i64 x.e :: .int .i64 x.k :: .int .i64 x.v :: ous l
theorem ous_length (l : List Ou) : (ous l).length = l.length * 4 := by
  induction l with
  | nil => rfl
  | cons a l ih => simp only [ous, List.length_cons, ih]; omega
theorem ous_get : ∀ (l : List Ou) (j : Nat) (x : Ou), l[j]? = some x → (ous l)[j * 4]? = some (.int .i64 x.d) ∧ (ous l)[j * 4 + 1]? = some (.int .i64 x.e) ∧ (ous l)[j * 4 + 2]? = some (.int .i64 x.k) ∧ (ous l)[j * 4 + 3]? = some (.int .i64 x.v)
  | [], j, x, h => by simp at h
  | a :: l, 0, x, h => by
    obtain rfl : a = x := by simpa using h
    exact ⟨rfl, rfl, rfl, rfl⟩
  | a :: l, j + 1, x, h => by
    have := ous_get l j x (by simpa using h)
    rw [show (j + 1) * 4 = j * 4 + 1 + 1 + 1 + 1 by omega]
    simpa [ous] using this
theorem ous_take : ∀ (l : List Ou) (m : Nat), ous (l.take m) = (ous l).take (m * 4)
  | [], m => by simp [ous]
  | a :: l, 0 => by simp [ous]
  | a :: l, m + 1 => by
    rw [show (m + 1) * 4 = m * 4 + 1 + 1 + 1 + 1 by omega]
    simp only [List.take_succ_cons, ous, ous_take l m]
theorem ou_cells {w : World} {b off n c : Nat} {l : List Ou} (h : Rd w 4 n (.slice (some ⟨b, off, none⟩) n c) (ous l)) (j : Nat) (x : Ou) (hj : l[j]? = some x) :
    w.cell? ⟨b, off + j * 4, none⟩ = some (.int .i64 x.d) ∧ w.cell? ⟨b, off + j * 4 + 1, none⟩ = some (.int .i64 x.e) ∧ w.cell? ⟨b, off + j * 4 + 2, none⟩ = some (.int .i64 x.k) ∧ w.cell? ⟨b, off + j * 4 + 3, none⟩ = some (.int .i64 x.v) := by
  obtain ⟨h1, h2, h3, h4⟩ := ous_get l j x hj
  have hlt := (List.getElem?_eq_some_iff.1 hj).1
  have hl := h.len
  rw [ous_length] at hl
  obtain ⟨b', off', hb, hc⟩ := h.cells (by omega)
  obtain ⟨rfl, rfl⟩ : b = b' ∧ off = off' := by simpa using hb
  have c1 := hc _ _ h1
  have c2 := hc _ _ h2
  have c3 := hc _ _ h3
  have c4 := hc _ _ h4
  rw [← Nat.add_assoc] at c2 c3 c4
  exact ⟨c1, c2, c3, c4⟩
/-- Of a sink's records those of an epoch. -/
def sel (l : List Ou) (node : Int) (e : Nat) : List (Int × Int) := (l.filter (fun o => o.d == node && o.e == (e : Int))).map (fun o => (o.k, o.v))
theorem sel_len (l : List Ou) (node : Int) (e : Nat) : (sel l node e).length ≤ l.length := by
  unfold sel
  rw [List.length_map]
  exact List.length_filter_le _ _
theorem sel_snoc {l : List Ou} {j : Nat} {o : Ou} (h : l[j]? = some o) (node : Int) (e : Nat) : sel (l.take (j + 1)) node e = sel (l.take j) node e ++ (if (o.d == node && o.e == (e : Int)) then [(o.k, o.v)] else []) := by
  rw [take_snoc h]
  unfold sel
  rw [List.filter_append, List.map_append]
  congr 1
  cases hc : (o.d == node && o.e == (e : Int))
  · rw [List.filter_cons_of_neg (by rw [hc]; decide)]; rfl
  · rw [List.filter_cons_of_pos (by rw [hc])]; rfl
def epF (l : List Ou) (node : Int) (n : Nat) : List (List It) := (List.range n).map (fun e => ofF (sel l node e))
theorem epF_length (l : List Ou) (node : Int) (n : Nat) : (epF l node n).length = n := by unfold epF; simp
theorem epF_get (l : List Ou) (node : Int) {n e : Nat} (h : e < n) : (epF l node n)[e]? = some (ofF (sel l node e)) := by unfold epF; simp [h]
theorem epF_nil (node : Int) (n : Nat) : epF [] node n = List.replicate n [] := by
  apply List.ext_getElem?
  intro i
  by_cases h : i < n
  · rw [epF_get [] node h, List.getElem?_replicate, if_pos h]; rfl
  · rw [List.getElem?_eq_none (by rw [epF_length]; omega), List.getElem?_eq_none (by rw [List.length_replicate]; omega)]
theorem epF_no {l : List Ou} {j : Nat} {o : Ou} (h : l[j]? = some o) {node : Int} {n : Nat} (hn : ∀ e : Nat, e < n → (o.d == node && o.e == (e : Int)) = false) : epF (l.take (j + 1)) node n = epF (l.take j) node n := by
  apply List.ext_getElem?
  intro i
  by_cases hi : i < n
  · rw [epF_get _ node hi, epF_get _ node hi, sel_snoc h, hn i hi]
    simp
  · rw [List.getElem?_eq_none (by rw [epF_length]; omega), List.getElem?_eq_none (by rw [epF_length]; omega)]
theorem of_snoc_add (l : List (Int × Int)) (r : Int × Int) : ofF (l ++ [r]) = addS (ofF l) r 1 := by rw [ofF_snoc]; unfold addS; rw [if_pos (ofF_right l)]
theorem epF_yes {l : List Ou} {j : Nat} {o : Ou} (h : l[j]? = some o) {node : Int} {n e0 : Nat} (hd : o.d = node) (he : o.e = (e0 : Int)) (hlt : e0 < n) : epF (l.take (j + 1)) node n = (epF (l.take j) node n).set e0 (addS (ofF (sel (l.take j) node e0)) (o.k, o.v) 1) := by
  apply List.ext_getElem?
  intro i
  by_cases hi : i < n
  · have e := sel_snoc h node i
    by_cases hie : e0 = i
    · subst hie
      rw [if_pos (by simp [hd, he])] at e
      rw [epF_get _ node hi, e, List.getElem?_set_self (by rw [epF_length]; exact hi), of_snoc_add]
    · rw [if_neg (by simp [he]; intro _ h; exact hie (by omega)), List.append_nil] at e
      rw [epF_get _ node hi, e, List.getElem?_set_ne hie, epF_get _ node hi]
  · rw [List.getElem?_eq_none (by rw [epF_length]; omega), List.getElem?_eq_none (by rw [List.length_set, epF_length]; omega)]
def epAll (l : List Ou) (node many : Int) : List (List It) := if (decide (many < 0) || decide (65536 < many)) then [] else epF l node many.toNat
theorem epF_mem {l : List Ou} {node : Int} {n : Nat} {b : List It} (h : b ∈ epF l node n) : b.length ≤ l.length := by
  unfold epF at h
  rw [List.mem_map] at h
  obtain ⟨e, -, rfl⟩ := h
  exact Nat.le_trans (ofF_len _) (sel_len l node e)
-- an own row of bags of which one is written anew
theorem obs_cell {w0 w : World} {b g n c : Nat} {ls : List (List It)} (h : OBs w0 b ls (.slice (some ⟨g, 0, none⟩) n c) w) {e0 : Nat} {l : List It} (hl : ls[e0]? = some l) :
    ∃ u, El w l u ∧ w.cell? ⟨g, e0, none⟩ = some u ∧ w.frozen? ⟨g, e0, none⟩ = false ∧ b ≤ g ∧ n = ls.length ∧ e0 < n := by
  obtain ⟨hx, a, c', vs, he, ho, hel⟩ := h
  obtain ⟨rfl, rfl, rfl⟩ := Value.slice.inj he
  have hlt := (List.getElem?_eq_some_iff.1 hl).1
  obtain ⟨-, hb, hnc, hcm, hlen, cur, hg, hcs, htake⟩ := own_parts ho
  rw [Nat.mul_one] at hlen
  obtain ⟨u, hu⟩ : ∃ u, vs[e0]? = some u := ⟨vs[e0]'(by omega), List.getElem?_eq_getElem _⟩
  have hc := ho.cells (g := g) rfl e0 u hu
  rw [show (⟨g, 0, none⟩ : Addr).add e0 = ⟨g, 0 + e0, none⟩ by unfold Addr.add; split <;> simp_all, Nat.zero_add] at hc
  exact ⟨u, hel e0 l u hl hu, hc, frozen_row hg, hb, rfl, hlt⟩
theorem obs_set {w0 w : World} {g n c : Nat} {ls : List (List It)} (h : OBs w0 w0.heap.size ls (.slice (some ⟨g, 0, none⟩) n c) w) {e0 : Nat} {l : List It} {u : Value} (hel : El w l u) : OBs w0 w0.heap.size (ls.set e0 l) (.slice (some ⟨g, 0, none⟩) n c) (w.setCell ⟨g, e0, none⟩ u) := by
  obtain ⟨hx, a, c', vs, he, ho, hall⟩ := h
  obtain ⟨rfl, rfl, rfl⟩ := Value.slice.inj he
  obtain ⟨-, hb, -, -, hlen, -⟩ := own_parts ho
  rw [Nat.mul_one] at hlen
  have hgr := put_grown w g e0 u
  have keep : ∀ l' u', El w l' u' → El (w.setCell ⟨g, e0, none⟩ u) l' u' := fun l' u' h => h.grown ho hgr
  refine ⟨hx.grown hgr (fun k hk => by obtain rfl : g = k := (by simpa using hk); exact hb), some ⟨g, 0, none⟩, c, vs.set e0 u, by rw [List.length_set], ?_, fun i l' u' hi hu => ?_⟩
  · have := own_put ho u (off := e0)
    rw [List.length_set]
    exact this
  · rw [List.getElem?_set] at hi hu
    by_cases hie : e0 = i
    · subst hie
      rw [if_pos rfl] at hi hu
      split at hi
      · split at hu
        · cases hi; cases hu; exact keep _ _ hel
        · cases hu
      · cases hi
    · rw [if_neg hie] at hi hu
      exact keep _ _ (hall i l' u' hi hu)
theorem add_el {w : World} {l : List It} {v : Value} (h : Rb w l v) (hn : l.length ≤ 1073741822) (K V q : Int) (r : List It) (hr : addS l (K, V) q = r) :
    Calls Try.prog 36 #[v, .agg #[.int .i64 K, .int .i64 V], .int .i64 q] w fun e w' => ∃ v', e = .returned v' ∧ Ext w w' ∧ El w' r v' := by
  subst hr
  obtain ⟨a, c, rfl, h⟩ := h
  exact (add_any l a c w h (by omega) (K, V) q).mono (fun e w' ⟨v', he, hb⟩ => ⟨v', he, hb.el⟩)
theorem refAdd_el {w : World} {l : List It} {v : Value} (h : Rb w l v) (hn : l.length ≤ 1073741822) (K V q : Int) (r : List It) (hr : addS l (K, V) q = r) :
    Calls Try.prog 37 #[v, .agg #[.int .i64 K, .int .i64 V], .int .i64 q] w fun e w' => ∃ v', e = .returned v' ∧ Ext w w' ∧ El w' r v' := by
  subst hr
  exact (refAdd_any l v w h hn (K, V) q).mono (fun e w' ⟨v', he, hb⟩ => ⟨v', he, hb.el⟩)
end Go.Proofs.Ytbglfaomebokhaa
