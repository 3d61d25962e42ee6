/- law 25: three rows of bags that grow side by side; the walk of DiffPlus. -/
import Derived.Test.YtbglfaomebokhaaDf6
namespace Go.Proofs.Ytbglfaomebokhaa
set_option linter.unusedSimpArgs false
set_option linter.unusedVariables false
open Go.RowKit

/-- Not in one block. -/
def Dif (v u : Value) : Prop := ∀ k, v.ownBlock = some k → u.ownBlock ≠ some k
theorem Dif.symm {v u : Value} (h : Dif v u) : Dif u v := fun k hk e => h k e hk
theorem OBs.low {w0 w : World} {b : Nat} {ls : List (List It)} {v : Value} (h : OBs w0 b ls v w) : ∀ k, v.ownBlock = some k → k < w.heap.size := by
  obtain ⟨_, a, c, vs, rfl, ho, -⟩ := h
  exact fun k hk => (ho.lt k hk).2
section
variable {ops : Array Oper} {o : Oper} {a : Act} {Q : Exit → Act → World → Prop}
/-- The append of one bag, in a region that draws its order; what lies in other rows stays. -/
theorem step_obs2 {K : Act → World → Prop} {E : Prop} (hgd : o.guard = none) (s x : Operand) (ho : o.op = .call { callee := .builtin .append, args := #[s, x], argTypes := #[24, 24] })
    (w0 w1 : World) (ls : List (List It)) (v : Value) (h : OBs w0 w0.heap.size ls v w1) (b c : Nat) (u : Value) (hs : a.eval s = v) (hx : a.eval x = .slice (some ⟨b, 0, none⟩) 1 c) (hb : b = w1.heap.size) (hl : ls.length ≤ 1073741823) (l : List It) (hel : El w1 l u)
    (k : ∀ v' w', OBs w0 w0.heap.size (ls ++ [l]) v' w' → (∀ ls' u', OBs w0 w0.heap.size ls' u' w1 → Dif v u' → OBs w0 w0.heap.size ls' u' w' ∧ Dif v' u') → K (a.put o.dst v') w') :
    if Region.wanted o (yielded ops a.tmps) = true then Oper.wp Try.prog o a (w1.alloc (.cells #[u] 22)) K Q else E := by
  obtain ⟨⟨i, rfl⟩, a', c', vs, rfl, hown, he⟩ := h
  have hone : u.oneCell' = true := by
    obtain ⟨a1, c1, rfl, -⟩ := hel
    rfl
  refine step_pushF hgd s x 24 ho 22 (.slice none 0 0) 1 24 Try.underlying24 info_obs rfl (by decide) w0 i w0.heap.size _ ls.length vs hown b 1 c #[u] hs hx rfl (by simpa using hone) (by decide) hb (by unfold maxLen; omega) (by omega) (by simp) (Nat.le_refl _) ?_
  intro g cap y hown1 hgr hat
  have hlen := hown.1
  rw [Nat.mul_one] at hlen
  have keep : ∀ l' u', El (ext w0 i) l' u' → El (ext w0 y) l' u' := fun l' u' h => h.grown hown hgr
  refine k _ _ ⟨⟨y, rfl⟩, some ⟨g, 0, none⟩, cap, vs ++ [u], ?_, ?_, fun j l' u' hj hu => ?_⟩ (fun ls' u' h' hd => ?_)
  · rw [List.length_append]; rfl
  · rw [List.length_append]
    exact hown1
  · by_cases hlt : j < ls.length
    · rw [List.getElem?_append_left hlt] at hj
      rw [List.getElem?_append_left (by omega)] at hu
      exact keep _ _ (he j l' u' hj hu)
    · rw [List.getElem?_append_right (by omega)] at hj
      rw [List.getElem?_append_right (by omega), hlen] at hu
      have : j - ls.length = 0 := by
        have := (List.getElem?_eq_some_iff.1 hj).1
        simp at this
        omega
      rw [this] at hj hu
      obtain rfl : l = l' := by simpa using hj
      obtain rfl : u = u' := by simpa using hu
      exact keep _ _ hel
  · have hlow := h'.low
    obtain ⟨-, a2, c2, vs2, rfl, ho2, he2⟩ := h'
    refine ⟨⟨⟨y, rfl⟩, a2, c2, vs2, rfl, ho2.kept hgr ?_, fun j l' u' hj hu => keep _ _ (he2 j l' u' hj hu)⟩, fun kk hk => ?_⟩
    · cases hu : (Value.slice a2 ls'.length c2).ownBlock with
      | none => exact .inl rfl
      | some kk => exact .inr (fun e => hd kk e.symm hu)
    · rcases hat with hat | hat
      · obtain rfl : g = kk := by simpa [Value.ownBlock] using hk
        exact hd g hat
      · obtain rfl : g = kk := by simpa [Value.ownBlock] using hk
        intro e
        have := hlow g e
        omega
end
theorem Dif.nil (u : Value) : Dif (.slice none 0 0) u := fun k hk => by cases hk
theorem Rbs.cut {w : World} {ls : List (List It)} {a : Option Addr} {c n N : Nat} (h : Rbs w ls (.slice a N c)) (hN : ls.length = N) (hn : n ≤ N) : Rbs w (ls.take n) (.slice a n c) := by
  subst hN
  obtain ⟨a', c', vs, he, hr, hel⟩ := h
  obtain ⟨rfl, -, rfl⟩ := Value.slice.inj he
  have hl : (ls.take n).length = n := by rw [List.length_take]; omega
  refine ⟨a, c, vs.take (n * 1), by rw [hl], by rw [hl]; exact rd_take hr hn, fun i l u hi hu => ?_⟩
  rw [List.getElem?_take] at hi hu
  rw [Nat.mul_one] at hu
  split at hi
  · next h1 =>
    rw [if_pos h1] at hu
    exact hel i l u hi hu
  · cases hi
theorem lists_rbn {w : World} {ls : List (List (Int × Int))} {a : Option Addr} {c : Nat} (h : Rrs w ls (.slice a ls.length c)) (r : List (List It)) (hr : listsF ls = r) (n : Nat) (hn : r.length = n) :
    Calls Try.prog 18 #[.slice a ls.length c] w fun e w' => ∃ a' c', e = .returned (.slice a' n c') ∧ Ext w w' ∧ Rbs w' r (.slice a' n c') ∧ n ≤ c' := by
  subst hr
  subst hn
  refine (lists_any ls a c w h).mono ?_
  rintro e w' ⟨v', rfl, hb⟩
  have hr := hb.rbs.2
  obtain ⟨hx, a', c', vs, rfl, ho, -⟩ := hb
  exact ⟨a', c', rfl, hx, hr, own_capY ho⟩
theorem changes_rbn {w : World} {ls : List (List It)} {v : Value} (h : Rbs w ls v) (hl : ls.length ≤ 1000) (hb : ∀ b ∈ ls, b.length ≤ 100000) (r : List (List It)) (hr : chF [] ls = r) (n : Nat) (hn : r.length = n) :
    Calls Try.prog 21 #[v] w fun e w' => ∃ a c, e = .returned (.slice a n c) ∧ Ext w w' ∧ Rbs w' r (.slice a n c) := by
  subst hn
  refine (changes_rbs h hl hb r hr).mono ?_
  rintro e w' ⟨v', rfl, hx, hr⟩
  obtain ⟨a, c, rfl⟩ := hr.form
  exact ⟨a, c, rfl, hx, hr⟩
theorem sums_rbn {w : World} {ls : List (List It)} {v : Value} (h : Rbs w ls v) (hl : ls.length ≤ 1000) (hb : ∀ b ∈ ls, b.length ≤ 100000) (r : List (List It)) (hr : smF [] ls = r) (n : Nat) (hn : r.length = n) :
    Calls Try.prog 20 #[v] w fun e w' => ∃ a c, e = .returned (.slice a n c) ∧ Ext w w' ∧ Rbs w' r (.slice a n c) := by
  subst hn
  refine (sums_rbs h hl hb r hr).mono ?_
  rintro e w' ⟨v', rfl, hx, hr⟩
  obtain ⟨a, c, rfl⟩ := hr.form
  exact ⟨a, c, rfl, hx, hr⟩
theorem zip_snoc {xs ys : List (List It)} {j : Nat} {x y : List It} (hx : xs[j]? = some x) (hy : ys[j]? = some y) : zipP (xs.take (j + 1)) (ys.take (j + 1)) = zipP (xs.take j) (ys.take j) ++ [joinS x y 1] := by
  have h1 := (List.getElem?_eq_some_iff.1 hx).1
  have h2 := (List.getElem?_eq_some_iff.1 hy).1
  rw [take_snoc hx, take_snoc hy]
  unfold zipP
  rw [List.zipWith_append (by rw [List.length_take, List.length_take]; omega)]
  rfl
theorem zip_len {xs ys : List (List It)} {n : Nat} (hx : xs.length = n) (hy : ys.length = n) (j : Nat) (hj : j ≤ n) : (zipP (xs.take j) (ys.take j)).length = j := by
  unfold zipP
  rw [List.length_zipWith, List.length_take, List.length_take]
  omega
theorem zip_mem {N : Nat} : ∀ {xs ys : List (List It)}, (∀ x ∈ xs, x.length ≤ N) → (∀ y ∈ ys, y.length ≤ N) → ∀ b ∈ zipP xs ys, b.length ≤ N + N
  | [], ys, hx, hy, b, hb => by cases ys <;> cases hb
  | x :: xs, [], hx, hy, b, hb => by cases hb
  | x :: xs, y :: ys, hx, hy, b, hb => by
    rcases List.mem_cons.1 (show b ∈ joinS x y 1 :: zipP xs ys from hb) with rfl | hb
    · have := joinS_lenA x y 1
      have := hx x List.mem_cons_self
      have := hy y List.mem_cons_self
      omega
    · exact zip_mem (fun z hz => hx z (List.mem_cons_of_mem _ hz)) (fun z hz => hy z (List.mem_cons_of_mem _ hz)) b hb
end Go.Proofs.Ytbglfaomebokhaa
