/- Contract of backwashref02.Apply. -/
import Derived.Test.YtfdgeomomafnbaaRef2b
import Derived.Test.YtfdgeomomafnbaaHop9
import Derived.Test.YtfdgeomomafnbaaOwnF
namespace Go.Proofs.Ytfdgeomomafnbaa
set_option linter.unusedSimpArgs false
set_option linter.unusedVariables false
open Go.RowKit

/-- The numbers of the first places. -/
def upl (f : Nat → Int) : Nat → List Int
  | 0 => []
  | n + 1 => upl f n ++ [f n]
theorem upl_len (f : Nat → Int) : ∀ n, (upl f n).length = n
  | 0 => rfl
  | n + 1 => by simp [upl, upl_len f n]
theorem upl_get (f : Nat → Int) {j : Nat} : ∀ {n : Nat}, j < n → (upl f n)[j]? = some (f j)
  | 0, h => absurd h (by omega)
  | n + 1, h => by
    have hl := upl_len f n
    by_cases hj : j = n
    · subst hj; simp [upl, hl]
    · rw [upl, List.getElem?_append_left (by omega)]; exact upl_get f (by omega)
/-- Pairs, and numbers, that lie in a world's block. -/
def PC (w : World) (g n : Nat) (o v : Nat → Int) : Prop := ∀ j, j < n → w.cell? ⟨g, j * 2, none⟩ = some (.int .i64 (o j)) ∧ w.cell? ⟨g, j * 2 + 1, none⟩ = some (.int .i64 (v j))
def LC (w : World) (g n : Nat) (f : Nat → Int) : Prop := ∀ j, j < n → w.cell? ⟨g, j, none⟩ = some (.int .i64 (f j))
theorem PC.add {w : World} {x : Inc} {g n : Nat} {o v : Nat → Int} (h : PC (ext w x) g n o v) (z : Inc) : PC (ext w (x.add z)) g n o v := fun j hj => ⟨cell_add (h j hj).1 z, cell_add (h j hj).2 z⟩
theorem LC.add {w : World} {x : Inc} {g n : Nat} {f : Nat → Int} (h : LC (ext w x) g n f) (z : Inc) : LC (ext w (x.add z)) g n f := fun j hj => cell_add (h j hj) z
theorem PC.ext {w w' : World} {g n : Nat} {o v : Nat → Int} (h : PC w g n o v) (hx : Ext w w') : PC w' g n o v := by
  obtain ⟨z, rfl⟩ := hx
  exact fun j hj => ⟨by rw [cell_ext_a _ _ _ (World.block_lt_of_cell? _ _ (h j hj).1)]; exact (h j hj).1, by rw [cell_ext_a _ _ _ (World.block_lt_of_cell? _ _ (h j hj).2)]; exact (h j hj).2⟩
theorem LC.ext {w w' : World} {g n : Nat} {f : Nat → Int} (h : LC w g n f) (hx : Ext w w') : LC w' g n f := by
  obtain ⟨z, rfl⟩ := hx
  exact fun j hj => by rw [cell_ext_a _ _ _ (World.block_lt_of_cell? _ _ (h j hj))]; exact h j hj
theorem own_ne {w : World} {B e k n b : Nat} {v : Value} {xs : List Value} (h : w.ownsRow B e k v n xs) (hb : b < B) : v.ownBlock ≠ some b := by
  intro hv
  have := (h.lt b hv).1
  omega
theorem PC.grown {w w' : World} {g n B e k m : Nat} {o f : Nat → Int} {v : Value} {xs : List Value} (h : PC w g n o f) (hgr : w.grownBy w' v.ownBlock) (hown : w.ownsRow B e k v m xs) (hb : g < B) : PC w' g n o f :=
  fun j hj => ⟨hgr.cell (h j hj).1 (own_ne hown hb).symm, hgr.cell (h j hj).2 (own_ne hown hb).symm⟩
theorem LC.grown {w w' : World} {g n B e k m : Nat} {f : Nat → Int} {v : Value} {xs : List Value} (h : LC w g n f) (hgr : w.grownBy w' v.ownBlock) (hown : w.ownsRow B e k v m xs) (hb : g < B) : LC w' g n f :=
  fun j hj => hgr.cell (h j hj) (own_ne hown hb).symm
theorem own_PC {w : World} {b g n cap : Nat} {e : TypeId} {o v : Nat → Int} (h : w.ownsRow b e 2 (.slice (some ⟨g, 0, none⟩) n cap) n (prs o v n)) : PC w g n o v := fun _ hj => prs_cells h hj
theorem own_LC {w : World} {b g n cap : Nat} {e : TypeId} {f : Nat → Int} (h : w.ownsRow b e 1 (.slice (some ⟨g, 0, none⟩) n cap) n (ints (upl f n))) : LC w g n f := fun j hj => by
  obtain ⟨b', off, hb, hc⟩ := (own_rd h).cells (by omega)
  obtain ⟨rfl, rfl⟩ : g = b' ∧ 0 = off := by simpa using hb
  have := hc j (.int .i64 (f j)) (by simp [ints, upl_get f hj])
  rwa [Nat.zero_add] at this

theorem of_upl (f : Nat → Int) (n g cap : Nat) (w : World) (h1 : 1 ≤ n) (h4 : n ≤ 4) (hg : g < w.heap.size) (hc : LC w g n f) :
    Calls Try.prog 45 #[.slice (some ⟨g, 0, none⟩) n cap] w fun r w' => r = .returned (.tuple #[tv (ofT (upl f n)), .bool (ofB (upl f n))]) ∧ Ext w w' := by
  obtain rfl | rfl | rfl | rfl : n = 1 ∨ n = 2 ∨ n = 3 ∨ n = 4 := by omega
  · exact of_1 (f 0) g 0 cap w hg (hc 0 (by decide))
  · exact of_2 (f 0) (f 1) g 0 cap w hg (hc 0 (by decide)) (hc 1 (by decide))
  · exact of_3 (f 0) (f 1) (f 2) g 0 cap w hg (hc 0 (by decide)) (hc 1 (by decide)) (hc 2 (by decide))
  · exact of_4 (f 0) (f 1) (f 2) (f 3) g 0 cap w hg (hc 0 (by decide)) (hc 1 (by decide)) (hc 2 (by decide)) (hc 3 (by decide))

/-- What a step gives at a timestamp, place by place. -/
def outA (x : Hp) (t : Tm) (j : Nat) : Int := ptV x j + if (j : Int) < x.k then t.at j else 0

theorem tmOf_upl (f : Nat → Int) (n : Nat) (h1 : 1 ≤ n) (h4 : n ≤ 4) : tmOf (upl f n) = ⟨n, f 0, if 1 < n then f 1 else 0, if 2 < n then f 2 else 0, if 3 < n then f 3 else 0⟩ := by
  obtain rfl | rfl | rfl | rfl : n = 1 ∨ n = 2 ∨ n = 3 ∨ n = 4 := by omega
  all_goals simp [upl, tmOf]
theorem at_cAt (t : Tm) (i : Int) : t.at i = cAt t.a t.b t.c t.e i := rfl
theorem outA_ap (x : Hp) (t : Tm) (hx : hopB x = true) (n : Nat) (hn : x.k + x.l = n) : tmOf (upl (outA x t) n) = apT x t := by
  have bx := hopB_bd hx
  rw [tmOf_upl _ n (by omega) (by omega)]
  have key : ∀ i : Nat, i < 4 → (if i < n then outA x t i else 0) = apC x t i := by
    intro i hi
    unfold outA apC ptV atV
    rw [at_cAt]
    by_cases h1 : (i : Int) < x.k
    · rw [if_pos (by omega), if_pos h1, if_pos h1, if_pos h1]; omega
    · rw [if_neg h1, if_neg h1, if_neg h1]
      by_cases h2 : i < n
      · rw [if_pos h2, if_pos (by omega)]; omega
      · rw [if_neg h2, if_neg (by omega)]
  have k0 := key 0 (by decide)
  have k1 := key 1 (by decide)
  have k2 := key 2 (by decide)
  have k3 := key 3 (by decide)
  rw [if_pos (by omega)] at k0
  rw [k0, k1, k2, k3]
  unfold apT
  rw [hn]
  rfl
theorem ref_ap (x : Hp) (t : Tm) (hx : hopB x = true) (ht : rightB t = true) (hf : t.d = x.f) (n : Nat) (hn : x.k + x.l = n) : ofT (upl (outA x t) n) = apR x t ∧ ofB (upl (outA x t) n) = apOk x t := by
  have e := outA_ap x t hx n hn
  unfold ofT ofB apR apOk
  rw [e, hx, ht, hf]
  simp
theorem ap_off (x : Hp) (t : Tm) (h : hopB x = false ∨ rightB t = false ∨ t.d ≠ x.f) : apR x t = tz ∧ apOk x t = false := by
  have : apOk x t = false := by
    unfold apOk
    rcases h with h | h | h
    · simp [h]
    · simp [h]
    · simp [h]
  exact ⟨by unfold apR; rw [this]; rfl, this⟩
end Go.Proofs.Ytfdgeomomafnbaa
