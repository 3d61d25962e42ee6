/- Chain: slices.DeleteFunc in a row of the call's own. -/
import Derived.Test.YtmngjifcgfnogaaChD
namespace Go.Proofs.Ytmngjifcgfnogaa
set_option linter.unusedSimpArgs false
set_option linter.unusedVariables false
set_option maxRecDepth 100000
open Go.RowKit

theorem own_of_extY {w w' : World} {b : Nat} {e : TypeId} {size n : Nat} {v : Value} {xs : List Value} (h : w.ownsRow b e size v n xs) (hx : Ext w w') : w'.ownsRow b e size v n xs := by
  obtain ⟨z, rfl⟩ := hx
  exact own_ext h z
theorem Ext.grows {w w' : World} (hx : Ext w w') (r : Option Nat) : w.grownBy w' r := by
  obtain ⟨z, rfl⟩ := hx
  exact ⟨rfl, rfl, rfl, by simp, fun k hk _ => ext_get w z k hk⟩
theorem grown_trans {w w1 w' : World} {r : Option Nat} (g1 : w.grownBy w1 r) (g2 : w1.grownBy w' r) : w.grownBy w' r :=
  ⟨g2.os.trans g1.os, g2.tape.trans g1.tape, g2.output.trans g1.output, Nat.le_trans g1.size g2.size, fun k hk hne => (g2.block k (Nat.lt_of_lt_of_le hk g1.size) hne).trans (g1.block k hk hne)⟩
theorem Grows.of_ext {w w1 w' : World} {base : Nat} {v : Value} {l : List Tm} {e : Ending} (h : Grows w1 base v l e w') (hx : Ext w w1) : Grows w base v l e w' := by
  obtain ⟨b, c, he, hg, ho, hat⟩ := h
  have g1 := Ext.grows hx v.ownBlock
  exact ⟨b, c, he, grown_trans g1 hg, ho, hat.imp id (fun h k hk => Nat.le_trans g1.size (h k hk))⟩
theorem grows_same {w w' : World} {base n c : Nat} {a : Option Addr} {l : List Tm} (hl : l.length = n) (h : w.ownsRow base 47 5 (.slice a n c) n (tms l)) (hx : Ext w w') : Grows w base (.slice a n c) l (.returned (.slice a n c)) w' := by
  subst hl
  exact ⟨a, c, rfl, Ext.grows hx _, own_of_extY h hx, .inl rfl⟩
theorem BoxT.grown {w w' : World} {p g : Nat} {t : Tm} (h : BoxT w p t) (hg : w.grownBy w' (some g)) (hne : p ≠ g) : BoxT w' p t := by
  have hb : w'.heap[p]? = w.heap[p]? := hg.block p (World.block_lt_of_cell? _ _ h.1) (by simp; exact hne)
  obtain ⟨h0, h1, h2, h3, h4⟩ := h
  have k : ∀ j, w'.cell? ⟨p, j, none⟩ = w.cell? ⟨p, j, none⟩ := fun j => World.cell?_of_block hb
  exact ⟨(k 0).trans h0, (k 1).trans h1, (k 2).trans h2, (k 3).trans h3, (k 4).trans h4⟩
/-- How far the deletion is. -/
def DelI (w : World) (base g n c : Nat) (l : List Tm) (P : Tm → Bool) (i j : Nat) (wr : World) : Prop :=
  ∃ ys : List Tm, w.grownBy wr (some g) ∧ wr.ownsRow base 47 5 (.slice (some ⟨g, 0, none⟩) n c) n (tms ys) ∧ ys.length = n ∧ ys.take i = (l.take j).filter (fun x => !P x) ∧ ys.drop j = l.drop j
theorem DelI.on {w : World} {base g n c i j : Nat} {l : List Tm} {P : Tm → Bool} {wr wr' : World} (h : DelI w base g n c l P i j wr) (hx : Ext wr wr') : DelI w base g n c l P i j wr' := by
  obtain ⟨ys, h1, h2, h3, h4, h5⟩ := h
  exact ⟨ys, grown_trans h1 (Ext.grows hx _), own_of_extY h2 hx, h3, h4, h5⟩
theorem drop_get {l ys : List Tm} {j : Nat} {x : Tm} (h : ys.drop j = l.drop j) (hx : ys[j]? = some x) : l[j]? = some x := by
  have := congrArg (fun z => z[0]?) h
  simp only [List.getElem?_drop, Nat.add_zero] at this
  rw [← this]
  exact hx
theorem drop_more {l ys : List Tm} {j : Nat} (h : ys.drop j = l.drop j) : ys.drop (j + 1) = l.drop (j + 1) := by
  have := congrArg (List.drop 1) h
  simpa [List.drop_drop, Nat.add_comm] using this
theorem DelI.skip {w : World} {base g n c i j : Nat} {l : List Tm} {P : Tm → Bool} {wr : World} {x : Tm} {ys : List Tm} (h1 : w.grownBy wr (some g)) (h2 : wr.ownsRow base 47 5 (.slice (some ⟨g, 0, none⟩) n c) n (tms ys)) (h3 : ys.length = n) (h4 : ys.take i = (l.take j).filter (fun x => !P x)) (h5 : ys.drop j = l.drop j) (hx : ys[j]? = some x) (hp : P x = true) : DelI w base g n c l P i (j + 1) wr := by
  refine ⟨ys, h1, h2, h3, ?_, drop_more h5⟩
  rw [List.take_add_one, drop_get h5 hx, Option.toList_some, List.filter_append, h4]
  simp [hp]
theorem tms_set : ∀ (l : List Tm) (i : Nat) (x : Tm), i < l.length → ((((((tms l).set (i * 5) (.int .i64 x.d)).set (i * 5 + 1) (.int .i64 x.a)).set (i * 5 + 2) (.int .i64 x.b)).set (i * 5 + 3) (.int .i64 x.c)).set (i * 5 + 4) (.int .i64 x.e)) = tms (l.set i x)
  | [], i, x, h => absurd h (Nat.not_lt_zero i)
  | a :: l, 0, x, h => rfl
  | a :: l, i + 1, x, h => by
    have := tms_set l i x (by simpa using h)
    rw [show (i + 1) * 5 = i * 5 + 1 + 1 + 1 + 1 + 1 by omega, show i * 5 + 1 + 1 + 1 + 1 + 1 + 1 = (i * 5 + 1) + 1 + 1 + 1 + 1 + 1 by omega, show i * 5 + 1 + 1 + 1 + 1 + 1 + 2 = (i * 5 + 2) + 1 + 1 + 1 + 1 + 1 by omega, show i * 5 + 1 + 1 + 1 + 1 + 1 + 3 = (i * 5 + 3) + 1 + 1 + 1 + 1 + 1 by omega, show i * 5 + 1 + 1 + 1 + 1 + 1 + 4 = (i * 5 + 4) + 1 + 1 + 1 + 1 + 1 by omega]
    simp only [tms, List.set_cons_succ, this]
theorem own_put {w : World} {b g k n c off : Nat} {e : TypeId} {xs : List Value} (h : w.ownsRow b e k (.slice (some ⟨g, 0, none⟩) n c) n xs) (u : Value) : (w.setCell ⟨g, off, none⟩ u).ownsRow b e k (.slice (some ⟨g, 0, none⟩) n c) n (xs.set off u) := by
  obtain ⟨-, hb, hnc, hcm, hlen, cur, hg, hcs, htake⟩ := own_parts h
  refine ⟨by rw [List.length_set, hlen], .inr ⟨g, c, cur.setIfInBounds off u, rfl, hb, ?_, hnc, hcm, by rw [Array.size_setIfInBounds, hcs], ?_⟩⟩
  · simp [World.setCell, Array.getElem?_modify, hg]
  · rw [Array.toList_setIfInBounds, List.take_set, htake]
theorem put_grown (w : World) (g off : Nat) (u : Value) : w.grownBy (w.setCell ⟨g, off, none⟩ u) (some g) := by
  refine ⟨rfl, rfl, rfl, by rw [World.size_setCell]; exact Nat.le_refl _, fun k hk hne => ?_⟩
  simp only [World.setCell, Array.getElem?_modify]
  rw [if_neg (fun e => hne (by rw [e]))]
theorem DelI.keep {w : World} {base g n c i j : Nat} {l : List Tm} {P : Tm → Bool} {wr : World} {x : Tm} {ys : List Tm} (hij : i < j) (h1 : w.grownBy wr (some g)) (h2 : wr.ownsRow base 47 5 (.slice (some ⟨g, 0, none⟩) n c) n (tms ys)) (h3 : ys.length = n) (h4 : ys.take i = (l.take j).filter (fun x => !P x)) (h5 : ys.drop j = l.drop j) (hx : ys[j]? = some x) (hp : P x = false) :
    DelI w base g n c l P (i + 1) (j + 1) (((((wr.setCell ⟨g, i * 5, none⟩ (.int .i64 x.d)).setCell ⟨g, i * 5 + 1, none⟩ (.int .i64 x.a)).setCell ⟨g, i * 5 + 2, none⟩ (.int .i64 x.b)).setCell ⟨g, i * 5 + 3, none⟩ (.int .i64 x.c)).setCell ⟨g, i * 5 + 4, none⟩ (.int .i64 x.e)) := by
  have hj := (List.getElem?_eq_some_iff.1 hx).1
  refine ⟨ys.set i x, grown_trans (grown_trans (grown_trans (grown_trans (grown_trans h1 (put_grown _ _ _ _)) (put_grown _ _ _ _)) (put_grown _ _ _ _)) (put_grown _ _ _ _)) (put_grown _ _ _ _), ?_, by rw [List.length_set, h3], ?_, ?_⟩
  · rw [← tms_set _ _ _ (by omega)]
    exact own_put (own_put (own_put (own_put (own_put h2 _) _) _) _) _
  · rw [List.take_add_one, List.take_add_one, drop_get h5 hx, Option.toList_some, List.filter_append, ← h4, List.getElem?_set_self (by omega), List.take_set_of_le (Nat.le_refl _)]
    simp [hp]
  · rw [List.drop_set_of_lt (by omega)]
    exact drop_more h5
theorem idx_some {P : Tm → Bool} : ∀ {l : List Tm}, l.any P = true → ∃ k x, idxI P l = ((k : Nat) : Int) ∧ l[k]? = some x ∧ P x = true ∧ (∀ j y, j < k → l[j]? = some y → P y = false) := by
  intro l h
  unfold idxI
  rw [if_pos h]
  refine ⟨idxN P l, ?_⟩
  have key : ∀ l : List Tm, l.any P = true → ∃ x, l[idxN P l]? = some x ∧ P x = true ∧ (∀ j y, j < idxN P l → l[j]? = some y → P y = false) := by
    intro l
    induction l with
    | nil => intro h; simp at h
    | cons a l ih =>
      intro h
      unfold idxN
      cases ha : P a
      · rw [if_neg (by decide)]
        obtain ⟨x, h1, h2, h3⟩ := ih (by simpa [ha] using h)
        refine ⟨x, by simpa using h1, h2, fun j y hj hy => ?_⟩
        cases j with
        | zero => obtain rfl : a = y := by simpa using hy
                  exact ha
        | succ j => exact h3 j y (by omega) (by simpa using hy)
      · exact ⟨a, rfl, ha, fun j y hj => absurd hj (Nat.not_lt_zero j)⟩
  obtain ⟨x, h1, h2, h3⟩ := key l h
  exact ⟨x, rfl, h1, h2, h3⟩
theorem DelI.start {w : World} {base g n c k : Nat} {l : List Tm} {P : Tm → Bool} {x : Tm} (h2 : w.ownsRow base 47 5 (.slice (some ⟨g, 0, none⟩) n c) n (tms l)) (h3 : l.length = n) (hx : l[k]? = some x) (hp : P x = true) (hb : ∀ j y, j < k → l[j]? = some y → P y = false) : DelI w base g n c l P k (k + 1) w := by
  refine ⟨l, Ext.grows (Ext.refl w) _, h2, h3, ?_, rfl⟩
  rw [List.take_add_one, hx, Option.toList_some, List.filter_append]
  have : (l.take k).filter (fun x => !P x) = l.take k := by
    rw [List.filter_eq_self]
    intro y hy
    obtain ⟨j, hj⟩ := List.getElem?_of_mem hy
    rw [List.getElem?_take] at hj
    split at hj
    · rename_i hjk
      rw [hb j y hjk hj]; rfl
    · cases hj
  rw [this]
  simp [hp]
theorem zero_cells (m : Nat) : (Builtin.zeroCells (Value.agg #[.int .i64 0, .int .i64 0, .int .i64 0, .int .i64 0, .int .i64 0]).cells m).toList = List.replicate (m * 5) (Value.int .i64 0) := by
  apply List.ext_getElem?
  intro q
  simp only [Builtin.zeroCells, Array.toList_map, List.getElem?_map, List.getElem?_replicate]
  have hs : (Value.agg #[.int .i64 0, .int .i64 0, .int .i64 0, .int .i64 0, .int .i64 0]).cells.size = 5 := rfl
  rw [hs, Array.toList_range]
  by_cases hq : q < m * 5
  · rw [if_pos hq, List.getElem?_range hq, Option.map_some]
    have h5 : q % 5 = 0 ∨ q % 5 = 1 ∨ q % 5 = 2 ∨ q % 5 = 3 ∨ q % 5 = 4 := by omega
    rcases h5 with h | h | h | h | h <;> rw [h] <;> rfl
  · rw [if_neg hq, List.getElem?_eq_none (by simp; omega)]
    rfl
theorem time_zero (w : World) : (zeroValue 47).run Try.prog w = .ok (.agg #[.int .i64 0, .int .i64 0, .int .i64 0, .int .i64 0, .int .i64 0]) w := by rfl
theorem run_clear_tms (w : World) (ty : TypeId) (g d m c : Nat) (cur : Array Value) (hg : w.heap[g]? = some (.cells cur 47 (0, 0))) (hm : 0 < m) (hfit : d + m * 5 ≤ cur.size) :
    (Builtin.clear_ #[38] ty #[.slice (some ⟨g, d, none⟩) m c]).run Try.prog w = .ok (.tuple #[]) (w.setRow g (cur.toList.take d ++ List.replicate (m * 5) (Value.int .i64 0) ++ cur.toList.drop (d + m * 5)).toArray) := by
  obtain ⟨m, rfl⟩ : ∃ m', m = m' + 1 := ⟨m - 1, by omega⟩
  have hst := run_storeCells_at Try.prog g d 47 (List.replicate ((m + 1) * 5) (Value.int .i64 0)) 0 cur w hg (by simpa using hfit) (fun v hv => by rw [List.eq_of_mem_replicate hv]; rfl)
  simp only [Nat.add_zero, List.length_replicate] at hst
  simp [Builtin.clear_, run_underlying Try.underlying38, time_zero, zero_cells, hst]
theorem DelI.done {w : World} {base g n c i j : Nat} {l : List Tm} {P : Tm → Bool} {wr : World} (h : DelI w base g n c l P i j wr) (hij : i < j) (hjn : j = n) (hl : l.length = n) (ty : TypeId) (c' : Nat) :
    ∃ W, (Builtin.clear_ #[38] ty #[.slice (some ⟨g, i * 5, none⟩) (n - i) c']).run Try.prog wr = .ok (.tuple #[]) W ∧ Grows w base (.slice (some ⟨g, 0, none⟩) n c) (l.filter (fun x => !P x)) (.returned (.slice (some ⟨g, 0, none⟩) i c)) W := by
  obtain ⟨ys, h1, h2, h3, h4, h5⟩ := h
  obtain ⟨-, hb, hnc, hcm, hlen, cur, hg, hcs, htake⟩ := own_parts h2
  have hfit : i * 5 + (n - i) * 5 ≤ cur.size := by rw [hcs]; omega
  refine ⟨_, run_clear_tms wr ty g (i * 5) (n - i) c' cur hg (by omega) hfit, ?_⟩
  have hf : l.filter (fun x => !P x) = ys.take i := by rw [h4, List.take_of_length_le (by omega)]
  have hfl : (l.filter (fun x => !P x)).length = i := by rw [hf, List.length_take]; omega
  refine ⟨_, c, by rw [hfl], grown_trans h1 (setRow_grown _ _ _), ?_, .inl rfl⟩
  rw [hfl, hf]
  refine ⟨by rw [tms_length, List.length_take]; omega, .inr ⟨g, c, _, rfl, hb, setRow_get wr g cur _ _ hg, by omega, hcm, ?_, ?_⟩⟩
  · simp only [List.size_toArray, List.length_append, List.length_take, List.length_drop, List.length_replicate, Array.length_toList, hcs]
    omega
  · rw [tms_take, ← htake]
    have : (cur.toList.take (i * 5)).length = i * 5 := by rw [List.length_take, Array.length_toList, hcs]; omega
    show List.take (i * 5) (List.take (i * 5) cur.toList ++ List.replicate ((n - i) * 5) (Value.int .i64 0) ++ List.drop (i * 5 + (n - i) * 5) cur.toList) = _
    rw [List.append_assoc, List.take_append_of_le_length (by omega), List.take_take, List.take_take, Nat.min_self, Nat.min_eq_left (by omega)]
set_option maxHeartbeats 4000000 in
theorem del_some (l : List Tm) (g n c base p : Nat) (t : Tm) (w : World) (h : w.ownsRow base 47 5 (.slice (some ⟨g, 0, none⟩) n c) n (tms l)) (hl : l.length = n) (hn : n ≤ 1073741823) (hp : BoxT w p t) (hne : p ≠ g) (hany : l.any (fun x => leB t x) = true) :
    Calls Try.prog 45 #[.slice (some ⟨g, 0, none⟩) n c, .func (Fn.func 46) #[] #[.pointer (some ⟨p, 0, none⟩)]] w (Grows w base (.slice (some ⟨g, 0, none⟩) n c) (l.filter (fun x => !leB t x))) := by
  have IX := Lib.hid (fun W (hx : Ext w W) => index_of l (some ⟨g, 0, none⟩) c p t W (by rw [hl]; exact (own_rd h).of_ext hx) (hp.on hx) (by omega))
  have CF := Lib.hid (fun x W (hb : BoxT W p t) => of1_any x t p W hb)
  obtain ⟨P, hP⟩ : ∃ P : Tm → Bool, P = (fun x => leB t x) := ⟨_, rfl⟩
  have hpx : ∀ x, leB t x = P x := fun x => by rw [hP]
  have hP2 : (fun x => !leB t x) = (fun x => !P x) := by rw [hP]
  rw [← hP] at hany
  rw [hP2]
  rw [← hP] at IX
  simp only [hpx] at CF
  obtain ⟨k, x0, hk, hx0, hPx0, hbefore⟩ := idx_some hany
  have hkn : k < n := by have := (List.getElem?_eq_some_iff.1 hx0).1; omega
  rw [hk, hl] at IX
  have hstart : DelI w base g n c l P k (k + 1) w := DelI.start h hl hx0 hPx0 hbefore
  have H0 := Lib.hid hstart
  have HP := Lib.hid hp
  have HB := Lib.hid hbefore
  have HL := Lib.hid hl
  have e0 : ((k : Int) == -1) = false := by simp
  have ek : wrap64 ((k : Int) + 1) = ((k + 1 : Nat) : Int) := (IntWalk.wrap64_in _ ⟨by omega, by omega⟩).trans (by omega)
  clear h hl hp hP hpx hP2 hany hk hx0 hPx0 hbefore hstart
  go_enter Try.func45, Try.ntmps45
  go_wp2_with (go_at_call 77; refine (IX.out _ (by (repeat' (first | with_reducible exact Ext.refl _ | with_reducible refine Ext.ext ?_ _ | with_reducible refine Ext.alloc ?_ _ | with_reducible refine Ext.drew ?_ | with_reducible refine Ext.drewN ?_ _ | with_reducible assumption)))).mono ?_; rintro e w' ⟨rfl, x1, rfl⟩)
  go_loopw [5, 6] (fun si sj wr => ∃ i j : Nat, i < j ∧ j ≤ n ∧ si = .int .i64 i ∧ sj = .int .i64 j ∧ DelI w base g n c l P i j wr) (fun _ sj _ => n - (intOf sj).toNat)
  case atStart => exact ⟨k, k + 1, by omega, by omega, rfl, congrArg (Value.int .i64) (by omega), H0.out.on (by (repeat' (first | with_reducible exact Ext.refl _ | with_reducible refine Ext.ext ?_ _ | with_reducible refine Ext.alloc ?_ _ | with_reducible refine Ext.drew ?_ | with_reducible refine Ext.drewN ?_ _ | with_reducible assumption)))⟩
  case round =>
    obtain ⟨i, j, hij, hjn, rfl, rfl, hI⟩ := hrel
    have HI := Lib.hid hI
    clear hI
    by_cases hlt : j < n
    · obtain ⟨ys, hgr, hown, hyl, hyt, hyd⟩ := HI.out
      obtain ⟨⟨xd, xa, xb, xc, xe⟩, hx⟩ : ∃ x, ys[j]? = some x := ⟨ys[j]'(by omega), List.getElem?_eq_getElem _⟩
      obtain ⟨c0, c1, c2, c3, c4⟩ := tm_at (own_rd hown) j _ hx
      rw [Nat.zero_add] at c0 c1 c2 c3 c4
      dsimp only at c0 c1 c2 c3 c4
      obtain ⟨⟨yd, ya, yb, yc, ye⟩, hy⟩ : ∃ x, ys[i]? = some x := ⟨ys[i]'(by omega), List.getElem?_eq_getElem _⟩
      obtain ⟨d0, d1, d2, d3, d4⟩ := tm_at (own_rd hown) i _ hy
      rw [Nat.zero_add] at d0 d1 d2 d3 d4
      dsimp only at d0 d1 d2 d3 d4
      clear hy
      have i1 : (0 : Int) ≤ j := by omega
      have i2 : (j : Int) < n := by omega
      haveI : LtSz g wr.heap.size := ⟨World.block_lt_of_cell? _ _ c0⟩
      have i3 : (0 : Int) ≤ i := by omega
      have i4 : (i : Int) < n := by omega
      have ew : wrap64 ((j : Int) + 1) = ((j + 1 : Nat) : Int) := (IntWalk.wrap64_in _ ⟨by omega, by omega⟩).trans (by omega)
      have HPB := Lib.hid (fun W (hx : Ext wr W) => (HP.out.grown hgr hne).on hx)
      have hfz : ∀ q, wr.frozen? ⟨g, q, none⟩ = false := fun q => by
        obtain ⟨-, -, -, -, -, cur, hg, -, -⟩ := own_parts hown
        exact frozen_row hg
      have HH := Lib.hid (And.intro hgr (And.intro hown (And.intro hyl (And.intro hyt hyd))))
      have HX := Lib.hid hx
      clear hgr hown hyl hyt hyd hx
      have CX := Lib.hid (fun W hb => CF.out ⟨xd, xa, xb, xc, xe⟩ W hb)
      dsimp only at CX
      cases hpx : P ⟨xd, xa, xb, xc, xe⟩
      · rw [hpx] at CX
        have ei : wrap64 ((i : Int) + 1) = ((i + 1 : Nat) : Int) := (IntWalk.wrap64_in _ ⟨by omega, by omega⟩).trans (by omega)
        have EI := Lib.hid ei
        clear ei
        have HPX := Lib.hid hpx
        clear hpx
        go_wp2_with (go_at_call 46; (with_reducible refine (CX.out _ (by refine HPB.out _ ?_; (repeat' (first | with_reducible exact Ext.refl _ | with_reducible refine Ext.ext ?_ _ | with_reducible refine Ext.alloc ?_ _ | with_reducible refine Ext.drew ?_ | with_reducible refine Ext.drewN ?_ _ | with_reducible assumption)))).mono ?_); rintro e w' ⟨rfl, x2, rfl⟩)
        obtain ⟨k1, k2, k3, k4, k5⟩ := HH.out
        exact ⟨⟨i + 1, j + 1, by omega, by omega, congrArg (Value.int .i64) (by omega), congrArg (Value.int .i64) (by omega), (DelI.keep hij k1 k2 k3 k4 k5 HX.out HPX.out).on (by (repeat' (first | with_reducible exact Ext.refl _ | with_reducible refine Ext.ext ?_ _ | with_reducible refine Ext.alloc ?_ _ | with_reducible refine Ext.drew ?_ | with_reducible refine Ext.drewN ?_ _ | with_reducible assumption)))⟩, by simp only [intOf]; omega⟩
      · rw [hpx] at CX
        have HPX := Lib.hid hpx
        clear hpx
        go_wp2_with (go_at_call 46; (with_reducible refine (CX.out _ (by refine HPB.out _ ?_; (repeat' (first | with_reducible exact Ext.refl _ | with_reducible refine Ext.ext ?_ _ | with_reducible refine Ext.alloc ?_ _ | with_reducible refine Ext.drew ?_ | with_reducible refine Ext.drewN ?_ _ | with_reducible assumption)))).mono ?_); rintro e w' ⟨rfl, x2, rfl⟩)
        obtain ⟨k1, k2, k3, k4, k5⟩ := HH.out
        exact ⟨⟨i, j + 1, by omega, by omega, rfl, congrArg (Value.int .i64) (by omega), (DelI.skip k1 k2 k3 k4 k5 HX.out HPX.out).on (by (repeat' (first | with_reducible exact Ext.refl _ | with_reducible refine Ext.ext ?_ _ | with_reducible refine Ext.alloc ?_ _ | with_reducible refine Ext.drew ?_ | with_reducible refine Ext.drewN ?_ _ | with_reducible assumption)))⟩, by simp only [intOf]; omega⟩
    · obtain rfl : j = n := by omega
      have CL := Lib.hid (fun ty c' => HI.out.done hij rfl HL.out ty c')
      have i3 : (0 : Int) ≤ i := by omega
      have i4 : (i : Int) ≤ j := by omega
      have hjc : j ≤ c := by
        obtain ⟨ys, h1, h2, -⟩ := HI.out
        exact (own_parts h2).2.2.1
      have i5 : (i : Int) ≤ c := by omega
      have q1 : ¬ c = i := by omega
      obtain ⟨W, hr, hG⟩ := CL.out 0 (c - i)
      have HG := Lib.hid hG
      clear hG CL
      go_wp2
      go_returns
      exact HG.out
theorem del_any (l : List Tm) (a : Option Addr) (n c base p : Nat) (t : Tm) (w : World) (h : w.ownsRow base 47 5 (.slice a n c) n (tms l)) (hl : l.length = n) (hn : n ≤ 1073741823) (hp : BoxT w p t) (hne : (Value.slice a n c).ownBlock ≠ some p) :
    Calls Try.prog 45 #[.slice a n c, .func (Fn.func 46) #[] #[.pointer (some ⟨p, 0, none⟩)]] w (Grows w base (.slice a n c) (l.filter (fun x => !leB t x))) := by
  cases hany : l.any (fun x => leB t x)
  · have hf : l.filter (fun x => !leB t x) = l := by
      rw [List.filter_eq_self]
      intro x hx
      rw [List.any_eq_false] at hany
      simpa using hany x hx
    rw [hf]
    have IX := Lib.hid (fun W (hx : Ext w W) => index_of l a c p t W (by rw [hl]; exact (own_rd h).of_ext hx) (hp.on hx) (by omega))
    have hi : idxI (fun x => leB t x) l = -1 := by unfold idxI; rw [hany]; rfl
    rw [hi, hl] at IX
    have H := Lib.hid h
    have HL := Lib.hid hl
    clear h hl hp hany hf hi
    go_enter Try.func45, Try.ntmps45
    go_wp2_with (go_at_call 77; refine (IX.out _ (by (repeat' (first | with_reducible exact Ext.refl _ | with_reducible refine Ext.ext ?_ _ | with_reducible refine Ext.alloc ?_ _ | with_reducible refine Ext.drew ?_ | with_reducible refine Ext.drewN ?_ _ | with_reducible assumption)))).mono ?_; rintro e w' ⟨rfl, x1, rfl⟩)
    go_returns
    exact grows_same HL.out H.out (by (repeat' (first | with_reducible exact Ext.refl _ | with_reducible refine Ext.ext ?_ _ | with_reducible refine Ext.alloc ?_ _ | with_reducible refine Ext.drew ?_ | with_reducible refine Ext.drewN ?_ _ | with_reducible assumption)))
  · obtain ⟨k, x, -, hx, -, -⟩ := idx_some hany
    have := (List.getElem?_eq_some_iff.1 hx).1
    obtain ⟨g, rfl, -⟩ := own_form h (by omega)
    exact del_some l g n c base p t w h hl hn hp (fun e => hne (by rw [e]; rfl)) hany
end Go.Proofs.Ytmngjifcgfnogaa
