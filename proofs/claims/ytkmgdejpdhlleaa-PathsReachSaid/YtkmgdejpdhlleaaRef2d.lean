/- The reference's steps done at timestamps. -/
import Derived.Test.YtkmgdejpdhlleaaRef2a
import Derived.Test.YtkmgdejpdhlleaaHop9
import Derived.Test.YtkmgdejpdhlleaaApp
namespace Go.Proofs.Ytkmgdejpdhlleaa
set_option linter.unusedSimpArgs false
set_option linter.unusedVariables false
set_option maxRecDepth 100000
open Go.RowKit

/-- The numbers of the first places. -/
def upl (f : Nat → Int) : Nat → List Int
  | 0 => []
  | n + 1 => upl f n ++ [f n]
theorem upl_len (f : Nat → Int) : ∀ n, (upl f n).length = n
  | 0 => rfl
  | n + 1 => by simp [upl, upl_len f n]
theorem upl_get (f : Nat → Int) {j : Nat} : ∀ {n : Nat}, j < n → (upl f n)[j]? = some (f j)
  | 0, h => absurd h (by omega)
  | n + 1, h => by
    have hl := upl_len f n
    by_cases hj : j = n
    · subst hj; simp [upl, hl]
    · rw [upl, List.getElem?_append_left (by omega)]; exact upl_get f (by omega)
/-- Pairs, and numbers, that lie in a world's block. -/
def PC (w : World) (g n : Nat) (o v : Nat → Int) : Prop := ∀ j, j < n → w.cell? ⟨g, j * 2, none⟩ = some (.int .i64 (o j)) ∧ w.cell? ⟨g, j * 2 + 1, none⟩ = some (.int .i64 (v j))
def LC (w : World) (g n : Nat) (f : Nat → Int) : Prop := ∀ j, j < n → w.cell? ⟨g, j, none⟩ = some (.int .i64 (f j))
theorem PC.add {w : World} {x : Inc} {g n : Nat} {o v : Nat → Int} (h : PC (ext w x) g n o v) (z : Inc) : PC (ext w (x.add z)) g n o v := fun j hj => ⟨cell_add (h j hj).1 z, cell_add (h j hj).2 z⟩
theorem LC.add {w : World} {x : Inc} {g n : Nat} {f : Nat → Int} (h : LC (ext w x) g n f) (z : Inc) : LC (ext w (x.add z)) g n f := fun j hj => cell_add (h j hj) z
theorem PC.ext {w w' : World} {g n : Nat} {o v : Nat → Int} (h : PC w g n o v) (hx : Ext w w') : PC w' g n o v := by
  obtain ⟨z, rfl⟩ := hx
  exact fun j hj => ⟨by rw [cell_ext_a _ _ _ (World.block_lt_of_cell? _ _ (h j hj).1)]; exact (h j hj).1, by rw [cell_ext_a _ _ _ (World.block_lt_of_cell? _ _ (h j hj).2)]; exact (h j hj).2⟩
theorem LC.ext {w w' : World} {g n : Nat} {f : Nat → Int} (h : LC w g n f) (hx : Ext w w') : LC w' g n f := by
  obtain ⟨z, rfl⟩ := hx
  exact fun j hj => by rw [cell_ext_a _ _ _ (World.block_lt_of_cell? _ _ (h j hj))]; exact h j hj
theorem own_ne {w : World} {B e k n b : Nat} {v : Value} {xs : List Value} (h : w.ownsRow B e k v n xs) (hb : b < B) : v.ownBlock ≠ some b := by
  intro hv
  have := (h.lt b hv).1
  omega
theorem PC.grown {w w' : World} {g n B e k m : Nat} {o f : Nat → Int} {v : Value} {xs : List Value} (h : PC w g n o f) (hgr : w.grownBy w' v.ownBlock) (hown : w.ownsRow B e k v m xs) (hb : g < B) : PC w' g n o f :=
  fun j hj => ⟨hgr.cell (h j hj).1 (own_ne hown hb).symm, hgr.cell (h j hj).2 (own_ne hown hb).symm⟩
theorem LC.grown {w w' : World} {g n B e k m : Nat} {f : Nat → Int} {v : Value} {xs : List Value} (h : LC w g n f) (hgr : w.grownBy w' v.ownBlock) (hown : w.ownsRow B e k v m xs) (hb : g < B) : LC w' g n f :=
  fun j hj => hgr.cell (h j hj) (own_ne hown hb).symm
theorem own_PC {w : World} {b g n cap : Nat} {e : TypeId} {o v : Nat → Int} (h : w.ownsRow b e 2 (.slice (some ⟨g, 0, none⟩) n cap) n (prs o v n)) : PC w g n o v := fun _ hj => prs_cells h hj
theorem own_LC {w : World} {b g n cap : Nat} {e : TypeId} {f : Nat → Int} (h : w.ownsRow b e 1 (.slice (some ⟨g, 0, none⟩) n cap) n (ints (upl f n))) : LC w g n f := fun j hj => by
  obtain ⟨b', off, hb, hc⟩ := (own_rd h).cells (by omega)
  obtain ⟨rfl, rfl⟩ : g = b' ∧ 0 = off := by simpa using hb
  have := hc j (.int .i64 (f j)) (by simp [ints, upl_get f hj])
  rwa [Nat.zero_add] at this

theorem of_upl (f : Nat → Int) (n g cap : Nat) (w : World) (h1 : 1 ≤ n) (h4 : n ≤ 4) (hg : g < w.heap.size) (hc : LC w g n f) :
    Calls Try.prog 143 #[.slice (some ⟨g, 0, none⟩) n cap] w fun r w' => r = .returned (.tuple #[tv (ofT (upl f n)), .bool (ofB (upl f n))]) ∧ Ext w w' := by
  obtain rfl | rfl | rfl | rfl : n = 1 ∨ n = 2 ∨ n = 3 ∨ n = 4 := by omega
  · exact of_1 (f 0) g 0 cap w hg (hc 0 (by decide))
  · exact of_2 (f 0) (f 1) g 0 cap w hg (hc 0 (by decide)) (hc 1 (by decide))
  · exact of_3 (f 0) (f 1) (f 2) g 0 cap w hg (hc 0 (by decide)) (hc 1 (by decide)) (hc 2 (by decide))
  · exact of_4 (f 0) (f 1) (f 2) (f 3) g 0 cap w hg (hc 0 (by decide)) (hc 1 (by decide)) (hc 2 (by decide)) (hc 3 (by decide))

/-- What a step gives at a timestamp, place by place. -/
def outA (x : Hp) (t : Tm) (j : Nat) : Int := ptV x j + if (j : Int) < x.k then t.at j else 0

theorem tmOf_upl (f : Nat → Int) (n : Nat) (h1 : 1 ≤ n) (h4 : n ≤ 4) : tmOf (upl f n) = ⟨n, f 0, if 1 < n then f 1 else 0, if 2 < n then f 2 else 0, if 3 < n then f 3 else 0⟩ := by
  obtain rfl | rfl | rfl | rfl : n = 1 ∨ n = 2 ∨ n = 3 ∨ n = 4 := by omega
  all_goals simp [upl, tmOf]
theorem at_cAt (t : Tm) (i : Int) : t.at i = cAt t.a t.b t.c t.e i := rfl
theorem outA_ap (x : Hp) (t : Tm) (hx : hopB x = true) (n : Nat) (hn : x.k + x.l = n) : tmOf (upl (outA x t) n) = apT x t := by
  have bx := hopB_bd hx
  rw [tmOf_upl _ n (by omega) (by omega)]
  have key : ∀ i : Nat, i < 4 → (if i < n then outA x t i else 0) = apC x t i := by
    intro i hi
    unfold outA apC ptV atV
    rw [at_cAt]
    by_cases h1 : (i : Int) < x.k
    · rw [if_pos (by omega), if_pos h1, if_pos h1, if_pos h1]; omega
    · rw [if_neg h1, if_neg h1, if_neg h1]
      by_cases h2 : i < n
      · rw [if_pos h2, if_pos (by omega)]; omega
      · rw [if_neg h2, if_neg (by omega)]
  have k0 := key 0 (by decide)
  have k1 := key 1 (by decide)
  have k2 := key 2 (by decide)
  have k3 := key 3 (by decide)
  rw [if_pos (by omega)] at k0
  rw [k0, k1, k2, k3]
  unfold apT
  rw [hn]
  rfl
theorem ref_ap (x : Hp) (t : Tm) (hx : hopB x = true) (ht : rightB t = true) (hf : t.d = x.f) (n : Nat) (hn : x.k + x.l = n) : ofT (upl (outA x t) n) = apR x t ∧ ofB (upl (outA x t) n) = apOk x t := by
  have e := outA_ap x t hx n hn
  unfold ofT ofB apR apOk
  rw [e, hx, ht, hf]
  simp
theorem ap_off (x : Hp) (t : Tm) (h : hopB x = false ∨ rightB t = false ∨ t.d ≠ x.f) : apR x t = tz ∧ apOk x t = false := by
  have : apOk x t = false := by
    unfold apOk
    rcases h with h | h | h
    · simp [h]
    · simp [h]
    · simp [h]
  exact ⟨by unfold apR; rw [this]; rfl, this⟩
theorem list_no' {d a b c e : Int} (h : rightB ⟨d, a, b, c, e⟩ = false) : Hid (∀ w, Calls Try.prog 142 #[.agg #[.int .i64 d, .int .i64 a, .int .i64 b, .int .i64 c, .int .i64 e]] w fun r w' => r = .returned (.tuple #[.slice none 0 0, .bool false]) ∧ Ext w w') := Lib.hid (fun w => list_no d a b c e w h)
theorem list_yes' {m : Nat} {a b c e : Int} (h : rightB ⟨m, a, b, c, e⟩ = true) : Hid (∀ w, Calls Try.prog 142 #[.agg #[.int .i64 m, .int .i64 a, .int .i64 b, .int .i64 c, .int .i64 e]] w fun r w' => ∃ g cap x, r = .returned (.tuple #[.slice (some ⟨g, 0, none⟩) m cap, .bool true]) ∧ w' = ext w x ∧
      (ext w x).ownsRow w.heap.size 3 1 (.slice (some ⟨g, 0, none⟩) m cap) m (ints (pre ⟨m, a, b, c, e⟩ 4)) ∧
      ∀ j : Nat, j < m → (ext w x).cell? ⟨g, j, none⟩ = some (.int .i64 (Tm.at ⟨m, a, b, c, e⟩ j))) := Lib.hid (fun w => list_n m a b c e w h)

set_option maxHeartbeats 2000000 in
theorem ref2_ap_no (x : Hp) (d a b c e : Int) (w : World) (h : hopB x = false ∨ rightB ⟨d, a, b, c, e⟩ = false) : Calls Try.prog 99 #[hv x, .agg #[.int .i64 d, .int .i64 a, .int .i64 b, .int .i64 c, .int .i64 e]] w fun r w' => r = .returned (.tuple #[tv tz, .bool false]) ∧ Ext w w' := by
  rw [hv_eq]
  cases hx : hopB x
  · have P1 := parts_no' hx
    cases ht : rightB ⟨d, a, b, c, e⟩
    · have P2 := list_no' ht
      clear h hx ht
      go_enter Try.func99, Try.ntmps99
      go_wp2_with (first | (go_at_call 95; (with_reducible refine (P1.out _).mono ?_); rintro r w' ⟨rfl, ⟨z1, rfl⟩⟩) | (go_at_call 142; (with_reducible refine (P2.out _).mono ?_); rintro r w' ⟨rfl, ⟨z2, rfl⟩⟩))
      go_returns
      exact ⟨rett rfl rfl, by (repeat' (first | with_reducible exact Ext.refl _ | with_reducible refine Ext.ext ?_ _ | with_reducible refine Ext.alloc ?_ _ | with_reducible refine Ext.drew ?_ | with_reducible refine Ext.drewN ?_ _ | with_reducible assumption))⟩
    · obtain ⟨m, rfl⟩ := Int.eq_ofNat_of_zero_le (show 0 ≤ d by have := rightB_d ht; simp only at this; omega)
      have P2 := list_yes' ht
      clear h hx ht
      go_enter Try.func99, Try.ntmps99
      go_wp2_with (first | (go_at_call 95; (with_reducible refine (P1.out _).mono ?_); rintro r w' ⟨rfl, ⟨z1, rfl⟩⟩) | (go_at_call 142; (with_reducible refine (P2.out _).mono ?_); rintro r w' ⟨g2, c2, z2, rfl, rfl, ho2, hc2⟩; have HO2 := Lib.hid ho2; have HC2 := Lib.hid hc2; clear ho2 hc2))
      go_returns
      exact ⟨rett rfl rfl, by (repeat' (first | with_reducible exact Ext.refl _ | with_reducible refine Ext.ext ?_ _ | with_reducible refine Ext.alloc ?_ _ | with_reducible refine Ext.drew ?_ | with_reducible refine Ext.drewN ?_ _ | with_reducible assumption))⟩
  · have ht : rightB ⟨d, a, b, c, e⟩ = false := by simpa [hx] using h
    obtain ⟨n, hn⟩ := Int.eq_ofNat_of_zero_le (show 0 ≤ x.k + x.l by have := hopB_bd hx; omega)
    have P1 := parts_yes' hx hn
    have P2 := list_no' ht
    clear h hx ht hn
    go_enter Try.func99, Try.ntmps99
    go_wp2_with (first | (go_at_call 95; (with_reducible refine (P1.out _).mono ?_); rintro r w' ⟨g1, c1, z1, rfl, rfl, ho1⟩; have HO1 := Lib.hid ho1; clear ho1) | (go_at_call 142; (with_reducible refine (P2.out _).mono ?_); rintro r w' ⟨rfl, ⟨z2, rfl⟩⟩))
    go_returns
    exact ⟨rett rfl rfl, by (repeat' (first | with_reducible exact Ext.refl _ | with_reducible refine Ext.ext ?_ _ | with_reducible refine Ext.alloc ?_ _ | with_reducible refine Ext.drew ?_ | with_reducible refine Ext.drewN ?_ _ | with_reducible assumption))⟩
set_option maxHeartbeats 2000000 in
theorem ref2_ap_ne (x : Hp) (m : Nat) (a b c e : Int) (w : World) (hx : hopB x = true) (ht : rightB ⟨m, a, b, c, e⟩ = true) (n : Nat) (hn : x.k + x.l = n) (h : (m : Int) ≠ x.f) : Calls Try.prog 99 #[hv x, .agg #[.int .i64 (m : Nat), .int .i64 a, .int .i64 b, .int .i64 c, .int .i64 e]] w fun r w' => r = .returned (.tuple #[tv tz, .bool false]) ∧ Ext w w' := by
  rw [hv_eq]
  have P1 := parts_yes' hx hn
  have P2 := list_yes' ht
  have hfb : ((m : Int) != x.f) = true := by simp [h]
  clear hx ht hn h
  go_enter Try.func99, Try.ntmps99
  go_wp2_with (first | (go_at_call 95; (with_reducible refine (P1.out _).mono ?_); rintro r w' ⟨g1, c1, z1, rfl, rfl, ho1⟩; have HO1 := Lib.hid ho1; clear ho1) | (go_at_call 142; (with_reducible refine (P2.out _).mono ?_); rintro r w' ⟨g2, c2, z2, rfl, rfl, ho2, hc2⟩; have HO2 := Lib.hid ho2; have HC2 := Lib.hid hc2; clear ho2 hc2))
  go_returns
  exact ⟨rett rfl rfl, by (repeat' (first | with_reducible exact Ext.refl _ | with_reducible refine Ext.ext ?_ _ | with_reducible refine Ext.alloc ?_ _ | with_reducible refine Ext.drew ?_ | with_reducible refine Ext.drewN ?_ _ | with_reducible assumption))⟩

set_option maxHeartbeats 4000000 in
theorem ref2_ap_in (x : Hp) (m : Nat) (a b c e : Int) (w : World) (hx : hopB x = true) (ht : rightB ⟨m, a, b, c, e⟩ = true) (n : Nat) (hn : x.k + x.l = n) (h : (m : Int) = x.f) :
    Calls Try.prog 99 #[hv x, .agg #[.int .i64 (m : Nat), .int .i64 a, .int .i64 b, .int .i64 c, .int .i64 e]] w fun r w' => r = .returned (.tuple #[tv (ofT (upl (outA x ⟨m, a, b, c, e⟩) n)), .bool (ofB (upl (outA x ⟨m, a, b, c, e⟩) n))]) ∧ Ext w w' := by
  have bx := hopB_bd hx
  have hn1 : 1 ≤ n := by omega
  have hn4 : n ≤ 4 := by omega
  have hw : ∀ j : Nat, j < n → (j : Int) < x.k → wrap64 (ptV x j + Tm.at ⟨m, a, b, c, e⟩ j) = ptV x j + Tm.at ⟨m, a, b, c, e⟩ j := by
    obtain ⟨-, wx, -⟩ := (hopB_iff x).1 hx
    have r := (rightB_iff _).1 ht
    simp only at r
    intro j hj hk
    have hv : ptV x j = hA x j := by unfold ptV atV; rw [if_pos hk]; rfl
    rw [hv]
    have hj4 : j < 4 := by omega
    have b1 := wi_bd wx j (by omega)
    have b2 : 0 ≤ Tm.at ⟨m, a, b, c, e⟩ j ∧ Tm.at ⟨m, a, b, c, e⟩ j ≤ 1048576 := by
      obtain rfl | rfl | rfl | rfl : j = 0 ∨ j = 1 ∨ j = 2 ∨ j = 3 := by omega
      all_goals (simp [Tm.at, cAt]; omega)
    exact IntWalk.wrap64_in _ ⟨by unfold hA; omega, by unfold hA; omega⟩
  have HW := Lib.hid hw
  have hO : ∀ j : Nat, (j : Int) < x.k → ptO x j = j := fun j hj => if_pos hj
  have hO' : ∀ j : Nat, x.k ≤ (j : Int) → ptO x j = -1 := fun j hj => if_neg (by omega)
  have HOO := Lib.hid hO
  have HOO' := Lib.hid hO'
  have HKM : Hid (x.k ≤ m) := Lib.hid (by omega)
  rw [hv_eq]
  have P1 := parts_yes' hx hn
  have P2 := list_yes' ht
  have hfb : ((m : Int) != x.f) = false := by simp [h]
  clear hx ht hn h hw bx hO hO'
  go_enter Try.func99, Try.ntmps99
  go_wp2_with (first | (go_at_call 95; (with_reducible refine (P1.out _).mono ?_); rintro r w' ⟨g1, c1, z1, rfl, rfl, ho1⟩; have HO1 := Lib.hid ho1; clear ho1) | (go_at_call 142; (with_reducible refine (P2.out _).mono ?_); rintro r w' ⟨g2, c2, z2, rfl, rfl, ho2, hc2⟩; have HO2 := Lib.hid ho2; have HC2 := Lib.hid hc2; clear ho2 hc2))
  have c1 := PC.add (own_PC HO1.out) z2
  have c2 : LC _ g2 m (fun j => Tm.at ⟨m, a, b, c, e⟩ j) := HC2.out
  simp only [ext_ext] at c2
  have b1 := (own_lt HO1.out).2
  have b2 := (own_lt HO2.out).2
  simp only [size_ext, Inc.add, List.length_append, World.size_alloc] at b1 b2
  have C1 := Lib.hid c1
  have C2 := Lib.hid c2
  have B1 := Lib.hid b1
  have B2 := Lib.hid b2
  clear c1 c2 b1 b2 HC2
  go_loopw [10, 11] (fun v i wr => ∃ j : Nat, j ≤ n ∧ i = .int .i64 j ∧ (∃ z, wr = ext (((w.alloc (.cells #[.int .i64 x.f, .int .i64 x.k, .int .i64 x.l, .int .i64 x.a, .int .i64 x.b, .int .i64 x.c, .int .i64 x.e, .int .i64 x.p, .int .i64 x.q, .int .i64 x.r, .int .i64 x.s] 82)).alloc (.cells #[.int .i64 m, .int .i64 a, .int .i64 b, .int .i64 c, .int .i64 e] 73)).alloc (.cells #[.int .i64 0, .int .i64 0, .int .i64 0, .int .i64 0, .int .i64 0] 73)) z) ∧
      wr.ownsRow (w.heap.size + 1 + 1 + 1 + z1.hs.length + z2.hs.length) 3 1 v j (ints (upl (outA x ⟨m, a, b, c, e⟩) j)) ∧ PC wr g1 n (ptO x) (ptV x) ∧ LC wr g2 m (fun j => Tm.at ⟨m, a, b, c, e⟩ j) ∧ w.heap.size + 1 + 1 + 1 + z1.hs.length + z2.hs.length ≤ wr.heap.size) (fun _ i _ => n - (intOf i).toNat)
  case atStart => exact ⟨0, by omega, rfl, ⟨_, rfl⟩, World.ownsRow_nil _ _ _ _, C1.out, C2.out, by simp [Inc.add]; omega⟩
  case round =>
    obtain ⟨j, hj, rfl, ⟨z, rfl⟩, hown, hc1, hc2, hsz⟩ := hrel
    have HOWN := Lib.hid hown
    have C1' := Lib.hid hc1
    have C2' := Lib.hid hc2
    have SZ := Lib.hid hsz
    clear hown hc1 hc2 hsz
    by_cases hlt : j < n
    · obtain ⟨d1, d2⟩ := C1'.out j hlt
      have i1 : (0 : Int) ≤ j := by omega
      have i2 : (j : Int) < n := by omega
      by_cases hk : (j : Int) < x.k
      · have d3 := C2'.out j (by have := HKM.out; omega)
        have i3 : (j : Int) < m := by have := HKM.out; omega
        rw [HOO.out j hk] at d1
        have hwr := HW.out j hlt hk
        have ho : outA x ⟨m, a, b, c, e⟩ j = ptV x j + Tm.at ⟨m, a, b, c, e⟩ j := by unfold outA; rw [if_pos hk]
        have HO := Lib.hid ho
        clear ho hk
        simp only at d3
        generalize ptV x j = v1 at *
        generalize Tm.at ⟨m, a, b, c, e⟩ j = v2 at *
        go_wp2_with (at_builtin; refine wpList_pushF rfl _ _ 47 rfl 3 (.int .i64 0) 1 8 Try.underlying47 info_int rfl (by decide) _ z _ _ _ _ HOWN.out _ 1 1 #[.int .i64 _] rfl rfl rfl (by simp [Value.oneCell']) (by decide) (by simp) (by simp [maxLen]; omega) (by omega) SZ.out (by simp; omega) ?_; intro g cap y hown1 hgr hat; have HOWN1 := Lib.hid hown1; have HGR := Lib.hid hgr; clear hown1 hgr hat)
        refine ⟨⟨j + 1, by omega, by go_num, ⟨y, rfl⟩, ?_, C1'.out.grown HGR.out HOWN.out (by have := B1.out; omega), C2'.out.grown HGR.out HOWN.out (by have := B2.out; omega), Nat.le_trans SZ.out HGR.out.size⟩, by simp [intOf]; omega⟩
        rw [upl, ints_snoc, HO.out]
        exact HOWN1.out
      · rw [HOO'.out j (by omega)] at d1
        have ho : outA x ⟨m, a, b, c, e⟩ j = ptV x j := by unfold outA; rw [if_neg hk, Int.add_zero]
        have HO := Lib.hid ho
        clear ho hk
        generalize ptV x j = v1 at *
        go_wp2_with (at_builtin; refine wpList_pushF rfl _ _ 47 rfl 3 (.int .i64 0) 1 8 Try.underlying47 info_int rfl (by decide) _ z _ _ _ _ HOWN.out _ 1 1 #[.int .i64 _] rfl rfl rfl (by simp [Value.oneCell']) (by decide) (by simp) (by simp [maxLen]; omega) (by omega) SZ.out (by simp; omega) ?_; intro g cap y hown1 hgr hat; have HOWN1 := Lib.hid hown1; have HGR := Lib.hid hgr; clear hown1 hgr hat)
        refine ⟨⟨j + 1, by omega, by go_num, ⟨y, rfl⟩, ?_, C1'.out.grown HGR.out HOWN.out (by have := B1.out; omega), C2'.out.grown HGR.out HOWN.out (by have := B2.out; omega), Nat.le_trans SZ.out HGR.out.size⟩, by simp [intOf]; omega⟩
        rw [upl, ints_snoc, HO.out]
        exact HOWN1.out
    · obtain rfl : j = n := by omega
      obtain ⟨g, cap, hv, _⟩ := HOWN.out.form (by omega)
      subst hv
      have OF := Lib.hid (fun w h1 h2 => of_upl (outA x ⟨m, a, b, c, e⟩) j g cap w hn1 hn4 h1 h2)
      have hg := (own_lt HOWN.out).2
      have L := Lib.hid (own_LC HOWN.out)
      go_wp2_with (go_at_call 143; refine (OF.out _ hg L.out).mono ?_; rintro r w' ⟨rfl, u, rfl⟩)
      go_returns
      exact ⟨rett rfl rfl, by (repeat' (first | with_reducible exact Ext.refl _ | with_reducible refine Ext.ext ?_ _ | with_reducible refine Ext.alloc ?_ _ | with_reducible refine Ext.drew ?_ | with_reducible refine Ext.drewN ?_ _ | with_reducible assumption))⟩
theorem ref2_ap_any (x : Hp) (t : Tm) (w : World) : Calls Try.prog 99 #[hv x, tv t] w fun o w' => o = .returned (.tuple #[tv (apR x t), .bool (apOk x t)]) ∧ Ext w w' := by
  obtain ⟨d, a, b, c, e⟩ := t
  by_cases h : hopB x = true ∧ rightB ⟨d, a, b, c, e⟩ = true
  · obtain ⟨hx, ht⟩ := h
    obtain ⟨n, hn⟩ := Int.eq_ofNat_of_zero_le (show 0 ≤ x.k + x.l by have := hopB_bd hx; omega)
    obtain ⟨m, rfl⟩ := Int.eq_ofNat_of_zero_le (show 0 ≤ d by have := rightB_d ht; simp only at this; omega)
    by_cases hf : (m : Int) = x.f
    · obtain ⟨e1, e2⟩ := ref_ap x ⟨m, a, b, c, e⟩ hx ht hf n hn
      rw [← e1, ← e2]
      exact ref2_ap_in x m a b c e w hx ht n hn hf
    · obtain ⟨e1, e2⟩ := ap_off x ⟨m, a, b, c, e⟩ (.inr (.inr hf))
      rw [e1, e2]
      exact ref2_ap_ne x m a b c e w hx ht n hn hf
  · have h' : hopB x = false ∨ rightB ⟨d, a, b, c, e⟩ = false := by
      cases hx : hopB x
      · exact .inl rfl
      · cases ht : rightB ⟨d, a, b, c, e⟩
        · exact .inr rfl
        · exact absurd ⟨hx, ht⟩ h
    obtain ⟨e1, e2⟩ := ap_off x ⟨d, a, b, c, e⟩ (h'.imp id .inl)
    rw [e1, e2]
    exact ref2_ap_no x d a b c e w h'
end Go.Proofs.Ytkmgdejpdhlleaa
