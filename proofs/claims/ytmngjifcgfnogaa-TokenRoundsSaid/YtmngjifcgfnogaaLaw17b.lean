/- law 17: the walk of TokenRounds. -/
import Derived.Test.YtmngjifcgfnogaaTk7
namespace Go.Proofs.Ytmngjifcgfnogaa
set_option linter.unusedSimpArgs false
set_option linter.unusedVariables false
set_option maxRecDepth 100000
open Go.RowKit

def unZ : List Value := [.int .i64 0, .slice none 0 0, .int .i64 0, .int .i64 0, .int .i64 0, .int .i64 0, .int .i64 0, .slice none 0 0, .int .i64 0, .int .i64 0]
theorem mk_units (n : Nat) (hn : n ≤ 1000) (w : World) : (Instr.makeSlice 39 (.int .i64 (n : Int)) (.int .i64 (n : Int))).run Try.prog w = .ok (.slice (some ⟨w.heap.size, 0, none⟩) n n) (w.alloc (.cells (madeCells unZ.toArray (n * 10)) 28)) := by
  obtain ⟨i0, hi0, hz0, hz1, hz2⟩ := info_parts (show (Try.prog.info? 28).map (fun i => (i.zero, i.size, i.bytes)) = some (some (.agg unZ.toArray), 10, 112) by kernel_rfl)
  have h := run_make (P := Try.prog) w 39 28 i0 _ Try.underlying39 hi0 hz0 .i64 .i64 (n : Int) (n : Int) (by omega) (Int.le_refl _) (by rw [hz2]; omega) (by omega)
  rw [hz1, show ((n : Int)).toNat = n from rfl] at h
  rw [h]
  rfl
/-- The workers' row, the first i with their lists. -/
structure Uns (W : World) (g n i : Nat) (B : Nat → Prop) : Prop where
  cells : ∃ cur : Array Value, W.heap[g]? = some (.cells cur 28 (0, 0)) ∧ cur.size = n * 10 ∧ (∀ k j : Nat, k < n → j < 10 → j ≠ 7 → cur[k * 10 + j]? = unZ[j]?) ∧ (∀ k : Nat, k < n → ∃ a q c, cur[k * 10 + 7]? = some (.slice a q c) ∧ (k < i → q = 1 ∧ Rs tml (fun b => B b ∨ b = g) W [[]] (.slice a q c)))
theorem Uns.keep {W W' : World} {g n i : Nat} {A B : Nat → Prop} (h : Uns W g n i B) (hk : Keeps A W W') (hg : ¬ A g) (hA : ∀ b, A b → B b) : Uns W' g n i B := by
  obtain ⟨cur, h1, h2, h3, h4⟩ := h.cells
  refine ⟨cur, hk _ _ hg h1, h2, h3, fun k hkn => ?_⟩
  obtain ⟨a, q, c, g1, g2⟩ := h4 k hkn
  exact ⟨a, q, c, g1, fun e => ⟨(g2 e).1, (g2 e).2.keep (hk.weak fun b hb => .inl (hA b hb))⟩⟩
theorem Uns.at {W : World} {g n i k : Nat} {B : Nat → Prop} (h : Uns W g n i B) (hk : k < n) (hi : k < i) : ∃ a c, UnAt W g k (.slice a 1 c) ∧ Rs tml (fun b => B b ∨ b = g) W [[]] (.slice a 1 c) := by
  obtain ⟨cur, h1, h2, h3, h4⟩ := h.cells
  obtain ⟨a, q, c, g1, g2⟩ := h4 k hk
  obtain ⟨rfl, hr⟩ := g2 hi
  have hc : ∀ j u, cur[j]? = some u → W.cell? ⟨g, j, none⟩ = some u := fun j u hu => by rw [cell_of_row _ _ _ _ _ (0, 0) h1]; exact hu
  exact ⟨a, c, ⟨hc _ _ (h3 k 0 hk (by decide) (by decide)), hc _ _ (h3 k 1 hk (by decide) (by decide)), hc _ _ (h3 k 2 hk (by decide) (by decide)), hc _ _ (h3 k 3 hk (by decide) (by decide)), hc _ _ (h3 k 4 hk (by decide) (by decide)), hc _ _ (h3 k 5 hk (by decide) (by decide)), hc _ _ (h3 k 6 hk (by decide) (by decide)), hc _ _ g1, hc _ _ (h3 k 8 hk (by decide) (by decide)), hc _ _ (h3 k 9 hk (by decide) (by decide))⟩, hr⟩
theorem Uns.set {W : World} {g n i c : Nat} {B : Nat → Prop} {a : Option Addr} (h : Uns W g n i B) (hi : i < n) (hr : Rs tml (fun b => B b ∨ b = g) W [[]] (.slice a 1 c)) : Uns (W.setCell ⟨g, i * 10 + 7, none⟩ (.slice a 1 c)) g n (i + 1) B := by
  obtain ⟨cur, h1, h2, h3, h4⟩ := h.cells
  have hk : Keeps (fun b => B b ∨ b = g) W (W.setCell ⟨g, i * 10 + 7, none⟩ (.slice a 1 c)) := Keeps.set (.inr rfl) _
  refine ⟨cur.setIfInBounds (i * 10 + 7) (.slice a 1 c), by simp [World.setCell, Array.getElem?_modify, h1], by rw [Array.size_setIfInBounds, h2], fun k j hkn hj hj7 => ?_, fun k hkn => ?_⟩
  · rw [Array.getElem?_setIfInBounds_ne (by omega)]
    exact h3 k j hkn hj hj7
  · by_cases hki : k = i
    · subst hki
      refine ⟨a, 1, c, ?_, fun _ => ⟨rfl, hr.keep hk⟩⟩
      rw [Array.getElem?_setIfInBounds_self_of_lt (by omega)]
    · obtain ⟨a', q', c', g1, g2⟩ := h4 k hkn
      refine ⟨a', q', c', ?_, fun e => ⟨(g2 (by omega)).1, (g2 (by omega)).2.keep hk⟩⟩
      rw [Array.getElem?_setIfInBounds_ne (by omega)]
      exact g1
theorem Uns.made {W : World} {g n : Nat} {B : Nat → Prop} (h : W.heap[g]? = some (.cells (madeCells unZ.toArray (n * 10)) 28 (0, 0))) : Uns W g n 0 B := by
  have hget : ∀ k j : Nat, k < n → j < 10 → (madeCells unZ.toArray (n * 10))[k * 10 + j]? = unZ[j]? := fun k j hk hj => by
    unfold madeCells
    have : k * 10 + j < n * 10 := by omega
    simp only [Array.getElem?_map, Array.getElem?_range, this, if_true, Option.map_some]
    rw [show (k * 10 + j) % unZ.toArray.size = j by show (k * 10 + j) % 10 = j; omega]
    have hj' : j < unZ.length := hj
    rw [List.getElem?_eq_getElem hj']
    congr 1
    simp [hj']
  refine ⟨_, h, by rw [size_madeCells], fun k j hk hj _ => hget k j hk hj, fun k hk => ⟨none, 0, 0, hget k 7 hk (by decide), fun e => absurd e (Nat.not_lt_zero k)⟩⟩
theorem stR_len (low : List Tm) (n : Nat) (c : Int) (v : Nat) : ∀ l ∈ (stR low n c v).l, l.length ≤ low.length := by
  intro l hl
  unfold stR at hl
  split at hl
  · obtain rfl : l = [] := by simpa using hl
    simp
  · split at hl
    · obtain rfl : l = _ := List.mem_singleton.1 hl
      refine Nat.le_trans (chT_len _) ?_
      rw [List.length_take]
      omega
    · obtain rfl : l = [] := by simpa using hl
      simp
set_option maxHeartbeats 16000000 in
theorem walk_TokenRounds (w : World) (cnt : Int) (hcnt : 0 ≤ cnt ∧ cnt ≤ 255) (ad : Option Addr) (c : Nat) (L : List Tm) (hr : Rd w 5 L.length (.slice ad L.length c) (tms L)) (hc : L.length ≤ c) :
    Calls Try.prog 4 #[.int .u8 cnt, .slice ad L.length c] w fun r w' => r = .returned (.bool true) ∧ Ext w w' := by
  have AW := Lib.hid awake17
  obtain ⟨hc1, hc2⟩ := hcnt
  obtain ⟨n, hn⟩ : ∃ n : Nat, cnt % 8 + 1 = (n : Int) := ⟨(cnt % 8 + 1).toNat, by omega⟩
  have hn1 : 1 ≤ n ∧ n ≤ 8 := by omega
  have hm := fun ats ty w => run_min (P := Try.prog) L.length 40 40 rfl ats ty w
  have HR := Lib.hid (Rb.cut hr (m := min L.length 40) (Nat.min_le_left _ _))
  have m1 : min L.length 40 ≤ 40 := Nat.min_le_right _ _
  have m2 : min L.length 40 ≤ L.length := Nat.min_le_left _ _
  have HL := Lib.hid (show (L.take (min L.length 40)).length = min L.length 40 by rw [List.length_take]; omega)
  obtain ⟨low, hlow⟩ : ∃ l, L.take (min L.length 40) = l := ⟨_, rfl⟩
  rw [hlow] at HR HL
  generalize min L.length 40 = m at *
  have i1 : (0 : Int) ≤ m := by omega
  have i2 : (m : Int) ≤ c := by omega
  have NW := Lib.hid (fun W => new_any (w := W) 1 1 rfl (by decide))
  have mk := fun w => mk_units n (by omega) w
  have mk1 : ∀ w, (Instr.makeSlice 22 (.int .i64 1) (.int .i64 1)).run Try.prog w = .ok (.slice (some ⟨w.heap.size, 0, none⟩) 1 1) (w.alloc (.cells (Array.replicate 1 (Value.slice none 0 0)) 38)) := fun w => mk_chains 1 (by decide) w
  have HN := Lib.hid (And.intro hn1 (And.intro m1 (show m ≤ c by omega)))
  have j1 : (0 : Int) ≤ n := by omega
  have en : Hid (cnt % 8 + 1 = (n : Int)) := Lib.hid hn
  clear hlow hr hc m1 m2
  go_enter Try.func4, Try.ntmps4
  go_upto_region 7 with (first | (go_at_call 10; (with_reducible refine (AW.out _).mono ?_); rintro e w' ⟨rfl, x, rfl⟩) | (go_at_call 12; (with_reducible refine (NW.out _).mono ?_); rintro e w1 ⟨g1, hg1, rfl, hx, hrs⟩; have HX1 := Lib.hid (((Ext.refl w).ext x).trans hx); have R1 := Lib.hid hrs; clear hx hrs hg1))
  refine name_world fun w2 hw2 => ?_
  obtain ⟨tb, htb⟩ : ∃ b, b = w1.heap.size := ⟨_, rfl⟩
  have hx2 : Ext w1 w2 := by subst hw2; (repeat' (first | with_reducible exact Ext.refl _ | with_reducible refine Ext.ext ?_ _ | with_reducible refine Ext.alloc ?_ _ | with_reducible refine Ext.drew ?_ | with_reducible refine Ext.drewN ?_ _ | with_reducible assumption))
  have hbt : w2.heap[tb]? = some (.cells #[.int .i64 0, .int .i64 0, .int .i64 0, .int .i64 0, .slice (some ⟨g1, 0, none⟩) 1 1] 24 (0, 0)) := by subst hw2; rw [htb]; exact box_at (by (repeat' (first | with_reducible exact Ext.refl _ | with_reducible refine Ext.ext ?_ _ | with_reducible refine Ext.alloc ?_ _ | with_reducible refine Ext.drew ?_ | with_reducible refine Ext.drewN ?_ _ | with_reducible assumption)))
  have hbu : w2.heap[tb + 1]? = some (.cells (madeCells unZ.toArray (n * 10)) 28 (0, 0)) := by subst hw2; rw [htb]; exact box_at2 (by (repeat' (first | with_reducible exact Ext.refl _ | with_reducible refine Ext.ext ?_ _ | with_reducible refine Ext.alloc ?_ _ | with_reducible refine Ext.drew ?_ | with_reducible refine Ext.drewN ?_ _ | with_reducible assumption)))
  have r2 := (R1.out (fun _ => False) (fun _ h => h.elim)).off (A' := fun b => b = tb ∨ b = tb + 1) (fun b hb => .inr (by omega))
  have BT := Lib.hid (show BoxK w2 tb ⟨0, 0, 0, 0, [[]]⟩ (fun b => b = tb ∨ b = tb + 1) from ⟨_, _, hbt, r2.on hx2⟩)
  have UN := Lib.hid (Uns.made (B := fun b => b = tb ∨ b = tb + 1) hbu)
  have HX2 := Lib.hid (HX1.out.trans hx2)
  have HTB := Lib.hid (show w.heap.size ≤ tb by have := HX1.out.le; omega)
  rw [← htb]
  clear hw2 hbt hbu r2 R1 hx2 htb
  go_wp2
  go_loopw [8] (fun i wr => ∃ j : Nat, j ≤ n ∧ i = .int .i64 j ∧ Ext w wr ∧ BoxK wr tb ⟨0, 0, 0, 0, [[]]⟩ (fun b => b = tb ∨ b = tb + 1) ∧ Uns wr (tb + 1) n j (fun b => b = tb ∨ b = tb + 1)) (fun i _ => n - (intOf i).toNat)
  case atStart => exact ⟨0, by omega, rfl, HX2.out, BT.out, UN.out⟩
  case round =>
    obtain ⟨j, hj, rfl, hx, hb, hu⟩ := hrel
    obtain ⟨w3, hw3⟩ : ∃ x, x = wr := ⟨_, rfl⟩
    subst hw3
    have HX3 := Lib.hid hx
    have B3 := Lib.hid hb
    have U3 := Lib.hid hu
    clear hx hb hu
    by_cases hlt : j < n
    · have k0 : (0 : Int) ≤ j := by omega
      have k1 : (j : Int) < n := by omega
      obtain ⟨cur, h1, h2, h3, h4⟩ := U3.out.cells
      obtain ⟨ra, rq, rc, h5, -⟩ := h4 j hlt
      have hcell : w3.cell? ⟨tb + 1, j * 10 + 7, none⟩ = some (.slice ra rq rc) := by rw [cell_of_row _ _ _ _ _ (0, 0) h1]; exact h5
      have hfz : w3.frozen? ⟨tb + 1, j * 10 + 7, none⟩ = false := frozen_of_row _ _ _ _ _ h1
      haveI : LtSz (tb + 1) w3.heap.size := ⟨World.block_lt_of_cell? _ _ hcell⟩
      have ew := Lib.hid (show wrap64 ((j : Int) + 1) = ((j + 1 : Nat) : Int) from (IntWalk.wrap64_in _ ⟨by omega, by have := HN.out; omega⟩).trans (by omega))
      clear h1 h2 h3 h4 h5
      go_wp2
      have hr3 : Rs tml (fun b => (b = tb ∨ b = tb + 1) ∨ b = tb + 1) (w3.alloc (.cells (Array.replicate 1 (Value.slice none 0 0)) 38)) [[]] (.slice (some ⟨w3.heap.size, 0, none⟩) 1 1) := made_rs (m := 1) (T := 38) (heap_alloc_new w3 _) (fun e => by have h1 := World.block_lt_of_cell? _ _ hcell; dsimp only at h1; omega)
      have hu4 := (U3.out.keep (Keeps.ext (A := fun _ => False) ((Ext.refl w3).alloc (.cells (Array.replicate 1 (Value.slice none 0 0)) 38))) id (fun _ h => h.elim)).set hlt hr3
      have hb4 := (B3.out.keep (Keeps.ext (A := fun _ => False) ((Ext.refl w3).alloc (.cells (Array.replicate 1 (Value.slice none 0 0)) 38))) id (fun _ h => h.elim)).keep (Keeps.set (A := fun b => b = tb + 1) (p := ⟨tb + 1, j * 10 + 7, none⟩) rfl (.slice (some ⟨w3.heap.size, 0, none⟩) 1 1)) (by omega) (fun b hb => .inr hb)
      rw [World.setCell_alloc_past (w := w3) _ (tb + 1) (j * 10 + 7) _ (World.block_lt_of_cell? _ _ hcell)] at hu4 hb4
      rw [show Array.replicate 1 (Value.slice none 0 0) = #[Value.slice none 0 0] from rfl] at hu4 hb4
      exact ⟨⟨j + 1, by omega, by first | exact congrArg (Value.int .i64) ew.out | (simp; done), (HX3.out.setCell (by have := HTB.out; simp; omega) _).alloc _, hb4, hu4⟩, by first | (rw [ew.out]; simp only [intOf]; omega) | (simp only [intOf]; omega)⟩
    · obtain rfl : j = n := by omega
      clear mk mk1 hn en
      go_wp2
      go_loopw [9] (fun i wr => ∃ r : Nat, r ≤ 5 ∧ i = .int .i64 r ∧ Ext w wr ∧ BoxK wr tb (stR low j ((r % 2 : Nat) : Int) 0) (fun b => b = tb ∨ b = tb + 1) ∧ Uns wr (tb + 1) j j (fun b => b = tb ∨ b = tb + 1)) (fun i _ => 5 - (intOf i).toNat)
      case atStart => exact ⟨0, by omega, rfl, HX3.out, by rw [stR_zero _ _ _ HN.out.1.1]; exact B3.out, U3.out⟩
      case round =>
        obtain ⟨r, hr, rfl, hx, hb, hu⟩ := hrel
        obtain ⟨w4, hw4⟩ : ∃ x, x = wr := ⟨_, rfl⟩
        subst hw4
        have HX4 := Lib.hid hx
        have B4 := Lib.hid hb
        have U4 := Lib.hid hu
        clear hx hb hu
        by_cases hr5 : r < 5
        · have hr6 : (r : Int) < 5 := by omega
          go_wp2
          go_loopw [10] (fun i wr => ∃ v : Nat, v ≤ 2 * j ∧ i = .int .i64 v ∧ Ext w wr ∧ BoxK wr tb (stR low j ((r % 2 : Nat) : Int) v) (fun b => b = tb ∨ b = tb + 1) ∧ Uns wr (tb + 1) j j (fun b => b = tb ∨ b = tb + 1)) (fun i _ => 2 * j - (intOf i).toNat)
          case atStart => exact ⟨0, by omega, rfl, HX4.out, B4.out, U4.out⟩
          case round =>
            obtain ⟨v, hv, rfl, hx, hb, hu⟩ := hrel
            obtain ⟨w5, hw5⟩ : ∃ x, x = wr := ⟨_, rfl⟩
            subst hw5
            by_cases hlt : v < 2 * j
            · have hat := stR_at low j ((r % 2 : Nat) : Int) v hlt
              have hak : atR j v < j := by unfold atR; split <;> omega
              have hvis := vis_R low j ((r % 2 : Nat) : Int) v (by have := HN.out; omega) (by omega) hlt
              obtain ⟨t, ht⟩ : ∃ t, stR low j ((r % 2 : Nat) : Int) v = t := ⟨_, rfl⟩
              obtain ⟨t2, ht2⟩ : ∃ t, stR low j ((r % 2 : Nat) : Int) (v + 1) = t := ⟨_, rfl⟩
              obtain ⟨k, hk⟩ : ∃ k, atR j v = k := ⟨_, rfl⟩
              rw [ht] at hb hat hvis
              rw [ht2] at hvis
              rw [hk] at hat hak hvis
              have HT := Lib.hid (And.intro ht ht2)
              have HK := Lib.hid hk
              have HV := Lib.hid hvis
              have HX5 := Lib.hid hx
              have B5 := Lib.hid hb
              have U5 := Lib.hid hu
              have HAT := Lib.hid hat
              obtain ⟨b1, d1, htb, -⟩ := id hb
              rw [hat.1] at htb
              obtain ⟨e0, e1, e2, e3, e4, el, -⟩ := box5 htb
              haveI : LtSz tb w5.heap.size := ⟨el⟩
              have v0 : (0 : Int) ≤ v := by omega
              have v1 : (v : Int) < 2 * (j : Int) := by omega
              have n8 : (j : Int) ≤ 8 := by omega
              have HRs := Lib.hid (show Rs tmE (fun b => b = tb ∨ b = tb + 1) w low (.slice ad m c) from (rs_rb (A := noB) HR.out (fun _ _ h => h)).off (fun b hb => .inr (by have := HTB.out; omega)))
              clear hx hb hu hvis ht ht2 hk hat htb e0 e2 e3 e4
              go_upto_region 18 with fail
              refine rgO _ _ w5 (fun b => b = tb ∨ b = tb + 1) low k j m c (k + 1) (k * m) ((k + 1) * m) (k * m / j) ((k + 1) * m / j) ad rfl rfl rfl (Lib.hid ⟨HRs.out.on HX5.out, HL.out.symm⟩) HN.out.2.2 HN.out.2.1 HN.out.1 hak (Lib.hid ⟨rfl, rfl, rfl, rfl, rfl⟩) (by simp) ?_
              intro a w6 hn hx6 hO
              rw [hn.eq]
              clear hn
              dsimp only [puts, ts_rgO, List.foldl, Act.put]
              simp only [List.setIfInBounds_toArray, List.set_cons_succ, List.set_cons_zero]
              rw [V_eval a 12]
              generalize a.eval (.tmp 53) = t53
              generalize a.eval (.tmp 54) = t54
              generalize a.eval (.tmp 55) = t55
              generalize a.eval (.tmp 56) = t56
              generalize a.eval (.tmp 57) = t57
              generalize a.eval (.tmp 58) = t58
              generalize a.eval (.tmp 59) = t59
              generalize a.eval (.tmp 60) = t60
              generalize a.eval (.tmp 61) = t61
              generalize a.eval (.tmp 62) = t62
              generalize a.eval (.tmp 63) = t63
              generalize a.eval (.tmp 64) = t64
              generalize a.eval (.tmp 65) = t65
              generalize a.eval (.tmp 66) = t66
              generalize a.eval (.tmp 67) = t67
              obtain ⟨ao, co, h12, hown⟩ := hO
              rw [h12] at hown ⊢
              have HX6 := Lib.hid hx6
              have HO := Lib.hid hown
              clear h12 a hown hx6 e1 el this
              obtain ⟨ra, rc, hua, hrr⟩ := (U5.out.keep (Keeps.ext (A := fun _ => False) HX6.out) id (fun _ h => h.elim)).at hak hak
              have hs : (∀ l ∈ t.l, l.length ≤ 1000) ∧ (ownR low j k).length ≤ 1000 := by
                have hl := HL.out
                have h40 := HN.out.2.1
                refine ⟨fun l hl' => ?_, by unfold ownR; rw [List.length_drop, List.length_take]; exact Nat.le_trans (Nat.sub_le _ _) (Nat.le_trans (Nat.min_le_right _ _) (by omega))⟩
                have := HT.out.1
                rw [← this] at hl'
                exact Nat.le_trans (stR_len low j _ v l hl') (by omega)
              have hown2 : Rs tmE (fun b => b = tb ∨ b = tb + 1) w6 (ownR low j k) (.slice ao ((k + 1) * m / j - k * m / j) co) := by unfold ownR; rw [HL.out]; exact HO.out.on HX6.out
              go_upto_region 19 with fail
              refine R5.rgV _ _ w6 (fun b => b = tb ∨ b = tb + 1) tb (tb + 1) k j t t2 (ownR low j k) (.slice ao ((k + 1) * m / j - k * m / j) co) (.slice ra 1 rc) ao ((k + 1) * m / j - k * m / j) co j j ra rc (decide (v < j)) (decide (v + 1 = 2 * j)) (telR low j v) rfl rfl rfl rfl rfl ?_ (B5.out.keep (Keeps.ext (A := fun _ => False) HX6.out) id (fun _ h => h.elim)) (Lib.hid HAT.out.2) hua (Lib.hid rfl) (hrr.weak (fun b hb => .inl hb)) (Lib.hid rfl) hown2 hak HV (Lib.hid hs) (by simp) ?_
              · intro b hb
                obtain ⟨cur, hc5, -⟩ := U5.out.cells
                have h1 := (Array.getElem?_eq_some_iff.1 (Keeps.ext (A := noB) HX6.out _ _ id hc5)).1
                omega
              intro a w7 hn hx7 h13 h14 h16
              rw [hn.eq]
              clear hn
              dsimp only [puts, R5.ts_rgV, List.foldl, Act.put]
              simp only [List.setIfInBounds_toArray, List.set_cons_succ, List.set_cons_zero]
              rw [V_eval a 13]
              rw [V_eval a 14]
              rw [V_eval a 15]
              rw [V_eval a 16]
              generalize a.eval (.tmp 69) = t69
              generalize a.eval (.tmp 70) = t70
              generalize a.eval (.tmp 71) = t71
              generalize a.eval (.tmp 72) = t72
              generalize a.eval (.tmp 73) = t73
              generalize a.eval (.tmp 74) = t74
              generalize a.eval (.tmp 75) = t75
              generalize a.eval (.tmp 76) = t76
              generalize a.eval (.tmp 77) = t77
              generalize a.eval (.tmp 68) = t68
              generalize a.eval (.tmp 78) = t78
              generalize a.eval (.tmp 79) = t79
              generalize a.eval (.tmp 80) = t80
              generalize a.eval (.tmp 81) = t81
              obtain ⟨q, e13, hq, hbq, ta, tc, e15, hts⟩ := h13
              rw [e13, h14, e15, h16]
              have HX7 := Lib.hid hx7
              have HQ := Lib.hid (And.intro hq hbq)
              have HTS := Lib.hid hts
              clear e13 h14 e15 h16 a hx7 hq hbq hts hs hown2 hua hrr
              have vm : (v : Int) % (j : Int) = (k : Int) := by
                rw [← HK.out]
                unfold atR
                split
                · exact Int.emod_eq_of_lt (by omega) (by omega)
                · rw [← Int.sub_emod_right, Int.emod_eq_of_lt (by omega) (by omega)]; omega
              have kk : ((k : Int) != (k : Int)) = false := by simp
              have j00 : ¬ j = 0 := by have := HN.out; omega
              have bI : decide ((v : Int) < (j : Int)) = decide (v < j) := decide_eq_decide.2 (by omega)
              have vb : (v : Int) ≤ 16 := by have := HN.out; omega
              have ev := Lib.hid (show wrap64 ((v : Int) + 1) = ((v + 1 : Nat) : Int) from (IntWalk.wrap64_in _ ⟨by omega, by omega⟩).trans (by omega))
              have HX57 := Lib.hid (HX6.out.trans HX7.out)
              obtain ⟨bt, ct, hbt, -⟩ := B5.out
              have hbt7 := Keeps.ext (A := noB) HX57.out _ _ id hbt
              have hntb : q ≠ tb := fun e => by
                have h1 := (Array.getElem?_eq_some_iff.1 (Keeps.ext (A := noB) HX6.out _ _ id hbt)).1
                have := HQ.out.1
                omega
              have hfin : ∀ W, Ext w7 W → ∀ W', (∃ y0 y1 y2 y3 y4, W' = ((((W.setCell ⟨tb, 0, none⟩ y0).setCell ⟨tb, 1, none⟩ y1).setCell ⟨tb, 2, none⟩ y2).setCell ⟨tb, 3, none⟩ y3).setCell ⟨tb, 4, none⟩ y4 ∧ ∃ a' c', W.heap[q]? = some (.cells #[y0, y1, y2, y3, y4] 24 (0, 0)) ∧ #[y0, y1, y2, y3, y4] = #[.int .i64 t2.p, .int .i64 t2.a, .int .i64 t2.c, .int .i64 t2.w, .slice a' t2.l.length c'] ∧ Rs tml (fun b => (b = tb ∨ b = tb + 1) ∨ b = q) W t2.l (.slice a' t2.l.length c')) →
                  Ext w W' ∧ BoxK W' tb t2 (fun b => b = tb ∨ b = tb + 1) ∧ Uns W' (tb + 1) j j (fun b => b = tb ∨ b = tb + 1) := by
                rintro W hW W' ⟨y0, y1, y2, y3, y4, rfl, a', c', hq, hy, hr2⟩
                have htbw : w.heap.size ≤ tb := HTB.out
                obtain ⟨g6, g7⟩ := box5_set (Keeps.ext (A := noB) hW _ _ id hbt7) rfl
                have hxx : Ext w W := HX5.out.trans (HX57.out.trans hW)
                refine ⟨((((hxx.setCell htbw _).setCell htbw _).setCell htbw _).setCell htbw _).setCell htbw _, ⟨a', c', by rw [g6, hy], (hr2.keep (g7.weak fun b hb => .inl (.inl hb))).weak (fun b hb => .inl hb)⟩, ?_⟩
                exact (U5.out.keep (Keeps.ext (A := fun b => b = tb) (HX57.out.trans hW)) (by omega) (fun b hb => .inl hb)).keep g7 (by omega) (fun b hb => .inl hb)
              have HFIN := Lib.hid hfin
              clear hfin hbt
              obtain ⟨qa, qc, hq7, hqr⟩ := HQ.out.2
              have HQR := Lib.hid (And.intro hq7 hqr)
              have HBT := Lib.hid hbt7
              clear hq7 hqr hbt7
              by_cases hov : v + 1 = 2 * j
              · have hvj : decide (v < j) = false := decide_eq_false (by have := HN.out; omega)
                have htel : telR low j v = [chT low] := by unfold telR; rw [if_pos hov]
                rw [decide_eq_true hov, hvj]
                rw [htel] at HTS ⊢
                have HTS1 := Lib.hid (show Rs tml (fun b => (b = tb ∨ b = tb + 1) ∨ b = q) w7 [chT low] (.slice ta 1 tc) from HTS.out)
                rw [hvj] at bI
                have b3 : ((v : Int) == 2 * (j : Int) - 1) = true := by simp; omega
                have LW := Lib.hid (show low.length ≤ 40 by have := HL.out; have := HN.out; omega)
                have RB := Lib.hid (show Rb w7 low (.slice ad m c) from HR.out.on (HX5.out.trans HX57.out))
                go_wp2_with (first  | (go_at_call 19; (with_reducible refine (of_row RB.out (Nat.le_trans LW.out (by decide)) (chT low) rfl).mono ?_); rintro e w8 ⟨v8, rfl, hrow⟩; obtain ⟨va8, vc8, hv8⟩ : ∃ a c, v8 = .slice a (chT low).length c := (by obtain ⟨-, a, c, h, -⟩ := id hrow; exact ⟨a, c, h⟩); subst hv8; have HX8 := Lib.hid hrow.1; have HW8 := Lib.hid hrow; clear hrow; obtain ⟨z0, z1, z2, z3, z4, zl, -⟩ := box5 (Keeps.ext (A := noB) HX8.out _ _ id HQR.out.1); obtain ⟨f0, f1, f2, f3, f4, fl, ff⟩ := box5 (Keeps.ext (A := noB) HX8.out _ _ id HBT.out); have ff0 := ff 0; have ff1 := ff 1; have ff2 := ff 2; have ff3 := ff 3; have ff4 := ff 4; haveI : LtSz tb w8.heap.size := ⟨fl⟩; haveI : LtSz q w8.heap.size := ⟨zl⟩; clear ff))
                refine (sameLow_any (A' := noB) (HTS1.out.on (HX8.out.alloc _)) (rs_one (rs_row (HW8.out.on ((Ext.refl _).alloc _)) (fun _ h => h.elim)) (cell_lit _ _ _ _ _ _ rfl rfl) id) (fun l hl => (by obtain rfl : l = chT low := List.mem_singleton.1 hl; exact Nat.le_trans (chT_len _) (Nat.le_trans LW.out (by decide)))) (by simp) true (sameAll_refl _)).mono ?_
                rintro e w9 ⟨rfl, ⟨x9, rfl⟩⟩
                go_wp2
                have hq9 := HFIN.out w8 HX8.out _ ⟨_, _, _, _, _, rfl, qa, qc, Keeps.ext (A := noB) HX8.out _ _ id HQR.out.1, rfl, HQR.out.2.on HX8.out⟩
                have hl9 : ∀ W : World, Ext W (ext (W.alloc (.cells #[.slice va8 (chT low).length vc8] 38)) x9) := fun W => ((Ext.refl W).alloc _).ext _
                exact ⟨⟨v + 1, by omega, by first | exact congrArg (Value.int .i64) ev.out | (simp; done), hq9.1.trans (hl9 _), (by rw [HT.out.2]; exact hq9.2.1.keep (Keeps.ext (A := fun _ => False) (hl9 _)) id (fun _ h => h.elim)), hq9.2.2.keep (Keeps.ext (A := fun _ => False) (hl9 _)) id (fun _ h => h.elim)⟩, by first | (rw [ev.out]; simp only [intOf]; omega) | (simp only [intOf]; omega)⟩
              · rw [decide_eq_false hov]
                have b3 : ((v : Int) == 2 * (j : Int) - 1) = false := by simp; omega
                obtain ⟨z0, z1, z2, z3, z4, zl, -⟩ := box5 HQR.out.1
                obtain ⟨f0, f1, f2, f3, f4, fl, ff⟩ := box5 HBT.out
                have ff0 := ff 0
                have ff1 := ff 1
                have ff2 := ff 2
                have ff3 := ff 3
                have ff4 := ff 4
                haveI : LtSz tb w7.heap.size := ⟨fl⟩
                haveI : LtSz q w7.heap.size := ⟨zl⟩
                clear ff
                cases hvj : decide (v < j)
                all_goals
                  rw [hvj] at bI
                  go_wp2
                  have hh := HFIN.out w7 (Ext.refl _) _ ⟨_, _, _, _, _, rfl, qa, qc, HQR.out.1, rfl, HQR.out.2⟩
                  exact ⟨⟨v + 1, by omega, by first | exact congrArg (Value.int .i64) ev.out | (simp; done), hh.1, by rw [HT.out.2]; exact hh.2.1, hh.2.2⟩, by first | (rw [ev.out]; simp only [intOf]; omega) | (simp only [intOf]; omega)⟩
            · obtain rfl : v = 2 * j := by omega
              rw [stR_next] at hb
              obtain ⟨b1, d1, htb, htr⟩ := id hb
              dsimp only at htb
              obtain ⟨e0, e1, e2, e3, e4, el, -⟩ := box5 htb
              haveI : LtSz tb w5.heap.size := ⟨el⟩
              have n8 : (j : Int) ≤ 8 := by have := HN.out; omega
              have c1 : ((1 - ((r % 2 : Nat) : Int)) != ((r : Int) + 1) % 2) = false := by simp; omega
              have er := Lib.hid (show wrap64 ((r : Int) + 1) = ((r + 1 : Nat) : Int) from (IntWalk.wrap64_in _ ⟨by omega, by omega⟩).trans (by omega))
              have HX5 := Lib.hid hx
              have B5 := Lib.hid (show BoxK w5 tb (stR low j (((r + 1) % 2 : Nat) : Int) 0) (fun b => b = tb ∨ b = tb + 1) by
                rw [stR_zero _ _ _ HN.out.1.1, show (((r + 1) % 2 : Nat) : Int) = 1 - ((r % 2 : Nat) : Int) by omega]; exact hb)
              have U5 := Lib.hid hu
              clear hx hb hu htb htr
              go_wp2
              exact ⟨⟨r + 1, by omega, by first | exact congrArg (Value.int .i64) er.out | (simp; done), HX5.out, B5.out, U5.out⟩, by first | (rw [er.out]; simp only [intOf]; omega) | (simp only [intOf]; omega)⟩
        · obtain rfl : r = 5 := by omega
          go_wp2
          go_returns
          exact ⟨retb rfl rfl, HX4.out⟩
end Go.Proofs.Ytmngjifcgfnogaa
