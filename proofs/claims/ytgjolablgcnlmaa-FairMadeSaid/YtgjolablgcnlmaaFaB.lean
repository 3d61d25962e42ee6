/- Fair: the reference's Make, where it makes one. -/
import Derived.Test.YtgjolablgcnlmaaFaA
namespace Go.Proofs.Ytgjolablgcnlmaa
set_option linter.unusedSimpArgs false
set_option linter.unusedVariables false
open Go.RowKit

theorem outS_succ {T M : Nat} {x : Int} {r L : Nat} (hL : ((rnds T x r).1.take M).length = L) (hlt : L < M) (j : Nat) (hj : (j = T ∧ L + j ≤ M) ∨ (j ≤ T ∧ L + j = M)) : (rnds T x r).1.take M ++ (roundS T (rnds T x r).2).1.take j = (rnds T x (r + 1)).1.take M := by
  rw [List.length_take, rnds_len] at hL
  have e : r * T = L := by omega
  have e2 : (rnds T x r).1.take M = (rnds T x r).1 := List.take_of_length_le (by rw [rnds_len]; omega)
  rw [e2, rnds, List.take_append, e2, rnds_len, e]
  congr 1
  have hl := roundS_len T (rnds T x r).2
  rcases hj with ⟨rfl, h1⟩ | ⟨h1, h2⟩
  · rw [List.take_of_length_le (by omega), List.take_of_length_le (by omega)]
  · rw [show M - L = j by omega]
theorem take_succ_snoc {ys : List Int} {j : Nat} {u : Int} (h : ys[j]? = some u) : ys.take (j + 1) = ys.take j ++ [u] := by rw [List.take_add_one, h]; rfl
set_option maxRecDepth 100000 in
set_option maxHeartbeats 8000000 in
theorem refMake_good (T M : Nat) (hT : 1 ≤ T ∧ T ≤ 1024) (hM : M ≤ 65536) (seed : Int) (hs : 0 ≤ seed ∧ seed < 18446744073709551616) (w : World) :
    Calls Try.prog 23 #[.int .i64 T, .int .i64 M, .int .u64 seed] w fun e w' => ∃ a c, e = .returned (.tuple #[.slice a M c, .int .i64 0]) ∧ Ext w w' ∧ Ri w' .i64 (.slice a M c) (makeS T M (max seed 1)) := by
  have hmx := fun ats ty w => run_maxU (P := Try.prog) seed ats ty w
  have X0 : Hid (0 ≤ max seed 1 ∧ max seed 1 < 18446744073709551616) := Lib.hid (by omega)
  generalize max seed 1 = x at *
  have HT := Lib.hid hT
  have HM := Lib.hid hM
  have NX := Lib.hid (fun y W => next_any y W)
  have m1 : (1 : Int) ≤ T := by omega
  have m2 : (T : Int) ≤ 1024 := by omega
  have m3 : (0 : Int) ≤ M := by omega
  have m4 : (M : Int) ≤ 65536 := by omega
  clear hT hM hs
  go_enter Try.func23, Try.ntmps23
  go_wp2
  go_loopw [8, 9] (fun sx so wr => ∃ (r L c : Nat) (a : Option Addr), L ≤ M ∧ so = .slice a L c ∧ sx = .int .u64 (rnds T x r).2 ∧ ((rnds T x r).1.take M).length = L ∧ Ext w wr ∧ wr.ownsRow w.heap.size 3 1 (.slice a L c) L (vs ((rnds T x r).1.take M))) (fun _ so _ => M - lenV so)
  case atStart => exact ⟨0, 0, 0, none, Nat.zero_le _, rfl, rfl, by simp [rnds], Ext.refl w, by rw [show (rnds T x 0).1.take M = [] by simp [rnds]]; exact World.ownsRow_nil _ _ _ _⟩
  case round =>
    obtain ⟨r, L, c, a, hLM, rfl, rfl, hlen, hex, hown⟩ := hrel
    obtain ⟨z0, hz0⟩ := id hex
    have HO := Lib.hid hown
    have HLen := Lib.hid hlen
    have HEX := Lib.hid hex
    have hyr := rnds_in T x X0.out r
    by_cases hlt : L < M
    rotate_left
    · obtain rfl : L = M := by omega
      have HFIN := Lib.hid (show Ri wr .i64 (.slice a L c) (makeS T L x) by
        rw [makeS_eq HT.out.1 x (r := r) (by rw [List.length_take, rnds_len] at hlen; omega)]
        unfold Ri
        rw [hlen]
        exact own_rd HO.out)
      have key : a = none ∨ ∃ g, a = some ⟨g, 0, none⟩ := by
        rcases HO.out.2 with ⟨h2, _⟩ | ⟨g', cap, cur, hv, _⟩
        · exact .inl (Value.slice.inj h2).1
        · exact .inr ⟨g', (Value.slice.inj hv).1⟩
      have i1 : ¬ ((L : Int) < L) := by omega
      clear hown hlen hex hyr HO HLen hz0 hlt
      go_wp2
      go_returns
      exact ⟨a, c, rett rfl rfl, HEX.out, HFIN.out⟩
    · have HLT := Lib.hid hlt
      have OS := Lib.hid (fun j hj => outS_succ hlen hlt j hj)
      have HNX := Lib.hid (show (rnds T x (r + 1)).2 = (roundS T (rnds T x r).2).2 from rfl)
      obtain ⟨R, hR⟩ : ∃ R, R = roundS T (rnds T x r).2 := ⟨_, rfl⟩
      rw [← hR] at OS HNX
      have HRL := Lib.hid (show R.1.length = T by rw [hR]; exact roundS_len T _)
      have HR := Lib.hid (show shuf (T - 1) (iota T) (rnds T x r).2 = R from hR.symm)
      have HY := Lib.hid hyr
      generalize (rnds T x r).2 = y0 at *
      generalize (rnds T x r).1.take M = out at *
      have i2 : (L : Int) < M := by omega
      have HT0 := Lib.hid (show Two w wr (.slice a L c) L out (.slice none 0 0) 0 [] from ⟨hex, HO.out, World.ownsRow_nil _ _ _ _, fun k _ h => by simp [Value.ownBlock] at h⟩)
      clear hown hlen hex hyr hR hLM
      subst hz0
      go_wp2
      go_loopw [10, 11] (fun sl si wr => ∃ j : Nat, j ≤ T ∧ si = .int .i64 j ∧ ∃ a' c', sl = .slice a' j c' ∧ Two w wr (.slice a L c) L out (.slice a' j c') j (iota j)) (fun _ si _ => T - (intOf si).toNat)
      case atStart => exact ⟨0, by omega, rfl, none, 0, rfl, HT0.out⟩
      case round =>
        obtain ⟨j, hj, rfl, a', c', rfl, htwo⟩ := hrel
        have H2 := Lib.hid htwo
        by_cases hjt : j < T
        · obtain ⟨z1, rfl⟩ := htwo.1
          have i1 : (j : Int) < T := by omega
          have EW := Lib.hid (show wrap64 ((j : Int) + 1) = ((j + 1 : Nat) : Int) from (IntWalk.wrap64_in _ ⟨by omega, by have := HT.out; omega⟩).trans (by omega))
          have HL := Lib.hid hjt
          clear htwo hj hjt
          go_wp2_with (at_builtin; refine push_two rfl _ _ rfl w _ _ _ _ _ _ _ _ H2.out.symm _ _ rfl rfl (by simp) (by have := HL.out; have := HT.out; omega) ?_; intro g cap y hown1; have H3 := Lib.hid hown1; clear hown1)
          exact nat_up (P := fun k => ∃ a' c', Value.slice (some ⟨g, 0, none⟩) (j + 1) cap = .slice a' k c' ∧ Two w (ext w y) (.slice a L c) L out (.slice a' k c') k (iota k)) (by first | exact EW.out | omega) HL.out ⟨_, _, rfl, by rw [iota_succ]; exact H3.out.symm⟩
        · obtain rfl : j = T := by omega
          obtain ⟨g, rfl, hg⟩ := own_form H2.out.2.2.1 HT.out.1
          obtain ⟨w2, hw2⟩ : ∃ y, y = wr := ⟨_, rfl⟩
          subst hw2
          have i1 : ¬ ((j : Int) < j) := by omega
          have ET := Lib.hid (show wrap64 ((j : Int) - 1) = ((j - 1 : Nat) : Int) from (IntWalk.wrap64_in _ ⟨by omega, by have := HT.out; omega⟩).trans (by omega))
          have et := ET.out
          clear htwo hj hjt
          go_wp2
          clear et
          go_loopw [8, 12] (fun sx si wr => ∃ (i : Nat) (ys : List Int) (y : Int), i ≤ j - 1 ∧ si = .int .i64 i ∧ sx = .int .u64 y ∧ Two w wr (.slice a L c) L out (.slice (some ⟨g, 0, none⟩) j c') j ys ∧ ys.length = j ∧ (0 ≤ y ∧ y < 18446744073709551616) ∧ shuf i ys y = R) (fun _ si _ => (intOf si).toNat)
          case atStart => exact ⟨j - 1, iota j, y0, Nat.le_refl _, (by first | rfl | exact congrArg (Value.int .i64) ET.out | exact congrArg (Value.int .i64) (by have := HT.out; omega)), rfl, H2.out, iota_len j, HY.out, HR.out⟩
          case round =>
            obtain ⟨i, ys, y, hi, rfl, rfl, htwo, hys, hy, hsh⟩ := hrel
            obtain ⟨w3, hw3⟩ : ∃ y, y = wr := ⟨_, rfl⟩
            subst hw3
            have HSH := Lib.hid hsh
            have H3 := Lib.hid htwo
            rcases Nat.eq_zero_or_pos i with rfl | hpos
            · obtain rfl : R = (ys, y) := hsh.symm
              clear htwo hsh hy hi
              go_wp2
              go_loopw [9, 14] (fun so si wr => ∃ k : Nat, k ≤ j ∧ si = .int .i64 k ∧ ∃ N a2 c2, so = .slice a2 N c2 ∧ L + k = N ∧ N ≤ M ∧ Two w wr (.slice a2 N c2) N (out ++ ys.take k) (.slice (some ⟨g, 0, none⟩) j c') j ys) (fun _ si _ => j - (intOf si).toNat)
              case atStart => exact ⟨0, Nat.zero_le _, rfl, L, a, c, rfl, rfl, by have := HLT.out; omega, by rw [List.take_zero, List.append_nil]; exact H3.out⟩
              case round =>
                obtain ⟨k, hk, rfl, N, a2, c2, rfl, hN, hNM, htwo⟩ := hrel
                have H4 := Lib.hid htwo
                have HN := Lib.hid (And.intro hN hNM)
                by_cases hkj : k < j
                · by_cases hnm : N < M
                  · obtain ⟨u, hu⟩ : ∃ u, ys[k]? = some u := ⟨ys[k]'(by omega), List.getElem?_eq_getElem _⟩
                    obtain ⟨c0, c1⟩ := htwo.cell hu
                    obtain ⟨z1, rfl⟩ := htwo.1
                    have HU := Lib.hid hu
                    haveI : LtSz g (ext w z1).heap.size := ⟨World.block_lt_of_cell? _ _ c0⟩
                    have i1 : (k : Int) < j := by omega
                    have i3 : (0 : Int) ≤ k := by omega
                    have i4 : (N : Int) < M := by omega
                    have EW := Lib.hid (show wrap64 ((k : Int) + 1) = ((k + 1 : Nat) : Int) from (IntWalk.wrap64_in _ ⟨by omega, by have := HT.out; omega⟩).trans (by omega))
                    have HL := Lib.hid hkj
                    have HNM := Lib.hid hnm
                    clear htwo hk hkj hN hNM hnm hu
                    go_wp2_with (at_builtin; refine push_two rfl _ _ rfl w _ _ _ _ _ _ _ _ H4.out _ _ rfl rfl (by simp) (by have := HNM.out; have := HM.out; omega) ?_; intro g2 cap y hown1; have H5 := Lib.hid hown1; clear hown1)
                    exact nat_up (P := fun k => ∃ N' a2 c2, Value.slice (some ⟨g2, 0, none⟩) (N + 1) cap = .slice a2 N' c2 ∧ L + k = N' ∧ N' ≤ M ∧ Two w (ext w y) (.slice a2 N' c2) N' (out ++ ys.take k) (.slice (some ⟨g, 0, none⟩) j c') j ys) (by first | exact EW.out | omega) HL.out ⟨N + 1, _, _, rfl, by have := HN.out; omega, by have := HNM.out; omega, by rw [take_succ_snoc HU.out, ← List.append_assoc]; exact H5.out⟩
                  · have i1 : (k : Int) < j := by omega
                    have i4 : ¬ ((N : Int) < M) := by omega
                    have OE := Lib.hid (show out ++ ys.take k = (rnds j x (r + 1)).1.take M from OS.out k (.inr ⟨hk, by omega⟩))
                    have HME := Lib.hid (show M - N < M - L by have := HLT.out; have := HT.out; omega)
                    clear htwo hk hkj hN hNM hnm
                    go_wp2
                    exact ⟨⟨r + 1, N, c2, a2, HN.out.2, rfl, by rw [HNX.out], by rw [← OE.out]; have := H4.out.2.1.1; simpa [vs] using this, H4.out.1, by rw [← OE.out]; exact H4.out.2.1⟩, HME.out⟩
                · have i1 : ¬ ((k : Int) < j) := by omega
                  have OE := Lib.hid (show out ++ ys.take k = (rnds j x (r + 1)).1.take M from OS.out k (.inl ⟨by omega, by omega⟩))
                  have HME := Lib.hid (show M - N < M - L by have := HLT.out; have := HT.out; omega)
                  clear htwo hk hkj hN hNM 
                  go_wp2
                  exact ⟨⟨r + 1, N, c2, a2, HN.out.2, rfl, by rw [HNX.out], by rw [← OE.out]; have := H4.out.2.1.1; simpa [vs] using this, H4.out.1, by rw [← OE.out]; exact H4.out.2.1⟩, HME.out⟩
            · obtain ⟨m, hm⟩ : ∃ m, i = m + 1 := ⟨i - 1, by omega⟩
              have hn0 := nextI_in y
              have hk0 : 0 ≤ nextI y % ((i : Int) + 1) := Int.emod_nonneg _ (by omega)
              have hk1 : nextI y % ((i : Int) + 1) < (i : Int) + 1 := Int.emod_lt_of_pos _ (by omega)
              have NY := Lib.hid (NX.out y)
              have hsh2 : shuf m (swp ys i (nextI y % ((i : Int) + 1)).toNat) (nextI y) = R := by
                rw [← hsh, hm, shuf, show ((m + 1 : Nat) : Int) + 1 = (m : Int) + 2 by omega]
              obtain ⟨K, hK⟩ : ∃ K : Nat, nextI y % ((i : Int) + 1) = K := ⟨(nextI y % ((i : Int) + 1)).toNat, by omega⟩
              rw [hK] at hk0 hk1 hsh2
              simp only [Int.toNat_natCast] at hsh2
              generalize nextI y = y2 at *
              have HK := Lib.hid (show wrap64 (y2.tmod ((i : Int) + 1)) = K by rw [Int.tmod_eq_emod_of_nonneg hn0.1]; exact (IntWalk.wrap64_in _ ⟨by omega, by have := HT.out; omega⟩).trans hK)
              have hm1 : i < ys.length := by omega
              have hK1 : K < ys.length := by omega
              obtain ⟨u, hu⟩ : ∃ u, ys[i]? = some u := ⟨ys[i], List.getElem?_eq_getElem _⟩
              obtain ⟨v, hv⟩ : ∃ v, ys[K]? = some v := ⟨ys[K], List.getElem?_eq_getElem _⟩
              have hsw : swp ys i K = (ys.set i v).set K u := by
                unfold swp
                rw [List.getD_eq_getElem?_getD, List.getD_eq_getElem?_getD, hu, hv]
                rfl
              rw [hsw] at hsh2
              have HSH2 := Lib.hid hsh2
              have hsk : (ys.set i v)[K]? = some v := by
                rw [List.getElem?_set]
                split
                · next e => rfl
                · exact hv
              have HYS := Lib.hid (And.intro hys (And.intro hn0 (And.intro hi hm)))
              obtain ⟨c0, c1⟩ := htwo.cell hu
              obtain ⟨d0, d1⟩ := htwo.cell hv
              obtain ⟨g0, g1⟩ := (htwo.set i v).cell hsk
              haveI : LtSz g w3.heap.size := ⟨World.block_lt_of_cell? _ _ c0⟩
              have j0 : (0 : Int) < i := by omega
              have j1 : (0 : Int) ≤ i := by omega
              have j2 : (i : Int) < j := by omega
              have j3 : (0 : Int) ≤ K := by omega
              have j4 : (K : Int) < j := by omega
              have EA2 := Lib.hid (show wrap64 ((i : Int) + 1) = (i : Int) + 1 from IntWalk.wrap64_in _ ⟨by omega, by have := HT.out; omega⟩)
              have EB := Lib.hid (show wrap64 ((i : Int) - 1) = (m : Int) from (IntWalk.wrap64_in _ ⟨by omega, by have := HT.out; omega⟩).trans (by omega))
              clear htwo hsh hsh2 hy hsw hu hv hn0 hk0 hk1 hK hys hm1 hK1 hi hpos hm hsk
              have ea := EA2.out
              have ek := HK.out
              go_wp2_with (go_at_call 31; (with_reducible refine (NY.out _).mono ?_); rintro e w4 ⟨rfl, rfl⟩)
              clear ea
              go_region
              have eb := EB.out
              go_wp2
              clear eb ek
              exact ⟨⟨m, (ys.set i v).set K u, y2, by have := HYS.out; omega, (by first | rfl | exact congrArg (Value.int .i64) EB.out | exact congrArg (Value.int .i64) (by have := HYS.out; omega)), rfl, ((H3.out.set i v).set K u).on ((Ext.refl _).drew), by rw [List.length_set, List.length_set]; exact HYS.out.1, HYS.out.2.1, HSH2.out⟩, (by (first | rw [EB.out] | skip); have := HYS.out; simp only [intOf]; omega)⟩
end Go.Proofs.Ytgjolablgcnlmaa
