/- law 14: the walk of NetFull. -/
import Derived.Test.YtlhmifkimnmnmaaLaw14a
namespace Go.Proofs.Ytlhmifkimnmnmaa
set_option linter.unusedSimpArgs false
set_option linter.unusedVariables false
open Go.RowKit

def fullM (e : Int) (k : Nat) : List Mg := (List.range k).map (fun i : Nat => (⟨e, 0, 0, 0, 0, 0, 0, 0, (i : Int) + 1, 0⟩ : Mg))
theorem fullM_len (e : Int) (k : Nat) : (fullM e k).length = k := by unfold fullM; simp
theorem fullM_succ (e : Int) (k : Nat) : fullM e (k + 1) = fullM e k ++ [⟨e, 0, 0, 0, 0, 0, 0, 0, (k : Int) + 1, 0⟩] := by unfold fullM; rw [List.range_succ, List.map_append]; rfl
theorem fullM_get {e : Int} {k i : Nat} (h : i < k) : (fullM e k)[i]? = some ⟨e, 0, 0, 0, 0, 0, 0, 0, (i : Int) + 1, 0⟩ := by unfold fullM; simp [h]
theorem fullM_e {e : Int} {k : Nat} : ∀ m ∈ fullM e k, m.e = e := by
  intro m hm
  unfold fullM at hm
  obtain ⟨i, -, rfl⟩ := List.mem_map.1 hm
  rfl
theorem few_one {e f t : Int} {ms : List Mg} (h : ms.length ≤ 1000) : Few (oneB e f t ms) := by
  cases ms with
  | nil => exact ⟨Nat.zero_le _, fun x hx => by cases hx⟩
  | cons m ms => exact ⟨by simp [oneB], fun x hx => by obtain rfl := List.mem_singleton.1 hx; show (m :: ms).length ≤ 1000000; omega⟩
set_option maxRecDepth 100000 in
set_option maxHeartbeats 16000000 in
theorem walk_NetFull (w : World) (e : Int) (he : 0 ≤ e ∧ e ≤ 255) (f : Int) (hf : 0 ≤ f ∧ f ≤ 255) (t : Int) (ht : 0 ≤ t ∧ t ≤ 255) (room : Int) (hr : 0 ≤ room ∧ room ≤ 255) (at' : Int) (ha : 0 ≤ at' ∧ at' ≤ 255) :
    Calls Try.prog 5 #[.int .u8 e, .int .u8 f, .int .u8 t, .int .u8 room, .int .u8 at'] w fun r w' => r = .returned (.bool true) ∧ Ext w w' := by
  have AW := Lib.hid awake14
  obtain ⟨he1, he2⟩ := he
  obtain ⟨hf1, hf2⟩ := hf
  obtain ⟨ht1, ht2⟩ := ht
  obtain ⟨hr1, hr2⟩ := hr
  obtain ⟨ha1, ha2⟩ := ha
  go_enter Try.func5, Try.ntmps5
  go_upto_region 6 with (go_at_call 6; refine (AW.out _).mono ?_; rintro r w1 ⟨rfl, hx⟩; have HX1 := Lib.hid hx; clear hx)
  obtain ⟨N, hN⟩ : ∃ N : Nat, room % 100 = (N : Int) := ⟨(room % 100).toNat, by omega⟩
  have HN := Lib.hid (show N < 100 by omega)
  rw [hN]
  clear hN hr1 hr2
  have HE := Lib.hid (And.intro he1 (And.intro hf1 ht1))
  have RT := Lib.hid (fun k (hk : k ≤ 100) => oneB_right he1 hf1 ht1 (show (fullM e k).length ≤ 4096 by rw [fullM_len]; omega) fullM_e)
  have FW := Lib.hid (fun k (hk : k ≤ 100) => few_one (e := e) (f := f) (t := t) (ms := fullM e k) (by rw [fullM_len]; omega))
  have PO := Lib.hid (fun k (hk : k ≤ 100) (x : Int) => oneB_putOk (ms := fullM e k) (N : Int) (m := ⟨e, 0, 0, 0, 0, 0, 0, 0, x, 0⟩) rfl he1 hf1 ht1 (RT.out k hk) (by have := HN.out; omega))
  have P1 := Lib.hid (fun k (hk : k < N) W a n c (h : RdsG shB W (oneB e f t (fullM e k)) (.slice a n c)) => put_let h (FW.out k (by have := HN.out; omega)) f t N e 0 0 0 0 0 0 0 ((k : Int) + 1) 0 (oneB e f t (fullM e (k + 1))) true (by rw [putS, PO.out k (by have := HN.out; omega), fullM_len, decide_eq_true (by omega), if_pos rfl, oneB_add (e := e) rfl, fullM_succ]) (by rw [PO.out k (by have := HN.out; omega), fullM_len, decide_eq_true (by omega)]))
  have P2 := Lib.hid (fun W a n c (h : RdsG shB W (oneB e f t (fullM e N)) (.slice a n c)) => put_let h (FW.out N (by have := HN.out; omega)) f t N e 0 0 0 0 0 0 0 0 0 (oneB e f t (fullM e N)) false (by rw [putS, PO.out N (by have := HN.out; omega), fullM_len, decide_eq_false (by omega)]; rfl) (by rw [PO.out N (by have := HN.out; omega), fullM_len, decide_eq_false (by omega)]))
  have L2 := Lib.hid (fun W a n c (h : RdsG shB W (oneB e f t (fullM e N)) (.slice a n c)) => len_let h (FW.out N (by have := HN.out; omega)) e f t N (by rw [oneB_lenS (RT.out N (by have := HN.out; omega)), fullM_len]))
  clear he1 he2 hf1 hf2 ht1 ht2
  go_wp2
  go_loopw [15, 16] (fun v i wr => ∃ j : Nat, j ≤ N ∧ i = .int .i64 j ∧ Ext w wr ∧ RdsG shB wr (oneB e f t (fullM e j)) v) (fun _ i _ => N - (intOf i).toNat)
  case atStart => exact ⟨0, by omega, rfl, HX1.out, RdsG.nil _ _ _⟩
  case round =>
    obtain ⟨j, hj, rfl, hx, hb⟩ := hrel
    have HX2 := Lib.hid hx
    have B := Lib.hid hb
    obtain ⟨va, vc, rfl⟩ := rds_form hb
    clear hx hb
    by_cases hlt : j < N
    · have PJ := Lib.hid (P1.out j hlt)
      have EW := Lib.hid (show wrap64 ((j : Int) + 1) = ((j + 1 : Nat) : Int) from (IntWalk.wrap64_in _ ⟨by omega, by have := HN.out; omega⟩).trans (by omega))
      have i2 : (j : Int) < N := by omega
      have ew : wrap64 ((j : Int) + 1) = (j : Int) + 1 := IntWalk.wrap64_in _ ⟨by omega, by have := HN.out; omega⟩
      clear P1 P2 L2 PO RT FW
      go_wp2_with (go_at_call 8; (with_reducible refine (PJ.out _ _ _ _ B.out).mono ?_); rintro r w3 ⟨a3, c3, rfl, hx, hb⟩; have HX3 := Lib.hid hx; have B3 := Lib.hid hb; clear hx hb)
      exact nat_up (P := fun i => Ext w w3 ∧ RdsG shB w3 (oneB e f t (fullM e i)) _) EW.out hlt ⟨HX2.out.trans HX3.out, B3.out⟩
    · obtain rfl : j = N := by omega
      clear P1
      have XL := Lib.hid (oneB_len e f t (fullM e j))
      rw [fullM_len] at XL
      rcases Nat.eq_zero_or_pos j with h0 | h0
      · subst h0
        have P2X := Lib.hid (P2.out _ _ _ _ B.out)
        have hl0 : (oneB e f t (fullM e 0)).length = 0 := rfl
        simp only [hl0] at B P2X ⊢
        go_wp2_with (first | (go_at_call 8; (refine P2X.out.mono ?_); rintro r w3 ⟨a3, c3, rfl, hx, hb⟩; have HX3 := Lib.hid hx; have B3 := Lib.hid hb; clear hx hb) | (go_at_call 15; (refine (L2.out _ _ _ _ B3.out).mono ?_); rintro r w4 ⟨rfl, hx⟩; have HX4 := Lib.hid hx; clear hx))
        go_returns
        exact ⟨retb rfl rfl, HX2.out.trans (by (repeat' (first | with_reducible exact Ext.refl _ | with_reducible refine Ext.ext ?_ _ | with_reducible refine Ext.alloc ?_ _ | with_reducible refine Ext.drew ?_ | with_reducible refine Ext.drewN ?_ _ | with_reducible refine Ext.trans ?_ HX1.out | with_reducible refine Ext.trans ?_ HX2.out | with_reducible refine Ext.trans ?_ HX3.out | with_reducible refine Ext.trans ?_ HX4.out | with_reducible refine Ext.trans ?_ HX5.out | with_reducible refine Ext.trans ?_ HX6.out | with_reducible refine Ext.trans ?_ HX7.out | with_reducible refine Ext.trans ?_ HX8.out | with_reducible refine Ext.trans ?_ HX9.out | with_reducible refine Ext.trans ?_ HX10.out | with_reducible refine Ext.trans ?_ HX11.out | with_reducible refine Ext.trans ?_ HX12.out | with_reducible refine Ext.trans ?_ HX13.out | with_reducible refine Ext.trans ?_ HX14.out | with_reducible refine Ext.trans ?_ HX15.out | with_reducible refine Ext.trans ?_ HX16.out | with_reducible refine Ext.trans ?_ HX17.out | with_reducible refine Ext.trans ?_ HX18.out | with_reducible refine Ext.trans ?_ HX19.out | with_reducible refine Ext.trans ?_ HX20.out | with_reducible refine Ext.trans ?_ HX21.out | with_reducible refine Ext.trans ?_ HX22.out | with_reducible refine Ext.trans ?_ HX23.out | with_reducible refine Ext.trans ?_ HX24.out)))⟩
      · have hl1 : (oneB e f t (fullM e j)).length = 1 := by rw [XL.out, if_neg (by omega)]
        have P2X := Lib.hid (P2.out _ _ _ _ B.out)
        simp only [hl1] at B P2X ⊢
        obtain ⟨K, hK⟩ : ∃ K : Nat, at' % (j : Int) = (K : Int) := ⟨(at' % (j : Int)).toNat, by have := Int.emod_nonneg at' (show (j : Int) ≠ 0 by omega); omega⟩
        have hKj : K < j := by have := Int.emod_lt_of_pos at' (show (0 : Int) < j by omega); omega
        have JR := RT.out j (by have := HN.out; omega)
        obtain ⟨t1, t2, t3⟩ := oneB_take JR (fullM_get hKj)
        obtain ⟨M1, hM1⟩ : ∃ M1, (fullM e j).eraseIdx K = M1 := ⟨_, rfl⟩
        have hM1l : M1.length = j - 1 := by rw [← hM1, List.length_eraseIdx_of_lt (by rw [fullM_len]; exact hKj), fullM_len]
        have hM1e : ∀ m ∈ M1, m.e = e := fun m hm => fullM_e m (by rw [← hM1] at hm; exact List.mem_of_mem_eraseIdx hm)
        rw [hM1] at t3
        have TK := Lib.hid (fun W a n c (h : RdsG shB W (oneB e f t (fullM e j)) (.slice a n c)) => take_let h (FW.out j (by have := HN.out; omega)) e f t K (by have := HN.out; omega) _ _ true t3 t2 t1)
        have M1R := oneB_right HE.out.1 HE.out.2.1 HE.out.2.2 (show M1.length ≤ 4096 by have := HN.out; omega) hM1e
        have M1F := few_one (e := e) (f := f) (t := t) (ms := M1) (by have := HN.out; omega)
        have o1 := oneB_putOk (ms := M1) (j : Int) (m := ⟨e, 0, 0, 0, 0, 0, 0, 0, 1000, 0⟩) rfl HE.out.1 HE.out.2.1 HE.out.2.2 M1R (by have := HN.out; omega)
        rw [decide_eq_true (show (M1.length : Int) < j by omega)] at o1
        obtain ⟨M2, hM2⟩ : ∃ M2, M1 ++ [⟨e, 0, 0, 0, 0, 0, 0, 0, 1000, 0⟩] = M2 := ⟨_, rfl⟩
        have hM2l : M2.length = j := by rw [← hM2, List.length_append]; show M1.length + 1 = j; omega
        have hM2e : ∀ m ∈ M2, m.e = e := fun m hm => by
          rw [← hM2, List.mem_append] at hm
          rcases hm with hm | hm
          · exact hM1e m hm
          · obtain rfl := List.mem_singleton.1 hm; rfl
        have hM2g : M2[j - 1]? = some ⟨e, 0, 0, 0, 0, 0, 0, 0, 1000, 0⟩ := by rw [← hM2, List.getElem?_append_right (by omega), hM1l, Nat.sub_self]; rfl
        have P3 := Lib.hid (fun W a n c (h : RdsG shB W (oneB e f t M1) (.slice a n c)) => put_let h M1F f t j e 0 0 0 0 0 0 0 1000 0 (oneB e f t M2) true (by rw [putS, o1, if_pos rfl, oneB_add (e := e) rfl, hM2]) o1)
        have M2R := oneB_right HE.out.1 HE.out.2.1 HE.out.2.2 (show M2.length ≤ 4096 by have := HN.out; omega) hM2e
        have M2F := few_one (e := e) (f := f) (t := t) (ms := M2) (by have := HN.out; omega)
        have o2 := oneB_putOk (ms := M2) (j : Int) (m := ⟨e, 0, 0, 0, 0, 0, 0, 0, 0, 0⟩) rfl HE.out.1 HE.out.2.1 HE.out.2.2 M2R (by have := HN.out; omega)
        rw [decide_eq_false (show ¬ (M2.length : Int) < j by omega)] at o2
        have P4 := Lib.hid (fun W a n c (h : RdsG shB W (oneB e f t M2) (.slice a n c)) => put_let h M2F f t j e 0 0 0 0 0 0 0 0 0 (oneB e f t M2) false (by rw [putS, o2]; rfl) o2)
        have L3 := Lib.hid (fun W a n c (h : RdsG shB W (oneB e f t M2) (.slice a n c)) => len_let h M2F e f t j (by rw [oneB_lenS M2R, hM2l]))
        have AL := Lib.hid (fun W a n c (h : RdsG shB W (oneB e f t M2) (.slice a n c)) => all_let h M2F M2 (by rw [allS, M2R, if_pos rfl, oneB_some e f t (by omega)]; simp))
        obtain ⟨J, hJ⟩ : ∃ J, j = J + 1 := ⟨j - 1, by omega⟩
        have HMM := Lib.hid (show M2.length = j ∧ M2[J]? = some ⟨e, 0, 0, 0, 0, 0, 0, 0, 1000, 0⟩ from ⟨hM2l, by rw [show J = j - 1 by omega]; exact hM2g⟩)
        have l2 : (oneB e f t M2).length = 1 := by rw [oneB_some e f t (by omega)]; rfl
        clear t1 t2 t3 hM1 hM1l hM1e M1R M1F o1 hM2 hM2l hM2e hM2g M2R M2F o2 JR hl1 XL PO P2 RT FW
        have f0 : ((j : Int) == 0) = false := by simp; omega
        have ews : wrap64 ((j : Int) - 1) = (J : Int) := (IntWalk.wrap64_in _ ⟨by omega, by have := HN.out; omega⟩).trans (by omega)
        have ewk : wrap64 ((K : Int) + 1) = (K : Int) + 1 := IntWalk.wrap64_in _ ⟨by omega, by have := HN.out; omega⟩
        have j1 : (0 : Int) ≤ J := by omega
        have j2 : (J : Int) < j := by omega
        have HJ := Lib.hid hJ
        dsimp only at TK
        simp only [l2] at P3
        have hml := HMM.out.1
        simp only [hml] at AL
        have H0 := Lib.hid h0
        clear hml
        clear hJ hKj
        go_wp2_with (first  | (go_at_call 8; (with_reducible refine P2X.out.mono ?_); rintro r w3 ⟨a3, c3, rfl, hx, hb⟩; have HX3 := Lib.hid hx; have B3 := Lib.hid hb; clear hx hb)  | (go_at_call 15; (with_reducible refine (L2.out _ _ _ _ B3.out).mono ?_); rintro r w4 ⟨rfl, hx⟩; have HX4 := Lib.hid hx; clear hx)  | (go_at_call 13; (with_reducible refine (TK.out _ _ _ _ (B.out.on (by (repeat' (first | with_reducible exact Ext.refl _ | with_reducible refine Ext.ext ?_ _ | with_reducible refine Ext.alloc ?_ _ | with_reducible refine Ext.drew ?_ | with_reducible refine Ext.drewN ?_ _ | with_reducible refine Ext.trans ?_ HX1.out | with_reducible refine Ext.trans ?_ HX2.out | with_reducible refine Ext.trans ?_ HX3.out | with_reducible refine Ext.trans ?_ HX4.out | with_reducible refine Ext.trans ?_ HX5.out | with_reducible refine Ext.trans ?_ HX6.out | with_reducible refine Ext.trans ?_ HX7.out | with_reducible refine Ext.trans ?_ HX8.out | with_reducible refine Ext.trans ?_ HX9.out | with_reducible refine Ext.trans ?_ HX10.out | with_reducible refine Ext.trans ?_ HX11.out | with_reducible refine Ext.trans ?_ HX12.out | with_reducible refine Ext.trans ?_ HX13.out | with_reducible refine Ext.trans ?_ HX14.out | with_reducible refine Ext.trans ?_ HX15.out | with_reducible refine Ext.trans ?_ HX16.out | with_reducible refine Ext.trans ?_ HX17.out | with_reducible refine Ext.trans ?_ HX18.out | with_reducible refine Ext.trans ?_ HX19.out | with_reducible refine Ext.trans ?_ HX20.out | with_reducible refine Ext.trans ?_ HX21.out | with_reducible refine Ext.trans ?_ HX22.out | with_reducible refine Ext.trans ?_ HX23.out | with_reducible refine Ext.trans ?_ HX24.out))))).mono ?_); rintro r w5 ⟨a5, c5, rfl, hx, hb⟩; have HX5 := Lib.hid hx; have B5 := Lib.hid hb; clear hx hb)  | (go_at_call 8; (with_reducible refine (P3.out _ _ _ _ (B5.out.on (by (repeat' (first | with_reducible exact Ext.refl _ | with_reducible refine Ext.ext ?_ _ | with_reducible refine Ext.alloc ?_ _ | with_reducible refine Ext.drew ?_ | with_reducible refine Ext.drewN ?_ _ | with_reducible refine Ext.trans ?_ HX1.out | with_reducible refine Ext.trans ?_ HX2.out | with_reducible refine Ext.trans ?_ HX3.out | with_reducible refine Ext.trans ?_ HX4.out | with_reducible refine Ext.trans ?_ HX5.out | with_reducible refine Ext.trans ?_ HX6.out | with_reducible refine Ext.trans ?_ HX7.out | with_reducible refine Ext.trans ?_ HX8.out | with_reducible refine Ext.trans ?_ HX9.out | with_reducible refine Ext.trans ?_ HX10.out | with_reducible refine Ext.trans ?_ HX11.out | with_reducible refine Ext.trans ?_ HX12.out | with_reducible refine Ext.trans ?_ HX13.out | with_reducible refine Ext.trans ?_ HX14.out | with_reducible refine Ext.trans ?_ HX15.out | with_reducible refine Ext.trans ?_ HX16.out | with_reducible refine Ext.trans ?_ HX17.out | with_reducible refine Ext.trans ?_ HX18.out | with_reducible refine Ext.trans ?_ HX19.out | with_reducible refine Ext.trans ?_ HX20.out | with_reducible refine Ext.trans ?_ HX21.out | with_reducible refine Ext.trans ?_ HX22.out | with_reducible refine Ext.trans ?_ HX23.out | with_reducible refine Ext.trans ?_ HX24.out))))).mono ?_); rintro r w6 ⟨a6, c6, rfl, hx, hb⟩; have HX6 := Lib.hid hx; have B6 := Lib.hid hb; clear hx hb)  | (go_at_call 15; (with_reducible refine (L3.out _ _ _ _ (B6.out.on (by (repeat' (first | with_reducible exact Ext.refl _ | with_reducible refine Ext.ext ?_ _ | with_reducible refine Ext.alloc ?_ _ | with_reducible refine Ext.drew ?_ | with_reducible refine Ext.drewN ?_ _ | with_reducible refine Ext.trans ?_ HX1.out | with_reducible refine Ext.trans ?_ HX2.out | with_reducible refine Ext.trans ?_ HX3.out | with_reducible refine Ext.trans ?_ HX4.out | with_reducible refine Ext.trans ?_ HX5.out | with_reducible refine Ext.trans ?_ HX6.out | with_reducible refine Ext.trans ?_ HX7.out | with_reducible refine Ext.trans ?_ HX8.out | with_reducible refine Ext.trans ?_ HX9.out | with_reducible refine Ext.trans ?_ HX10.out | with_reducible refine Ext.trans ?_ HX11.out | with_reducible refine Ext.trans ?_ HX12.out | with_reducible refine Ext.trans ?_ HX13.out | with_reducible refine Ext.trans ?_ HX14.out | with_reducible refine Ext.trans ?_ HX15.out | with_reducible refine Ext.trans ?_ HX16.out | with_reducible refine Ext.trans ?_ HX17.out | with_reducible refine Ext.trans ?_ HX18.out | with_reducible refine Ext.trans ?_ HX19.out | with_reducible refine Ext.trans ?_ HX20.out | with_reducible refine Ext.trans ?_ HX21.out | with_reducible refine Ext.trans ?_ HX22.out | with_reducible refine Ext.trans ?_ HX23.out | with_reducible refine Ext.trans ?_ HX24.out))))).mono ?_); rintro r w7 ⟨rfl, hx⟩; have HX7 := Lib.hid hx; clear hx)  | (go_at_call 8; (with_reducible refine (P4.out _ _ _ _ (B6.out.on (by (repeat' (first | with_reducible exact Ext.refl _ | with_reducible refine Ext.ext ?_ _ | with_reducible refine Ext.alloc ?_ _ | with_reducible refine Ext.drew ?_ | with_reducible refine Ext.drewN ?_ _ | with_reducible refine Ext.trans ?_ HX1.out | with_reducible refine Ext.trans ?_ HX2.out | with_reducible refine Ext.trans ?_ HX3.out | with_reducible refine Ext.trans ?_ HX4.out | with_reducible refine Ext.trans ?_ HX5.out | with_reducible refine Ext.trans ?_ HX6.out | with_reducible refine Ext.trans ?_ HX7.out | with_reducible refine Ext.trans ?_ HX8.out | with_reducible refine Ext.trans ?_ HX9.out | with_reducible refine Ext.trans ?_ HX10.out | with_reducible refine Ext.trans ?_ HX11.out | with_reducible refine Ext.trans ?_ HX12.out | with_reducible refine Ext.trans ?_ HX13.out | with_reducible refine Ext.trans ?_ HX14.out | with_reducible refine Ext.trans ?_ HX15.out | with_reducible refine Ext.trans ?_ HX16.out | with_reducible refine Ext.trans ?_ HX17.out | with_reducible refine Ext.trans ?_ HX18.out | with_reducible refine Ext.trans ?_ HX19.out | with_reducible refine Ext.trans ?_ HX20.out | with_reducible refine Ext.trans ?_ HX21.out | with_reducible refine Ext.trans ?_ HX22.out | with_reducible refine Ext.trans ?_ HX23.out | with_reducible refine Ext.trans ?_ HX24.out))))).mono ?_); rintro r w8 ⟨a8, c8, rfl, hx, hb⟩; have HX8 := Lib.hid hx; clear hx hb)  | (go_at_call 18; (with_reducible refine (AL.out _ _ _ _ (B6.out.on (by (repeat' (first | with_reducible exact Ext.refl _ | with_reducible refine Ext.ext ?_ _ | with_reducible refine Ext.alloc ?_ _ | with_reducible refine Ext.drew ?_ | with_reducible refine Ext.drewN ?_ _ | with_reducible refine Ext.trans ?_ HX1.out | with_reducible refine Ext.trans ?_ HX2.out | with_reducible refine Ext.trans ?_ HX3.out | with_reducible refine Ext.trans ?_ HX4.out | with_reducible refine Ext.trans ?_ HX5.out | with_reducible refine Ext.trans ?_ HX6.out | with_reducible refine Ext.trans ?_ HX7.out | with_reducible refine Ext.trans ?_ HX8.out | with_reducible refine Ext.trans ?_ HX9.out | with_reducible refine Ext.trans ?_ HX10.out | with_reducible refine Ext.trans ?_ HX11.out | with_reducible refine Ext.trans ?_ HX12.out | with_reducible refine Ext.trans ?_ HX13.out | with_reducible refine Ext.trans ?_ HX14.out | with_reducible refine Ext.trans ?_ HX15.out | with_reducible refine Ext.trans ?_ HX16.out | with_reducible refine Ext.trans ?_ HX17.out | with_reducible refine Ext.trans ?_ HX18.out | with_reducible refine Ext.trans ?_ HX19.out | with_reducible refine Ext.trans ?_ HX20.out | with_reducible refine Ext.trans ?_ HX21.out | with_reducible refine Ext.trans ?_ HX22.out | with_reducible refine Ext.trans ?_ HX23.out | with_reducible refine Ext.trans ?_ HX24.out))))).mono ?_); rintro r w9 ⟨a9, c9, rfl, hx, hr⟩; have HX9 := Lib.hid hx; obtain ⟨b9, off9, rfl, -⟩ := hr.cells H0.out; obtain ⟨-, -, -, -, -, -, -, -, q8, -⟩ := mgs_at hr J _ HMM.out.2; dsimp only at q8; clear hx hr))
        go_returns
        exact ⟨retb rfl rfl, HX2.out.trans (by (repeat' (first | with_reducible exact Ext.refl _ | with_reducible refine Ext.ext ?_ _ | with_reducible refine Ext.alloc ?_ _ | with_reducible refine Ext.drew ?_ | with_reducible refine Ext.drewN ?_ _ | with_reducible refine Ext.trans ?_ HX1.out | with_reducible refine Ext.trans ?_ HX2.out | with_reducible refine Ext.trans ?_ HX3.out | with_reducible refine Ext.trans ?_ HX4.out | with_reducible refine Ext.trans ?_ HX5.out | with_reducible refine Ext.trans ?_ HX6.out | with_reducible refine Ext.trans ?_ HX7.out | with_reducible refine Ext.trans ?_ HX8.out | with_reducible refine Ext.trans ?_ HX9.out | with_reducible refine Ext.trans ?_ HX10.out | with_reducible refine Ext.trans ?_ HX11.out | with_reducible refine Ext.trans ?_ HX12.out | with_reducible refine Ext.trans ?_ HX13.out | with_reducible refine Ext.trans ?_ HX14.out | with_reducible refine Ext.trans ?_ HX15.out | with_reducible refine Ext.trans ?_ HX16.out | with_reducible refine Ext.trans ?_ HX17.out | with_reducible refine Ext.trans ?_ HX18.out | with_reducible refine Ext.trans ?_ HX19.out | with_reducible refine Ext.trans ?_ HX20.out | with_reducible refine Ext.trans ?_ HX21.out | with_reducible refine Ext.trans ?_ HX22.out | with_reducible refine Ext.trans ?_ HX23.out | with_reducible refine Ext.trans ?_ HX24.out)))⟩
end Go.Proofs.Ytlhmifkimnmnmaa
