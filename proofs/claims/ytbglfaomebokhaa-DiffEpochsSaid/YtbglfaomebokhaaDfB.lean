/- The reference of layer 25: Epochs. -/
import Derived.Test.YtbglfaomebokhaaDf9
namespace Go.Proofs.Ytbglfaomebokhaa
set_option linter.unusedSimpArgs false
set_option linter.unusedVariables false
open Go.RowKit

theorem epF_succ (l : List Ou) (node : Int) (e : Nat) : epF l node (e + 1) = epF l node e ++ [ofF (sel l node e)] := by unfold epF; rw [List.range_succ, List.map_append]; rfl
theorem sel_all (l : List Ou) (node : Int) (e : Nat) : sel (l.take l.length) node e = sel l node e := by rw [List.take_length]
set_option maxHeartbeats 8000000 in
theorem refEpochs_any (l : List Ou) (a : Option Addr) (c : Nat) (node many : Int) (w : World) (h : Rd w 4 l.length (.slice a l.length c) (ous l)) (hl : l.length ≤ 1000) :
    Calls Try.prog 30 #[.slice a l.length c, .int .i64 node, .int .i64 many] w fun e w' => ∃ v', e = .returned v' ∧ Ext w w' ∧ Rbs w' (epAll l node many) v' := by
  have H := Lib.hid h
  have HL := Lib.hid hl
  unfold epAll
  clear h hl
  by_cases g1 : many < 0
  · have f0 : decide ((0 : Int) < many) = false := decide_eq_false (by omega)
    have f1 : decide (many < 0) = true := decide_eq_true g1
    rw [f1]
    simp only [Bool.true_or, if_true]
    clear g1
    go_enter Try.func30, Try.ntmps30
    go_wp2
    go_loopw [7, 8] (fun v i wr => i = .int .i64 0 ∧ v = .slice none 0 0 ∧ Ext w wr) (fun _ i _ => 0)
    case atStart => exact ⟨rfl, rfl, by (repeat' (first | with_reducible exact Ext.refl _ | with_reducible refine Ext.ext ?_ _ | with_reducible refine Ext.alloc ?_ _ | with_reducible refine Ext.drew ?_ | with_reducible refine Ext.drewN ?_ _ | with_reducible assumption))⟩
    case round =>
      obtain ⟨rfl, rfl, hx⟩ := hrel
      have HX := Lib.hid hx
      clear hx
      go_wp2
      go_returns
      exact ⟨_, rfl, HX.out, none, 0, [], rfl, Rd.nil _ _ _ _, fun i l u h => by simp at h⟩
  · obtain ⟨n, rfl⟩ : ∃ n : Nat, many = (n : Int) := ⟨many.toNat, by omega⟩
    rw [Int.toNat_natCast, decide_eq_false g1]
    by_cases g2 : 65536 < (n : Int)
    · have f2 : decide ((n : Int) ≤ 65536) = false := decide_eq_false (by omega)
      have f0 : decide ((0 : Int) < n) = true := decide_eq_true (by omega)
      have f0n : 0 < n := by omega
      have f0m : decide (0 < n) = true := decide_eq_true f0n
      rw [decide_eq_true g2]
      simp only [Bool.or_true, if_true]
      clear g1 g2
      go_enter Try.func30, Try.ntmps30
      go_wp2
      go_loopw [7, 8] (fun v i wr => i = .int .i64 0 ∧ v = .slice none 0 0 ∧ Ext w wr) (fun _ i _ => 0)
      case atStart => exact ⟨rfl, rfl, by (repeat' (first | with_reducible exact Ext.refl _ | with_reducible refine Ext.ext ?_ _ | with_reducible refine Ext.alloc ?_ _ | with_reducible refine Ext.drew ?_ | with_reducible refine Ext.drewN ?_ _ | with_reducible assumption))⟩
      case round =>
        obtain ⟨rfl, rfl, hx⟩ := hrel
        have HX := Lib.hid hx
        clear hx
        go_wp2
        go_returns
        exact ⟨_, rfl, HX.out, none, 0, [], rfl, Rd.nil _ _ _ _, fun i l u h => by simp at h⟩
    · have N6 := Lib.hid (show n ≤ 65536 by omega)
      have f2 : decide ((n : Int) ≤ 65536) = true := decide_eq_true (by omega)
      rw [decide_eq_false g2]
      simp only [Bool.or_self, Bool.false_eq_true, if_false]
      clear g1 g2
      go_enter Try.func30, Try.ntmps30
      go_wp2
      go_loopw [7, 8] (fun v i wr => ∃ e : Nat, e ≤ n ∧ i = .int .i64 e ∧ OBs w w.heap.size (epF l node e) v wr) (fun _ i _ => n - (intOf i).toNat)
      case atStart => exact ⟨0, by omega, rfl, OBs.nil _ _⟩
      case round =>
        obtain ⟨e, hen, rfl, ho⟩ := hrel
        rename_i wr _
        have OB := Lib.hid ho
        have HX1 := Lib.hid ho.1
        clear ho
        have e0 : (0 : Int) ≤ e := by omega
        by_cases hlt : e < n
        · have i3 : (e : Int) < n := by omega
          have ewe : wrap64 ((e : Int) + 1) = ((e + 1 : Nat) : Int) := (IntWalk.wrap64_in _ ⟨by omega, by have := N6.out; omega⟩).trans (by omega)
          go_wp2
          go_loopw [9, 10] (fun v i w2 => ∃ j : Nat, j ≤ l.length ∧ i = .int .i64 j ∧ Ext wr w2 ∧ El w2 (ofF (sel (l.take j) node e)) v) (fun _ i _ => l.length - (intOf i).toNat)
          case atStart => exact ⟨0, by omega, rfl, by (repeat' (first | with_reducible exact Ext.refl _ | with_reducible refine Ext.ext ?_ _ | with_reducible refine Ext.alloc ?_ _ | with_reducible refine Ext.drew ?_ | with_reducible refine Ext.drewN ?_ _ | with_reducible assumption)), El.nil _⟩
          case round =>
            obtain ⟨j, hj, rfl, hx2, hel⟩ := hrel
            rename_i w2 _
            have EL := Lib.hid hel
            have HX2 := Lib.hid hx2
            clear hx2 hel
            by_cases hlt2 : j < l.length
            · obtain ⟨x, hx⟩ : ∃ x, l[j]? = some x := ⟨l[j], List.getElem?_eq_getElem _⟩
              obtain ⟨b, off, rfl, -⟩ := H.out.cells (by omega)
              obtain ⟨q0, q1, q2, q3⟩ := ou_cells (H.out.of_ext (HX1.out.trans HX2.out)) j x hx
              have i1 : (0 : Int) ≤ j := by omega
              have i2 : (j : Int) < l.length := by omega
              have ew : wrap64 ((j : Int) + 1) = ((j + 1 : Nat) : Int) := (IntWalk.wrap64_in _ ⟨by omega, by have := HL.out; omega⟩).trans (by omega)
              have SN := sel_snoc hx node e
              have hln := Nat.le_trans (ofF_len (sel (l.take j) node e)) (sel_len (l.take j) node e)
              rw [List.length_take] at hln
              have LN := Lib.hid (show (ofF (sel (l.take j) node e)).length ≤ 1073741822 by have := HL.out; omega)
              obtain ⟨t1, e1⟩ : ∃ b, (x.d == node) = b := ⟨_, rfl⟩
              obtain ⟨t2, e2⟩ : ∃ b, (x.e == (e : Int)) = b := ⟨_, rfl⟩
              rw [e1, e2] at SN
              obtain ⟨xd, xe, xk, xv⟩ := x
              dsimp only at q0 q1 q2 q3 e1 e2 SN
              clear hx hln
              cases t1
              case false =>
                have NO := Lib.hid (show sel (l.take (j + 1)) node e = sel (l.take j) node e by rw [SN]; simp)
                clear SN
                go_wp2
                exact ⟨⟨j + 1, by omega, congrArg (Value.int .i64) ew, by (repeat' (first | with_reducible exact Ext.refl _ | with_reducible refine Ext.ext ?_ _ | with_reducible refine Ext.alloc ?_ _ | with_reducible refine Ext.drew ?_ | with_reducible refine Ext.drewN ?_ _ | with_reducible refine Ext.trans ?_ HX1.out | with_reducible refine Ext.trans ?_ HX2.out | with_reducible refine Ext.trans ?_ HX3.out | with_reducible refine Ext.trans ?_ HX4.out | with_reducible refine Ext.trans ?_ HX5.out | with_reducible refine Ext.trans ?_ HX6.out | with_reducible refine Ext.trans ?_ HX7.out | with_reducible refine Ext.trans ?_ HX8.out | with_reducible refine Ext.trans ?_ HX9.out | with_reducible refine Ext.trans ?_ HX10.out | with_reducible refine Ext.trans ?_ HX11.out | with_reducible refine Ext.trans ?_ HX12.out | with_reducible refine Ext.trans ?_ HX13.out | with_reducible refine Ext.trans ?_ HX14.out | with_reducible refine Ext.trans ?_ HX15.out | with_reducible refine Ext.trans ?_ HX16.out | with_reducible refine Ext.trans ?_ HX17.out | with_reducible refine Ext.trans ?_ HX18.out | with_reducible refine Ext.trans ?_ HX19.out | with_reducible refine Ext.trans ?_ HX20.out | with_reducible refine Ext.trans ?_ HX21.out | with_reducible refine Ext.trans ?_ HX22.out | with_reducible refine Ext.trans ?_ HX23.out | with_reducible refine Ext.trans ?_ HX24.out)), by rw [NO.out]; exact EL.out.on (by (repeat' (first | with_reducible exact Ext.refl _ | with_reducible refine Ext.ext ?_ _ | with_reducible refine Ext.alloc ?_ _ | with_reducible refine Ext.drew ?_ | with_reducible refine Ext.drewN ?_ _ | with_reducible assumption)))⟩, by rw [ew]; simp only [intOf]; omega⟩
              cases t2
              case false =>
                have NO := Lib.hid (show sel (l.take (j + 1)) node e = sel (l.take j) node e by rw [SN]; simp)
                clear SN
                go_wp2
                exact ⟨⟨j + 1, by omega, congrArg (Value.int .i64) ew, by (repeat' (first | with_reducible exact Ext.refl _ | with_reducible refine Ext.ext ?_ _ | with_reducible refine Ext.alloc ?_ _ | with_reducible refine Ext.drew ?_ | with_reducible refine Ext.drewN ?_ _ | with_reducible refine Ext.trans ?_ HX1.out | with_reducible refine Ext.trans ?_ HX2.out | with_reducible refine Ext.trans ?_ HX3.out | with_reducible refine Ext.trans ?_ HX4.out | with_reducible refine Ext.trans ?_ HX5.out | with_reducible refine Ext.trans ?_ HX6.out | with_reducible refine Ext.trans ?_ HX7.out | with_reducible refine Ext.trans ?_ HX8.out | with_reducible refine Ext.trans ?_ HX9.out | with_reducible refine Ext.trans ?_ HX10.out | with_reducible refine Ext.trans ?_ HX11.out | with_reducible refine Ext.trans ?_ HX12.out | with_reducible refine Ext.trans ?_ HX13.out | with_reducible refine Ext.trans ?_ HX14.out | with_reducible refine Ext.trans ?_ HX15.out | with_reducible refine Ext.trans ?_ HX16.out | with_reducible refine Ext.trans ?_ HX17.out | with_reducible refine Ext.trans ?_ HX18.out | with_reducible refine Ext.trans ?_ HX19.out | with_reducible refine Ext.trans ?_ HX20.out | with_reducible refine Ext.trans ?_ HX21.out | with_reducible refine Ext.trans ?_ HX22.out | with_reducible refine Ext.trans ?_ HX23.out | with_reducible refine Ext.trans ?_ HX24.out)), by rw [NO.out]; exact EL.out.on (by (repeat' (first | with_reducible exact Ext.refl _ | with_reducible refine Ext.ext ?_ _ | with_reducible refine Ext.alloc ?_ _ | with_reducible refine Ext.drew ?_ | with_reducible refine Ext.drewN ?_ _ | with_reducible assumption)))⟩, by rw [ew]; simp only [intOf]; omega⟩
              have YES := Lib.hid (show addS (ofF (sel (l.take j) node e)) (xk, xv) 1 = ofF (sel (l.take (j + 1)) node e) by rw [SN, ← of_snoc_add]; rfl)
              clear SN
              go_wp2_with (go_at_call 37; (with_reducible refine (refAdd_el (EL.out.on (by (repeat' (first | with_reducible exact Ext.refl _ | with_reducible refine Ext.ext ?_ _ | with_reducible refine Ext.alloc ?_ _ | with_reducible refine Ext.drew ?_ | with_reducible refine Ext.drewN ?_ _ | with_reducible refine Ext.trans ?_ HX1.out | with_reducible refine Ext.trans ?_ HX2.out | with_reducible refine Ext.trans ?_ HX3.out | with_reducible refine Ext.trans ?_ HX4.out | with_reducible refine Ext.trans ?_ HX5.out | with_reducible refine Ext.trans ?_ HX6.out | with_reducible refine Ext.trans ?_ HX7.out | with_reducible refine Ext.trans ?_ HX8.out | with_reducible refine Ext.trans ?_ HX9.out | with_reducible refine Ext.trans ?_ HX10.out | with_reducible refine Ext.trans ?_ HX11.out | with_reducible refine Ext.trans ?_ HX12.out | with_reducible refine Ext.trans ?_ HX13.out | with_reducible refine Ext.trans ?_ HX14.out | with_reducible refine Ext.trans ?_ HX15.out | with_reducible refine Ext.trans ?_ HX16.out | with_reducible refine Ext.trans ?_ HX17.out | with_reducible refine Ext.trans ?_ HX18.out | with_reducible refine Ext.trans ?_ HX19.out | with_reducible refine Ext.trans ?_ HX20.out | with_reducible refine Ext.trans ?_ HX21.out | with_reducible refine Ext.trans ?_ HX22.out | with_reducible refine Ext.trans ?_ HX23.out | with_reducible refine Ext.trans ?_ HX24.out)))).rb LN.out xk xv 1 _ YES.out).mono ?_); rintro e w3 ⟨v3, rfl, hx, hb⟩; have HX3 := Lib.hid hx; have E3 := Lib.hid hb; clear hx hb)
              exact ⟨⟨j + 1, by omega, congrArg (Value.int .i64) ew, by (repeat' (first | with_reducible exact Ext.refl _ | with_reducible refine Ext.ext ?_ _ | with_reducible refine Ext.alloc ?_ _ | with_reducible refine Ext.drew ?_ | with_reducible refine Ext.drewN ?_ _ | with_reducible refine Ext.trans ?_ HX1.out | with_reducible refine Ext.trans ?_ HX2.out | with_reducible refine Ext.trans ?_ HX3.out | with_reducible refine Ext.trans ?_ HX4.out | with_reducible refine Ext.trans ?_ HX5.out | with_reducible refine Ext.trans ?_ HX6.out | with_reducible refine Ext.trans ?_ HX7.out | with_reducible refine Ext.trans ?_ HX8.out | with_reducible refine Ext.trans ?_ HX9.out | with_reducible refine Ext.trans ?_ HX10.out | with_reducible refine Ext.trans ?_ HX11.out | with_reducible refine Ext.trans ?_ HX12.out | with_reducible refine Ext.trans ?_ HX13.out | with_reducible refine Ext.trans ?_ HX14.out | with_reducible refine Ext.trans ?_ HX15.out | with_reducible refine Ext.trans ?_ HX16.out | with_reducible refine Ext.trans ?_ HX17.out | with_reducible refine Ext.trans ?_ HX18.out | with_reducible refine Ext.trans ?_ HX19.out | with_reducible refine Ext.trans ?_ HX20.out | with_reducible refine Ext.trans ?_ HX21.out | with_reducible refine Ext.trans ?_ HX22.out | with_reducible refine Ext.trans ?_ HX23.out | with_reducible refine Ext.trans ?_ HX24.out)), E3.out⟩, by rw [ew]; simp only [intOf]; omega⟩
            · obtain rfl : j = l.length := by omega
              rw [List.take_length] at EL
              have LC := Lib.hid (show (epF l node e).length ≤ 1073741823 by rw [epF_length]; have := N6.out; omega)
              have C1 := Lib.hid (epF_succ l node e)
              have el' := EL.out
              obtain ⟨a9, c9, rfl, -⟩ := el'
              go_wp2_with (at_builtin; refine push_obs rfl _ _ rfl w _ _ _ (by exact OB.out.on (by (repeat' (first | with_reducible exact Ext.refl _ | with_reducible refine Ext.ext ?_ _ | with_reducible refine Ext.alloc ?_ _ | with_reducible refine Ext.drew ?_ | with_reducible refine Ext.drewN ?_ _ | with_reducible refine Ext.trans ?_ HX1.out | with_reducible refine Ext.trans ?_ HX2.out | with_reducible refine Ext.trans ?_ HX3.out | with_reducible refine Ext.trans ?_ HX4.out | with_reducible refine Ext.trans ?_ HX5.out | with_reducible refine Ext.trans ?_ HX6.out | with_reducible refine Ext.trans ?_ HX7.out | with_reducible refine Ext.trans ?_ HX8.out | with_reducible refine Ext.trans ?_ HX9.out | with_reducible refine Ext.trans ?_ HX10.out | with_reducible refine Ext.trans ?_ HX11.out | with_reducible refine Ext.trans ?_ HX12.out | with_reducible refine Ext.trans ?_ HX13.out | with_reducible refine Ext.trans ?_ HX14.out | with_reducible refine Ext.trans ?_ HX15.out | with_reducible refine Ext.trans ?_ HX16.out | with_reducible refine Ext.trans ?_ HX17.out | with_reducible refine Ext.trans ?_ HX18.out | with_reducible refine Ext.trans ?_ HX19.out | with_reducible refine Ext.trans ?_ HX20.out | with_reducible refine Ext.trans ?_ HX21.out | with_reducible refine Ext.trans ?_ HX22.out | with_reducible refine Ext.trans ?_ HX23.out | with_reducible refine Ext.trans ?_ HX24.out)))) _ _ _ rfl rfl (by first | rfl | (simp; done)) LC.out _ (by exact EL.out.on (by (repeat' (first | with_reducible exact Ext.refl _ | with_reducible refine Ext.ext ?_ _ | with_reducible refine Ext.alloc ?_ _ | with_reducible refine Ext.drew ?_ | with_reducible refine Ext.drewN ?_ _ | with_reducible refine Ext.trans ?_ HX1.out | with_reducible refine Ext.trans ?_ HX2.out | with_reducible refine Ext.trans ?_ HX3.out | with_reducible refine Ext.trans ?_ HX4.out | with_reducible refine Ext.trans ?_ HX5.out | with_reducible refine Ext.trans ?_ HX6.out | with_reducible refine Ext.trans ?_ HX7.out | with_reducible refine Ext.trans ?_ HX8.out | with_reducible refine Ext.trans ?_ HX9.out | with_reducible refine Ext.trans ?_ HX10.out | with_reducible refine Ext.trans ?_ HX11.out | with_reducible refine Ext.trans ?_ HX12.out | with_reducible refine Ext.trans ?_ HX13.out | with_reducible refine Ext.trans ?_ HX14.out | with_reducible refine Ext.trans ?_ HX15.out | with_reducible refine Ext.trans ?_ HX16.out | with_reducible refine Ext.trans ?_ HX17.out | with_reducible refine Ext.trans ?_ HX18.out | with_reducible refine Ext.trans ?_ HX19.out | with_reducible refine Ext.trans ?_ HX20.out | with_reducible refine Ext.trans ?_ HX21.out | with_reducible refine Ext.trans ?_ HX22.out | with_reducible refine Ext.trans ?_ HX23.out | with_reducible refine Ext.trans ?_ HX24.out)))) ?_; intro v4 w4 hb4 hk; rw [← C1.out] at hb4; have OB4 := Lib.hid hb4; clear hb4 hk)
              exact ⟨⟨e + 1, by omega, congrArg (Value.int .i64) ewe, OB4.out⟩, by rw [ewe]; simp only [intOf]; omega⟩
        · obtain rfl : e = n := by omega
          go_wp2
          go_returns
          exact ⟨_, rfl, (OB.out.on (by (repeat' (first | with_reducible exact Ext.refl _ | with_reducible refine Ext.ext ?_ _ | with_reducible refine Ext.alloc ?_ _ | with_reducible refine Ext.drew ?_ | with_reducible refine Ext.drewN ?_ _ | with_reducible assumption)))).rbs⟩
end Go.Proofs.Ytbglfaomebokhaa
