/- diff: Epochs. -/
import Derived.Test.YtbglfaomebokhaaDf9
namespace Go.Proofs.Ytbglfaomebokhaa
set_option linter.unusedSimpArgs false
set_option linter.unusedVariables false
open Go.RowKit

theorem made_obs (w : World) (n : Nat) (hn : n ≤ 1000000) : OBs w w.heap.size (List.replicate n []) (.slice (some ⟨w.heap.size, 0, none⟩) n n) (w.alloc (.cells (madeCells #[.slice none 0 0] n) 22)) := by
  have hm : (madeCells #[Value.slice none 0 0] n).toList = List.replicate n (.slice none 0 0) := toList_madeCells_one _ n
  have hs : (madeCells #[Value.slice none 0 0] n).size = n := size_madeCells _ n
  refine ⟨(Ext.refl w).alloc _, _, _, List.replicate n (.slice none 0 0), by rw [List.length_replicate], ?_, fun i l u hi hu => ?_⟩
  · rw [List.length_replicate]
    exact ⟨by rw [List.length_replicate, Nat.mul_one], .inr ⟨w.heap.size, n, _, rfl, Nat.le_refl _, heap_alloc_new w _, Nat.le_refl _, by unfold maxLen; omega, by rw [hs, Nat.mul_one], by rw [hm, Nat.mul_one, List.take_of_length_le (by rw [List.length_replicate]; omega)]⟩⟩
  · rw [List.getElem?_replicate] at hi hu
    split at hi
    · next h =>
      rw [if_pos h] at hu
      cases hi
      cases hu
      exact El.nil _
    · cases hi
theorem obs_frozen {w0 w : World} {b g n c : Nat} {ls : List (List It)} (h : OBs w0 b ls (.slice (some ⟨g, 0, none⟩) n c) w) (i : Nat) : w.frozen? ⟨g, i, none⟩ = false := by
  obtain ⟨hx, a, c', vs, he, ho, hel⟩ := h
  obtain ⟨rfl, rfl, rfl⟩ := Value.slice.inj he
  obtain ⟨-, hb, hnc, hcm, hlen, cur, hg, hcs, htake⟩ := own_parts ho
  exact frozen_row hg
set_option maxHeartbeats 8000000 in
theorem epochs_any (l : List Ou) (a : Option Addr) (c : Nat) (node many : Int) (w : World) (h : Rd w 4 l.length (.slice a l.length c) (ous l)) (hl : l.length ≤ 1000) :
    Calls Try.prog 29 #[.slice a l.length c, .int .i64 node, .int .i64 many] w fun e w' => ∃ v', e = .returned v' ∧ Ext w w' ∧ Rbs w' (epAll l node many) v' := by
  have H := Lib.hid h
  have HL := Lib.hid hl
  unfold epAll
  clear h hl
  obtain ⟨b1, f1⟩ : ∃ b, decide (many < 0) = b := ⟨_, rfl⟩
  obtain ⟨b2, f2⟩ : ∃ b, decide (65536 < many) = b := ⟨_, rfl⟩
  rw [f1, f2]
  cases b1
  case true =>
    go_enter Try.func29, Try.ntmps29
    go_wp2
    go_returns
    exact ⟨_, rfl, by (repeat' (first | with_reducible exact Ext.refl _ | with_reducible refine Ext.ext ?_ _ | with_reducible refine Ext.alloc ?_ _ | with_reducible refine Ext.drew ?_ | with_reducible refine Ext.drewN ?_ _ | with_reducible assumption)), none, 0, [], rfl, Rd.nil _ _ _ _, fun i l u h => by simp at h⟩
  cases b2
  case true =>
    go_enter Try.func29, Try.ntmps29
    go_wp2
    go_returns
    exact ⟨_, rfl, by (repeat' (first | with_reducible exact Ext.refl _ | with_reducible refine Ext.ext ?_ _ | with_reducible refine Ext.alloc ?_ _ | with_reducible refine Ext.drew ?_ | with_reducible refine Ext.drewN ?_ _ | with_reducible assumption)), none, 0, [], rfl, Rd.nil _ _ _ _, fun i l u h => by simp at h⟩
  simp only [Bool.or_self, Bool.false_eq_true, if_false]
  have g1 := of_decide_eq_false f1
  have g2 := of_decide_eq_false f2
  obtain ⟨n, rfl⟩ : ∃ n : Nat, many = (n : Int) := ⟨many.toNat, by omega⟩
  rw [Int.toNat_natCast]
  have N6 := Lib.hid (show n ≤ 65536 by omega)
  have mk : ∀ (w : World), (Instr.makeSlice 24 (.int .i64 (n : Int)) (.int .i64 (n : Int))).run Try.prog w = .ok (.slice (some ⟨w.heap.size, 0, none⟩) n n) (w.alloc (.cells (madeCells #[.slice none 0 0] n) 22)) := fun w => by
    obtain ⟨i0, hi0, hz0, hz1, hz2⟩ := info_parts info_obs
    have h := run_make (P := Try.prog) w 24 22 i0 _ Try.underlying24 hi0 hz0 .i64 .i64 (n : Int) (n : Int) (by omega) (Int.le_refl _) (by rw [hz2]; omega) (by omega)
    rw [hz1, Nat.mul_one, show ((n : Int)).toNat = n from rfl, show (Value.slice none 0 0).cells = #[.slice none 0 0] from rfl] at h
    exact h
  clear g1 g2
  go_enter Try.func29, Try.ntmps29
  go_wp2
  go_loopw [20] (fun i wr => ∃ j : Nat, j ≤ l.length ∧ i = .int .i64 j ∧ OBs w w.heap.size (epF (l.take j) node n) (.slice (some ⟨w.heap.size, 0, none⟩) n n) wr) (fun i _ => l.length - (intOf i).toNat)
  case atStart => exact ⟨0, by omega, rfl, by rw [List.take_zero, epF_nil]; exact made_obs w n (by have := N6.out; omega)⟩
  case round =>
    obtain ⟨j, hj, rfl, ho⟩ := hrel
    rename_i wr _
    have OB := Lib.hid ho
    have HX1 := Lib.hid ho.1
    clear ho
    by_cases hlt : j < l.length
    · obtain ⟨x, hx⟩ : ∃ x, l[j]? = some x := ⟨l[j], List.getElem?_eq_getElem _⟩
      obtain ⟨b, off, rfl, -⟩ := H.out.cells (by omega)
      obtain ⟨q0, q1, q2, q3⟩ := ou_cells (H.out.of_ext HX1.out) j x hx
      have i1 : (0 : Int) ≤ j := by omega
      have i2 : (j : Int) < l.length := by omega
      have ew : wrap64 ((j : Int) + 1) = ((j + 1 : Nat) : Int) := (IntWalk.wrap64_in _ ⟨by omega, by have := HL.out; omega⟩).trans (by omega)
      obtain ⟨t1, e1⟩ : ∃ b, (x.d == node) = b := ⟨_, rfl⟩
      obtain ⟨t2, e2⟩ : ∃ b, decide (0 ≤ x.e) = b := ⟨_, rfl⟩
      obtain ⟨t3, e3⟩ : ∃ b, decide (x.e < (n : Int)) = b := ⟨_, rfl⟩
      by_cases hall : (t1 && t2 && t3) = true
      · simp only [Bool.and_eq_true] at hall
        obtain ⟨⟨rfl, rfl⟩, rfl⟩ := hall
        have k1 : x.d = node := eq_of_beq e1
        have k2 := of_decide_eq_true e2
        have k3 := of_decide_eq_true e3
        obtain ⟨e0, he0⟩ : ∃ e0 : Nat, x.e = (e0 : Int) := ⟨x.e.toNat, by omega⟩
        have hlt0 : e0 < n := by omega
        have YES := epF_yes hx k1 he0 hlt0
        obtain ⟨u, hel, hc, hfz, -, -, -⟩ := obs_cell OB.out (epF_get (l.take j) node hlt0)
        have EU := Lib.hid hel
        have hln := Nat.le_trans (ofF_len (sel (l.take j) node e0)) (sel_len (l.take j) node e0)
        rw [List.length_take] at hln
        have LN := Lib.hid (show (ofF (sel (l.take j) node e0)).length ≤ 1073741822 by have := HL.out; omega)
        have HY := Lib.hid YES
        obtain ⟨xd, xe, xk, xv⟩ := x
        dsimp only at q0 q1 q2 q3 e1 e2 e3 k1 k2 k3 he0 HY
        subst he0
        subst k1
        have z0 : (0 : Int) ≤ e0 := by omega
        have z1 : (e0 : Int) < n := by omega
        clear hx YES hel hln k2 k3
        haveI : LtSz w.heap.size wr.heap.size := ⟨World.block_lt_of_cell? _ _ hc⟩
        have C0 := Lib.hid hc
        go_wp2
        go_region_with (go_at_call 36; (with_reducible refine (add_el (v := u) (EU.out.on (by (repeat' (first | with_reducible exact Ext.refl _ | with_reducible refine Ext.ext ?_ _ | with_reducible refine Ext.alloc ?_ _ | with_reducible refine Ext.drew ?_ | with_reducible refine Ext.drewN ?_ _ | with_reducible refine Ext.trans ?_ HX1.out | with_reducible refine Ext.trans ?_ HX2.out | with_reducible refine Ext.trans ?_ HX3.out | with_reducible refine Ext.trans ?_ HX4.out | with_reducible refine Ext.trans ?_ HX5.out | with_reducible refine Ext.trans ?_ HX6.out | with_reducible refine Ext.trans ?_ HX7.out | with_reducible refine Ext.trans ?_ HX8.out | with_reducible refine Ext.trans ?_ HX9.out | with_reducible refine Ext.trans ?_ HX10.out | with_reducible refine Ext.trans ?_ HX11.out | with_reducible refine Ext.trans ?_ HX12.out | with_reducible refine Ext.trans ?_ HX13.out | with_reducible refine Ext.trans ?_ HX14.out | with_reducible refine Ext.trans ?_ HX15.out | with_reducible refine Ext.trans ?_ HX16.out | with_reducible refine Ext.trans ?_ HX17.out | with_reducible refine Ext.trans ?_ HX18.out | with_reducible refine Ext.trans ?_ HX19.out | with_reducible refine Ext.trans ?_ HX20.out | with_reducible refine Ext.trans ?_ HX21.out | with_reducible refine Ext.trans ?_ HX22.out | with_reducible refine Ext.trans ?_ HX23.out | with_reducible refine Ext.trans ?_ HX24.out)))).rb LN.out xk xv 1 _ rfl).mono ?_); rintro e w2 ⟨v2, rfl, hx, hb⟩; have hb' := hb; obtain ⟨a2, c2, rfl, -⟩ := hb'; have hx1 : Ext wr w2 := Ext.trans (by (repeat' (first | with_reducible exact Ext.refl _ | with_reducible refine Ext.ext ?_ _ | with_reducible refine Ext.alloc ?_ _ | with_reducible refine Ext.drew ?_ | with_reducible refine Ext.drewN ?_ _ | with_reducible refine Ext.trans ?_ HX1.out | with_reducible refine Ext.trans ?_ HX2.out | with_reducible refine Ext.trans ?_ HX3.out | with_reducible refine Ext.trans ?_ HX4.out | with_reducible refine Ext.trans ?_ HX5.out | with_reducible refine Ext.trans ?_ HX6.out | with_reducible refine Ext.trans ?_ HX7.out | with_reducible refine Ext.trans ?_ HX8.out | with_reducible refine Ext.trans ?_ HX9.out | with_reducible refine Ext.trans ?_ HX10.out | with_reducible refine Ext.trans ?_ HX11.out | with_reducible refine Ext.trans ?_ HX12.out | with_reducible refine Ext.trans ?_ HX13.out | with_reducible refine Ext.trans ?_ HX14.out | with_reducible refine Ext.trans ?_ HX15.out | with_reducible refine Ext.trans ?_ HX16.out | with_reducible refine Ext.trans ?_ HX17.out | with_reducible refine Ext.trans ?_ HX18.out | with_reducible refine Ext.trans ?_ HX19.out | with_reducible refine Ext.trans ?_ HX20.out | with_reducible refine Ext.trans ?_ HX21.out | with_reducible refine Ext.trans ?_ HX22.out | with_reducible refine Ext.trans ?_ HX23.out | with_reducible refine Ext.trans ?_ HX24.out))) hx; have k1 := (keep_cell C0.out hx1).2; have k2 := obs_frozen (OB.out.on hx1) e0; have k3 := (keep_cell (cell_lit wr #[.int .i64 xd, .int .i64 e0, .int .i64 xk, .int .i64 xv] 61 _ 1 _ rfl rfl) (Ext.trans (by (repeat' (first | with_reducible exact Ext.refl _ | with_reducible refine Ext.ext ?_ _ | with_reducible refine Ext.alloc ?_ _ | with_reducible refine Ext.drew ?_ | with_reducible refine Ext.drewN ?_ _ | with_reducible refine Ext.trans ?_ HX1.out | with_reducible refine Ext.trans ?_ HX2.out | with_reducible refine Ext.trans ?_ HX3.out | with_reducible refine Ext.trans ?_ HX4.out | with_reducible refine Ext.trans ?_ HX5.out | with_reducible refine Ext.trans ?_ HX6.out | with_reducible refine Ext.trans ?_ HX7.out | with_reducible refine Ext.trans ?_ HX8.out | with_reducible refine Ext.trans ?_ HX9.out | with_reducible refine Ext.trans ?_ HX10.out | with_reducible refine Ext.trans ?_ HX11.out | with_reducible refine Ext.trans ?_ HX12.out | with_reducible refine Ext.trans ?_ HX13.out | with_reducible refine Ext.trans ?_ HX14.out | with_reducible refine Ext.trans ?_ HX15.out | with_reducible refine Ext.trans ?_ HX16.out | with_reducible refine Ext.trans ?_ HX17.out | with_reducible refine Ext.trans ?_ HX18.out | with_reducible refine Ext.trans ?_ HX19.out | with_reducible refine Ext.trans ?_ HX20.out | with_reducible refine Ext.trans ?_ HX21.out | with_reducible refine Ext.trans ?_ HX22.out | with_reducible refine Ext.trans ?_ HX23.out | with_reducible refine Ext.trans ?_ HX24.out))) hx)).2; have HX2 := Lib.hid hx1; have E2 := Lib.hid hb; clear hx hb hx1)
        all_goals
          go_wp2
          exact ⟨⟨j + 1, by omega, congrArg (Value.int .i64) ew, by rw [HY.out]; exact (obs_set (OB.out.on HX2.out) E2.out).on (by (repeat' (first | with_reducible exact Ext.refl _ | with_reducible refine Ext.ext ?_ _ | with_reducible refine Ext.alloc ?_ _ | with_reducible refine Ext.drew ?_ | with_reducible refine Ext.drewN ?_ _ | with_reducible assumption)))⟩, by rw [ew]; simp only [intOf]; omega⟩
      · have NO := Lib.hid (show epF (l.take (j + 1)) node n = epF (l.take j) node n from epF_no hx (fun e he => by
          cases t1
          · rw [e1]; rfl
          · cases t2
            · have := of_decide_eq_false e2
              rw [e1, show (x.e == (e : Int)) = false by simp; omega]; rfl
            · cases t3
              · have := of_decide_eq_false e3
                rw [e1, show (x.e == (e : Int)) = false by simp; omega]; rfl
              · exact absurd rfl hall))
        obtain ⟨xd, xe, xk, xv⟩ := x
        dsimp only at q0 q1 q2 q3 e1 e2 e3
        clear hx
        cases t1 <;> cases t2 <;> cases t3 <;> first | (exfalso; exact hall rfl) | skip
        all_goals
          clear hall
          go_wp2
          exact ⟨⟨j + 1, by omega, congrArg (Value.int .i64) ew, by rw [NO.out]; exact OB.out.on (by (repeat' (first | with_reducible exact Ext.refl _ | with_reducible refine Ext.ext ?_ _ | with_reducible refine Ext.alloc ?_ _ | with_reducible refine Ext.drew ?_ | with_reducible refine Ext.drewN ?_ _ | with_reducible assumption)))⟩, by rw [ew]; simp only [intOf]; omega⟩
    · obtain rfl : j = l.length := by omega
      rw [List.take_length] at OB
      go_wp2
      go_returns
      exact ⟨_, rfl, (OB.out.on (by (repeat' (first | with_reducible exact Ext.refl _ | with_reducible refine Ext.ext ?_ _ | with_reducible refine Ext.alloc ?_ _ | with_reducible refine Ext.drew ?_ | with_reducible refine Ext.drewN ?_ _ | with_reducible assumption)))).rbs⟩
end Go.Proofs.Ytbglfaomebokhaa
