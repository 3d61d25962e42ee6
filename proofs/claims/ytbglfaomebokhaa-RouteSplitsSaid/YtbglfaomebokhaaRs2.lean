/- law 13: Split. -/
import Derived.Test.YtbglfaomebokhaaRs1
import Derived.Test.YtbglfaomebokhaaRoute1
import Derived.Test.YtbglfaomebokhaaDfA
import Derived.Deep.RegionLaw
import Derived.Deep.AppendLies
namespace Go.Proofs.Ytbglfaomebokhaa
set_option linter.unusedSimpArgs false
set_option linter.unusedVariables false
open Go.RowKit

section
variable {ops : Array Oper} {o : Oper} {a : Act} {Q : Exit → Act → World → Prop}
/-- The append of one item to a part, in a region that draws its order. -/
theorem step_part {K : Act → World → Prop} {E : Prop} (hgd : o.guard = none) (s x : Operand) (ho : o.op = .call { callee := .builtin .append, args := #[s, x], argTypes := #[22, 22] })
    (w0 W W1 : World) (hx0 : Ext w0 W) (hW : Ext W W1) (l : List It) (u : Value) (h : ElB W w0.heap.size l u) (b c : Nat) (it : It) (hs : a.eval s = u) (hx : a.eval x = .slice (some ⟨b, 0, none⟩) 1 c) (hlit : W1.heap[b]? = some (.cells #[.int .i64 it.k, .int .i64 it.v, .int .i64 it.n] 30 (0, 0))) (hl : l.length ≤ 1073741823)
    (k : ∀ v' W', Ext w0 W' → ElB W' w0.heap.size (l ++ [it]) v' → W.grownBy W' u.ownBlock → (∀ kk, v'.ownBlock = some kk → u.ownBlock = some kk ∨ W.heap.size ≤ kk) → K (a.put o.dst v') W') :
    if Region.wanted o (yielded ops a.tmps) = true then Oper.wp Try.prog o a W1 K Q else E := by
  obtain ⟨i0, hi0, hz0, hz1, hz2⟩ := info_parts info_its3
  have hsz := (Ext.grows (hx0.trans hW) none).size
  obtain ⟨a1, c1, rfl, hown⟩ := h
  refine step_append_lies _ hgd s x 22 ho w0.heap.size 30 i0 _ 3 24 Try.underlying22 hi0 hz0 hz1 hz2 rfl (by decide) _ l.length (its l) hs (own_of_extY hown hW) ⟨b, 0, none⟩ 1 c [.int .i64 it.k, .int .i64 it.v, .int .i64 it.n] hx rfl (World.news_of_block (cs := #[.int .i64 it.k, .int .i64 it.v, .int .i64 it.n]) hlit) (by simp [Value.oneCell']) (by decide) (by unfold maxLen; omega) (by omega) hsz W1.heap.size rfl ?_
  intro g cap W' hown1 hgr hat hlt
  have g1 := Ext.grows hW (Value.slice a1 l.length c1).ownBlock
  have hgr' : W.grownBy W' (Value.slice a1 l.length c1).ownBlock := ⟨hgr.os.trans g1.os, hgr.tape.trans g1.tape, hgr.output.trans g1.output, Nat.le_trans g1.size hgr.size, fun k hk hne => (hgr.block k (Nat.lt_of_lt_of_le hk g1.size) hne).trans (g1.block k hk hne)⟩
  refine k _ _ (hx0.grown hgr' (fun k hk => (hown.lt k hk).1)) ⟨some ⟨g, 0, none⟩, cap, by rw [List.length_append]; rfl, ?_⟩ hgr' (fun kk hk => ?_)
  · rw [List.length_append, its_append]
    exact hown1
  · obtain rfl : g = kk := by simpa [Value.ownBlock] using hk
    rcases hat with h | h
    · exact .inl h
    · exact .inr (by rw [h]; exact g1.size)
end
theorem split_out (l : List It) (v : Value) (n : Int) (w : World) (h : n < 1 ∨ 64 < n) : Calls Try.prog 12 #[v, .int .i64 n] w fun e w' => e = .returned (.slice none 0 0) ∧ Ext w w' := by
  have S := Lib.hid (fun w => some_any n w)
  rw [show decide (1 ≤ n ∧ n ≤ 64) = false from decide_eq_false (by omega)] at S
  clear h
  go_enter Try.func12, Try.ntmps12
  go_wp2_with (go_at_call 40; (with_reducible refine (S.out _).mono ?_); rintro e w' ⟨rfl, rfl⟩)
  go_returns
  exact ⟨rfl, by (repeat' (first | with_reducible exact Ext.refl _ | with_reducible refine Ext.ext ?_ _ | with_reducible refine Ext.alloc ?_ _ | with_reducible refine Ext.drew ?_ | with_reducible refine Ext.drewN ?_ _ | with_reducible assumption))⟩
set_option maxHeartbeats 8000000 in
theorem split_in (l : List It) (a : Option Addr) (c m : Nat) (w : World) (h : Rd w 3 l.length (.slice a l.length c) (its l)) (hl : l.length ≤ 1000) (hk : ∀ x ∈ l, -9223372036854775808 ≤ x.k ∧ x.k ≤ 9223372036854775807) (h1 : 1 ≤ m) (h2 : m ≤ 64) :
    Calls Try.prog 12 #[.slice a l.length c, .int .i64 (m : Int)] w fun e w' => e = .returned (.slice (some ⟨w.heap.size, 0, none⟩) m m) ∧ Pts w w.heap.size m (partF l m) w' := by
  have S := Lib.hid (fun w => some_any (m : Int) w)
  rw [show decide (1 ≤ (m : Int) ∧ (m : Int) ≤ 64) = true from decide_eq_true (by omega)] at S
  have WK := Lib.hid (fun k w h1' h2' => worker_in k (m : Int) w (by omega) (by omega) h1' h2')
  have H := Lib.hid h
  have HL := Lib.hid hl
  have HK := Lib.hid hk
  have M1 := Lib.hid h1
  have M2 := Lib.hid h2
  have mk : ∀ (w : World), (Instr.makeSlice 24 (.int .i64 (m : Int)) (.int .i64 (m : Int))).run Try.prog w = .ok (.slice (some ⟨w.heap.size, 0, none⟩) m m) (w.alloc (.cells (madeCells #[.slice none 0 0] m) 22)) := fun w => by
    obtain ⟨i0, hi0, hz0, hz1, hz2⟩ := info_parts info_obs
    have h := run_make (P := Try.prog) w 24 22 i0 _ Try.underlying24 hi0 hz0 .i64 .i64 (m : Int) (m : Int) (by omega) (Int.le_refl _) (by rw [hz2]; omega) (by omega)
    rw [hz1, Nat.mul_one, show ((m : Int)).toNat = m from rfl, show (Value.slice none 0 0).cells = #[.slice none 0 0] from rfl] at h
    exact h
  clear h hl hk h1 h2
  go_enter Try.func12, Try.ntmps12
  go_wp2_with (go_at_call 40; (with_reducible refine (S.out _).mono ?_); rintro e w' ⟨rfl, rfl⟩)
  go_loopw [16] (fun i wr => ∃ j : Nat, j ≤ l.length ∧ i = .int .i64 j ∧ Pts w w.heap.size m (partF (l.take j) m) wr) (fun i _ => l.length - (intOf i).toNat)
  case atStart => exact ⟨0, by omega, rfl, by rw [List.take_zero, partF_nil]; exact made_pts w m (by have := M2.out; omega)⟩
  case round =>
    obtain ⟨j, hj, rfl, ho⟩ := hrel
    rename_i wr _
    have PT := Lib.hid ho
    have HX1 := Lib.hid ho.1
    clear ho
    by_cases hlt : j < l.length
    · obtain ⟨x, hx⟩ : ∃ x, l[j]? = some x := ⟨l[j], List.getElem?_eq_getElem _⟩
      obtain ⟨b, off, rfl, -⟩ := H.out.cells (by omega)
      obtain ⟨q0, q1, q2⟩ := it_at (H.out.of_ext HX1.out) j x hx
      have i1 : (0 : Int) ≤ j := by omega
      have i2 : (j : Int) < l.length := by omega
      have ew : wrap64 ((j : Int) + 1) = ((j + 1 : Nat) : Int) := (IntWalk.wrap64_in _ ⟨by omega, by have := HL.out; omega⟩).trans (by omega)
      have hk := HK.out x (List.mem_of_getElem? hx)
      have hmn := Int.emod_nonneg x.k (show (m : Int) ≠ 0 by have := M1.out; omega)
      have hml := Int.emod_lt_of_pos x.k (show (0 : Int) < m by have := M1.out; omega)
      obtain ⟨e0, he0⟩ : ∃ e0 : Nat, x.k % (m : Int) = (e0 : Int) := ⟨(x.k % (m : Int)).toNat, by omega⟩
      have hlt0 : e0 < m := by omega
      have YES := Lib.hid (partF_yes hx he0 hlt0)
      have WX := Lib.hid (fun w => WK.out x.k w hk.1 hk.2)
      rw [he0] at WX
      have hln := partE_len (l.take j) (m : Int) e0
      rw [List.length_take] at hln
      have LN := Lib.hid (show (partE (l.take j) (m : Int) e0).length ≤ 1073741823 by have := HL.out; omega)
      obtain ⟨xk, xv, xn⟩ := x
      dsimp only at q0 q1 q2 WX
      have z0 : (0 : Int) ≤ e0 := by omega
      have z1 : (e0 : Int) < m := by omega
      clear hx hk hmn hml he0 hln
      go_wp2_with (go_at_call 13; (with_reducible refine (WX.out _).mono ?_); rintro e w' ⟨rfl, rfl⟩)
      have PW := PT.out.on (show Ext wr (wr.alloc (.cells #[.int .i64 xk, .int .i64 xv, .int .i64 xn] 30)) by (repeat' (first | with_reducible exact Ext.refl _ | with_reducible refine Ext.ext ?_ _ | with_reducible refine Ext.alloc ?_ _ | with_reducible refine Ext.drew ?_ | with_reducible refine Ext.drewN ?_ _ | with_reducible assumption)))
      have e2 := cell_lit wr #[.int .i64 xk, .int .i64 xv, .int .i64 xn] 30 _ 0 _ rfl rfl
      have e3 := cell_lit wr #[.int .i64 xk, .int .i64 xv, .int .i64 xn] 30 _ 1 _ rfl rfl
      have e4 := cell_lit wr #[.int .i64 xk, .int .i64 xv, .int .i64 xn] 30 _ 2 _ rfl rfl
      generalize wr.alloc (.cells #[.int .i64 xk, .int .i64 xv, .int .i64 xn] 30) = W at *
      have HW0 := Lib.hid PW.1
      obtain ⟨u, hel, c1, hap, hfz, hnext⟩ := PW.at (partF_get (l.take j) hlt0)
      have f1 := hfz e0
      have EU := Lib.hid hel
      have NX := Lib.hid hnext
      haveI : LtSz w.heap.size W.heap.size := ⟨World.block_lt_of_cell? _ _ c1⟩
      haveI : LtSz wr.heap.size W.heap.size := ⟨World.block_lt_of_cell? _ _ e2⟩
      have hu := hel
      obtain ⟨ua, uc, rfl, -⟩ := hu
      clear hel hnext hap hfz PW
      go_region_law (refine step_part (by rfl) _ _ (by rfl) w W _ HW0.out (by (repeat' (first | with_reducible exact Ext.refl _ | with_reducible refine Ext.ext ?_ _ | with_reducible refine Ext.alloc ?_ _ | with_reducible refine Ext.drew ?_ | with_reducible refine Ext.drewN ?_ _ | with_reducible assumption))) _ _ EU.out W.heap.size 1 ⟨xk, xv, xn⟩ (by rfl) (by rfl) (by first | exact heap_alloc_new W _ | exact heap_alloc_new W.drew _) LN.out ?_; intro v2 W2 hx2 hel2 hgr hat; obtain ⟨c2, f2, hp⟩ := NX.out W2 _ _ hgr hx2 hel2 hat; have hv := hel2; obtain ⟨va, vc, rfl, -⟩ := hv; rw [List.length_append, List.length_singleton, ← YES.out] at hp; have HP := Lib.hid hp; clear hx2 hel2 hgr hat hp)
      all_goals
        go_wp2
        exact ⟨⟨j + 1, by omega, congrArg (Value.int .i64) ew, HP.out.on (by (repeat' (first | with_reducible exact Ext.refl _ | with_reducible refine Ext.ext ?_ _ | with_reducible refine Ext.alloc ?_ _ | with_reducible refine Ext.drew ?_ | with_reducible refine Ext.drewN ?_ _ | with_reducible assumption)))⟩, by rw [ew]; simp only [intOf]; omega⟩
    · obtain rfl : j = l.length := by omega
      rw [List.take_length] at PT
      go_wp2
      go_returns
      exact ⟨rfl, PT.out.on (by (repeat' (first | with_reducible exact Ext.refl _ | with_reducible refine Ext.ext ?_ _ | with_reducible refine Ext.alloc ?_ _ | with_reducible refine Ext.drew ?_ | with_reducible refine Ext.drewN ?_ _ | with_reducible assumption)))⟩
end Go.Proofs.Ytbglfaomebokhaa
