/- law 17: the reference's Short, SameLow, Same, none. -/
import Derived.Test.YtmngjifcgfnogaaTk4
namespace Go.Proofs.Ytmngjifcgfnogaa
set_option linter.unusedSimpArgs false
set_option linter.unusedVariables false
set_option maxRecDepth 100000
open Go.RowKit

def shortL (L : List (List Tm)) : Bool := decide (L.length ≤ 60) && L.all fun l => decide (l.length ≤ 40)
set_option maxHeartbeats 4000000 in
theorem short_any {A : Nat → Prop} {w : World} {L : List (List Tm)} {a : Option Addr} {n c : Nat} (h : Rs tml A w L (.slice a n c)) (r : Bool) (hr : shortL L = r) :
    Calls Try.prog 11 #[.slice a n c] w fun e w' => e = .returned (.bool r) ∧ Ext w w' := by
  obtain rfl : n = L.length := by obtain ⟨_, _, e, _⟩ := h; exact (Value.slice.inj e).2.1
  have H := Lib.hid h
  have HR := Lib.hid hr
  clear h hr
  by_cases h60 : L.length ≤ 60
  · have d60 : decide (60 < (L.length : Int)) = false := decide_eq_false (by omega)
    have HR2 := Lib.hid (show (L.all fun l => decide (l.length ≤ 40)) = r by rw [← HR.out]; unfold shortL; rw [decide_eq_true h60, Bool.true_and])
    clear HR
    go_enter Try.func11, Try.ntmps11
    go_wp2
    go_loopw [3] (fun i wr => ∃ j : Nat, j ≤ L.length ∧ i = .int .i64 j ∧ Ext w wr ∧ ∀ (k : Nat) y, k < j → L[k]? = some y → y.length ≤ 40) (fun i _ => L.length - (intOf i).toNat)
    case atStart => exact ⟨0, by omega, rfl, by (repeat' (first | with_reducible exact Ext.refl _ | with_reducible refine Ext.ext ?_ _ | with_reducible refine Ext.alloc ?_ _ | with_reducible refine Ext.drew ?_ | with_reducible refine Ext.drewN ?_ _ | with_reducible assumption)), fun k y hk => absurd hk (Nat.not_lt_zero k)⟩
    case round =>
      obtain ⟨j, hj, rfl, hx, hall⟩ := hrel
      have HX := Lib.hid hx
      have HA := Lib.hid hall
      clear hx hall
      by_cases hlt : j < L.length
      · obtain ⟨x, hx⟩ : ∃ x, L[j]? = some x := ⟨L[j], List.getElem?_eq_getElem _⟩
        obtain ⟨b, off, u, rfl, -, -, hu, hc⟩ := (H.out.on HX.out).atl hx
        obtain ⟨ua, uc, rfl⟩ := hu.form
        have i1 : (0 : Int) ≤ j := by omega
        have i2 : (j : Int) < L.length := by omega
        have ew : wrap64 ((j : Int) + 1) = ((j + 1 : Nat) : Int) := (IntWalk.wrap64_in _ ⟨by omega, by omega⟩).trans (by omega)
        have HE := Lib.hid ew
        have HXX := Lib.hid hx
        clear hx hu
        by_cases h40 : x.length ≤ 40
        · have d40 : decide (40 < (x.length : Int)) = false := decide_eq_false (by omega)
          go_wp2
          clear ew
          exact ⟨⟨j + 1, by omega, by first | exact congrArg (Value.int .i64) HE.out | (simp; done), HX.out, fun k y hk hy => by
            rcases Nat.lt_or_ge k j with h | h
            · exact HA.out k y h hy
            · obtain rfl : k = j := by omega
              rw [HXX.out] at hy
              cases hy
              exact h40⟩, by first | (rw [HE.out]; simp only [intOf]; omega) | (simp only [intOf]; omega)⟩
        · have d40 : decide (40 < (x.length : Int)) = true := decide_eq_true (by omega)
          go_wp2
          go_returns
          exact ⟨retb rfl (by rw [← HR2.out]; symm; rw [List.all_eq_false]; exact ⟨x, List.mem_of_getElem? HXX.out, by simpa using h40⟩), HX.out⟩
      · obtain rfl : j = L.length := by omega
        go_wp2
        go_returns
        exact ⟨retb rfl (by rw [← HR2.out]; symm; rw [List.all_eq_true]; intro x hx; obtain ⟨k, hk⟩ := List.getElem?_of_mem hx; exact decide_eq_true (HA.out k x (List.getElem?_eq_some_iff.1 hk).1 hk)), HX.out⟩
  · have d60 : decide (60 < (L.length : Int)) = true := decide_eq_true (by omega)
    have HR2 := Lib.hid (show false = r by rw [← HR.out]; unfold shortL; rw [decide_eq_false h60, Bool.false_and])
    clear HR
    go_enter Try.func11, Try.ntmps11
    go_wp2
    go_returns
    exact ⟨retb rfl HR2.out, by (repeat' (first | with_reducible exact Ext.refl _ | with_reducible refine Ext.ext ?_ _ | with_reducible refine Ext.alloc ?_ _ | with_reducible refine Ext.drew ?_ | with_reducible refine Ext.drewN ?_ _ | with_reducible assumption))⟩
noncomputable def sameAll (L M : List (List Tm)) : Bool := decide (L.length = M.length) && (List.range L.length).all fun i => sameB (L.getD i []) (M.getD i [])
set_option maxHeartbeats 4000000 in
theorem sameLow_any {A A' : Nat → Prop} {w : World} {L M : List (List Tm)} {a a' : Option Addr} {n n' c c' : Nat} (h : Rs tml A w L (.slice a n c)) (h' : Rs tml A' w M (.slice a' n' c')) (hs : ∀ l ∈ L, l.length ≤ 1073741823) (hn : L.length ≤ 1073741823) (r : Bool) (hr : sameAll L M = r) :
    Calls Try.prog 18 #[.slice a n c, .slice a' n' c'] w fun e w' => e = .returned (.bool r) ∧ Ext w w' := by
  obtain rfl : n = L.length := by obtain ⟨_, _, e, _⟩ := h; exact (Value.slice.inj e).2.1
  obtain rfl : n' = M.length := by obtain ⟨_, _, e, _⟩ := h'; exact (Value.slice.inj e).2.1
  have H := Lib.hid h
  have H' := Lib.hid h'
  have HR := Lib.hid hr
  have HS := Lib.hid hs
  have HN := Lib.hid hn
  clear h h' hr hs hn
  by_cases hlen : L.length = M.length
  · have hne : ((L.length : Int) != (M.length : Int)) = false := by simp [hlen]
    have HR2 := Lib.hid (show ((List.range L.length).all fun i => sameB (L.getD i []) (M.getD i [])) = r by rw [← HR.out]; unfold sameAll; rw [decide_eq_true hlen, Bool.true_and])
    clear HR
    go_enter Try.func18, Try.ntmps18
    go_wp2
    go_loopw [5] (fun i wr => ∃ j : Nat, j ≤ L.length ∧ i = .int .i64 j ∧ Ext w wr ∧ ∀ k : Nat, k < j → sameB (L.getD k []) (M.getD k []) = true) (fun i _ => L.length - (intOf i).toNat)
    case atStart => exact ⟨0, by omega, rfl, by (repeat' (first | with_reducible exact Ext.refl _ | with_reducible refine Ext.ext ?_ _ | with_reducible refine Ext.alloc ?_ _ | with_reducible refine Ext.drew ?_ | with_reducible refine Ext.drewN ?_ _ | with_reducible assumption)), fun k hk => absurd hk (Nat.not_lt_zero k)⟩
    case round =>
      obtain ⟨j, hj, rfl, hx, hall⟩ := hrel
      obtain ⟨w2, hw2⟩ : ∃ x, x = wr := ⟨_, rfl⟩
      subst hw2
      have HX := Lib.hid hx
      have HA := Lib.hid hall
      clear hx hall
      by_cases hlt : j < L.length
      · obtain ⟨x, hx⟩ : ∃ x, L[j]? = some x := ⟨L[j], List.getElem?_eq_getElem _⟩
        obtain ⟨y, hy⟩ : ∃ x, M[j]? = some x := ⟨M[j]'(by omega), List.getElem?_eq_getElem _⟩
        obtain ⟨b, off, u, rfl, -, -, hu, hc⟩ := (H.out.on HX.out).atl hx
        obtain ⟨b', off', v, rfl, -, -, hv, hc'⟩ := (H'.out.on HX.out).atl hy
        have i1 : (0 : Int) ≤ j := by omega
        have i2 : (j : Int) < L.length := by omega
        have i3 : (j : Int) < M.length := by omega
        have ew : wrap64 ((j : Int) + 1) = ((j + 1 : Nat) : Int) := (IntWalk.wrap64_in _ ⟨by omega, by have := HN.out; omega⟩).trans (by omega)
        obtain ⟨q, hq⟩ : ∃ q, sameB x y = q := ⟨_, rfl⟩
        have SM := Lib.hid (fun W (hx2 : Ext w2 W) => refSame_rb ((rb_rs hu).on hx2) ((rb_rs hv).on hx2) (HS.out x (List.mem_of_getElem? hx)) q hq)
        have HQ := Lib.hid (show sameB (L.getD j []) (M.getD j []) = q by rw [getD_at hx, getD_at hy]; exact hq)
        obtain ⟨ua, uc, rfl⟩ := hu.form
        obtain ⟨va, vc, rfl⟩ := hv.form
        have HE := Lib.hid ew
        haveI : LtSz b w2.heap.size := ⟨World.block_lt_of_cell? _ _ hc⟩
        haveI : LtSz b' w2.heap.size := ⟨World.block_lt_of_cell? _ _ hc'⟩
        clear hx hy hu hv hq ew
        cases q
        · go_wp2
          refine wp_region_ext (by kernel_rfl) (by kernel_rfl) ?_
          repeat (go_big_quiet_step (first | (go_at_call 39; (apply quiet_of; (with_reducible exact SM.out _ (by (repeat' (first | with_reducible exact Ext.refl _ | with_reducible refine Ext.ext ?_ _ | with_reducible refine Ext.alloc ?_ _ | with_reducible refine Ext.drew ?_ | with_reducible refine Ext.drewN ?_ _ | with_reducible assumption)))); (intro w' hx; obtain ⟨z, rfl⟩ := hx; (try simp only [ext_ext, add_assoc]); exact ⟨_, rfl⟩)))))
          refine wpQuiet_nil ?_
          intro xK
          go_wp2
          go_returns
          exact ⟨retb rfl (by rw [← HR2.out]; symm; rw [List.all_eq_false]; exact ⟨j, List.mem_range.2 hlt, by rw [HQ.out]; decide⟩), HX.out.trans (by (repeat' (first | with_reducible exact Ext.refl _ | with_reducible refine Ext.ext ?_ _ | with_reducible refine Ext.alloc ?_ _ | with_reducible refine Ext.drew ?_ | with_reducible refine Ext.drewN ?_ _ | with_reducible assumption)))⟩
        · go_wp2
          refine wp_region_ext (by kernel_rfl) (by kernel_rfl) ?_
          repeat (go_big_quiet_step (first | (go_at_call 39; (apply quiet_of; (with_reducible exact SM.out _ (by (repeat' (first | with_reducible exact Ext.refl _ | with_reducible refine Ext.ext ?_ _ | with_reducible refine Ext.alloc ?_ _ | with_reducible refine Ext.drew ?_ | with_reducible refine Ext.drewN ?_ _ | with_reducible assumption)))); (intro w' hx; obtain ⟨z, rfl⟩ := hx; (try simp only [ext_ext, add_assoc]); exact ⟨_, rfl⟩)))))
          refine wpQuiet_nil ?_
          intro xK
          have ew := HE.out
          go_wp2
          clear ew
          exact ⟨⟨j + 1, by omega, congrArg (Value.int .i64) HE.out, HX.out.trans (by (repeat' (first | with_reducible exact Ext.refl _ | with_reducible refine Ext.ext ?_ _ | with_reducible refine Ext.alloc ?_ _ | with_reducible refine Ext.drew ?_ | with_reducible refine Ext.drewN ?_ _ | with_reducible assumption))), fun k hk => by
            rcases Nat.lt_or_ge k j with h | h
            · exact HA.out k h
            · obtain rfl : k = j := by omega
              exact HQ.out⟩, by rw [HE.out]; simp only [intOf]; omega⟩
      · obtain rfl : j = L.length := by omega
        go_wp2
        go_returns
        exact ⟨retb rfl (by rw [← HR2.out]; symm; rw [List.all_eq_true]; intro k hk; exact HA.out k (List.mem_range.1 hk)), HX.out⟩
  · have hne : ((L.length : Int) != (M.length : Int)) = true := by simp; omega
    have HR2 := Lib.hid (show false = r by rw [← HR.out]; unfold sameAll; rw [decide_eq_false hlen, Bool.false_and])
    clear HR
    go_enter Try.func18, Try.ntmps18
    go_wp2
    go_returns
    exact ⟨retb rfl HR2.out, by (repeat' (first | with_reducible exact Ext.refl _ | with_reducible refine Ext.ext ?_ _ | with_reducible refine Ext.alloc ?_ _ | with_reducible refine Ext.drew ?_ | with_reducible refine Ext.drewN ?_ _ | with_reducible assumption))⟩
theorem sameAll_refl (L : List (List Tm)) : sameAll L L = true := by
  unfold sameAll
  rw [decide_eq_true rfl, Bool.true_and, List.all_eq_true]
  intro i _
  exact sameB_yes rfl
end Go.Proofs.Ytmngjifcgfnogaa
