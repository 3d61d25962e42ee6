/- The reference of layer 5: List; the reference's contracts once more, for the laws. -/
import Derived.Test.YtbglfaomebokhaaBgI
namespace Go.Proofs.Ytbglfaomebokhaa
set_option linter.unusedSimpArgs false
set_option linter.unusedVariables false
open Go.RowKit

set_option maxHeartbeats 8000000 in
theorem refList_any (l : List It) (v : Value) (w : World) (h : Rb w l v) (hn : l.length ≤ 1073741823) :
    Calls Try.prog 27 #[v] w fun e w' => ∃ v', e = .returned (.tuple #[v', .bool (okL l)]) ∧ RBag w w.heap.size (listS l) v' w' := by
  obtain ⟨a, c, rfl, h⟩ := h
  have TH := Lib.hid (refThere_any l (.slice a l.length c) w ⟨a, c, rfl, h⟩ hn)
  have POS := Lib.hid (fun x (hx : x ∈ thereS l) => there_pos hx)
  have HN := Lib.hid (Nat.le_trans (there_len l) hn)
  unfold listS okL
  clear h hn
  generalize thereS l = t at *
  obtain ⟨R, hR⟩ : ∃ R, R = decide (tot t ≤ 65536) := ⟨_, rfl⟩
  rw [← hR]
  have HR := Lib.hid hR
  clear hR
  have TP := Lib.hid (fun x hx => (POS.out x hx).1)
  go_enter Try.func27, Try.ntmps27
  go_wp2_with (go_at_call 39; refine TH.out.mono ?_; rintro e w1 ⟨v', rfl, hb⟩; obtain ⟨hx, a', c', rfl, ho⟩ := hb; have HX := Lib.hid hx; have H := Lib.hid (own_rd ho); clear hx ho)
  go_loopw [5, 6] (fun v i wr => ∃ j : Nat, j ≤ t.length ∧ i = .int .i64 j ∧ (lstS (t.take j)).length ≤ 65536 ∧ RBag w1 w1.heap.size (lstS (t.take j)) v wr) (fun _ i _ => t.length - (intOf i).toNat)
  case atStart => exact ⟨0, by omega, rfl, by rw [List.take_zero]; exact Nat.zero_le _, (RBag.nil w1 _).on (by (repeat' (first | with_reducible exact Ext.refl _ | with_reducible refine Ext.ext ?_ _ | with_reducible refine Ext.alloc ?_ _ | with_reducible refine Ext.drew ?_ | with_reducible refine Ext.drewN ?_ _ | with_reducible assumption)))⟩
  case round =>
    obtain ⟨j, hj, rfl, hle, hb⟩ := hrel
    obtain ⟨z', rfl⟩ := hb.1
    have HB := Lib.hid hb
    clear hb
    have LT := Lib.hid (lst_len (l := t.take j) (fun x hx => TP.out x (List.mem_of_mem_take hx)))
    have HLE := Lib.hid hle
    clear hle
    by_cases hlt : j < t.length
    · obtain ⟨x, hx⟩ : ∃ x, t[j]? = some x := ⟨t[j], List.getElem?_eq_getElem _⟩
      obtain ⟨b, off, rfl, -⟩ := H.out.cells (by omega)
      have i1 : (0 : Int) ≤ j := by omega
      have i2 : (j : Int) < t.length := by omega
      have ew : wrap64 ((j : Int) + 1) = ((j + 1 : Nat) : Int) := (IntWalk.wrap64_in _ ⟨by omega, by have := HN.out; omega⟩).trans (by omega)
      have ps := POS.out x (List.mem_of_getElem? hx)
      have LS := lst_snoc hx
      have SN := tot_snoc hx
      have tk := tot_take TP.out (j + 1)
      obtain ⟨xk, xv, xn⟩ := x
      dsimp only [It.r] at ps LS SN
      obtain ⟨P, rfl⟩ : ∃ p : Nat, xn = (p : Int) := ⟨xn.toNat, by omega⟩
      rw [Int.toNat_natCast] at LS
      have HXJ := Lib.hid hx
      have HLS := Lib.hid LS
      have BIG := Lib.hid (show ∀ p : Nat, p < P → (lstS (t.take j)).length + p = 65536 → R = false by
        intro p hp he
        rw [HR.out]
        have := LT.out
        exact decide_eq_false (by omega))
      clear hx ps tk LS SN
      generalize lstS (t.take j) = L at *
      go_wp2
      go_loopw [5, 7] (fun v k wr => ∃ p : Nat, p ≤ P ∧ k = .int .i64 p ∧ L.length + p ≤ 65536 ∧ RBag w1 w1.heap.size (L ++ List.replicate p (xk, xv)) v wr) (fun _ k _ => P - (intOf k).toNat)
      case atStart => exact ⟨0, by omega, rfl, by have := HLE.out; omega, by rw [List.replicate_zero, List.append_nil]; exact HB.out.on (by (first | (with_reducible exact ext_more2 _ _ _) | (repeat' (first | with_reducible exact Ext.refl _ | with_reducible refine Ext.ext ?_ _ | with_reducible refine Ext.alloc ?_ _ | with_reducible refine Ext.drew ?_ | with_reducible refine Ext.drewN ?_ _ | with_reducible assumption))))⟩
      case round =>
        obtain ⟨p, hp, rfl, hle, hb⟩ := hrel
        obtain ⟨z2, rfl⟩ := hb.1
        have hb' := hb
        obtain ⟨-, a2, c2, rfl, -⟩ := hb'
        have hll : (L ++ List.replicate p (xk, xv)).length = L.length + p := by rw [List.length_append, List.length_replicate]
        rw [hll] at hb ⊢
        have HB2 := Lib.hid hb
        have HLE2 := Lib.hid hle
        clear hb hll
        have q := it_cells H.out j _ HXJ.out z2
        have q0 := keep_add q.1
        have q1 := keep_add q.2.1
        have q2 := keep_add q.2.2
        dsimp only at q0 q1 q2
        have ewp : wrap64 ((p : Int) + 1) = ((p + 1 : Nat) : Int) := (IntWalk.wrap64_in _ ⟨by omega, by omega⟩).trans (by omega)
        clear q
        by_cases hpp : p < P
        · have i3 : (p : Int) < P := by omega
          by_cases h6 : L.length + p = 65536
          · have f6 : (((L.length + p : Nat) : Int) == 65536) = true := by rw [h6]; rfl
            obtain rfl := BIG.out p hpp h6
            clear hle h6
            generalize L.length + p = LP at *
            go_wp2
            go_returns
            exact ⟨_, rfl, ((RBag.nil w _).on HX.out).on (by (repeat' (first | with_reducible exact Ext.refl _ | with_reducible refine Ext.ext ?_ _ | with_reducible refine Ext.alloc ?_ _ | with_reducible refine Ext.drew ?_ | with_reducible refine Ext.drewN ?_ _ | with_reducible assumption)))⟩
          · have f6 : (((L.length + p : Nat) : Int) == 65536) = false := by
              rw [beq_eq_false_iff_ne]
              omega
            have HLE3 := Lib.hid (show L.length + (p + 1) ≤ 65536 by omega)
            have e2 : L ++ List.replicate (p + 1) (xk, xv) = (L ++ List.replicate p (xk, xv)) ++ [(xk, xv)] := by rw [List.append_assoc, List.replicate_succ']
            have E2 := Lib.hid e2
            have HLL := Lib.hid (show (L ++ List.replicate p (xk, xv)).length + [(xk, xv)].length ≤ 1073741823 by rw [List.length_append, List.length_replicate, List.length_singleton]; omega)
            clear hle h6 e2
            generalize L.length + p = LP at *
            go_wp2_with (at_builtin; refine app_rbag _ rfl _ _ rfl w1 (L ++ List.replicate p (xk, xv)) [(xk, xv)] _ _ (by exact HB2.out.on (by (first | (with_reducible exact ext_more2 _ _ _) | (repeat' (first | with_reducible exact Ext.refl _ | with_reducible refine Ext.ext ?_ _ | with_reducible refine Ext.alloc ?_ _ | with_reducible refine Ext.drew ?_ | with_reducible refine Ext.drewN ?_ _ | with_reducible assumption))))) rfl rfl (by exact rd_lit _ 2 1 _ _ #[.int .i64 xk, .int .i64 xv] _ rfl (by simp)) HLL.out ?_; intro v3 w3 hb3; rw [← E2.out] at hb3; have HB3 := Lib.hid hb3; clear hb3)
            exact ⟨⟨p + 1, by omega, congrArg (Value.int .i64) ewp, HLE3.out, HB3.out⟩, by rw [ewp]; simp only [intOf]; omega⟩
        · obtain rfl : p = P := by omega
          have HLF := Lib.hid (show (L ++ List.replicate p (xk, xv)).length ≤ 65536 by rw [List.length_append, List.length_replicate]; exact hle)
          clear hle
          go_wp2
          exact ⟨⟨j + 1, by omega, congrArg (Value.int .i64) ew, by rw [HLS.out]; exact HLF.out, by rw [HLS.out]; exact HB2.out.on (by (first | (with_reducible exact ext_more2 _ _ _) | (repeat' (first | with_reducible exact Ext.refl _ | with_reducible refine Ext.ext ?_ _ | with_reducible refine Ext.alloc ?_ _ | with_reducible refine Ext.drew ?_ | with_reducible refine Ext.drewN ?_ _ | with_reducible assumption))))⟩, by rw [ew]; simp only [intOf]; omega⟩
    · obtain rfl : j = t.length := by omega
      rw [List.take_length] at HB LT HLE
      obtain rfl : true = R := by rw [HR.out]; exact (decide_eq_true (by rw [← LT.out]; have := HLE.out; omega)).symm
      go_wp2
      go_returns
      exact ⟨_, rfl, by exact RBag.from0 (HB.out.on (by (first | (with_reducible exact ext_more2 _ _ _) | (repeat' (first | with_reducible exact Ext.refl _ | with_reducible refine Ext.ext ?_ _ | with_reducible refine Ext.alloc ?_ _ | with_reducible refine Ext.drew ?_ | with_reducible refine Ext.drewN ?_ _ | with_reducible assumption))))) HX.out⟩
theorem refThere_rb {w : World} {l : List It} {v : Value} (h : Rb w l v) (hn : l.length ≤ 1073741822) (r : List It) (hr : thereS l = r) :
    Calls Try.prog 39 #[v] w fun e w' => ∃ v', e = .returned v' ∧ Ext w w' ∧ Rb w' r v' := by
  subst hr
  exact (refThere_any l v w h (by omega)).mono (fun e w' ⟨v', he, hb⟩ => ⟨v', he, hb.rb⟩)
theorem refJoin_rb {w : World} {l m : List It} {v u : Value} (h : Rb w l v) (h' : Rb w m u) (hn : l.length + m.length ≤ 1073741822) (t : Int) (ht : t = 1 ∨ t = -1) (r : List It) (hr : joinS l m t = r) :
    Calls Try.prog 38 #[v, u, .int .i64 t] w fun e w' => ∃ v', e = .returned v' ∧ Ext w w' ∧ Rb w' r v' := by
  subst hr
  exact (refJoin_any l m v u w h h' hn t ht).mono (fun e w' ⟨v', he, hb⟩ => ⟨v', he, hb.rb⟩)
theorem refAdd_rb {w : World} {l : List It} {v : Value} (h : Rb w l v) (hn : l.length ≤ 1073741822) (K V q : Int) (r : List It) (hr : addS l (K, V) q = r) :
    Calls Try.prog 37 #[v, .agg #[.int .i64 K, .int .i64 V], .int .i64 q] w fun e w' => ∃ v', e = .returned v' ∧ Ext w w' ∧ Rb w' r v' := by
  subst hr
  exact (refAdd_any l v w h hn (K, V) q).mono (fun e w' ⟨v', he, hb⟩ => ⟨v', he, hb.rb⟩)
theorem add_rb {w : World} {l : List It} {v : Value} (h : Rb w l v) (hn : l.length ≤ 1073741822) (K V q : Int) (r : List It) (hr : addS l (K, V) q = r) :
    Calls Try.prog 36 #[v, .agg #[.int .i64 K, .int .i64 V], .int .i64 q] w fun e w' => ∃ v', e = .returned v' ∧ Ext w w' ∧ Rb w' r v' := by
  subst hr
  obtain ⟨a, c, rfl, h⟩ := h
  exact (add_any l a c w h (by omega) (K, V) q).mono (fun e w' ⟨v', he, hb⟩ => ⟨v', he, hb.rb⟩)
theorem refOf_rb {w : World} {l : List (Int × Int)} {v : Value} (h : Rr w l v) (hn : l.length ≤ 1073741822) (r : List It) (hr : ofF l = r) :
    Calls Try.prog 25 #[v] w fun e w' => ∃ v', e = .returned v' ∧ Ext w w' ∧ Rb w' r v' := by
  subst hr
  exact (refOf_any l v w h hn).mono (fun e w' ⟨v', he, hb⟩ => ⟨v', he, hb.rb⟩)
theorem refList_rb {w : World} {l : List It} {v : Value} (h : Rb w l v) (hn : l.length ≤ 1073741822) (r : List (Int × Int)) (hr : listS l = r) (b : Bool) (hb : okL l = b) :
    Calls Try.prog 27 #[v] w fun e w' => ∃ v', e = .returned (.tuple #[v', .bool b]) ∧ Ext w w' ∧ Rr w' r v' := by
  subst hr hb
  exact (refList_any l v w h (by omega)).mono (fun e w' ⟨v', he, hb⟩ => ⟨v', he, hb.rr⟩)
theorem refSame_rb {w : World} {l m : List It} {v u : Value} (h : Rb w l v) (h' : Rb w m u) (hn : l.length ≤ 1073741823) (b : Bool) (hb : sameB l m = b) :
    Calls Try.prog 23 #[v, u] w fun e w' => e = .returned (.bool b) ∧ Ext w w' := by
  obtain ⟨a, c, rfl, h⟩ := h
  obtain ⟨a', c', rfl, h'⟩ := h'
  subst hb
  exact refSame_any l m a a' c c' w h h' hn
theorem refSameRecs_rr {w : World} {l m : List (Int × Int)} {v u : Value} (h : Rr w l v) (h' : Rr w m u) (hn : l.length ≤ 1073741823) (b : Bool) (hb : sameB l m = b) :
    Calls Try.prog 28 #[v, u] w fun e w' => e = .returned (.bool b) ∧ Ext w w' := by
  obtain ⟨a, c, rfl, h⟩ := h
  obtain ⟨a', c', rfl, h'⟩ := h'
  subst hb
  exact refSameRecs_any l m a a' c c' w h h' hn
theorem refRight_rb {w : World} {l : List It} {v : Value} (h : Rb w l v) (hn : l.length ≤ 1073741822) (b : Bool) (hb : rightB l = b) :
    Calls Try.prog 35 #[v] w fun e w' => e = .returned (.bool b) ∧ Ext w w' := by
  obtain ⟨a, c, rfl, h⟩ := h
  subst hb
  exact refRight_any l a _ c w h rfl (by omega)
end Go.Proofs.Ytbglfaomebokhaa
