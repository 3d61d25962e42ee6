/- The reference of layer 5: Join, There, Of. -/
import Derived.Test.YtbglfaomebokhaaBgH
namespace Go.Proofs.Ytbglfaomebokhaa
set_option linter.unusedSimpArgs false
set_option linter.unusedVariables false
open Go.RowKit

theorem foldA_len (t : Int) (m : List It) : ∀ l : List It, (m.foldl (fun o x => addS o x.r (t * x.n)) l).length ≤ l.length + m.length := by
  induction m with
  | nil => intro l; simp
  | cons x m ih =>
    intro l
    have h1 := ih (addS l x.r (t * x.n))
    have h2 := add_len l x.r (t * x.n)
    rw [List.foldl_cons, List.length_cons]
    omega
theorem foldA_snoc (t : Int) (l : List It) {m : List It} {j : Nat} {x : It} (h : m[j]? = some x) : (m.take (j + 1)).foldl (fun o x => addS o x.r (t * x.n)) l = addS ((m.take j).foldl (fun o x => addS o x.r (t * x.n)) l) x.r (t * x.n) := by
  rw [take_snoc h, List.foldl_append]; rfl
set_option maxHeartbeats 8000000 in
theorem refJoin_any (l m : List It) (v u : Value) (w : World) (h : Rb w l v) (h' : Rb w m u) (hn : l.length + m.length ≤ 1073741822) (t : Int) (ht : t = 1 ∨ t = -1) :
    Calls Try.prog 38 #[v, u, .int .i64 t] w fun e w' => ∃ v', e = .returned v' ∧ Bag w w.heap.size (joinS l m t) v' w' := by
  obtain ⟨a, c, rfl, h⟩ := h
  obtain ⟨a', c', rfl, h'⟩ := h'
  have RT := Lib.hid (fun w' (hx : Ext w w') => refRight_any m a' _ c' w' (h'.of_ext hx) rfl (by omega))
  have H := Lib.hid h
  have H' := Lib.hid h'
  have HN := Lib.hid hn
  rw [← joinR_eq]
  unfold joinR
  clear h h' hn
  obtain ⟨b, f⟩ : ∃ b, rightB m = b := ⟨_, rfl⟩
  rw [f]
  rw [f] at RT
  have F := Lib.hid f
  clear f
  cases b
  · go_enter Try.func38, Try.ntmps38
    go_wp2_with (first | (at_builtin; refine app_new _ rfl _ _ rfl _ rfl (by simp) l _ rfl ⟨a, c, rfl, H.out.of_ext (by (repeat' (first | with_reducible exact Ext.refl _ | with_reducible refine Ext.ext ?_ _ | with_reducible refine Ext.alloc ?_ _ | with_reducible refine Ext.drew ?_ | with_reducible refine Ext.drewN ?_ _ | with_reducible assumption)))⟩ (by have := HN.out; omega) ?_; intro vs w1 hb; obtain ⟨z, rfl⟩ := hb.1; have HS := Lib.hid hb; clear hb) | (go_at_call 35; (with_reducible refine (RT.out _ (by (repeat' (first | with_reducible exact Ext.refl _ | with_reducible refine Ext.ext ?_ _ | with_reducible refine Ext.alloc ?_ _ | with_reducible refine Ext.drew ?_ | with_reducible refine Ext.drewN ?_ _ | with_reducible assumption)))).mono ?_); rintro e w' ⟨rfl, x1, rfl⟩))
    go_returns
    exact ⟨_, rfl, HS.out.on (by (first | (with_reducible exact ext_more2 _ _ _) | (repeat' (first | with_reducible exact Ext.refl _ | with_reducible refine Ext.ext ?_ _ | with_reducible refine Ext.alloc ?_ _ | with_reducible refine Ext.drew ?_ | with_reducible refine Ext.drewN ?_ _ | with_reducible assumption))))⟩
  · simp only [if_true]
    go_enter Try.func38, Try.ntmps38
    go_wp2_with (first | (at_builtin; refine app_new _ rfl _ _ rfl _ rfl (by simp) l _ rfl ⟨a, c, rfl, H.out.of_ext (by (repeat' (first | with_reducible exact Ext.refl _ | with_reducible refine Ext.ext ?_ _ | with_reducible refine Ext.alloc ?_ _ | with_reducible refine Ext.drew ?_ | with_reducible refine Ext.drewN ?_ _ | with_reducible assumption)))⟩ (by have := HN.out; omega) ?_; intro vs w1 hb; obtain ⟨z, rfl⟩ := hb.1; have HS := Lib.hid hb; clear hb) | (go_at_call 35; (with_reducible refine (RT.out _ (by (repeat' (first | with_reducible exact Ext.refl _ | with_reducible refine Ext.ext ?_ _ | with_reducible refine Ext.alloc ?_ _ | with_reducible refine Ext.drew ?_ | with_reducible refine Ext.drewN ?_ _ | with_reducible assumption)))).mono ?_); rintro e w' ⟨rfl, x1, rfl⟩))
    go_loopw [7, 8] (fun v i wr => ∃ j : Nat, j ≤ m.length ∧ i = .int .i64 j ∧ Bag w w.heap.size ((m.take j).foldl (fun o x => addS o x.r (t * x.n)) l) v wr) (fun _ i _ => m.length - (intOf i).toNat)
    case atStart => exact ⟨0, by omega, rfl, HS.out.on (by (first | (with_reducible exact ext_more2 _ _ _) | (repeat' (first | with_reducible exact Ext.refl _ | with_reducible refine Ext.ext ?_ _ | with_reducible refine Ext.alloc ?_ _ | with_reducible refine Ext.drew ?_ | with_reducible refine Ext.drewN ?_ _ | with_reducible assumption))))⟩
    case round =>
      obtain ⟨j, hj, rfl, hb⟩ := hrel
      obtain ⟨z', rfl⟩ := hb.1
      have HB := Lib.hid hb
      clear hb
      by_cases hlt : j < m.length
      · obtain ⟨x, hx⟩ : ∃ x, m[j]? = some x := ⟨m[j], List.getElem?_eq_getElem _⟩
        obtain ⟨b, off, rfl, -⟩ := H'.out.cells (by omega)
        have q := it_cells H'.out j x hx z'
        have q0 := q.1
        have q1 := q.2.1
        have q2 := q.2.2
        have i1 : (0 : Int) ≤ j := by omega
        have i2 : (j : Int) < m.length := by omega
        have hN := nOf F.out (List.mem_of_getElem? hx)
        have ew : wrap64 ((j : Int) + 1) = ((j + 1 : Nat) : Int) := (IntWalk.wrap64_in _ ⟨by omega, by have := HN.out; omega⟩).trans (by omega)
        have em : IntKind.i64.wrap (t * x.n) = t * x.n := by rw [IntKind.wrap_i64]; rcases ht with rfl | rfl <;> omega
        have em' : wrap64 (t * x.n) = t * x.n := IntWalk.wrap64_in _ ⟨by rcases ht with rfl | rfl <;> omega, by rcases ht with rfl | rfl <;> omega⟩
        have hfl := foldA_len t (m.take j) l
        rw [List.length_take] at hfl
        have ADD := Lib.hid (fun w1 v h => refAdd_any ((m.take j).foldl (fun o x => addS o x.r (t * x.n)) l) v w1 h (by have := HN.out; omega) x.r (t * x.n))
        rw [← foldA_snoc t l hx] at ADD
        obtain ⟨xk, xv, xn⟩ := x
        dsimp only [It.r] at q0 q1 q2 em em' ADD
        clear q hx hN hfl
        go_wp2
        refine wp_region_tail 13 (by kernel_rfl) (by kernel_rfl) ?_
        simp only [List.take_succ_cons, List.take_zero, List.drop_succ_cons, List.drop_zero]
        repeat still_step
        refine wpStill_nil ?_
        go_wp2_with (go_at_call 37; refine (ADD.out _ _ (by exact (HB.out.on (by (first | (with_reducible exact ext_more2 _ _ _) | (repeat' (first | with_reducible exact Ext.refl _ | with_reducible refine Ext.ext ?_ _ | with_reducible refine Ext.alloc ?_ _ | with_reducible refine Ext.drew ?_ | with_reducible refine Ext.drewN ?_ _ | with_reducible assumption))))).rb.2)).mono ?_; rintro e w2 ⟨v2, rfl, hb2⟩; have HB2 := Lib.hid (Bag.from0 (w0 := w) hb2 (by (repeat' (first | with_reducible exact Ext.refl _ | with_reducible refine Ext.ext ?_ _ | with_reducible refine Ext.alloc ?_ _ | with_reducible refine Ext.drew ?_ | with_reducible refine Ext.drewN ?_ _ | with_reducible assumption)))); clear hb2)
        exact ⟨⟨j + 1, by omega, congrArg (Value.int .i64) ew, HB2.out⟩, by rw [ew]; simp only [intOf]; omega⟩
      · obtain rfl : j = m.length := by omega
        rw [List.take_length] at HB
        go_wp2
        go_returns
        exact ⟨_, rfl, HB.out.on (by (first | (with_reducible exact ext_more2 _ _ _) | (repeat' (first | with_reducible exact Ext.refl _ | with_reducible refine Ext.ext ?_ _ | with_reducible refine Ext.alloc ?_ _ | with_reducible refine Ext.drew ?_ | with_reducible refine Ext.drewN ?_ _ | with_reducible assumption))))⟩
set_option maxHeartbeats 4000000 in
theorem refThere_any (l : List It) (v : Value) (w : World) (h : Rb w l v) (hn : l.length ≤ 1073741823) :
    Calls Try.prog 39 #[v] w fun e w' => ∃ v', e = .returned v' ∧ Bag w w.heap.size (thereS l) v' w' := by
  obtain ⟨a, c, rfl, h⟩ := h
  have RT := Lib.hid (fun w' (hx : Ext w w') => refRight_any l a _ c w' (h.of_ext hx) rfl (by omega))
  have H := Lib.hid h
  have HN := Lib.hid hn
  unfold thereS
  clear h hn
  obtain ⟨b, f⟩ : ∃ b, rightB l = b := ⟨_, rfl⟩
  rw [f]
  rw [f] at RT
  clear f
  have i0 : (0 : Int) ≤ l.length := by omega
  cases b
  · go_enter Try.func39, Try.ntmps39
    go_wp2_with (go_at_call 35; (with_reducible refine (RT.out _ (by (repeat' (first | with_reducible exact Ext.refl _ | with_reducible refine Ext.ext ?_ _ | with_reducible refine Ext.alloc ?_ _ | with_reducible refine Ext.drew ?_ | with_reducible refine Ext.drewN ?_ _ | with_reducible assumption)))).mono ?_); rintro e w' ⟨rfl, x1, rfl⟩)
    go_loopw [3, 5] (fun v i wr => i = .int .i64 0 ∧ Bag w w.heap.size [] v wr) (fun _ i _ => 0)
    case atStart => exact ⟨rfl, (Bag.nil w _).on (by (repeat' (first | with_reducible exact Ext.refl _ | with_reducible refine Ext.ext ?_ _ | with_reducible refine Ext.alloc ?_ _ | with_reducible refine Ext.drew ?_ | with_reducible refine Ext.drewN ?_ _ | with_reducible assumption)))⟩
    case round =>
      obtain ⟨rfl, hb⟩ := hrel
      obtain ⟨z', rfl⟩ := hb.1
      have HB := Lib.hid hb
      clear hb
      by_cases hlt : 0 < l.length
      · have i2 : ((0 : Nat) : Int) < l.length := by omega
        have i3 : decide ((0 : Int) < l.length) = true := decide_eq_true i2
        go_wp2
        go_returns
        exact ⟨_, rfl, HB.out.on (by (first | (with_reducible exact ext_more2 _ _ _) | (repeat' (first | with_reducible exact Ext.refl _ | with_reducible refine Ext.ext ?_ _ | with_reducible refine Ext.alloc ?_ _ | with_reducible refine Ext.drew ?_ | with_reducible refine Ext.drewN ?_ _ | with_reducible assumption))))⟩
      · have i3 : decide ((0 : Int) < l.length) = false := decide_eq_false (by omega)
        go_wp2
        go_returns
        exact ⟨_, rfl, HB.out.on (by (first | (with_reducible exact ext_more2 _ _ _) | (repeat' (first | with_reducible exact Ext.refl _ | with_reducible refine Ext.ext ?_ _ | with_reducible refine Ext.alloc ?_ _ | with_reducible refine Ext.drew ?_ | with_reducible refine Ext.drewN ?_ _ | with_reducible assumption))))⟩
  · simp only [if_true]
    go_enter Try.func39, Try.ntmps39
    go_wp2_with (go_at_call 35; (with_reducible refine (RT.out _ (by (repeat' (first | with_reducible exact Ext.refl _ | with_reducible refine Ext.ext ?_ _ | with_reducible refine Ext.alloc ?_ _ | with_reducible refine Ext.drew ?_ | with_reducible refine Ext.drewN ?_ _ | with_reducible assumption)))).mono ?_); rintro e w' ⟨rfl, x1, rfl⟩)
    go_loopw [3, 5] (fun v i wr => ∃ j : Nat, j ≤ l.length ∧ i = .int .i64 j ∧ Bag w w.heap.size (posF (l.take j)) v wr) (fun _ i _ => l.length - (intOf i).toNat)
    case atStart => exact ⟨0, by omega, rfl, (Bag.nil w _).on (by (repeat' (first | with_reducible exact Ext.refl _ | with_reducible refine Ext.ext ?_ _ | with_reducible refine Ext.alloc ?_ _ | with_reducible refine Ext.drew ?_ | with_reducible refine Ext.drewN ?_ _ | with_reducible assumption)))⟩
    case round =>
      obtain ⟨j, hj, rfl, hb⟩ := hrel
      obtain ⟨z', rfl⟩ := hb.1
      have HB := Lib.hid hb
      clear hb
      by_cases hlt : j < l.length
      · obtain ⟨x, hx⟩ : ∃ x, l[j]? = some x := ⟨l[j], List.getElem?_eq_getElem _⟩
        obtain ⟨b, off, rfl, -⟩ := H.out.cells (by omega)
        have q := it_cells H.out j x hx z'
        have q0 := keep_add q.1
        have q1 := keep_add q.2.1
        have q2 := keep_add q.2.2
        have i1 : (0 : Int) ≤ j := by omega
        have i2 : (j : Int) < l.length := by omega
        have ew : wrap64 ((j : Int) + 1) = ((j + 1 : Nat) : Int) := (IntWalk.wrap64_in _ ⟨by omega, by have := HN.out; omega⟩).trans (by omega)
        obtain ⟨bp, hp⟩ : ∃ b, decide (0 < x.n) = b := ⟨_, rfl⟩
        have PL := Lib.hid (posF_len l j)
        cases bp
        · have e := posF_no hx hp
          rw [← e] at HB
          obtain ⟨xk, xv, xn⟩ := x
          dsimp only at q0 q1 q2 hp
          clear q hx e
          go_wp2
          exact ⟨⟨j + 1, by omega, congrArg (Value.int .i64) ew, HB.out.on (by (first | (with_reducible exact ext_more2 _ _ _) | (repeat' (first | with_reducible exact Ext.refl _ | with_reducible refine Ext.ext ?_ _ | with_reducible refine Ext.alloc ?_ _ | with_reducible refine Ext.drew ?_ | with_reducible refine Ext.drewN ?_ _ | with_reducible assumption))))⟩, by rw [ew]; simp only [intOf]; omega⟩
        · have e := posF_yes hx hp
          obtain ⟨xk, xv, xn⟩ := x
          dsimp only at q0 q1 q2 hp
          have HE := Lib.hid e
          clear q hx e
          go_wp2_with (at_builtin; refine push_bag rfl _ _ rfl w _ (posF (l.take j)) _ (by exact HB.out.on (by (first | (with_reducible exact ext_more2 _ _ _) | (repeat' (first | with_reducible exact Ext.refl _ | with_reducible refine Ext.ext ?_ _ | with_reducible refine Ext.alloc ?_ _ | with_reducible refine Ext.drew ?_ | with_reducible refine Ext.drewN ?_ _ | with_reducible assumption))))) _ _ rfl rfl (by simp) (Nat.le_trans PL.out HN.out) ⟨xk, xv, xn⟩ ?_; intro v2 w2 hb2; rw [← HE.out] at hb2; obtain ⟨z2, rfl⟩ := hb2.1; have HB2 := Lib.hid hb2; clear hb2)
          exact ⟨⟨j + 1, by omega, congrArg (Value.int .i64) ew, HB2.out⟩, by rw [ew]; simp only [intOf]; omega⟩
      · obtain rfl : j = l.length := by omega
        rw [List.take_length] at HB
        go_wp2
        go_returns
        exact ⟨_, rfl, HB.out.on (by (first | (with_reducible exact ext_more2 _ _ _) | (repeat' (first | with_reducible exact Ext.refl _ | with_reducible refine Ext.ext ?_ _ | with_reducible refine Ext.alloc ?_ _ | with_reducible refine Ext.drew ?_ | with_reducible refine Ext.drewN ?_ _ | with_reducible assumption))))⟩
theorem foldO_snoc {m : List (Int × Int)} {j : Nat} {x : Int × Int} (h : m[j]? = some x) : (m.take (j + 1)).foldl (fun o r => addS o r 1) [] = addS ((m.take j).foldl (fun o r => addS o r 1) []) x 1 := by
  rw [take_snoc h, List.foldl_append]; rfl
theorem foldO_len (m : List (Int × Int)) : ∀ l : List It, (m.foldl (fun o r => addS o r 1) l).length ≤ l.length + m.length := by
  induction m with
  | nil => intro l; simp
  | cons x m ih =>
    intro l
    have h1 := ih (addS l x 1)
    have h2 := add_len l x 1
    rw [List.foldl_cons, List.length_cons]
    omega
set_option maxHeartbeats 4000000 in
theorem refOf_any (l : List (Int × Int)) (v : Value) (w : World) (h : Rr w l v) (hn : l.length ≤ 1073741822) :
    Calls Try.prog 25 #[v] w fun e w' => ∃ v', e = .returned v' ∧ Bag w w.heap.size (ofF l) v' w' := by
  obtain ⟨a, c, rfl, h⟩ := h
  have H := Lib.hid h
  have HN := Lib.hid hn
  rw [← ofR_eq]
  clear h hn
  go_enter Try.func25, Try.ntmps25
  go_wp2
  go_loopw [3, 4] (fun v i wr => ∃ j : Nat, j ≤ l.length ∧ i = .int .i64 j ∧ Bag w w.heap.size ((l.take j).foldl (fun o r => addS o r 1) []) v wr) (fun _ i _ => l.length - (intOf i).toNat)
  case atStart => exact ⟨0, by omega, rfl, Bag.nil _ _⟩
  case round =>
    obtain ⟨j, hj, rfl, hb⟩ := hrel
    obtain ⟨z', rfl⟩ := hb.1
    have HB := Lib.hid hb
    clear hb
    by_cases hlt : j < l.length
    · obtain ⟨x, hx⟩ : ∃ x, l[j]? = some x := ⟨l[j], List.getElem?_eq_getElem _⟩
      obtain ⟨b, off, rfl, -⟩ := H.out.cells (by omega)
      have q := rc_cells H.out j x hx z'
      have q0 := keep_add q.1
      have q1 := keep_add q.2
      have i1 : (0 : Int) ≤ j := by omega
      have i2 : (j : Int) < l.length := by omega
      have ew : wrap64 ((j : Int) + 1) = ((j + 1 : Nat) : Int) := (IntWalk.wrap64_in _ ⟨by omega, by have := HN.out; omega⟩).trans (by omega)
      have hfl := foldO_len (l.take j) []
      rw [List.length_take, List.length_nil] at hfl
      have ADD := Lib.hid (fun w1 v h => refAdd_any ((l.take j).foldl (fun o r => addS o r 1) []) v w1 h (by have := HN.out; omega) x 1)
      rw [← foldO_snoc hx] at ADD
      obtain ⟨xk, xv⟩ := x
      dsimp only at q0 q1 ADD
      clear q hx hfl
      go_wp2_with (go_at_call 37; refine (ADD.out _ _ (by exact (HB.out.on (by (first | (with_reducible exact ext_more2 _ _ _) | (repeat' (first | with_reducible exact Ext.refl _ | with_reducible refine Ext.ext ?_ _ | with_reducible refine Ext.alloc ?_ _ | with_reducible refine Ext.drew ?_ | with_reducible refine Ext.drewN ?_ _ | with_reducible assumption))))).rb.2)).mono ?_; rintro e w2 ⟨v2, rfl, hb2⟩; have HB2 := Lib.hid (Bag.from0 (w0 := w) hb2 (by (repeat' (first | with_reducible exact Ext.refl _ | with_reducible refine Ext.ext ?_ _ | with_reducible refine Ext.alloc ?_ _ | with_reducible refine Ext.drew ?_ | with_reducible refine Ext.drewN ?_ _ | with_reducible assumption)))); clear hb2)
      exact ⟨⟨j + 1, by omega, congrArg (Value.int .i64) ew, HB2.out⟩, by rw [ew]; simp only [intOf]; omega⟩
    · obtain rfl : j = l.length := by omega
      rw [List.take_length] at HB
      go_wp2
      go_returns
      exact ⟨_, rfl, HB.out.on (by (first | (with_reducible exact ext_more2 _ _ _) | (repeat' (first | with_reducible exact Ext.refl _ | with_reducible refine Ext.ext ?_ _ | with_reducible refine Ext.alloc ?_ _ | with_reducible refine Ext.drew ?_ | with_reducible refine Ext.drewN ?_ _ | with_reducible assumption))))⟩
end Go.Proofs.Ytbglfaomebokhaa
