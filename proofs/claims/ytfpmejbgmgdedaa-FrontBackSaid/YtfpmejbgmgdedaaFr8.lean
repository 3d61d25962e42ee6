/- Front: the reference's Add, All, At, Frontier. -/
import Derived.Test.YtfpmejbgmgdedaaFr7
import Derived.Test.YtfpmejbgmgdedaaChM
namespace Go.Proofs.Ytfpmejbgmgdedaa.Fr
set_option linter.unusedSimpArgs false
set_option linter.unusedVariables false
open Go.RowKit

theorem refAdd_rb {w : World} {l : List Ct} {v : Value} (h : Rb w l v) (hn : l.length ≤ 1073741822) (t : Tm) (q : Int) (r : List Ct) (hr : addS l t q = r) :
    Calls Try.prog 29 #[v, .agg #[.int .i64 t.d, .int .i64 t.a, .int .i64 t.b, .int .i64 t.c, .int .i64 t.e], .int .i64 q] w fun e w' => ∃ v', e = .returned v' ∧ Ext w w' ∧ Rb w' r v' := by
  subst hr
  exact (refAdd_row h hn t q).mono (fun e w' ⟨v', he, hb⟩ => ⟨v', he, hb.rb⟩)
theorem add_len (l : List Ct) (t : Tm) (q : Int) : (addS l t q).length ≤ l.length + 1 := by
  unfold addS
  split
  · next h => exact putS_len h t q
  · omega
theorem foldA_len (m : List Ct) : ∀ l : List Ct, (m.foldl (fun o x => addS o x.t x.n) l).length ≤ l.length + m.length := by
  induction m with
  | nil => intro l; simp
  | cons x m ih =>
    intro l
    have h1 := ih (addS l x.t x.n)
    have h2 := add_len l x.t x.n
    rw [List.foldl_cons, List.length_cons]
    omega
theorem foldA_snoc (l : List Ct) {m : List Ct} {j : Nat} {x : Ct} (h : m[j]? = some x) : (m.take (j + 1)).foldl (fun o x => addS o x.t x.n) l = addS ((m.take j).foldl (fun o x => addS o x.t x.n) l) x.t x.n := by
  rw [take_snoc h, List.foldl_append]; rfl
def joinR (a b : List Ct) : List Ct := if rightC b then b.foldl (fun o x => addS o x.t x.n) a else a
theorem joinR_eq (a b : List Ct) : joinR a b = joinS a b := by
  unfold joinR joinS
  cases hb : rightC b
  · simp
  · cases ha : rightC a
    · have : ∀ m : List Ct, m.foldl (fun o x => addS o x.t x.n) a = a := fun m => by
        induction m with
        | nil => rfl
        | cons x m ih => rw [List.foldl_cons, show addS a x.t x.n = a by unfold addS; rw [ha]; rfl, ih]
      simp [this]
    · have : ∀ (m a : List Ct), rightC a = true → m.foldl (fun o x => addS o x.t x.n) a = joinF a m := fun m => by
        induction m with
        | nil => intro a _; rfl
        | cons x m ih => intro a ha; rw [List.foldl_cons, show addS a x.t x.n = putS a x.t x.n by unfold addS; rw [if_pos ha], ih _ (putS_right ha _ _)]; rfl
      simp [this b a ha]
set_option maxHeartbeats 8000000 in
theorem refAll_rb {w : World} {l m : List Ct} {v u : Value} (h : Rb w l v) (h' : Rb w m u) (hn : l.length + m.length ≤ 1073741822) (r : List Ct) (hr : joinS l m = r) :
    Calls Try.prog 31 #[v, u] w fun e w' => ∃ v', e = .returned v' ∧ Ext w w' ∧ Rb w' r v' := by
  subst hr
  obtain ⟨a, c, rfl, h⟩ := h
  obtain ⟨a', c', rfl, h'⟩ := h'
  have RT := Lib.hid (fun w' (hx : Ext w w') => refRight_any m a' _ c' w' (h'.of_ext hx) rfl (by omega))
  have H := Lib.hid h
  have H' := Lib.hid h'
  have HN := Lib.hid hn
  rw [← joinR_eq]
  unfold joinR
  clear h h' hn
  obtain ⟨b, f⟩ : ∃ b, rightC m = b := ⟨_, rfl⟩
  rw [f]
  rw [f] at RT
  clear f
  cases b
  · go_enter Try.func31, Try.ntmps31
    go_wp2_with (first | (at_builtin; refine app_new _ rfl _ _ rfl _ rfl (by simp) l _ rfl ⟨a, c, rfl, H.out.of_ext (by (repeat' (first | with_reducible exact Ext.refl _ | with_reducible refine Ext.ext ?_ _ | with_reducible refine Ext.alloc ?_ _ | with_reducible refine Ext.drew ?_ | with_reducible refine Ext.drewN ?_ _ | with_reducible assumption)))⟩ (by have := HN.out; omega) ?_; intro vs w1 hb; obtain ⟨z, rfl⟩ := hb.1; have HS := Lib.hid hb; clear hb) | (go_at_call 27; (with_reducible refine (RT.out _ (by (repeat' (first | with_reducible exact Ext.refl _ | with_reducible refine Ext.ext ?_ _ | with_reducible refine Ext.alloc ?_ _ | with_reducible refine Ext.drew ?_ | with_reducible refine Ext.drewN ?_ _ | with_reducible assumption)))).mono ?_); rintro e w' ⟨rfl, x1, rfl⟩))
    go_returns
    exact ⟨_, rfl, (HS.out.on (by (first | (with_reducible exact ext_more2 _ _ _) | (repeat' (first | with_reducible exact Ext.refl _ | with_reducible refine Ext.ext ?_ _ | with_reducible refine Ext.alloc ?_ _ | with_reducible refine Ext.drew ?_ | with_reducible refine Ext.drewN ?_ _ | with_reducible assumption))))).rb⟩
  · simp only [if_true]
    go_enter Try.func31, Try.ntmps31
    go_wp2_with (first | (at_builtin; refine app_new _ rfl _ _ rfl _ rfl (by simp) l _ rfl ⟨a, c, rfl, H.out.of_ext (by (repeat' (first | with_reducible exact Ext.refl _ | with_reducible refine Ext.ext ?_ _ | with_reducible refine Ext.alloc ?_ _ | with_reducible refine Ext.drew ?_ | with_reducible refine Ext.drewN ?_ _ | with_reducible assumption)))⟩ (by have := HN.out; omega) ?_; intro vs w1 hb; obtain ⟨z, rfl⟩ := hb.1; have HS := Lib.hid hb; clear hb) | (go_at_call 27; (with_reducible refine (RT.out _ (by (repeat' (first | with_reducible exact Ext.refl _ | with_reducible refine Ext.ext ?_ _ | with_reducible refine Ext.alloc ?_ _ | with_reducible refine Ext.drew ?_ | with_reducible refine Ext.drewN ?_ _ | with_reducible assumption)))).mono ?_); rintro e w' ⟨rfl, x1, rfl⟩))
    go_loopw [5, 6] (fun v i wr => ∃ j : Nat, j ≤ m.length ∧ i = .int .i64 j ∧ Row w w.heap.size ((m.take j).foldl (fun o x => addS o x.t x.n) l) v wr) (fun _ i _ => m.length - (intOf i).toNat)
    case atStart => exact ⟨0, by omega, rfl, HS.out.on (by (first | (with_reducible exact ext_more2 _ _ _) | (repeat' (first | with_reducible exact Ext.refl _ | with_reducible refine Ext.ext ?_ _ | with_reducible refine Ext.alloc ?_ _ | with_reducible refine Ext.drew ?_ | with_reducible refine Ext.drewN ?_ _ | with_reducible assumption))))⟩
    case round =>
      obtain ⟨j, hj, rfl, hb⟩ := hrel
      obtain ⟨z', rfl⟩ := hb.1
      have HB := Lib.hid hb
      clear hb
      by_cases hlt : j < m.length
      · obtain ⟨x, hx⟩ : ∃ x, m[j]? = some x := ⟨m[j], List.getElem?_eq_getElem _⟩
        obtain ⟨b, off, rfl, -⟩ := H'.out.cells (by omega)
        obtain ⟨q0, q1, q2, q3, q4, q5⟩ := cts_at H'.out j x hx
        haveI : LtSz b w.heap.size := ⟨World.block_lt_of_cell? _ _ q0⟩
        have i1 : (0 : Int) ≤ j := by omega
        have i2 : (j : Int) < m.length := by omega
        have ew : wrap64 ((j : Int) + 1) = ((j + 1 : Nat) : Int) := (IntWalk.wrap64_in _ ⟨by omega, by have := HN.out; omega⟩).trans (by omega)
        have hfl := foldA_len (m.take j) l
        rw [List.length_take] at hfl
        have ADD := Lib.hid (fun w1 v h => refAdd_row (w := w1) (l := (m.take j).foldl (fun o x => addS o x.t x.n) l) (v := v) h (by have := HN.out; omega) x.t x.n)
        rw [← foldA_snoc l hx] at ADD
        obtain ⟨xd, xa, xb, xc, xe, xn⟩ := x
        dsimp only [Ct.t] at q0 q1 q2 q3 q4 q5 ADD
        clear hx hfl
        go_wp2
        refine wp_region_tail 11 (by kernel_rfl) (by kernel_rfl) ?_
        simp only [List.take_succ_cons, List.take_zero, List.drop_succ_cons, List.drop_zero]
        repeat still_step
        refine wpStill_nil ?_
        go_wp2_with (go_at_call 29; refine (ADD.out _ _ (by exact (HB.out.on (by (first | (with_reducible exact ext_more2 _ _ _) | (repeat' (first | with_reducible exact Ext.refl _ | with_reducible refine Ext.ext ?_ _ | with_reducible refine Ext.alloc ?_ _ | with_reducible refine Ext.drew ?_ | with_reducible refine Ext.drewN ?_ _ | with_reducible assumption))))).rb.2)).mono ?_; rintro e w2 ⟨v2, rfl, hb2⟩; have HB2 := Lib.hid (Row.from0 (w0 := w) hb2 (by (repeat' (first | with_reducible exact Ext.refl _ | with_reducible refine Ext.ext ?_ _ | with_reducible refine Ext.alloc ?_ _ | with_reducible refine Ext.drew ?_ | with_reducible refine Ext.drewN ?_ _ | with_reducible assumption)))); clear hb2)
        exact ⟨⟨j + 1, by omega, congrArg (Value.int .i64) ew, HB2.out⟩, by rw [ew]; simp only [intOf]; omega⟩
      · obtain rfl : j = m.length := by omega
        rw [List.take_length] at HB
        go_wp2
        go_returns
        exact ⟨_, rfl, (HB.out.on (by (first | (with_reducible exact ext_more2 _ _ _) | (repeat' (first | with_reducible exact Ext.refl _ | with_reducible refine Ext.ext ?_ _ | with_reducible refine Ext.alloc ?_ _ | with_reducible refine Ext.drew ?_ | with_reducible refine Ext.drewN ?_ _ | with_reducible assumption))))).rb⟩
theorem cnt_yes {l : List Ct} (h : rightC l = true) {t : Tm} {j : Nat} {x : Ct} (hx : l[j]? = some x) (e : x.t = t) : cnt (l.take (j + 1)) t = x.n := by
  rw [take_snoc hx, cnt_app, cnt, if_pos e, cnt_none, cnt]
  · omega
  · intro y hy
    obtain ⟨i, hi⟩ := List.getElem?_of_mem hy
    have hij : i < j := by have := (List.getElem?_eq_some_iff.1 hi).1; rw [List.length_take] at this; omega
    rw [List.getElem?_take, if_pos hij] at hi
    have := (right_srt h).at hij (ts_at hi) (ts_at hx)
    intro e2
    rw [e2, e, lessB_irrefl] at this
    cases this
theorem cnt_no {l : List Ct} {t : Tm} {j : Nat} {x : Ct} (hx : l[j]? = some x) (e : x.t ≠ t) : cnt (l.take (j + 1)) t = cnt (l.take j) t := by
  rw [take_snoc hx, cnt_app, cnt, if_neg e, cnt]
  omega
set_option maxHeartbeats 4000000 in
theorem refAt_rb {w : World} {l : List Ct} {v : Value} (h : Rb w l v) (hn : l.length ≤ 1073741823) (t : Tm) (r : Int) (hr : atS l t = r) :
    Calls Try.prog 33 #[v, .agg #[.int .i64 t.d, .int .i64 t.a, .int .i64 t.b, .int .i64 t.c, .int .i64 t.e]] w fun e w' => e = .returned (.int .i64 r) ∧ Ext w w' := by
  have RT := Lib.hid (fun w' (hx : Ext w w') => refRight_rb (h.on hx) hn _ rfl)
  obtain ⟨a, c, rfl, h⟩ := h
  unfold atS at hr
  obtain ⟨b, f⟩ : ∃ b, rightC l = b := ⟨_, rfl⟩
  rw [f] at RT hr
  have H := Lib.hid h
  have HN := Lib.hid hn
  have F := Lib.hid f
  have HR := Lib.hid hr
  obtain ⟨T, hT⟩ : ∃ T, T = t := ⟨_, rfl⟩
  rw [← hT] at HR
  have HTT := Lib.hid hT
  clear h hn f hr hT
  obtain ⟨td, ta, tb, tc, te⟩ := t
  dsimp only
  cases b
  · have HZ := Lib.hid (show 0 = r from HR.out)
    have n0 : (0 : Int) ≤ l.length := by omega
    obtain ⟨bz, fz⟩ : ∃ b, decide (0 < (l.length : Int)) = b := ⟨_, rfl⟩
    have fz' : decide (0 < l.length) = bz := by rw [← fz]; exact decide_eq_decide.2 (by omega)
    cases bz
    all_goals
      go_enter Try.func33, Try.ntmps33
      go_wp2_with (go_at_call 27; refine (RT.out _ (by (repeat' (first | with_reducible exact Ext.refl _ | with_reducible refine Ext.ext ?_ _ | with_reducible refine Ext.alloc ?_ _ | with_reducible refine Ext.drew ?_ | with_reducible refine Ext.drewN ?_ _ | with_reducible assumption)))).mono ?_; rintro e w' ⟨rfl, x1, rfl⟩)
      go_loopw [5, 7] (fun n i wr => i = .int .i64 0 ∧ n = .int .i64 0 ∧ Ext w wr) (fun _ i _ => 0)
      case atStart => exact ⟨rfl, rfl, by (repeat' (first | with_reducible exact Ext.refl _ | with_reducible refine Ext.ext ?_ _ | with_reducible refine Ext.alloc ?_ _ | with_reducible refine Ext.drew ?_ | with_reducible refine Ext.drewN ?_ _ | with_reducible assumption))⟩
      case round =>
        obtain ⟨rfl, rfl, ⟨z', rfl⟩⟩ := hrel
        go_wp2
        go_returns
        exact ⟨reti rfl HZ.out, by (repeat' (first | with_reducible exact Ext.refl _ | with_reducible refine Ext.ext ?_ _ | with_reducible refine Ext.alloc ?_ _ | with_reducible refine Ext.drew ?_ | with_reducible refine Ext.drewN ?_ _ | with_reducible assumption))⟩
  · go_enter Try.func33, Try.ntmps33
    go_wp2_with (go_at_call 27; refine (RT.out _ (by (repeat' (first | with_reducible exact Ext.refl _ | with_reducible refine Ext.ext ?_ _ | with_reducible refine Ext.alloc ?_ _ | with_reducible refine Ext.drew ?_ | with_reducible refine Ext.drewN ?_ _ | with_reducible assumption)))).mono ?_; rintro e w' ⟨rfl, x1, rfl⟩)
    go_loopw [5, 7] (fun n i wr => ∃ j : Nat, j ≤ l.length ∧ i = .int .i64 j ∧ n = .int .i64 (cnt (l.take j) T) ∧ Ext (w.alloc (.cells #[.int .i64 td, .int .i64 ta, .int .i64 tb, .int .i64 tc, .int .i64 te] 25)) wr) (fun _ i _ => l.length - (intOf i).toNat)
    case atStart => exact ⟨0, by omega, rfl, rfl, by (repeat' (first | with_reducible exact Ext.refl _ | with_reducible refine Ext.ext ?_ _ | with_reducible refine Ext.alloc ?_ _ | with_reducible refine Ext.drew ?_ | with_reducible refine Ext.drewN ?_ _ | with_reducible assumption))⟩
    case round =>
      obtain ⟨j, hj, rfl, rfl, ⟨z', rfl⟩⟩ := hrel
      by_cases hlt : j < l.length
      · obtain ⟨x, hx⟩ : ∃ x, l[j]? = some x := ⟨l[j], List.getElem?_eq_getElem _⟩
        obtain ⟨b, off, rfl, -⟩ := H.out.cells (by omega)
        obtain ⟨q0, q1, q2, q3, q4, q5⟩ := cts_at H.out j x hx
        haveI : LtSz b w.heap.size := ⟨World.block_lt_of_cell? _ _ q0⟩
        have i1 : (0 : Int) ≤ j := by omega
        have i2 : (j : Int) < l.length := by omega
        have ew : wrap64 ((j : Int) + 1) = ((j + 1 : Nat) : Int) := (IntWalk.wrap64_in _ ⟨by omega, by have := HN.out; omega⟩).trans (by omega)
        have YES := Lib.hid (fun e : x.t = T => cnt_yes F.out hx e)
        have NO := Lib.hid (fun e : x.t ≠ T => cnt_no (t := T) hx e)
        obtain ⟨be, fe⟩ : ∃ b, eqT x.t T = b := ⟨_, rfl⟩
        have EQ := Lib.hid (fe ▸ eqT_iff x.t T)
        rw [HTT.out] at fe
        unfold eqT Ct.t at fe
        generalize x.t = X at *
        obtain ⟨xd, xa, xb, xc, xe, xn⟩ := x
        dsimp only at q0 q1 q2 q3 q4 q5 fe YES
        clear hx
        cases be
        · have HE := Lib.hid (NO.out (fun e => by have := EQ.out.2 e; cases this))
          go_wp2
          refine wp_region_ext (by kernel_rfl) (by kernel_rfl) ?_
          repeat (go_big_quiet_step (fail))
          refine wpQuiet_nil ?_
          intro xK
          go_wp2
          exact ⟨⟨j + 1, by omega, congrArg (Value.int .i64) ew, congrArg (Value.int .i64) HE.out.symm, by (repeat' (first | with_reducible exact Ext.refl _ | with_reducible refine Ext.ext ?_ _ | with_reducible refine Ext.alloc ?_ _ | with_reducible refine Ext.drew ?_ | with_reducible refine Ext.drewN ?_ _ | with_reducible assumption))⟩, by rw [ew]; simp only [intOf]; omega⟩
        · have HE := Lib.hid (YES.out (EQ.out.1 rfl))
          go_wp2
          refine wp_region_ext (by kernel_rfl) (by kernel_rfl) ?_
          repeat (go_big_quiet_step (fail))
          refine wpQuiet_nil ?_
          intro xK
          go_wp2
          exact ⟨⟨j + 1, by omega, congrArg (Value.int .i64) ew, congrArg (Value.int .i64) HE.out.symm, by (repeat' (first | with_reducible exact Ext.refl _ | with_reducible refine Ext.ext ?_ _ | with_reducible refine Ext.alloc ?_ _ | with_reducible refine Ext.drew ?_ | with_reducible refine Ext.drewN ?_ _ | with_reducible assumption))⟩, by rw [ew]; simp only [intOf]; omega⟩
      · obtain rfl : j = l.length := by omega
        have HZ := Lib.hid (show cnt (l.take l.length) T = r by rw [List.take_length]; exact HR.out)
        go_wp2
        go_returns
        exact ⟨reti rfl HZ.out, by (repeat' (first | with_reducible exact Ext.refl _ | with_reducible refine Ext.ext ?_ _ | with_reducible refine Ext.alloc ?_ _ | with_reducible refine Ext.drew ?_ | with_reducible refine Ext.drewN ?_ _ | with_reducible assumption))⟩
set_option maxHeartbeats 4000000 in
theorem refFrontier_rb {w : World} {l : List Ct} {v : Value} (h : Rb w l v) (hn : l.length ≤ 1073741823) (r : List Tm) (hr : chT (frontL l) = r) :
    Calls Try.prog 34 #[v] w fun e w' => ∃ v', e = .returned v' ∧ Ext w w' ∧ _root_.Go.Proofs.Ytfpmejbgmgdedaa.Rb w' r v' := by
  have RT := Lib.hid (fun w' (hx : Ext w w') => refRight_rb (h.on hx) hn _ rfl)
  obtain ⟨a, c, rfl, h⟩ := h
  unfold frontL at hr
  obtain ⟨b, f⟩ : ∃ b, rightC l = b := ⟨_, rfl⟩
  rw [f] at RT hr
  have H := Lib.hid h
  have HN := Lib.hid hn
  clear h hn f
  cases b
  · have OF := Lib.hid (fun (W : World) (V : Value) (hb : _root_.Go.Proofs.Ytfpmejbgmgdedaa.Rb W [] V) => refOf_rb hb (by simp) r hr)
    have n0 : (0 : Int) ≤ l.length := by omega
    obtain ⟨bz, fz⟩ : ∃ b, decide (0 < (l.length : Int)) = b := ⟨_, rfl⟩
    have fz' : decide (0 < l.length) = bz := by rw [← fz]; exact decide_eq_decide.2 (by omega)
    clear hr
    cases bz
    all_goals
      go_enter Try.func34, Try.ntmps34
      go_wp2_with (go_at_call 27; refine (RT.out _ (by (repeat' (first | with_reducible exact Ext.refl _ | with_reducible refine Ext.ext ?_ _ | with_reducible refine Ext.alloc ?_ _ | with_reducible refine Ext.drew ?_ | with_reducible refine Ext.drewN ?_ _ | with_reducible assumption)))).mono ?_; rintro e w' ⟨rfl, x1, rfl⟩)
      go_loopw [3, 5] (fun v i wr => i = .int .i64 0 ∧ v = .slice none 0 0 ∧ Ext w wr) (fun _ i _ => 0)
      case atStart => exact ⟨rfl, rfl, by (repeat' (first | with_reducible exact Ext.refl _ | with_reducible refine Ext.ext ?_ _ | with_reducible refine Ext.alloc ?_ _ | with_reducible refine Ext.drew ?_ | with_reducible refine Ext.drewN ?_ _ | with_reducible assumption))⟩
      case round =>
        obtain ⟨rfl, rfl, ⟨z', rfl⟩⟩ := hrel
        go_wp2_with (go_at_call 17; (with_reducible refine (OF.out _ _ (_root_.Go.Proofs.Ytfpmejbgmgdedaa.Rb.nil _)).mono ?_); rintro e w2 ⟨v2, rfl, hx2, hb2⟩; have HX2 := Lib.hid hx2; have HB2 := Lib.hid hb2; clear hx2 hb2)
        go_returns
        exact ⟨_, rfl, Ext.trans (by (repeat' (first | with_reducible exact Ext.refl _ | with_reducible refine Ext.ext ?_ _ | with_reducible refine Ext.alloc ?_ _ | with_reducible refine Ext.drew ?_ | with_reducible refine Ext.drewN ?_ _ | with_reducible assumption))) HX2.out, HB2.out⟩
  · have OF := Lib.hid (fun (W : World) (V : Value) (hb : _root_.Go.Proofs.Ytfpmejbgmgdedaa.Rb W (posF l) V) => refOf_rb hb (by have := posF_len l l.length; rw [List.take_length] at this; have := HN.out; omega) r hr)
    clear hr
    go_enter Try.func34, Try.ntmps34
    go_wp2_with (go_at_call 27; refine (RT.out _ (by (repeat' (first | with_reducible exact Ext.refl _ | with_reducible refine Ext.ext ?_ _ | with_reducible refine Ext.alloc ?_ _ | with_reducible refine Ext.drew ?_ | with_reducible refine Ext.drewN ?_ _ | with_reducible assumption)))).mono ?_; rintro e w' ⟨rfl, x1, rfl⟩)
    go_loopw [3, 5] (fun v i wr => ∃ j : Nat, j ≤ l.length ∧ i = .int .i64 j ∧ _root_.Go.Proofs.Ytfpmejbgmgdedaa.Row w w.heap.size (posF (l.take j)) v wr) (fun _ i _ => l.length - (intOf i).toNat)
    case atStart => exact ⟨0, by omega, rfl, (_root_.Go.Proofs.Ytfpmejbgmgdedaa.Row.nil _ _).on (by (repeat' (first | with_reducible exact Ext.refl _ | with_reducible refine Ext.ext ?_ _ | with_reducible refine Ext.alloc ?_ _ | with_reducible refine Ext.drew ?_ | with_reducible refine Ext.drewN ?_ _ | with_reducible assumption)))⟩
    case round =>
      obtain ⟨j, hj, rfl, hb⟩ := hrel
      obtain ⟨z', rfl⟩ := hb.1
      obtain ⟨-, a3, c3, rfl, -⟩ := id hb
      have HB := Lib.hid hb
      clear hb
      by_cases hlt : j < l.length
      · obtain ⟨x, hx⟩ : ∃ x, l[j]? = some x := ⟨l[j], List.getElem?_eq_getElem _⟩
        obtain ⟨b, off, rfl, -⟩ := H.out.cells (by omega)
        obtain ⟨q0, q1, q2, q3, q4, q5⟩ := cts_at H.out j x hx
        haveI : LtSz b w.heap.size := ⟨World.block_lt_of_cell? _ _ q0⟩
        have i1 : (0 : Int) ≤ j := by omega
        have i2 : (j : Int) < l.length := by omega
        have ew : wrap64 ((j : Int) + 1) = ((j + 1 : Nat) : Int) := (IntWalk.wrap64_in _ ⟨by omega, by have := HN.out; omega⟩).trans (by omega)
        obtain ⟨bp, hp⟩ : ∃ b, decide (0 < x.n) = b := ⟨_, rfl⟩
        have PL := Lib.hid (posF_len l j)
        cases bp
        · have e := posF_no hx hp
          have HE := Lib.hid e
          obtain ⟨xd, xa, xb, xc, xe, xn⟩ := x
          dsimp only at q0 q1 q2 q3 q4 q5 hp
          clear hx e
          go_wp2
          exact ⟨⟨j + 1, by omega, congrArg (Value.int .i64) ew, by rw [HE.out]; exact HB.out.on (by (first | (with_reducible exact ext_more2 _ _ _) | (repeat' (first | with_reducible exact Ext.refl _ | with_reducible refine Ext.ext ?_ _ | with_reducible refine Ext.alloc ?_ _ | with_reducible refine Ext.drew ?_ | with_reducible refine Ext.drewN ?_ _ | with_reducible assumption))))⟩, by rw [ew]; simp only [intOf]; omega⟩
        · have e := posF_yes hx hp
          obtain ⟨xd, xa, xb, xc, xe, xn⟩ := x
          dsimp only at q0 q1 q2 q3 q4 q5 hp
          have HE := Lib.hid e
          clear hx e
          go_wp2_with (at_builtin; refine _root_.Go.Proofs.Ytfpmejbgmgdedaa.push_row rfl _ _ rfl w _ (posF (l.take j)) _ (by exact HB.out.on (by (first | (with_reducible exact ext_more2 _ _ _) | (repeat' (first | with_reducible exact Ext.refl _ | with_reducible refine Ext.ext ?_ _ | with_reducible refine Ext.alloc ?_ _ | with_reducible refine Ext.drew ?_ | with_reducible refine Ext.drewN ?_ _ | with_reducible assumption))))) _ _ rfl rfl (by simp) (Nat.le_trans PL.out HN.out) ⟨xd, xa, xb, xc, xe⟩ ?_; intro v2 w2 hb2; rw [show posF (l.take j) ++ [⟨xd, xa, xb, xc, xe⟩] = posF (l.take (j + 1)) from HE.out.symm] at hb2; obtain ⟨z2, rfl⟩ := hb2.1; have HB2 := Lib.hid hb2; clear hb2)
          exact ⟨⟨j + 1, by omega, congrArg (Value.int .i64) ew, HB2.out⟩, by rw [ew]; simp only [intOf]; omega⟩
      · obtain rfl : j = l.length := by omega
        rw [List.take_length] at HB
        go_wp2_with (go_at_call 17; (with_reducible refine (OF.out _ _ ((HB.out.rb.2).on (by (repeat' (first | with_reducible exact Ext.refl _ | with_reducible refine Ext.ext ?_ _ | with_reducible refine Ext.alloc ?_ _ | with_reducible refine Ext.drew ?_ | with_reducible refine Ext.drewN ?_ _ | with_reducible assumption))))).mono ?_); rintro e w2 ⟨v2, rfl, hx2, hb2⟩; have HX2 := Lib.hid hx2; have HB2 := Lib.hid hb2; clear hx2 hb2)
        go_returns
        exact ⟨_, rfl, Ext.trans (by (repeat' (first | with_reducible exact Ext.refl _ | with_reducible refine Ext.ext ?_ _ | with_reducible refine Ext.alloc ?_ _ | with_reducible refine Ext.drew ?_ | with_reducible refine Ext.drewN ?_ _ | with_reducible assumption))) HX2.out, HB2.out⟩
end Go.Proofs.Ytfpmejbgmgdedaa.Fr
