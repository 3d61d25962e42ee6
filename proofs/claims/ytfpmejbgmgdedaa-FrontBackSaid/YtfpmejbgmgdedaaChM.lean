/- Chain: the reference's Covers, Both; awake. -/
import Derived.Test.YtfpmejbgmgdedaaChL
namespace Go.Proofs.Ytfpmejbgmgdedaa
set_option linter.unusedSimpArgs false
set_option linter.unusedVariables false
open Go.RowKit

theorem refOf_rb {w : World} {l : List Tm} {v : Value} (h : Rb w l v) (hn : l.length ≤ 1073741823) (r : List Tm) (hr : chT l = r) :
    Calls Try.prog 17 #[v] w fun e w' => ∃ v', e = .returned v' ∧ Ext w w' ∧ Rb w' r v' := by
  subst hr
  obtain ⟨a, c, rfl, h⟩ := h
  rw [← ref_is]
  exact (refOf_any l a c w h hn).mono (fun e w' ⟨v', he, hb⟩ => ⟨v', he, hb.rb⟩)
set_option maxHeartbeats 4000000 in
theorem refCovers_any (l : List Tm) (a : Option Addr) (c : Nat) (t : Tm) (w : World) (h : Rd w 5 l.length (.slice a l.length c) (tms l)) (hn : l.length ≤ 1073741823) :
    Calls Try.prog 20 #[.slice a l.length c, .agg #[.int .i64 t.d, .int .i64 t.a, .int .i64 t.b, .int .i64 t.c, .int .i64 t.e]] w fun e w' => e = .returned (.bool (l.any (fun x => leB x t))) ∧ Ext w w' := by
  have H := Lib.hid h
  have HN := Lib.hid hn
  obtain ⟨P, hP⟩ : ∃ P : Tm → Bool, P = (fun x => leB x t) := ⟨_, rfl⟩
  have CF := Lib.hid (fun x W => ref_le_any (Tm.d x) x.a x.b x.c x.e t.d t.a t.b t.c t.e W)
  have hpx : ∀ x : Tm, leB ⟨x.d, x.a, x.b, x.c, x.e⟩ ⟨t.d, t.a, t.b, t.c, t.e⟩ = P x := fun x => by rw [hP]
  simp only [hpx] at CF
  rw [← hP]
  obtain ⟨R, hR⟩ : ∃ R, R = l.any P := ⟨_, rfl⟩
  rw [← hR]
  have HR := Lib.hid hR
  obtain ⟨td, ta, tb, tc, te⟩ := t
  dsimp only at CF ⊢
  clear h hn hP hpx hR
  go_enter Try.func20, Try.ntmps20
  go_wp2
  go_loopw [5] (fun i wr => ∃ j : Nat, j ≤ l.length ∧ i = .int .i64 j ∧ Ext (w.alloc (.cells #[.int .i64 td, .int .i64 ta, .int .i64 tb, .int .i64 tc, .int .i64 te] 25)) wr ∧ ∀ (k : Nat) y, k < j → l[k]? = some y → P y = false) (fun i _ => l.length - (intOf i).toNat)
  case atStart => exact ⟨0, by omega, rfl, by (repeat' (first | with_reducible exact Ext.refl _ | with_reducible refine Ext.ext ?_ _ | with_reducible refine Ext.alloc ?_ _ | with_reducible refine Ext.drew ?_ | with_reducible refine Ext.drewN ?_ _ | with_reducible assumption)), fun k y hk => absurd hk (Nat.not_lt_zero k)⟩
  case round =>
    obtain ⟨j, hj, rfl, hx, hall⟩ := hrel
    obtain ⟨C0, -⟩ := keep_cell (b := w.heap.size) (i := 0) (cell_lit w #[.int .i64 td, .int .i64 ta, .int .i64 tb, .int .i64 tc, .int .i64 te] 25 _ 0 _ rfl rfl) hx
    obtain ⟨z, rfl⟩ := hx
    have HA := Lib.hid hall
    clear hall C0
    by_cases hlt : j < l.length
    · obtain ⟨x, hx⟩ : ∃ x, l[j]? = some x := ⟨l[j], List.getElem?_eq_getElem _⟩
      obtain ⟨b, off, rfl, -⟩ := H.out.cells (by omega)
      obtain ⟨q0, q1, q2, q3, q4⟩ := tm_at H.out j x hx
      haveI : LtSz b w.heap.size := ⟨World.block_lt_of_cell? _ _ q0⟩
      have i1 : (0 : Int) ≤ j := by omega
      have i2 : (j : Int) < l.length := by omega
      have ew : wrap64 ((j : Int) + 1) = ((j + 1 : Nat) : Int) := (IntWalk.wrap64_in _ ⟨by omega, by have := HN.out; omega⟩).trans (by omega)
      have CX := Lib.hid (fun W => CF.out x W)
      obtain ⟨bp, hp⟩ : ∃ b, P x = b := ⟨_, rfl⟩
      rw [hp] at CX
      have HX := Lib.hid hx
      have HP := Lib.hid hp
      clear hx hp
      cases bp
      · go_wp2
        refine wp_region_ext (by kernel_rfl) (by kernel_rfl) ?_
        repeat (go_big_quiet_step (first | (go_at_call 46; (apply quiet_of; (with_reducible exact CX.out _); (intro w' hx; obtain ⟨z, rfl⟩ := hx; (try simp only [ext_ext, add_assoc]); exact ⟨_, rfl⟩)))))
        refine wpQuiet_nil ?_
        intro xK
        go_wp2
        exact ⟨⟨j + 1, by omega, congrArg (Value.int .i64) ew, by (repeat' (first | with_reducible exact Ext.refl _ | with_reducible refine Ext.ext ?_ _ | with_reducible refine Ext.alloc ?_ _ | with_reducible refine Ext.drew ?_ | with_reducible refine Ext.drewN ?_ _ | with_reducible assumption)), fun k y hk hy => by
          rcases Nat.lt_or_ge k j with h | h
          · exact HA.out k y h hy
          · obtain rfl : k = j := by omega
            rw [HX.out] at hy
            cases hy
            exact HP.out⟩, by rw [ew]; simp only [intOf]; omega⟩
      · have RR := Lib.hid (show true = R by rw [HR.out, any_at HX.out HP.out])
        go_wp2
        refine wp_region_ext (by kernel_rfl) (by kernel_rfl) ?_
        repeat (go_big_quiet_step (first | (go_at_call 46; (apply quiet_of; (with_reducible exact CX.out _); (intro w' hx; obtain ⟨z, rfl⟩ := hx; (try simp only [ext_ext, add_assoc]); exact ⟨_, rfl⟩)))))
        refine wpQuiet_nil ?_
        intro xK
        go_wp2
        go_returns
        exact ⟨retb rfl RR.out, by (repeat' (first | with_reducible exact Ext.refl _ | with_reducible refine Ext.ext ?_ _ | with_reducible refine Ext.alloc ?_ _ | with_reducible refine Ext.drew ?_ | with_reducible refine Ext.drewN ?_ _ | with_reducible assumption))⟩
    · have RR := Lib.hid (show false = R by rw [HR.out, any_no (fun k y hy => HA.out k y (by have := (List.getElem?_eq_some_iff.1 hy).1; omega) hy)])
      obtain rfl : j = l.length := by omega
      go_wp2
      go_returns
      exact ⟨retb rfl RR.out, by (repeat' (first | with_reducible exact Ext.refl _ | with_reducible refine Ext.ext ?_ _ | with_reducible refine Ext.alloc ?_ _ | with_reducible refine Ext.drew ?_ | with_reducible refine Ext.drewN ?_ _ | with_reducible assumption))⟩
theorem refCovers_rb {w : World} {l : List Tm} {v : Value} (h : Rb w l v) (hn : l.length ≤ 1073741823) (t : Tm) (b : Bool) (hb : l.any (fun x => leB x t) = b) :
    Calls Try.prog 20 #[v, .agg #[.int .i64 t.d, .int .i64 t.a, .int .i64 t.b, .int .i64 t.c, .int .i64 t.e]] w fun e w' => e = .returned (.bool b) ∧ Ext w w' := by
  subst hb
  obtain ⟨a, c, rfl, h⟩ := h
  exact refCovers_any l a c t w h hn
theorem refBoth_rb {w : World} {l m : List Tm} {v u : Value} (h : Rb w l v) (h' : Rb w m u) (hn : l.length + m.length ≤ 1073741823) (r : List Tm) (hr : l ++ m = r) :
    Calls Try.prog 19 #[v, u] w fun e w' => ∃ v', e = .returned v' ∧ Ext w w' ∧ Rb w' r v' := by
  subst hr
  have R1 := Lib.hid h
  have R2 := Lib.hid h'
  obtain ⟨a, c, rfl, -⟩ := h
  obtain ⟨a', c', rfl, -⟩ := h'
  go_enter Try.func19, Try.ntmps19
  go_wp2_with (first | (at_builtin; refine app_new _ rfl _ _ rfl _ rfl (by simp) l _ rfl (R1.out.on (by (repeat' (first | with_reducible exact Ext.refl _ | with_reducible refine Ext.ext ?_ _ | with_reducible refine Ext.alloc ?_ _ | with_reducible refine Ext.drew ?_ | with_reducible refine Ext.drewN ?_ _ | with_reducible assumption)))) (by omega) ?_; intro v1 w1 hb; have HX1 := Lib.hid hb.1; have B1 := Lib.hid hb; clear hb) | (at_builtin; refine app_row rfl _ _ rfl w w.heap.size l m _ _ rfl rfl B1.out (R2.out.on (by (repeat' (first | with_reducible exact Ext.refl _ | with_reducible refine Ext.ext ?_ _ | with_reducible refine Ext.alloc ?_ _ | with_reducible refine Ext.drew ?_ | with_reducible refine Ext.drewN ?_ _ | with_reducible refine Ext.trans ?_ HX1.out | with_reducible refine Ext.trans ?_ HX2.out | with_reducible refine Ext.trans ?_ HX3.out | with_reducible refine Ext.trans ?_ HX4.out | with_reducible refine Ext.trans ?_ HX5.out | with_reducible refine Ext.trans ?_ HX6.out | with_reducible refine Ext.trans ?_ HX7.out | with_reducible refine Ext.trans ?_ HX8.out | with_reducible refine Ext.trans ?_ HX9.out | with_reducible refine Ext.trans ?_ HX10.out | with_reducible refine Ext.trans ?_ HX11.out | with_reducible refine Ext.trans ?_ HX12.out | with_reducible refine Ext.trans ?_ HX13.out | with_reducible refine Ext.trans ?_ HX14.out | with_reducible refine Ext.trans ?_ HX15.out | with_reducible refine Ext.trans ?_ HX16.out | with_reducible refine Ext.trans ?_ HX17.out | with_reducible refine Ext.trans ?_ HX18.out | with_reducible refine Ext.trans ?_ HX19.out | with_reducible refine Ext.trans ?_ HX20.out | with_reducible refine Ext.trans ?_ HX21.out | with_reducible refine Ext.trans ?_ HX22.out | with_reducible refine Ext.trans ?_ HX23.out | with_reducible refine Ext.trans ?_ HX24.out)))) (Nat.le_refl _) ((Ext.grows (w := w) (by (repeat' (first | with_reducible exact Ext.refl _ | with_reducible refine Ext.ext ?_ _ | with_reducible refine Ext.alloc ?_ _ | with_reducible refine Ext.drew ?_ | with_reducible refine Ext.drewN ?_ _ | with_reducible refine Ext.trans ?_ HX1.out | with_reducible refine Ext.trans ?_ HX2.out | with_reducible refine Ext.trans ?_ HX3.out | with_reducible refine Ext.trans ?_ HX4.out | with_reducible refine Ext.trans ?_ HX5.out | with_reducible refine Ext.trans ?_ HX6.out | with_reducible refine Ext.trans ?_ HX7.out | with_reducible refine Ext.trans ?_ HX8.out | with_reducible refine Ext.trans ?_ HX9.out | with_reducible refine Ext.trans ?_ HX10.out | with_reducible refine Ext.trans ?_ HX11.out | with_reducible refine Ext.trans ?_ HX12.out | with_reducible refine Ext.trans ?_ HX13.out | with_reducible refine Ext.trans ?_ HX14.out | with_reducible refine Ext.trans ?_ HX15.out | with_reducible refine Ext.trans ?_ HX16.out | with_reducible refine Ext.trans ?_ HX17.out | with_reducible refine Ext.trans ?_ HX18.out | with_reducible refine Ext.trans ?_ HX19.out | with_reducible refine Ext.trans ?_ HX20.out | with_reducible refine Ext.trans ?_ HX21.out | with_reducible refine Ext.trans ?_ HX22.out | with_reducible refine Ext.trans ?_ HX23.out | with_reducible refine Ext.trans ?_ HX24.out))) none).size) hn ?_; intro v2 w2 hb; have HX2 := Lib.hid hb.1; have B2 := Lib.hid hb; clear hb))
  go_returns
  exact ⟨_, rfl, by (repeat' (first | with_reducible exact Ext.refl _ | with_reducible refine Ext.ext ?_ _ | with_reducible refine Ext.alloc ?_ _ | with_reducible refine Ext.drew ?_ | with_reducible refine Ext.drewN ?_ _ | with_reducible refine Ext.trans ?_ HX1.out | with_reducible refine Ext.trans ?_ HX2.out | with_reducible refine Ext.trans ?_ HX3.out | with_reducible refine Ext.trans ?_ HX4.out | with_reducible refine Ext.trans ?_ HX5.out | with_reducible refine Ext.trans ?_ HX6.out | with_reducible refine Ext.trans ?_ HX7.out | with_reducible refine Ext.trans ?_ HX8.out | with_reducible refine Ext.trans ?_ HX9.out | with_reducible refine Ext.trans ?_ HX10.out | with_reducible refine Ext.trans ?_ HX11.out | with_reducible refine Ext.trans ?_ HX12.out | with_reducible refine Ext.trans ?_ HX13.out | with_reducible refine Ext.trans ?_ HX14.out | with_reducible refine Ext.trans ?_ HX15.out | with_reducible refine Ext.trans ?_ HX16.out | with_reducible refine Ext.trans ?_ HX17.out | with_reducible refine Ext.trans ?_ HX18.out | with_reducible refine Ext.trans ?_ HX19.out | with_reducible refine Ext.trans ?_ HX20.out | with_reducible refine Ext.trans ?_ HX21.out | with_reducible refine Ext.trans ?_ HX22.out | with_reducible refine Ext.trans ?_ HX23.out | with_reducible refine Ext.trans ?_ HX24.out)), B2.out.rb.2.on (by (repeat' (first | with_reducible exact Ext.refl _ | with_reducible refine Ext.ext ?_ _ | with_reducible refine Ext.alloc ?_ _ | with_reducible refine Ext.drew ?_ | with_reducible refine Ext.drewN ?_ _ | with_reducible refine Ext.trans ?_ HX1.out | with_reducible refine Ext.trans ?_ HX2.out | with_reducible refine Ext.trans ?_ HX3.out | with_reducible refine Ext.trans ?_ HX4.out | with_reducible refine Ext.trans ?_ HX5.out | with_reducible refine Ext.trans ?_ HX6.out | with_reducible refine Ext.trans ?_ HX7.out | with_reducible refine Ext.trans ?_ HX8.out | with_reducible refine Ext.trans ?_ HX9.out | with_reducible refine Ext.trans ?_ HX10.out | with_reducible refine Ext.trans ?_ HX11.out | with_reducible refine Ext.trans ?_ HX12.out | with_reducible refine Ext.trans ?_ HX13.out | with_reducible refine Ext.trans ?_ HX14.out | with_reducible refine Ext.trans ?_ HX15.out | with_reducible refine Ext.trans ?_ HX16.out | with_reducible refine Ext.trans ?_ HX17.out | with_reducible refine Ext.trans ?_ HX18.out | with_reducible refine Ext.trans ?_ HX19.out | with_reducible refine Ext.trans ?_ HX20.out | with_reducible refine Ext.trans ?_ HX21.out | with_reducible refine Ext.trans ?_ HX22.out | with_reducible refine Ext.trans ?_ HX23.out | with_reducible refine Ext.trans ?_ HX24.out)))⟩
theorem run_min {P : Program} (n k : Nat) (K : Int) (hk : K = k) (ats : Array TypeId) (ty : TypeId) (w : World) : (Builtin.min_ ats ty #[.int .i64 (n : Int), .int .i64 K]).run P w = .ok (.int .i64 ((min n k : Nat) : Int)) w := by
  subst hk
  simp only [Builtin.min_, List.foldlM, Builtin.min2, Sem.run_bind, Sem.run_pure, Result.andThen_ok]
  have : (if (k : Int) < n then (k : Int) else n) = ((min n k : Nat) : Int) := by
    simp only [Nat.min_def]
    split <;> split <;> omega
  rw [this]
theorem rd_take {w : World} {k n m c : Nat} {a : Option Addr} {cs : List Value} (h : Rd w k n (.slice a n c) cs) (hm : m ≤ n) : Rd w k m (.slice a m c) (cs.take (m * k)) := by
  refine ⟨by rw [List.length_take, h.len]; exact Nat.min_eq_left (Nat.mul_le_mul_right k hm), a, c, rfl, fun h0 => ?_⟩
  obtain ⟨b, off, rfl, hc⟩ := h.cells (by omega)
  exact ⟨b, off, rfl, fun i u hu => hc i u (by rw [List.getElem?_take] at hu; split at hu; exact hu; cases hu)⟩
theorem Rb.cut {w : World} {l : List Tm} {a : Option Addr} {c : Nat} (h : Rd w 5 l.length (.slice a l.length c) (tms l)) {m : Nat} (hm : m ≤ l.length) : Rb w (l.take m) (.slice a m c) := by
  have hl : (l.take m).length = m := by rw [List.length_take]; omega
  refine ⟨a, c, by rw [hl], ?_⟩
  rw [hl, tms_take]
  exact rd_take h hm
end Go.Proofs.Ytfpmejbgmgdedaa
