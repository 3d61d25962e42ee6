/- Chain: Covers, its closures; slices.IndexFunc. -/
import Derived.Test.YtmngjifcgfnogaaCh8
import Derived.Test.YtmngjifcgfnogaaTs3
namespace Go.Proofs.Ytmngjifcgfnogaa
set_option linter.unusedSimpArgs false
set_option linter.unusedVariables false
set_option maxRecDepth 100000
open Go.RowKit

/-- A box with a timestamp. -/
def BoxT (w : World) (p : Nat) (t : Tm) : Prop := w.cell? ⟨p, 0, none⟩ = some (.int .i64 t.d) ∧ w.cell? ⟨p, 1, none⟩ = some (.int .i64 t.a) ∧ w.cell? ⟨p, 2, none⟩ = some (.int .i64 t.b) ∧ w.cell? ⟨p, 3, none⟩ = some (.int .i64 t.c) ∧ w.cell? ⟨p, 4, none⟩ = some (.int .i64 t.e)
theorem keep_cell {w w' : World} {b i : Nat} {u : Value} (h : w.cell? ⟨b, i, none⟩ = some u) (hx : Ext w w') : (∀ z, (ext w' z).cell? ⟨b, i, none⟩ = some u) ∧ w'.cell? ⟨b, i, none⟩ = some u := by
  obtain ⟨x, rfl⟩ := hx
  have h1 : (ext w x).cell? ⟨b, i, none⟩ = some u := by rw [cell_ext_a _ _ _ (World.block_lt_of_cell? _ _ h), h]
  exact ⟨fun z => by rw [cell_ext_a _ _ _ (World.block_lt_of_cell? _ _ h1), h1], h1⟩
theorem BoxT.on {w w' : World} {p : Nat} {t : Tm} (h : BoxT w p t) (hx : Ext w w') : BoxT w' p t :=
  ⟨(keep_cell h.1 hx).2, (keep_cell h.2.1 hx).2, (keep_cell h.2.2.1 hx).2, (keep_cell h.2.2.2.1 hx).2, (keep_cell h.2.2.2.2 hx).2⟩
def idxN (P : Tm → Bool) : List Tm → Nat
  | [] => 0
  | x :: l => if P x then 0 else idxN P l + 1
theorem idxN_at {P : Tm → Bool} : ∀ {l : List Tm} {j : Nat} {x : Tm}, l[j]? = some x → P x = true → (∀ (k : Nat) y, k < j → l[k]? = some y → P y = false) → idxN P l = j
  | [], j, x, h, _, _ => by simp at h
  | y :: l, 0, x, h, hp, _ => by
    obtain rfl : y = x := by simpa using h
    rw [idxN, if_pos hp]
  | y :: l, j + 1, x, h, hp, hn => by
    rw [idxN, if_neg (by rw [hn 0 y (by omega) rfl]; decide), idxN_at (j := j) (by simpa using h) hp (fun k z hk hz => hn (k + 1) z (by omega) (by simpa using hz))]
theorem any_at {P : Tm → Bool} {l : List Tm} {j : Nat} {x : Tm} (h : l[j]? = some x) (hp : P x = true) : l.any P = true := List.any_eq_true.2 ⟨x, List.mem_of_getElem? h, hp⟩
theorem any_no {P : Tm → Bool} {l : List Tm} (h : ∀ (k : Nat) y, l[k]? = some y → P y = false) : l.any P = false := by
  rw [List.any_eq_false]
  intro x hx
  obtain ⟨k, hk⟩ := List.getElem?_of_mem hx
  rw [h k x hk]
  decide
def idxI (P : Tm → Bool) (l : List Tm) : Int := if l.any P then (idxN P l : Int) else -1
theorem cov1_any (x t : Tm) (p : Nat) (w : World) (hb : BoxT w p t) : Calls Try.prog 55 #[.agg #[.int .i64 x.d, .int .i64 x.a, .int .i64 x.b, .int .i64 x.c, .int .i64 x.e], .pointer (some ⟨p, 0, none⟩)] w fun e w' => e = .returned (.bool (leB x t)) ∧ Ext w w' := by
  have LE := Lib.hid (fun w => le_any x.d x.a x.b x.c x.e t.d t.a t.b t.c t.e w)
  obtain ⟨xd, xa, xb, xc, xe⟩ := x
  obtain ⟨td, ta, tb, tc, te⟩ := t
  dsimp only at LE ⊢
  obtain ⟨b0, b1, b2, b3, b4⟩ := hb
  dsimp only at b0 b1 b2 b3 b4
  generalize leB ⟨xd, xa, xb, xc, xe⟩ ⟨td, ta, tb, tc, te⟩ = r at *
  haveI : LtSz p w.heap.size := ⟨World.block_lt_of_cell? _ _ b0⟩
  go_enter Try.func55, Try.ntmps55
  go_wp2_with (go_at_call 47; (with_reducible refine (LE.out _).mono ?_); rintro e w' ⟨rfl, x1, rfl⟩)
  go_returns
  exact ⟨retb rfl rfl, by (repeat' (first | with_reducible exact Ext.refl _ | with_reducible refine Ext.ext ?_ _ | with_reducible refine Ext.alloc ?_ _ | with_reducible refine Ext.drew ?_ | with_reducible refine Ext.drewN ?_ _ | with_reducible assumption))⟩
theorem of1_any (x t : Tm) (p : Nat) (w : World) (hb : BoxT w p t) : Calls Try.prog 46 #[.agg #[.int .i64 x.d, .int .i64 x.a, .int .i64 x.b, .int .i64 x.c, .int .i64 x.e], .pointer (some ⟨p, 0, none⟩)] w fun e w' => e = .returned (.bool (leB t x)) ∧ Ext w w' := by
  have LE := Lib.hid (fun w => le_any t.d t.a t.b t.c t.e x.d x.a x.b x.c x.e w)
  obtain ⟨xd, xa, xb, xc, xe⟩ := x
  obtain ⟨td, ta, tb, tc, te⟩ := t
  dsimp only at LE ⊢
  obtain ⟨b0, b1, b2, b3, b4⟩ := hb
  dsimp only at b0 b1 b2 b3 b4
  generalize leB ⟨td, ta, tb, tc, te⟩ ⟨xd, xa, xb, xc, xe⟩ = r at *
  haveI : LtSz p w.heap.size := ⟨World.block_lt_of_cell? _ _ b0⟩
  go_enter Try.func46, Try.ntmps46
  go_wp2_with (go_at_call 47; (with_reducible refine (LE.out _).mono ?_); rintro e w' ⟨rfl, x1, rfl⟩)
  go_returns
  exact ⟨retb rfl rfl, by (repeat' (first | with_reducible exact Ext.refl _ | with_reducible refine Ext.ext ?_ _ | with_reducible refine Ext.alloc ?_ _ | with_reducible refine Ext.drew ?_ | with_reducible refine Ext.drewN ?_ _ | with_reducible assumption))⟩
set_option maxHeartbeats 4000000 in
theorem index_cov (l : List Tm) (a : Option Addr) (c p : Nat) (t : Tm) (w : World) (h : Rd w 5 l.length (.slice a l.length c) (tms l)) (hb : BoxT w p t) (hn : l.length ≤ 1073741823) :
    Calls Try.prog 77 #[.slice a l.length c, .func (Fn.func 55) #[] #[.pointer (some ⟨p, 0, none⟩)]] w fun e w' => e = .returned (.int .i64 (idxI (fun x => leB x t) l)) ∧ Ext w w' := by
  have H := Lib.hid h
  have HB := Lib.hid hb
  have HN := Lib.hid hn
  obtain ⟨P, hP⟩ : ∃ P : Tm → Bool, P = (fun x => leB x t) := ⟨_, rfl⟩
  have CF := Lib.hid (fun x W (hx : Ext w W) => cov1_any x t p W (hb.on hx))
  have hpx : ∀ x, (fun x => leB x t) x = P x := fun x => by rw [hP]
  dsimp only at hpx
  simp only [hpx] at CF
  rw [← hP]
  obtain ⟨R, hR⟩ : ∃ R, R = idxI P l := ⟨_, rfl⟩
  rw [← hR]
  have HR := Lib.hid hR
  clear h hb hn hP hpx hR
  go_enter Try.func77, Try.ntmps77
  go_wp2
  go_loopw [8] (fun i wr => ∃ j : Nat, j ≤ l.length ∧ i = .int .i64 j ∧ Ext w wr ∧ ∀ (k : Nat) y, k < j → l[k]? = some y → P y = false) (fun i _ => l.length - (intOf i).toNat)
  case atStart => exact ⟨0, by omega, rfl, by (repeat' (first | with_reducible exact Ext.refl _ | with_reducible refine Ext.ext ?_ _ | with_reducible refine Ext.alloc ?_ _ | with_reducible refine Ext.drew ?_ | with_reducible refine Ext.drewN ?_ _ | with_reducible assumption)), fun k y hk => absurd hk (Nat.not_lt_zero k)⟩
  case round =>
    obtain ⟨j, hj, rfl, hx, hall⟩ := hrel
    have HX1 := Lib.hid hx
    have HA := Lib.hid hall
    clear hx hall
    by_cases hlt : j < l.length
    · obtain ⟨x, hx⟩ : ∃ x, l[j]? = some x := ⟨l[j], List.getElem?_eq_getElem _⟩
      obtain ⟨b, off, rfl, -⟩ := H.out.cells (by omega)
      obtain ⟨q0, q1, q2, q3, q4⟩ := tm_at (H.out.of_ext HX1.out) j x hx
      have i1 : (0 : Int) ≤ j := by omega
      have i2 : (j : Int) < l.length := by omega
      have ew : wrap64 ((j : Int) + 1) = ((j + 1 : Nat) : Int) := (IntWalk.wrap64_in _ ⟨by omega, by have := HN.out; omega⟩).trans (by omega)
      have CX := Lib.hid (fun W hx => CF.out x W hx)
      obtain ⟨bp, hp⟩ : ∃ b, P x = b := ⟨_, rfl⟩
      rw [hp] at CX
      have HX := Lib.hid hx
      have HP := Lib.hid hp
      clear hx hp
      cases bp
      · go_wp2_with (go_at_call 55; (with_reducible refine (CX.out _ (by (repeat' (first | with_reducible exact Ext.refl _ | with_reducible refine Ext.ext ?_ _ | with_reducible refine Ext.alloc ?_ _ | with_reducible refine Ext.drew ?_ | with_reducible refine Ext.drewN ?_ _ | with_reducible refine Ext.trans ?_ HX1.out | with_reducible refine Ext.trans ?_ HX2.out | with_reducible refine Ext.trans ?_ HX3.out | with_reducible refine Ext.trans ?_ HX4.out | with_reducible refine Ext.trans ?_ HX5.out | with_reducible refine Ext.trans ?_ HX6.out | with_reducible refine Ext.trans ?_ HX7.out | with_reducible refine Ext.trans ?_ HX8.out | with_reducible refine Ext.trans ?_ HX9.out | with_reducible refine Ext.trans ?_ HX10.out | with_reducible refine Ext.trans ?_ HX11.out | with_reducible refine Ext.trans ?_ HX12.out | with_reducible refine Ext.trans ?_ HX13.out | with_reducible refine Ext.trans ?_ HX14.out | with_reducible refine Ext.trans ?_ HX15.out | with_reducible refine Ext.trans ?_ HX16.out | with_reducible refine Ext.trans ?_ HX17.out | with_reducible refine Ext.trans ?_ HX18.out | with_reducible refine Ext.trans ?_ HX19.out | with_reducible refine Ext.trans ?_ HX20.out | with_reducible refine Ext.trans ?_ HX21.out | with_reducible refine Ext.trans ?_ HX22.out | with_reducible refine Ext.trans ?_ HX23.out | with_reducible refine Ext.trans ?_ HX24.out)))).mono ?_); rintro e w2 ⟨rfl, hx⟩; have HX2 := Lib.hid hx; clear hx)
        exact ⟨⟨j + 1, by omega, congrArg (Value.int .i64) ew, by (repeat' (first | with_reducible exact Ext.refl _ | with_reducible refine Ext.ext ?_ _ | with_reducible refine Ext.alloc ?_ _ | with_reducible refine Ext.drew ?_ | with_reducible refine Ext.drewN ?_ _ | with_reducible refine Ext.trans ?_ HX1.out | with_reducible refine Ext.trans ?_ HX2.out | with_reducible refine Ext.trans ?_ HX3.out | with_reducible refine Ext.trans ?_ HX4.out | with_reducible refine Ext.trans ?_ HX5.out | with_reducible refine Ext.trans ?_ HX6.out | with_reducible refine Ext.trans ?_ HX7.out | with_reducible refine Ext.trans ?_ HX8.out | with_reducible refine Ext.trans ?_ HX9.out | with_reducible refine Ext.trans ?_ HX10.out | with_reducible refine Ext.trans ?_ HX11.out | with_reducible refine Ext.trans ?_ HX12.out | with_reducible refine Ext.trans ?_ HX13.out | with_reducible refine Ext.trans ?_ HX14.out | with_reducible refine Ext.trans ?_ HX15.out | with_reducible refine Ext.trans ?_ HX16.out | with_reducible refine Ext.trans ?_ HX17.out | with_reducible refine Ext.trans ?_ HX18.out | with_reducible refine Ext.trans ?_ HX19.out | with_reducible refine Ext.trans ?_ HX20.out | with_reducible refine Ext.trans ?_ HX21.out | with_reducible refine Ext.trans ?_ HX22.out | with_reducible refine Ext.trans ?_ HX23.out | with_reducible refine Ext.trans ?_ HX24.out)), fun k y hk hy => by
          rcases Nat.lt_or_ge k j with h | h
          · exact HA.out k y h hy
          · obtain rfl : k = j := by omega
            rw [HX.out] at hy
            cases hy
            exact HP.out⟩, by rw [ew]; simp only [intOf]; omega⟩
      · have RR := Lib.hid (show (j : Int) = R by rw [HR.out, idxI, any_at HX.out HP.out, if_pos rfl, idxN_at HX.out HP.out (fun k y hk hy => HA.out k y hk hy)])
        go_wp2_with (go_at_call 55; (with_reducible refine (CX.out _ (by (repeat' (first | with_reducible exact Ext.refl _ | with_reducible refine Ext.ext ?_ _ | with_reducible refine Ext.alloc ?_ _ | with_reducible refine Ext.drew ?_ | with_reducible refine Ext.drewN ?_ _ | with_reducible refine Ext.trans ?_ HX1.out | with_reducible refine Ext.trans ?_ HX2.out | with_reducible refine Ext.trans ?_ HX3.out | with_reducible refine Ext.trans ?_ HX4.out | with_reducible refine Ext.trans ?_ HX5.out | with_reducible refine Ext.trans ?_ HX6.out | with_reducible refine Ext.trans ?_ HX7.out | with_reducible refine Ext.trans ?_ HX8.out | with_reducible refine Ext.trans ?_ HX9.out | with_reducible refine Ext.trans ?_ HX10.out | with_reducible refine Ext.trans ?_ HX11.out | with_reducible refine Ext.trans ?_ HX12.out | with_reducible refine Ext.trans ?_ HX13.out | with_reducible refine Ext.trans ?_ HX14.out | with_reducible refine Ext.trans ?_ HX15.out | with_reducible refine Ext.trans ?_ HX16.out | with_reducible refine Ext.trans ?_ HX17.out | with_reducible refine Ext.trans ?_ HX18.out | with_reducible refine Ext.trans ?_ HX19.out | with_reducible refine Ext.trans ?_ HX20.out | with_reducible refine Ext.trans ?_ HX21.out | with_reducible refine Ext.trans ?_ HX22.out | with_reducible refine Ext.trans ?_ HX23.out | with_reducible refine Ext.trans ?_ HX24.out)))).mono ?_); rintro e w2 ⟨rfl, hx⟩; have HX2 := Lib.hid hx; clear hx)
        go_returns
        exact ⟨reti rfl RR.out, by (repeat' (first | with_reducible exact Ext.refl _ | with_reducible refine Ext.ext ?_ _ | with_reducible refine Ext.alloc ?_ _ | with_reducible refine Ext.drew ?_ | with_reducible refine Ext.drewN ?_ _ | with_reducible refine Ext.trans ?_ HX1.out | with_reducible refine Ext.trans ?_ HX2.out | with_reducible refine Ext.trans ?_ HX3.out | with_reducible refine Ext.trans ?_ HX4.out | with_reducible refine Ext.trans ?_ HX5.out | with_reducible refine Ext.trans ?_ HX6.out | with_reducible refine Ext.trans ?_ HX7.out | with_reducible refine Ext.trans ?_ HX8.out | with_reducible refine Ext.trans ?_ HX9.out | with_reducible refine Ext.trans ?_ HX10.out | with_reducible refine Ext.trans ?_ HX11.out | with_reducible refine Ext.trans ?_ HX12.out | with_reducible refine Ext.trans ?_ HX13.out | with_reducible refine Ext.trans ?_ HX14.out | with_reducible refine Ext.trans ?_ HX15.out | with_reducible refine Ext.trans ?_ HX16.out | with_reducible refine Ext.trans ?_ HX17.out | with_reducible refine Ext.trans ?_ HX18.out | with_reducible refine Ext.trans ?_ HX19.out | with_reducible refine Ext.trans ?_ HX20.out | with_reducible refine Ext.trans ?_ HX21.out | with_reducible refine Ext.trans ?_ HX22.out | with_reducible refine Ext.trans ?_ HX23.out | with_reducible refine Ext.trans ?_ HX24.out))⟩
    · have RR := Lib.hid (show (-1 : Int) = R by rw [HR.out, idxI, any_no (fun k y hy => HA.out k y (by have := (List.getElem?_eq_some_iff.1 hy).1; omega) hy)]; rfl)
      obtain rfl : j = l.length := by omega
      go_wp2
      go_returns
      exact ⟨reti rfl RR.out, by (repeat' (first | with_reducible exact Ext.refl _ | with_reducible refine Ext.ext ?_ _ | with_reducible refine Ext.alloc ?_ _ | with_reducible refine Ext.drew ?_ | with_reducible refine Ext.drewN ?_ _ | with_reducible refine Ext.trans ?_ HX1.out | with_reducible refine Ext.trans ?_ HX2.out | with_reducible refine Ext.trans ?_ HX3.out | with_reducible refine Ext.trans ?_ HX4.out | with_reducible refine Ext.trans ?_ HX5.out | with_reducible refine Ext.trans ?_ HX6.out | with_reducible refine Ext.trans ?_ HX7.out | with_reducible refine Ext.trans ?_ HX8.out | with_reducible refine Ext.trans ?_ HX9.out | with_reducible refine Ext.trans ?_ HX10.out | with_reducible refine Ext.trans ?_ HX11.out | with_reducible refine Ext.trans ?_ HX12.out | with_reducible refine Ext.trans ?_ HX13.out | with_reducible refine Ext.trans ?_ HX14.out | with_reducible refine Ext.trans ?_ HX15.out | with_reducible refine Ext.trans ?_ HX16.out | with_reducible refine Ext.trans ?_ HX17.out | with_reducible refine Ext.trans ?_ HX18.out | with_reducible refine Ext.trans ?_ HX19.out | with_reducible refine Ext.trans ?_ HX20.out | with_reducible refine Ext.trans ?_ HX21.out | with_reducible refine Ext.trans ?_ HX22.out | with_reducible refine Ext.trans ?_ HX23.out | with_reducible refine Ext.trans ?_ HX24.out))⟩
set_option maxHeartbeats 4000000 in
theorem index_of (l : List Tm) (a : Option Addr) (c p : Nat) (t : Tm) (w : World) (h : Rd w 5 l.length (.slice a l.length c) (tms l)) (hb : BoxT w p t) (hn : l.length ≤ 1073741823) :
    Calls Try.prog 77 #[.slice a l.length c, .func (Fn.func 46) #[] #[.pointer (some ⟨p, 0, none⟩)]] w fun e w' => e = .returned (.int .i64 (idxI (fun x => leB t x) l)) ∧ Ext w w' := by
  have H := Lib.hid h
  have HB := Lib.hid hb
  have HN := Lib.hid hn
  obtain ⟨P, hP⟩ : ∃ P : Tm → Bool, P = (fun x => leB t x) := ⟨_, rfl⟩
  have CF := Lib.hid (fun x W (hx : Ext w W) => of1_any x t p W (hb.on hx))
  have hpx : ∀ x, (fun x => leB t x) x = P x := fun x => by rw [hP]
  dsimp only at hpx
  simp only [hpx] at CF
  rw [← hP]
  obtain ⟨R, hR⟩ : ∃ R, R = idxI P l := ⟨_, rfl⟩
  rw [← hR]
  have HR := Lib.hid hR
  clear h hb hn hP hpx hR
  go_enter Try.func77, Try.ntmps77
  go_wp2
  go_loopw [8] (fun i wr => ∃ j : Nat, j ≤ l.length ∧ i = .int .i64 j ∧ Ext w wr ∧ ∀ (k : Nat) y, k < j → l[k]? = some y → P y = false) (fun i _ => l.length - (intOf i).toNat)
  case atStart => exact ⟨0, by omega, rfl, by (repeat' (first | with_reducible exact Ext.refl _ | with_reducible refine Ext.ext ?_ _ | with_reducible refine Ext.alloc ?_ _ | with_reducible refine Ext.drew ?_ | with_reducible refine Ext.drewN ?_ _ | with_reducible assumption)), fun k y hk => absurd hk (Nat.not_lt_zero k)⟩
  case round =>
    obtain ⟨j, hj, rfl, hx, hall⟩ := hrel
    have HX1 := Lib.hid hx
    have HA := Lib.hid hall
    clear hx hall
    by_cases hlt : j < l.length
    · obtain ⟨x, hx⟩ : ∃ x, l[j]? = some x := ⟨l[j], List.getElem?_eq_getElem _⟩
      obtain ⟨b, off, rfl, -⟩ := H.out.cells (by omega)
      obtain ⟨q0, q1, q2, q3, q4⟩ := tm_at (H.out.of_ext HX1.out) j x hx
      have i1 : (0 : Int) ≤ j := by omega
      have i2 : (j : Int) < l.length := by omega
      have ew : wrap64 ((j : Int) + 1) = ((j + 1 : Nat) : Int) := (IntWalk.wrap64_in _ ⟨by omega, by have := HN.out; omega⟩).trans (by omega)
      have CX := Lib.hid (fun W hx => CF.out x W hx)
      obtain ⟨bp, hp⟩ : ∃ b, P x = b := ⟨_, rfl⟩
      rw [hp] at CX
      have HX := Lib.hid hx
      have HP := Lib.hid hp
      clear hx hp
      cases bp
      · go_wp2_with (go_at_call 46; (with_reducible refine (CX.out _ (by (repeat' (first | with_reducible exact Ext.refl _ | with_reducible refine Ext.ext ?_ _ | with_reducible refine Ext.alloc ?_ _ | with_reducible refine Ext.drew ?_ | with_reducible refine Ext.drewN ?_ _ | with_reducible refine Ext.trans ?_ HX1.out | with_reducible refine Ext.trans ?_ HX2.out | with_reducible refine Ext.trans ?_ HX3.out | with_reducible refine Ext.trans ?_ HX4.out | with_reducible refine Ext.trans ?_ HX5.out | with_reducible refine Ext.trans ?_ HX6.out | with_reducible refine Ext.trans ?_ HX7.out | with_reducible refine Ext.trans ?_ HX8.out | with_reducible refine Ext.trans ?_ HX9.out | with_reducible refine Ext.trans ?_ HX10.out | with_reducible refine Ext.trans ?_ HX11.out | with_reducible refine Ext.trans ?_ HX12.out | with_reducible refine Ext.trans ?_ HX13.out | with_reducible refine Ext.trans ?_ HX14.out | with_reducible refine Ext.trans ?_ HX15.out | with_reducible refine Ext.trans ?_ HX16.out | with_reducible refine Ext.trans ?_ HX17.out | with_reducible refine Ext.trans ?_ HX18.out | with_reducible refine Ext.trans ?_ HX19.out | with_reducible refine Ext.trans ?_ HX20.out | with_reducible refine Ext.trans ?_ HX21.out | with_reducible refine Ext.trans ?_ HX22.out | with_reducible refine Ext.trans ?_ HX23.out | with_reducible refine Ext.trans ?_ HX24.out)))).mono ?_); rintro e w2 ⟨rfl, hx⟩; have HX2 := Lib.hid hx; clear hx)
        exact ⟨⟨j + 1, by omega, congrArg (Value.int .i64) ew, by (repeat' (first | with_reducible exact Ext.refl _ | with_reducible refine Ext.ext ?_ _ | with_reducible refine Ext.alloc ?_ _ | with_reducible refine Ext.drew ?_ | with_reducible refine Ext.drewN ?_ _ | with_reducible refine Ext.trans ?_ HX1.out | with_reducible refine Ext.trans ?_ HX2.out | with_reducible refine Ext.trans ?_ HX3.out | with_reducible refine Ext.trans ?_ HX4.out | with_reducible refine Ext.trans ?_ HX5.out | with_reducible refine Ext.trans ?_ HX6.out | with_reducible refine Ext.trans ?_ HX7.out | with_reducible refine Ext.trans ?_ HX8.out | with_reducible refine Ext.trans ?_ HX9.out | with_reducible refine Ext.trans ?_ HX10.out | with_reducible refine Ext.trans ?_ HX11.out | with_reducible refine Ext.trans ?_ HX12.out | with_reducible refine Ext.trans ?_ HX13.out | with_reducible refine Ext.trans ?_ HX14.out | with_reducible refine Ext.trans ?_ HX15.out | with_reducible refine Ext.trans ?_ HX16.out | with_reducible refine Ext.trans ?_ HX17.out | with_reducible refine Ext.trans ?_ HX18.out | with_reducible refine Ext.trans ?_ HX19.out | with_reducible refine Ext.trans ?_ HX20.out | with_reducible refine Ext.trans ?_ HX21.out | with_reducible refine Ext.trans ?_ HX22.out | with_reducible refine Ext.trans ?_ HX23.out | with_reducible refine Ext.trans ?_ HX24.out)), fun k y hk hy => by
          rcases Nat.lt_or_ge k j with h | h
          · exact HA.out k y h hy
          · obtain rfl : k = j := by omega
            rw [HX.out] at hy
            cases hy
            exact HP.out⟩, by rw [ew]; simp only [intOf]; omega⟩
      · have RR := Lib.hid (show (j : Int) = R by rw [HR.out, idxI, any_at HX.out HP.out, if_pos rfl, idxN_at HX.out HP.out (fun k y hk hy => HA.out k y hk hy)])
        go_wp2_with (go_at_call 46; (with_reducible refine (CX.out _ (by (repeat' (first | with_reducible exact Ext.refl _ | with_reducible refine Ext.ext ?_ _ | with_reducible refine Ext.alloc ?_ _ | with_reducible refine Ext.drew ?_ | with_reducible refine Ext.drewN ?_ _ | with_reducible refine Ext.trans ?_ HX1.out | with_reducible refine Ext.trans ?_ HX2.out | with_reducible refine Ext.trans ?_ HX3.out | with_reducible refine Ext.trans ?_ HX4.out | with_reducible refine Ext.trans ?_ HX5.out | with_reducible refine Ext.trans ?_ HX6.out | with_reducible refine Ext.trans ?_ HX7.out | with_reducible refine Ext.trans ?_ HX8.out | with_reducible refine Ext.trans ?_ HX9.out | with_reducible refine Ext.trans ?_ HX10.out | with_reducible refine Ext.trans ?_ HX11.out | with_reducible refine Ext.trans ?_ HX12.out | with_reducible refine Ext.trans ?_ HX13.out | with_reducible refine Ext.trans ?_ HX14.out | with_reducible refine Ext.trans ?_ HX15.out | with_reducible refine Ext.trans ?_ HX16.out | with_reducible refine Ext.trans ?_ HX17.out | with_reducible refine Ext.trans ?_ HX18.out | with_reducible refine Ext.trans ?_ HX19.out | with_reducible refine Ext.trans ?_ HX20.out | with_reducible refine Ext.trans ?_ HX21.out | with_reducible refine Ext.trans ?_ HX22.out | with_reducible refine Ext.trans ?_ HX23.out | with_reducible refine Ext.trans ?_ HX24.out)))).mono ?_); rintro e w2 ⟨rfl, hx⟩; have HX2 := Lib.hid hx; clear hx)
        go_returns
        exact ⟨reti rfl RR.out, by (repeat' (first | with_reducible exact Ext.refl _ | with_reducible refine Ext.ext ?_ _ | with_reducible refine Ext.alloc ?_ _ | with_reducible refine Ext.drew ?_ | with_reducible refine Ext.drewN ?_ _ | with_reducible refine Ext.trans ?_ HX1.out | with_reducible refine Ext.trans ?_ HX2.out | with_reducible refine Ext.trans ?_ HX3.out | with_reducible refine Ext.trans ?_ HX4.out | with_reducible refine Ext.trans ?_ HX5.out | with_reducible refine Ext.trans ?_ HX6.out | with_reducible refine Ext.trans ?_ HX7.out | with_reducible refine Ext.trans ?_ HX8.out | with_reducible refine Ext.trans ?_ HX9.out | with_reducible refine Ext.trans ?_ HX10.out | with_reducible refine Ext.trans ?_ HX11.out | with_reducible refine Ext.trans ?_ HX12.out | with_reducible refine Ext.trans ?_ HX13.out | with_reducible refine Ext.trans ?_ HX14.out | with_reducible refine Ext.trans ?_ HX15.out | with_reducible refine Ext.trans ?_ HX16.out | with_reducible refine Ext.trans ?_ HX17.out | with_reducible refine Ext.trans ?_ HX18.out | with_reducible refine Ext.trans ?_ HX19.out | with_reducible refine Ext.trans ?_ HX20.out | with_reducible refine Ext.trans ?_ HX21.out | with_reducible refine Ext.trans ?_ HX22.out | with_reducible refine Ext.trans ?_ HX23.out | with_reducible refine Ext.trans ?_ HX24.out))⟩
    · have RR := Lib.hid (show (-1 : Int) = R by rw [HR.out, idxI, any_no (fun k y hy => HA.out k y (by have := (List.getElem?_eq_some_iff.1 hy).1; omega) hy)]; rfl)
      obtain rfl : j = l.length := by omega
      go_wp2
      go_returns
      exact ⟨reti rfl RR.out, by (repeat' (first | with_reducible exact Ext.refl _ | with_reducible refine Ext.ext ?_ _ | with_reducible refine Ext.alloc ?_ _ | with_reducible refine Ext.drew ?_ | with_reducible refine Ext.drewN ?_ _ | with_reducible refine Ext.trans ?_ HX1.out | with_reducible refine Ext.trans ?_ HX2.out | with_reducible refine Ext.trans ?_ HX3.out | with_reducible refine Ext.trans ?_ HX4.out | with_reducible refine Ext.trans ?_ HX5.out | with_reducible refine Ext.trans ?_ HX6.out | with_reducible refine Ext.trans ?_ HX7.out | with_reducible refine Ext.trans ?_ HX8.out | with_reducible refine Ext.trans ?_ HX9.out | with_reducible refine Ext.trans ?_ HX10.out | with_reducible refine Ext.trans ?_ HX11.out | with_reducible refine Ext.trans ?_ HX12.out | with_reducible refine Ext.trans ?_ HX13.out | with_reducible refine Ext.trans ?_ HX14.out | with_reducible refine Ext.trans ?_ HX15.out | with_reducible refine Ext.trans ?_ HX16.out | with_reducible refine Ext.trans ?_ HX17.out | with_reducible refine Ext.trans ?_ HX18.out | with_reducible refine Ext.trans ?_ HX19.out | with_reducible refine Ext.trans ?_ HX20.out | with_reducible refine Ext.trans ?_ HX21.out | with_reducible refine Ext.trans ?_ HX22.out | with_reducible refine Ext.trans ?_ HX23.out | with_reducible refine Ext.trans ?_ HX24.out))⟩
theorem contains_cov (l : List Tm) (a : Option Addr) (c p : Nat) (t : Tm) (w : World) (h : Rd w 5 l.length (.slice a l.length c) (tms l)) (hb : BoxT w p t) (hn : l.length ≤ 1073741823) :
    Calls Try.prog 54 #[.slice a l.length c, .func (Fn.func 55) #[] #[.pointer (some ⟨p, 0, none⟩)]] w fun e w' => e = .returned (.bool (l.any (fun x => leB x t))) ∧ Ext w w' := by
  have IX := Lib.hid (fun W (hx : Ext w W) => index_cov l a c p t W (h.of_ext hx) (hb.on hx) hn)
  obtain ⟨q, hq⟩ : ∃ q, idxI (fun x => leB x t) l = q := ⟨_, rfl⟩
  have hq2 : decide (0 ≤ q) = l.any (fun x => leB x t) := by
    rw [← hq]
    unfold idxI
    cases l.any (fun x => leB x t)
    · exact decide_eq_false (by rw [if_neg (by decide)]; decide)
    · exact decide_eq_true (by rw [if_pos rfl]; omega)
  rw [hq] at IX
  rw [← hq2]
  clear h hb hn hq hq2
  go_enter Try.func54, Try.ntmps54
  go_wp2_with (go_at_call 77; (with_reducible refine (IX.out _ (by (repeat' (first | with_reducible exact Ext.refl _ | with_reducible refine Ext.ext ?_ _ | with_reducible refine Ext.alloc ?_ _ | with_reducible refine Ext.drew ?_ | with_reducible refine Ext.drewN ?_ _ | with_reducible assumption)))).mono ?_); rintro e w' ⟨rfl, x1, rfl⟩)
  go_returns
  exact ⟨retb rfl rfl, by (repeat' (first | with_reducible exact Ext.refl _ | with_reducible refine Ext.ext ?_ _ | with_reducible refine Ext.alloc ?_ _ | with_reducible refine Ext.drew ?_ | with_reducible refine Ext.drewN ?_ _ | with_reducible assumption))⟩
theorem covers_any (l : List Tm) (a : Option Addr) (c : Nat) (t : Tm) (w : World) (h : Rd w 5 l.length (.slice a l.length c) (tms l)) (hn : l.length ≤ 1073741823) :
    Calls Try.prog 22 #[.slice a l.length c, .agg #[.int .i64 t.d, .int .i64 t.a, .int .i64 t.b, .int .i64 t.c, .int .i64 t.e]] w fun e w' => e = .returned (.bool (l.any (fun x => leB x t))) ∧ Ext w w' := by
  obtain ⟨td, ta, tb, tc, te⟩ := t
  dsimp only
  have CT := Lib.hid (fun p W (hp : p = W.heap.size) (hx : Ext w W) => contains_cov l a c p ⟨td, ta, tb, tc, te⟩ (W.alloc (.cells #[.int .i64 td, .int .i64 ta, .int .i64 tb, .int .i64 tc, .int .i64 te] 47)) (h.of_ext (hx.alloc _)) ⟨cell_lit _ _ _ _ _ _ hp rfl, cell_lit _ _ _ _ _ _ hp rfl, cell_lit _ _ _ _ _ _ hp rfl, cell_lit _ _ _ _ _ _ hp rfl, cell_lit _ _ _ _ _ _ hp rfl⟩ hn)
  generalize l.any (fun x => leB x ⟨td, ta, tb, tc, te⟩) = r at *
  clear h hn
  go_enter Try.func22, Try.ntmps22
  go_wp2_with (go_at_call 54; (with_reducible refine (CT.out _ _ (by rfl) (by (repeat' (first | with_reducible exact Ext.refl _ | with_reducible refine Ext.ext ?_ _ | with_reducible refine Ext.alloc ?_ _ | with_reducible refine Ext.drew ?_ | with_reducible refine Ext.drewN ?_ _ | with_reducible assumption)))).mono ?_); rintro e w' ⟨rfl, x1, rfl⟩)
  go_returns
  exact ⟨retb rfl rfl, by (repeat' (first | with_reducible exact Ext.refl _ | with_reducible refine Ext.ext ?_ _ | with_reducible refine Ext.alloc ?_ _ | with_reducible refine Ext.drew ?_ | with_reducible refine Ext.drewN ?_ _ | with_reducible assumption))⟩
end Go.Proofs.Ytmngjifcgfnogaa
