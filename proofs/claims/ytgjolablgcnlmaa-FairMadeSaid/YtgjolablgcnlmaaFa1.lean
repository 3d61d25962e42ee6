/- Fair: schedule; its closure; slices.IndexFunc, ContainsFunc of numbers. -/
import Derived.Test.YtgjolablgcnlmaaRows
import Derived.Test.YtgjolablgcnlmaaOwnG
import Derived.Test.YtgjolablgcnlmaaNew
import Derived.Test.YtgjolablgcnlmaaStop
import Derived.StillTailTactics
namespace Go.Proofs.Ytgjolablgcnlmaa
set_option linter.unusedSimpArgs false
set_option linter.unusedVariables false
open Go.RowKit

theorem cell_lit (w : World) (cs : Array Value) (e : TypeId) (g i : Nat) (u : Value) (hg : g = w.heap.size) (hu : cs[i]? = some u) : (w.alloc (.cells cs e)).cell? ⟨g, i, none⟩ = some u := by
  subst hg
  rw [cell_of_row _ _ _ cs e (0, 0) (heap_alloc_new w _), hu]
theorem keep_cell {w w' : World} {b i : Nat} {u : Value} (h : w.cell? ⟨b, i, none⟩ = some u) (hx : Ext w w') : (∀ z, (ext w' z).cell? ⟨b, i, none⟩ = some u) ∧ w'.cell? ⟨b, i, none⟩ = some u := by
  obtain ⟨x, rfl⟩ := hx
  have h1 : (ext w x).cell? ⟨b, i, none⟩ = some u := by rw [cell_ext_a _ _ _ (World.block_lt_of_cell? _ _ h), h]
  exact ⟨fun z => by rw [cell_ext_a _ _ _ (World.block_lt_of_cell? _ _ h1), h1], h1⟩
theorem nat_up {n k : Nat} {e : Int} {P : Nat → Prop} (he : e = ((k + 1 : Nat) : Int)) (hk : k < n) (hP : P (k + 1)) : (∃ k' : Nat, k' ≤ n ∧ Value.int .i64 e = .int .i64 k' ∧ P k') ∧ n - (intOf (Value.int .i64 e)).toNat < n - (intOf (Value.int .i64 (k : Int))).toNat := by
  subst he
  exact ⟨⟨k + 1, hk, rfl, hP⟩, by simp only [intOf]; omega⟩
/-- Is a number none of so many things? -/
def outB (T n : Int) : Bool := decide (n < 0) || decide (T ≤ n)
theorem sched1_any (n T : Int) (p : Nat) (w : World) (hb : w.cell? ⟨p, 0, none⟩ = some (.int .i64 T)) : Calls Try.prog 34 #[.int .i64 n, .pointer (some ⟨p, 0, none⟩)] w fun e w' => e = .returned (.bool (outB T n)) ∧ Ext w w' := by
  unfold outB
  obtain ⟨b1, f1⟩ : ∃ b, decide (n < 0) = b := ⟨_, rfl⟩
  obtain ⟨b2, f2⟩ : ∃ b, decide (T ≤ n) = b := ⟨_, rfl⟩
  rw [f1, f2]
  haveI : LtSz p w.heap.size := ⟨World.block_lt_of_cell? _ _ hb⟩
  cases b1 <;> cases b2
  all_goals
    go_enter Try.func34, Try.ntmps34
    go_wp2
    go_returns
    exact ⟨retb rfl rfl, by (repeat' (first | with_reducible exact Ext.refl _ | with_reducible refine Ext.ext ?_ _ | with_reducible refine Ext.alloc ?_ _ | with_reducible refine Ext.drew ?_ | with_reducible refine Ext.drewN ?_ _ | with_reducible assumption))⟩
def idxN (P : Int → Bool) : List Int → Nat
  | [] => 0
  | x :: l => if P x then 0 else idxN P l + 1
theorem idxN_at {P : Int → Bool} : ∀ {l : List Int} {j : Nat} {x : Int}, l[j]? = some x → P x = true → (∀ (k : Nat) y, k < j → l[k]? = some y → P y = false) → idxN P l = j
  | [], j, x, h, _, _ => by simp at h
  | y :: l, 0, x, h, hp, _ => by
    obtain rfl : y = x := by simpa using h
    rw [idxN, if_pos hp]
  | y :: l, j + 1, x, h, hp, hn => by
    rw [idxN, if_neg (by rw [hn 0 y (by omega) rfl]; decide), idxN_at (j := j) (by simpa using h) hp (fun k z hk hz => hn (k + 1) z (by omega) (by simpa using hz))]
theorem any_at {P : Int → Bool} {l : List Int} {j : Nat} {x : Int} (h : l[j]? = some x) (hp : P x = true) : l.any P = true := List.any_eq_true.2 ⟨x, List.mem_of_getElem? h, hp⟩
theorem any_no {P : Int → Bool} {l : List Int} (h : ∀ (k : Nat) y, l[k]? = some y → P y = false) : l.any P = false := by
  rw [List.any_eq_false]
  intro x hx
  obtain ⟨k, hk⟩ := List.getElem?_of_mem hx
  rw [h k x hk]
  decide
def idxI (P : Int → Bool) (l : List Int) : Int := if l.any P then (idxN P l : Int) else -1
theorem ri_at {w : World} {b off n c : Nat} {l : List Int} (h : Ri w .i64 (.slice (some ⟨b, off, none⟩) n c) l) {j : Nat} {x : Int} (hj : l[j]? = some x) : w.cell? ⟨b, off + j, none⟩ = some (.int .i64 x) := by
  obtain ⟨hlt, rfl⟩ := List.getElem?_eq_some_iff.1 hj
  exact h.cell j hlt
set_option maxHeartbeats 4000000 in
theorem index_out (l : List Int) (a : Option Addr) (c p : Nat) (T : Int) (w : World) (h : Ri w .i64 (.slice a l.length c) l) (hb : w.cell? ⟨p, 0, none⟩ = some (.int .i64 T)) (hn : l.length ≤ 1073741823) :
    Calls Try.prog 36 #[.slice a l.length c, .func (Fn.func 34) #[] #[.pointer (some ⟨p, 0, none⟩)]] w fun e w' => e = .returned (.int .i64 (idxI (outB T) l)) ∧ Ext w w' := by
  have H := Lib.hid h
  have HN := Lib.hid hn
  obtain ⟨P, hP⟩ : ∃ P : Int → Bool, P = outB T := ⟨_, rfl⟩
  have CF := Lib.hid (fun x W (hx : Ext w W) => sched1_any x T p W (keep_cell hb hx).2)
  rw [← hP] at CF
  rw [← hP]
  obtain ⟨R, hR⟩ : ∃ R, R = idxI P l := ⟨_, rfl⟩
  rw [← hR]
  have HR := Lib.hid hR
  clear h hb hn hP hR
  go_enter Try.func36, Try.ntmps36
  go_wp2
  go_loopw [8] (fun i wr => ∃ j : Nat, j ≤ l.length ∧ i = .int .i64 j ∧ Ext w wr ∧ ∀ (k : Nat) y, k < j → l[k]? = some y → P y = false) (fun i _ => l.length - (intOf i).toNat)
  case atStart => exact ⟨0, by omega, rfl, by (repeat' (first | with_reducible exact Ext.refl _ | with_reducible refine Ext.ext ?_ _ | with_reducible refine Ext.alloc ?_ _ | with_reducible refine Ext.drew ?_ | with_reducible refine Ext.drewN ?_ _ | with_reducible assumption)), fun k y hk => absurd hk (Nat.not_lt_zero k)⟩
  case round =>
    obtain ⟨j, hj, rfl, hx, hall⟩ := hrel
    have HX1 := Lib.hid hx
    have HA := Lib.hid hall
    clear hx hall
    by_cases hlt : j < l.length
    · obtain ⟨x, hx⟩ : ∃ x, l[j]? = some x := ⟨l[j], List.getElem?_eq_getElem _⟩
      obtain ⟨b, off, rfl⟩ : ∃ b off, a = some ⟨b, off, none⟩ := by obtain ⟨b, off, e, -⟩ := Rd.cells H.out (by omega); exact ⟨b, off, e⟩
      have q0 := ri_at (H.out.of_ext HX1.out) hx
      have i1 : (0 : Int) ≤ j := by omega
      have i2 : (j : Int) < l.length := by omega
      have ew : wrap64 ((j : Int) + 1) = ((j + 1 : Nat) : Int) := (IntWalk.wrap64_in _ ⟨by omega, by have := HN.out; omega⟩).trans (by omega)
      have CX := Lib.hid (fun W hx => CF.out x W hx)
      obtain ⟨bp, hp⟩ : ∃ b, P x = b := ⟨_, rfl⟩
      rw [hp] at CX
      have HX := Lib.hid hx
      have HP := Lib.hid hp
      clear hx hp
      cases bp
      · go_wp2_with (go_at_call 34; (with_reducible refine (CX.out _ (by (repeat' (first | with_reducible exact Ext.refl _ | with_reducible refine Ext.ext ?_ _ | with_reducible refine Ext.alloc ?_ _ | with_reducible refine Ext.drew ?_ | with_reducible refine Ext.drewN ?_ _ | with_reducible refine Ext.trans ?_ HX1.out | with_reducible refine Ext.trans ?_ HX2.out | with_reducible refine Ext.trans ?_ HX3.out | with_reducible refine Ext.trans ?_ HX4.out | with_reducible refine Ext.trans ?_ HX5.out | with_reducible refine Ext.trans ?_ HX6.out | with_reducible refine Ext.trans ?_ HX7.out | with_reducible refine Ext.trans ?_ HX8.out | with_reducible refine Ext.trans ?_ HX9.out | with_reducible refine Ext.trans ?_ HX10.out | with_reducible refine Ext.trans ?_ HX11.out | with_reducible refine Ext.trans ?_ HX12.out | with_reducible refine Ext.trans ?_ HX13.out | with_reducible refine Ext.trans ?_ HX14.out | with_reducible refine Ext.trans ?_ HX15.out | with_reducible refine Ext.trans ?_ HX16.out | with_reducible refine Ext.trans ?_ HX17.out | with_reducible refine Ext.trans ?_ HX18.out | with_reducible refine Ext.trans ?_ HX19.out | with_reducible refine Ext.trans ?_ HX20.out | with_reducible refine Ext.trans ?_ HX21.out | with_reducible refine Ext.trans ?_ HX22.out | with_reducible refine Ext.trans ?_ HX23.out | with_reducible refine Ext.trans ?_ HX24.out)))).mono ?_); rintro e w2 ⟨rfl, hx⟩; have HX2 := Lib.hid hx; clear hx)
        exact ⟨⟨j + 1, by omega, congrArg (Value.int .i64) ew, by (repeat' (first | with_reducible exact Ext.refl _ | with_reducible refine Ext.ext ?_ _ | with_reducible refine Ext.alloc ?_ _ | with_reducible refine Ext.drew ?_ | with_reducible refine Ext.drewN ?_ _ | with_reducible refine Ext.trans ?_ HX1.out | with_reducible refine Ext.trans ?_ HX2.out | with_reducible refine Ext.trans ?_ HX3.out | with_reducible refine Ext.trans ?_ HX4.out | with_reducible refine Ext.trans ?_ HX5.out | with_reducible refine Ext.trans ?_ HX6.out | with_reducible refine Ext.trans ?_ HX7.out | with_reducible refine Ext.trans ?_ HX8.out | with_reducible refine Ext.trans ?_ HX9.out | with_reducible refine Ext.trans ?_ HX10.out | with_reducible refine Ext.trans ?_ HX11.out | with_reducible refine Ext.trans ?_ HX12.out | with_reducible refine Ext.trans ?_ HX13.out | with_reducible refine Ext.trans ?_ HX14.out | with_reducible refine Ext.trans ?_ HX15.out | with_reducible refine Ext.trans ?_ HX16.out | with_reducible refine Ext.trans ?_ HX17.out | with_reducible refine Ext.trans ?_ HX18.out | with_reducible refine Ext.trans ?_ HX19.out | with_reducible refine Ext.trans ?_ HX20.out | with_reducible refine Ext.trans ?_ HX21.out | with_reducible refine Ext.trans ?_ HX22.out | with_reducible refine Ext.trans ?_ HX23.out | with_reducible refine Ext.trans ?_ HX24.out)), fun k y hk hy => by
          rcases Nat.lt_or_ge k j with h | h
          · exact HA.out k y h hy
          · obtain rfl : k = j := by omega
            rw [HX.out] at hy
            cases hy
            exact HP.out⟩, by rw [ew]; simp only [intOf]; omega⟩
      · have RR := Lib.hid (show (j : Int) = R by rw [HR.out, idxI, any_at HX.out HP.out, if_pos rfl, idxN_at HX.out HP.out (fun k y hk hy => HA.out k y hk hy)])
        go_wp2_with (go_at_call 34; (with_reducible refine (CX.out _ (by (repeat' (first | with_reducible exact Ext.refl _ | with_reducible refine Ext.ext ?_ _ | with_reducible refine Ext.alloc ?_ _ | with_reducible refine Ext.drew ?_ | with_reducible refine Ext.drewN ?_ _ | with_reducible refine Ext.trans ?_ HX1.out | with_reducible refine Ext.trans ?_ HX2.out | with_reducible refine Ext.trans ?_ HX3.out | with_reducible refine Ext.trans ?_ HX4.out | with_reducible refine Ext.trans ?_ HX5.out | with_reducible refine Ext.trans ?_ HX6.out | with_reducible refine Ext.trans ?_ HX7.out | with_reducible refine Ext.trans ?_ HX8.out | with_reducible refine Ext.trans ?_ HX9.out | with_reducible refine Ext.trans ?_ HX10.out | with_reducible refine Ext.trans ?_ HX11.out | with_reducible refine Ext.trans ?_ HX12.out | with_reducible refine Ext.trans ?_ HX13.out | with_reducible refine Ext.trans ?_ HX14.out | with_reducible refine Ext.trans ?_ HX15.out | with_reducible refine Ext.trans ?_ HX16.out | with_reducible refine Ext.trans ?_ HX17.out | with_reducible refine Ext.trans ?_ HX18.out | with_reducible refine Ext.trans ?_ HX19.out | with_reducible refine Ext.trans ?_ HX20.out | with_reducible refine Ext.trans ?_ HX21.out | with_reducible refine Ext.trans ?_ HX22.out | with_reducible refine Ext.trans ?_ HX23.out | with_reducible refine Ext.trans ?_ HX24.out)))).mono ?_); rintro e w2 ⟨rfl, hx⟩; have HX2 := Lib.hid hx; clear hx)
        go_returns
        exact ⟨reti rfl RR.out, by (repeat' (first | with_reducible exact Ext.refl _ | with_reducible refine Ext.ext ?_ _ | with_reducible refine Ext.alloc ?_ _ | with_reducible refine Ext.drew ?_ | with_reducible refine Ext.drewN ?_ _ | with_reducible refine Ext.trans ?_ HX1.out | with_reducible refine Ext.trans ?_ HX2.out | with_reducible refine Ext.trans ?_ HX3.out | with_reducible refine Ext.trans ?_ HX4.out | with_reducible refine Ext.trans ?_ HX5.out | with_reducible refine Ext.trans ?_ HX6.out | with_reducible refine Ext.trans ?_ HX7.out | with_reducible refine Ext.trans ?_ HX8.out | with_reducible refine Ext.trans ?_ HX9.out | with_reducible refine Ext.trans ?_ HX10.out | with_reducible refine Ext.trans ?_ HX11.out | with_reducible refine Ext.trans ?_ HX12.out | with_reducible refine Ext.trans ?_ HX13.out | with_reducible refine Ext.trans ?_ HX14.out | with_reducible refine Ext.trans ?_ HX15.out | with_reducible refine Ext.trans ?_ HX16.out | with_reducible refine Ext.trans ?_ HX17.out | with_reducible refine Ext.trans ?_ HX18.out | with_reducible refine Ext.trans ?_ HX19.out | with_reducible refine Ext.trans ?_ HX20.out | with_reducible refine Ext.trans ?_ HX21.out | with_reducible refine Ext.trans ?_ HX22.out | with_reducible refine Ext.trans ?_ HX23.out | with_reducible refine Ext.trans ?_ HX24.out))⟩
    · have RR := Lib.hid (show (-1 : Int) = R by rw [HR.out, idxI, any_no (fun k y hy => HA.out k y (by have := (List.getElem?_eq_some_iff.1 hy).1; omega) hy)]; rfl)
      obtain rfl : j = l.length := by omega
      go_wp2
      go_returns
      exact ⟨reti rfl RR.out, by (repeat' (first | with_reducible exact Ext.refl _ | with_reducible refine Ext.ext ?_ _ | with_reducible refine Ext.alloc ?_ _ | with_reducible refine Ext.drew ?_ | with_reducible refine Ext.drewN ?_ _ | with_reducible refine Ext.trans ?_ HX1.out | with_reducible refine Ext.trans ?_ HX2.out | with_reducible refine Ext.trans ?_ HX3.out | with_reducible refine Ext.trans ?_ HX4.out | with_reducible refine Ext.trans ?_ HX5.out | with_reducible refine Ext.trans ?_ HX6.out | with_reducible refine Ext.trans ?_ HX7.out | with_reducible refine Ext.trans ?_ HX8.out | with_reducible refine Ext.trans ?_ HX9.out | with_reducible refine Ext.trans ?_ HX10.out | with_reducible refine Ext.trans ?_ HX11.out | with_reducible refine Ext.trans ?_ HX12.out | with_reducible refine Ext.trans ?_ HX13.out | with_reducible refine Ext.trans ?_ HX14.out | with_reducible refine Ext.trans ?_ HX15.out | with_reducible refine Ext.trans ?_ HX16.out | with_reducible refine Ext.trans ?_ HX17.out | with_reducible refine Ext.trans ?_ HX18.out | with_reducible refine Ext.trans ?_ HX19.out | with_reducible refine Ext.trans ?_ HX20.out | with_reducible refine Ext.trans ?_ HX21.out | with_reducible refine Ext.trans ?_ HX22.out | with_reducible refine Ext.trans ?_ HX23.out | with_reducible refine Ext.trans ?_ HX24.out))⟩
theorem contains_out (l : List Int) (a : Option Addr) (c p : Nat) (T : Int) (w : World) (h : Ri w .i64 (.slice a l.length c) l) (hb : w.cell? ⟨p, 0, none⟩ = some (.int .i64 T)) (hn : l.length ≤ 1073741823) :
    Calls Try.prog 33 #[.slice a l.length c, .func (Fn.func 34) #[] #[.pointer (some ⟨p, 0, none⟩)]] w fun e w' => e = .returned (.bool (l.any (outB T))) ∧ Ext w w' := by
  have IX := Lib.hid (fun W (hx : Ext w W) => index_out l a c p T W (h.of_ext hx) (keep_cell hb hx).2 hn)
  obtain ⟨q, hq⟩ : ∃ q, idxI (outB T) l = q := ⟨_, rfl⟩
  have hq2 : decide (0 ≤ q) = l.any (outB T) := by
    rw [← hq]
    unfold idxI
    cases l.any (outB T)
    · exact decide_eq_false (by rw [if_neg (by decide)]; decide)
    · exact decide_eq_true (by rw [if_pos rfl]; omega)
  rw [hq] at IX
  rw [← hq2]
  clear h hb hn hq hq2
  go_enter Try.func33, Try.ntmps33
  go_wp2_with (go_at_call 36; (with_reducible refine (IX.out _ (by (repeat' (first | with_reducible exact Ext.refl _ | with_reducible refine Ext.ext ?_ _ | with_reducible refine Ext.alloc ?_ _ | with_reducible refine Ext.drew ?_ | with_reducible refine Ext.drewN ?_ _ | with_reducible assumption)))).mono ?_); rintro e w' ⟨rfl, x1, rfl⟩)
  go_returns
  exact ⟨retb rfl rfl, by (repeat' (first | with_reducible exact Ext.refl _ | with_reducible refine Ext.ext ?_ _ | with_reducible refine Ext.alloc ?_ _ | with_reducible refine Ext.drew ?_ | with_reducible refine Ext.drewN ?_ _ | with_reducible assumption))⟩
/-- Is a list one of things? -/
def schedB (l : List Int) (T : Int) : Bool := decide (1 ≤ T) && !(l.any (outB T))
theorem schedule_any (l : List Int) (a : Option Addr) (c : Nat) (T : Int) (w : World) (h : Ri w .i64 (.slice a l.length c) l) (hn : l.length ≤ 1073741823) :
    Calls Try.prog 27 #[.slice a l.length c, .int .i64 T] w fun e w' => e = .returned (.bool (schedB l T)) ∧ Ext w w' := by
  have CT := Lib.hid (fun p W (hp : p = W.heap.size) (hx : Ext w W) => contains_out l a c p T (W.alloc (.cells #[.int .i64 T] 3)) (h.of_ext (hx.alloc _)) (cell_lit _ _ _ _ _ _ hp rfl) hn)
  unfold schedB
  generalize l.any (outB T) = r at *
  obtain ⟨b1, f1⟩ : ∃ b, decide (1 ≤ T) = b := ⟨_, rfl⟩
  rw [f1]
  clear h hn
  cases b1
  all_goals
    go_enter Try.func27, Try.ntmps27
    go_wp2_with (go_at_call 33; (with_reducible refine (CT.out _ _ (by rfl) (by (repeat' (first | with_reducible exact Ext.refl _ | with_reducible refine Ext.ext ?_ _ | with_reducible refine Ext.alloc ?_ _ | with_reducible refine Ext.drew ?_ | with_reducible refine Ext.drewN ?_ _ | with_reducible assumption)))).mono ?_); rintro e w' ⟨rfl, x1, rfl⟩)
    go_returns
    exact ⟨retb rfl rfl, by (repeat' (first | with_reducible exact Ext.refl _ | with_reducible refine Ext.ext ?_ _ | with_reducible refine Ext.alloc ?_ _ | with_reducible refine Ext.drew ?_ | with_reducible refine Ext.drewN ?_ _ | with_reducible assumption))⟩
end Go.Proofs.Ytgjolablgcnlmaa
