/- Fair: the reference's Schedule and Left. -/
import Derived.Test.YtgjolablgcnlmaaFa4
namespace Go.Proofs.Ytgjolablgcnlmaa
set_option linter.unusedSimpArgs false
set_option linter.unusedVariables false
open Go.RowKit

theorem sched_no {l : List Int} {T : Int} {j : Nat} {x : Int} (hj : l[j]? = some x) (h : outB T x = true) : schedB l T = false := by
  unfold schedB
  rw [any_at hj h]
  simp
set_option maxHeartbeats 4000000 in
theorem refSched_any (l : List Int) (a : Option Addr) (c : Nat) (T : Int) (w : World) (h : Ri w .i64 (.slice a l.length c) l) (hn : l.length ≤ 1073741823) :
    Calls Try.prog 21 #[.slice a l.length c, .int .i64 T] w fun e w' => e = .returned (.bool (schedB l T)) ∧ Ext w w' := by
  have H := Lib.hid h
  have HN := Lib.hid hn
  obtain ⟨R, hR⟩ : ∃ R, R = schedB l T := ⟨_, rfl⟩
  rw [← hR]
  have HR := Lib.hid hR
  clear h hn hR
  go_enter Try.func21, Try.ntmps21
  go_wp2
  go_loopw [5] (fun i wr => ∃ j : Nat, j ≤ l.length ∧ i = .int .i64 j ∧ (∀ (k : Nat) y, k < j → l[k]? = some y → outB T y = false) ∧ Ext w wr) (fun i _ => l.length - (intOf i).toNat)
  case atStart => exact ⟨0, by omega, rfl, fun k y hk => absurd hk (Nat.not_lt_zero k), by (repeat' (first | with_reducible exact Ext.refl _ | with_reducible refine Ext.ext ?_ _ | with_reducible refine Ext.alloc ?_ _ | with_reducible refine Ext.drew ?_ | with_reducible refine Ext.drewN ?_ _ | with_reducible assumption))⟩
  case round =>
    obtain ⟨j, hj, rfl, hall, ⟨z, rfl⟩⟩ := hrel
    have HA := Lib.hid hall
    clear hall
    by_cases hlt : j < l.length
    · obtain ⟨x, hx⟩ : ∃ x, l[j]? = some x := ⟨l[j], List.getElem?_eq_getElem _⟩
      obtain ⟨b, off, rfl⟩ : ∃ b off, a = some ⟨b, off, none⟩ := by obtain ⟨b, off, e, -⟩ := Rd.cells H.out (by omega); exact ⟨b, off, e⟩
      have q0 := ri_at H.out hx
      haveI : LtSz b w.heap.size := ⟨World.block_lt_of_cell? _ _ q0⟩
      have i1 : (0 : Int) ≤ j := by omega
      have i2 : (j : Int) < l.length := by omega
      have EW := Lib.hid (show wrap64 ((j : Int) + 1) = ((j + 1 : Nat) : Int) from (IntWalk.wrap64_in _ ⟨by omega, by have := HN.out; omega⟩).trans (by omega))
      have HX := Lib.hid hx
      have HL := Lib.hid hlt
      obtain ⟨b1, f1⟩ : ∃ b, decide (x < 0) = b := ⟨_, rfl⟩
      obtain ⟨b2, f2⟩ : ∃ b, decide (T ≤ x) = b := ⟨_, rfl⟩
      have HO := Lib.hid (show outB T x = (b1 || b2) by unfold outB; rw [f1, f2])
      clear hx
      cases b1 <;> cases b2
      case false.false =>
        go_wp2
        exact nat_up (P := fun j => (∀ (k : Nat) y, k < j → l[k]? = some y → outB T y = false) ∧ Ext w _) EW.out HL.out ⟨fun k y hk hy => by
          rcases Nat.lt_or_ge k j with h | h
          · exact HA.out k y h hy
          · obtain rfl : k = j := by omega
            rw [HX.out] at hy
            cases hy
            exact HO.out, by (repeat' (first | with_reducible exact Ext.refl _ | with_reducible refine Ext.ext ?_ _ | with_reducible refine Ext.alloc ?_ _ | with_reducible refine Ext.drew ?_ | with_reducible refine Ext.drewN ?_ _ | with_reducible assumption))⟩
      all_goals
        have HB := Lib.hid (show false = R by rw [HR.out, sched_no HX.out (by rw [HO.out]; rfl)])
        go_wp2
        go_returns
        exact ⟨retb rfl HB.out, by (repeat' (first | with_reducible exact Ext.refl _ | with_reducible refine Ext.ext ?_ _ | with_reducible refine Ext.alloc ?_ _ | with_reducible refine Ext.drew ?_ | with_reducible refine Ext.drewN ?_ _ | with_reducible assumption))⟩
    · obtain rfl : j = l.length := by omega
      have HB := Lib.hid (show decide (1 ≤ T) = R by
        rw [HR.out, schedB, any_no (fun k y hy => HA.out k y (List.getElem?_eq_some_iff.1 hy).1 hy)]
        simp)
      go_wp2
      go_returns
      exact ⟨retb rfl HB.out, by (repeat' (first | with_reducible exact Ext.refl _ | with_reducible refine Ext.ext ?_ _ | with_reducible refine Ext.alloc ?_ _ | with_reducible refine Ext.drew ?_ | with_reducible refine Ext.drewN ?_ _ | with_reducible assumption))⟩
/-- So many different ones do not lie in fewer. -/
theorem pig : ∀ (V : Nat) (W : List Int), (∀ j : Nat, j < V → (j : Int) ∈ W) → V ≤ W.length
  | 0, _, _ => Nat.zero_le _
  | V + 1, W, h => by
    have hV := h V (by omega)
    have h1 := pig V (W.erase (V : Int)) (fun j hj => (List.mem_erase_of_ne (by omega)).2 (h j (by omega)))
    rw [List.length_erase_of_mem hV] at h1
    have := List.length_pos_of_mem hV
    omega
def inB (W : List Int) (k : Int) : Bool := W.any (fun x => x == k)
theorem inB_iff {W : List Int} {k : Int} : inB W k = true ↔ k ∈ W := by
  unfold inB
  rw [List.any_eq_true]
  constructor
  · rintro ⟨x, hx, e⟩
    rwa [← beq_iff_eq.1 e]
  · exact fun h => ⟨k, h, by simp⟩
theorem win_snoc {l : List Int} {p i : Nat} {x : Int} (h : l[p + i]? = some x) : win l p (i + 1) = win l p i ++ [x] := by
  unfold win
  rw [List.take_add_one, List.getElem?_drop, h]
  rfl
theorem inB_snoc {l : List Int} {p i : Nat} {x : Int} (h : l[p + i]? = some x) (k : Int) : inB (win l p (i + 1)) k = (inB (win l p i) k || x == k) := by
  rw [win_snoc h]
  unfold inB
  rw [List.any_append]
  simp
theorem win_len {l : List Int} {p V : Nat} (h : p + V ≤ l.length) : (win l p V).length = V := by unfold win; rw [List.length_take, List.length_drop]; omega
set_option maxRecDepth 100000 in
set_option maxHeartbeats 8000000 in
theorem refLeft_any (l : List Int) (a : Option Addr) (c : Nat) (T v : Int) (w : World) (h : Ri w .i64 (.slice a l.length c) l) (hn : l.length ≤ 1000000) (hT : T ≤ 9223372036854775807) :
    Calls Try.prog 19 #[.slice a l.length c, .int .i64 T, .int .i64 v] w fun e w' => ∃ p k, e = .returned (.tuple #[.int .i64 p, .int .i64 k]) ∧ LeftIs l T v p k ∧ Ext w w' := by
  have SC := Lib.hid (fun W (hx : Ext w W) => refSched_any l a c T W (h.of_ext hx) (by omega))
  have H := Lib.hid h
  have HN := Lib.hid hn
  obtain ⟨bs, fs⟩ : ∃ b, schedB l T = b := ⟨_, rfl⟩
  rw [fs] at SC
  have HS := Lib.hid fs
  obtain ⟨b1, f1⟩ : ∃ b, decide (v < 1) = b := ⟨_, rfl⟩
  obtain ⟨b2, f2⟩ : ∃ b, decide ((l.length : Int) < v) = b := ⟨_, rfl⟩
  by_cases hg : (bs && (!b1 && !b2)) = true
  rotate_left
  · have HB := Lib.hid (show LeftIs l T v (-1) (-1) from .inr ⟨rfl, rfl, fun ⟨g1, g2, g3⟩ => absurd (by
      rw [← fs, ← f1, ← f2, g1, decide_eq_false (show ¬ v < 1 by omega), decide_eq_false (show ¬ (l.length : Int) < v by omega)]; rfl) hg⟩)
    clear h hn fs
    cases bs <;> cases b1 <;> cases b2 <;> first | (exfalso; simp at hg; done) | skip
    all_goals
      clear hg
      go_enter Try.func19, Try.ntmps19
      go_wp2_with (go_at_call 21; (with_reducible refine (SC.out _ (by (repeat' (first | with_reducible exact Ext.refl _ | with_reducible refine Ext.ext ?_ _ | with_reducible refine Ext.alloc ?_ _ | with_reducible refine Ext.drew ?_ | with_reducible refine Ext.drewN ?_ _ | with_reducible assumption)))).mono ?_); rintro e w' ⟨rfl, x1, rfl⟩)
      go_returns
      exact ⟨-1, -1, rett rfl rfl, HB.out, by (repeat' (first | with_reducible exact Ext.refl _ | with_reducible refine Ext.ext ?_ _ | with_reducible refine Ext.alloc ?_ _ | with_reducible refine Ext.drew ?_ | with_reducible refine Ext.drewN ?_ _ | with_reducible assumption))⟩
  · simp only [Bool.and_eq_true, Bool.not_eq_true'] at hg
    obtain ⟨rfl, rfl, rfl⟩ := hg
    have g1 : 1 ≤ v := by have := of_decide_eq_false f1; omega
    have g2 : v ≤ l.length := by have := of_decide_eq_false f2; omega
    obtain ⟨V, rfl⟩ : ∃ V : Nat, v = V := ⟨v.toNat, by omega⟩
    obtain ⟨hT1, hall⟩ := sched_at HS.out
    obtain ⟨TN, hTN⟩ : ∃ TN : Nat, T = TN := ⟨T.toNat, by omega⟩
    have v1 : 1 ≤ V := by omega
    have v2 : V ≤ l.length := by omega
    have HV := Lib.hid (And.intro v1 v2)
    have HTB := Lib.hid hT
    have GO := Lib.hid (show ∀ p k : Nat, p + V ≤ l.length → k < TN → (k : Int) ∉ win l p V → (∀ j : Nat, j < k → (j : Int) ∈ win l p V) → (∀ q, q < p → Full l TN V q) → LeftIs l T V p k from fun p k h1 h2 h3 h4 h5 => .inl ⟨⟨HS.out, by omega, by omega⟩, p, k, rfl, rfl, by simpa using h1, by rw [hTN]; simpa using h2, by simpa using h3, by simpa using h4, by rw [hTN]; simpa using h5⟩)
    have NO := Lib.hid (show (∀ q, q + V ≤ l.length → Full l TN V q) → LeftIs l T V (-1) (-1) from fun h => .inr ⟨rfl, rfl, fun _ => by rw [hTN]; simpa using h⟩)
    have HTN := Lib.hid hTN
    have f2' : decide (l.length < V) = false := decide_eq_false (by omega)
    obtain ⟨D, hD⟩ : ∃ D, D = l.length - V := ⟨_, rfl⟩
    have HD := Lib.hid hD
    have ED := Lib.hid (show wrap64 ((l.length : Int) - V) = (D : Int) from (IntWalk.wrap64_in _ ⟨by omega, by omega⟩).trans (by omega))
    clear h fs g1 g2 hT1 hall hTN hn hT v1 v2 hD
    go_enter Try.func19, Try.ntmps19
    go_wp2_with (go_at_call 21; (with_reducible refine (SC.out _ (by (repeat' (first | with_reducible exact Ext.refl _ | with_reducible refine Ext.ext ?_ _ | with_reducible refine Ext.alloc ?_ _ | with_reducible refine Ext.drew ?_ | with_reducible refine Ext.drewN ?_ _ | with_reducible assumption)))).mono ?_); rintro e w' ⟨rfl, x1, rfl⟩)
    go_loopw [8] (fun sp wr => ∃ p : Nat, p ≤ D + 1 ∧ sp = .int .i64 p ∧ (∀ q, q < p → Full l TN V q) ∧ Ext w wr) (fun sp _ => D + 1 - (intOf sp).toNat)
    case atStart => exact ⟨0, by omega, rfl, fun q hq => by omega, by (repeat' (first | with_reducible exact Ext.refl _ | with_reducible refine Ext.ext ?_ _ | with_reducible refine Ext.alloc ?_ _ | with_reducible refine Ext.drew ?_ | with_reducible refine Ext.drewN ?_ _ | with_reducible assumption))⟩
    case round =>
      obtain ⟨p, hp, rfl, hfull, ⟨z, rfl⟩⟩ := hrel
      have HFU := Lib.hid hfull
      have ed := ED.out
      by_cases hlt : p ≤ D
      · have z1 : decide ((p : Int) ≤ (D : Int)) = true := decide_eq_true (by omega)
        have z2 : decide (p ≤ D) = true := decide_eq_true hlt
        have HLP := Lib.hid (show p + V ≤ l.length ∧ p < D + 1 by have := HD.out; have := HV.out; omega)
        obtain ⟨Q, hQ⟩ : ∃ Q, Q = p + V := ⟨_, rfl⟩
        have HQ := Lib.hid hQ
        have EP := Lib.hid (show wrap64 ((p : Int) + 1) = ((p + 1 : Nat) : Int) from (IntWalk.wrap64_in _ ⟨by omega, by have := HN.out; have := HLP.out; have := HV.out; clear ed; omega⟩).trans (by clear ed; omega))
        have EQ := Lib.hid (show wrap64 ((p : Int) + V) = (Q : Int) from (IntWalk.wrap64_in _ ⟨by clear ed; omega, by have := HN.out; have := HLP.out; clear ed; omega⟩).trans (by clear ed; omega))
        clear hfull hQ
        go_wp2
        clear ed
        go_loopw [9] (fun sk wr => ∃ k : Nat, k ≤ V + 1 ∧ k ≤ TN ∧ sk = .int .i64 k ∧ (∀ j : Nat, j < k → (j : Int) ∈ win l p V) ∧ Ext w wr) (fun sk _ => V + 1 - (intOf sk).toNat)
        case atStart => exact ⟨0, by omega, by omega, rfl, fun j hj => by omega, by (repeat' (first | with_reducible exact Ext.refl _ | with_reducible refine Ext.ext ?_ _ | with_reducible refine Ext.alloc ?_ _ | with_reducible refine Ext.drew ?_ | with_reducible refine Ext.drewN ?_ _ | with_reducible assumption))⟩
        case round =>
          obtain ⟨k, hk1, hk2, rfl, hin, ⟨z, rfl⟩⟩ := hrel
          have HIN := Lib.hid hin
          clear hin
          by_cases hkk : k < TN ∧ k ≤ V
          · have y1 : decide ((k : Int) < T) = true := decide_eq_true (by have := HTN.out; omega)
            have y2 : decide ((k : Int) ≤ (V : Int)) = true := decide_eq_true (by omega)
            have y3 : decide (k ≤ V) = true := decide_eq_true hkk.2
            have HKK := Lib.hid hkk
            have EK := Lib.hid (show wrap64 ((k : Int) + 1) = ((k + 1 : Nat) : Int) from (IntWalk.wrap64_in _ ⟨by omega, by have := HN.out; have := HV.out; omega⟩).trans (by omega))
            clear hk1 hk2 hkk
            go_wp2
            go_loopw [11, 10] (fun si sf wr => ∃ d : Nat, d ≤ V ∧ si = .int .i64 ((p + d : Nat) : Int) ∧ sf = .bool (inB (win l p d) k) ∧ Ext w wr) (fun si _ _ => p + V - (intOf si).toNat)
            case atStart => exact ⟨0, by omega, rfl, rfl, by (repeat' (first | with_reducible exact Ext.refl _ | with_reducible refine Ext.ext ?_ _ | with_reducible refine Ext.alloc ?_ _ | with_reducible refine Ext.drew ?_ | with_reducible refine Ext.drewN ?_ _ | with_reducible assumption))⟩
            case round =>
              obtain ⟨d, hd, rfl, rfl, ⟨z, rfl⟩⟩ := hrel
              obtain ⟨i, hi⟩ : ∃ i, i = p + d := ⟨_, rfl⟩
              rw [← hi]
              have HI := Lib.hid hi
              have eq := EQ.out
              by_cases hdv : d < V
              · obtain ⟨x, hx⟩ : ∃ x, l[p + d]? = some x := ⟨l[p + d]'(by have := HLP.out; clear eq; omega), List.getElem?_eq_getElem _⟩
                obtain ⟨b, off, rfl⟩ : ∃ b off, a = some ⟨b, off, none⟩ := by obtain ⟨b, off, e, -⟩ := Rd.cells H.out (by have := HV.out; clear eq; omega); exact ⟨b, off, e⟩
                have q0 := ri_at H.out hx
                rw [← hi] at q0
                haveI : LtSz b w.heap.size := ⟨World.block_lt_of_cell? _ _ q0⟩
                have i1 : (0 : Int) ≤ i := by clear eq; omega
                have i2 : (i : Int) < l.length := by have := HLP.out; clear eq; omega
                have i3 : decide ((i : Int) < (Q : Int)) = true := decide_eq_true (by have := HQ.out; clear eq; omega)
                have i3' : decide (i < Q) = true := decide_eq_true (by have := HQ.out; clear eq; omega)
                have hst := inB_snoc hx (k : Int)
                obtain ⟨bf, f3⟩ : ∃ b, inB (win l p d) (k : Int) = b := ⟨_, rfl⟩
                obtain ⟨bx, f4⟩ : ∃ b, (x == (k : Int)) = b := ⟨_, rfl⟩
                rw [f3, f4] at hst
                rw [f3]
                have HST := Lib.hid hst
                have HDV := Lib.hid hdv
                have EI := Lib.hid (show wrap64 ((i : Int) + 1) = ((p + (d + 1) : Nat) : Int) from (IntWalk.wrap64_in _ ⟨by clear eq; omega, by have := HN.out; clear eq; omega⟩).trans (by clear eq; omega))
                clear hx hst f3 hi hdv hd
                cases bf <;> cases bx
                all_goals
                  go_wp2
                  clear eq
                  exact ⟨⟨d + 1, HDV.out, congrArg (Value.int .i64) EI.out, congrArg Value.bool (by rw [HST.out]; rfl), by (repeat' (first | with_reducible exact Ext.refl _ | with_reducible refine Ext.ext ?_ _ | with_reducible refine Ext.alloc ?_ _ | with_reducible refine Ext.drew ?_ | with_reducible refine Ext.drewN ?_ _ | with_reducible assumption))⟩, by rw [EI.out]; have := HDV.out; have := HI.out; simp only [intOf]; omega⟩
              · obtain rfl : d = V := by clear eq; omega
                have i3 : decide ((i : Int) < (Q : Int)) = false := decide_eq_false (by have := HQ.out; clear eq; omega)
                have i3' : decide (i < Q) = false := decide_eq_false (by have := HQ.out; clear eq; omega)
                obtain ⟨bf, f3⟩ : ∃ b, inB (win l p d) (k : Int) = b := ⟨_, rfl⟩
                have HF3 := Lib.hid f3
                rw [f3]
                clear hi f3 hdv hd
                cases bf
                · have HR := Lib.hid (GO.out p k HLP.out.1 HKK.out.1 (fun h => by rw [inB_iff.2 h] at HF3; exact absurd HF3.out (by decide)) HIN.out HFU.out)
                  go_wp2
                  go_returns
                  exact ⟨_, _, rett rfl rfl, HR.out, by (repeat' (first | with_reducible exact Ext.refl _ | with_reducible refine Ext.ext ?_ _ | with_reducible refine Ext.alloc ?_ _ | with_reducible refine Ext.drew ?_ | with_reducible refine Ext.drewN ?_ _ | with_reducible assumption))⟩
                · go_wp2
                  clear eq
                  exact ⟨⟨k + 1, by have := HKK.out; omega, HKK.out.1, congrArg (Value.int .i64) EK.out, fun j hj => by
                    rcases Nat.lt_or_ge j k with h | h
                    · exact HIN.out j h
                    · obtain rfl : j = k := by omega
                      exact inB_iff.1 HF3.out, by (repeat' (first | with_reducible exact Ext.refl _ | with_reducible refine Ext.ext ?_ _ | with_reducible refine Ext.alloc ?_ _ | with_reducible refine Ext.drew ?_ | with_reducible refine Ext.drewN ?_ _ | with_reducible assumption))⟩, by rw [EK.out]; have := HKK.out; simp only [intOf]; omega⟩
          · have HFP := Lib.hid (show Full l TN V p by
              rcases Nat.lt_or_ge k TN with h | h
              · have := pig k (win l p V) HIN.out
                rw [win_len HLP.out.1] at this
                omega
              · intro j hj
                exact HIN.out j (by omega))
            obtain ⟨y1b, y1⟩ : ∃ b, decide ((k : Int) < T) = b := ⟨_, rfl⟩
            have y2 : decide ((k : Int) < T) = true → decide ((k : Int) ≤ (V : Int)) = false ∧ decide (k ≤ V) = false := fun h => by
              have := of_decide_eq_true h
              have := HTN.out
              exact ⟨decide_eq_false (by omega), decide_eq_false (by omega)⟩
            have HEND := Lib.hid (show ∀ q, q < p + 1 → Full l TN V q from fun q hq => by
              rcases Nat.lt_or_ge q p with h | h
              · exact HFU.out q h
              · obtain rfl : q = p := by omega
                exact HFP.out)
            clear hk1 hk2 hkk
            cases y1b
            · clear y2
              go_wp2
              exact ⟨⟨p + 1, HLP.out.2, congrArg (Value.int .i64) EP.out, HEND.out, by (repeat' (first | with_reducible exact Ext.refl _ | with_reducible refine Ext.ext ?_ _ | with_reducible refine Ext.alloc ?_ _ | with_reducible refine Ext.drew ?_ | with_reducible refine Ext.drewN ?_ _ | with_reducible assumption))⟩, by rw [EP.out]; have := HLP.out; simp only [intOf]; omega⟩
            · obtain ⟨y3, y4⟩ := y2 y1
              clear y2
              go_wp2
              exact ⟨⟨p + 1, HLP.out.2, congrArg (Value.int .i64) EP.out, HEND.out, by (repeat' (first | with_reducible exact Ext.refl _ | with_reducible refine Ext.ext ?_ _ | with_reducible refine Ext.alloc ?_ _ | with_reducible refine Ext.drew ?_ | with_reducible refine Ext.drewN ?_ _ | with_reducible assumption))⟩, by rw [EP.out]; have := HLP.out; simp only [intOf]; omega⟩
      · have z1 : decide ((p : Int) ≤ (D : Int)) = false := decide_eq_false (by clear ed; omega)
        have z2 : decide (p ≤ D) = false := decide_eq_false hlt
        have HR := Lib.hid (NO.out (fun q hq => HFU.out q (by have := HD.out; have := HV.out; clear ed; omega)))
        clear hfull
        go_wp2
        go_returns
        exact ⟨-1, -1, rett rfl rfl, HR.out, by (repeat' (first | with_reducible exact Ext.refl _ | with_reducible refine Ext.ext ?_ _ | with_reducible refine Ext.alloc ?_ _ | with_reducible refine Ext.drew ?_ | with_reducible refine Ext.drewN ?_ _ | with_reducible assumption))⟩
end Go.Proofs.Ytgjolablgcnlmaa
