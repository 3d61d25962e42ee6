/- Fair: Left, Fair. -/
import Derived.Test.YtgjolablgcnlmaaFaP
namespace Go.Proofs.Ytgjolablgcnlmaa
set_option linter.unusedSimpArgs false
set_option linter.unusedVariables false
open Go.RowKit Go.Maps

theorem MapF.mono {w : World} {b n m : Nat} {f : Int → Int} (h : MapF w b n f) (hn : n ≤ m) : MapF w b m f := by
  obtain ⟨D, h, k⟩ := h
  exact ⟨D, h.mono hn, k⟩
theorem Cn.mono {w0 w : World} {p b n m : Nat} {s : Int} {f : Int → Int} (h : Cn w0 w p b n s f) (hn : n ≤ m) : Cn w0 w p b m s f :=
  ⟨h.1, h.2.1, h.2.2.1, h.2.2.2.1, h.2.2.2.2.1, h.2.2.2.2.2.mono hn⟩
theorem Cn.as {w0 w : World} {p b n : Nat} {s s' : Int} {f f' : Int → Int} (h : Cn w0 w p b n s f) (hs : s = s') (hf : f = f') : Cn w0 w p b n s' f' := hs ▸ hf ▸ h
/-- The counts behind some picks. -/
def At (l : List Int) (T w i : Nat) (w0 W : World) (p b : Nat) : Prop := Cn w0 W p b (2 * i) (cov T (cntF (tl l i w)) : Int) (cntF (tl l i w))
theorem at_start {w0 w : World} (hx : Ext w0 w) (l : List Int) (T v : Nat) : At l T v 0 w0 ((w.alloc (.map #[] 0)).alloc (.cells #[.map (some w.heap.size), .int .i64 0] 55)) (w.heap.size + 1) w.heap.size := by
  have hs : w0.heap.size ≤ w.heap.size := by obtain ⟨x, rfl⟩ := hx; simp
  have e : tl l 0 v = [] := by unfold tl; simp
  unfold At
  rw [e]
  have ec : cov T (cntF []) = 0 := by
    unfold cov
    rw [List.countP_eq_zero]
    intro k _
    simp [cntF]
  rw [ec]
  refine ⟨(hx.alloc _).alloc _, by omega, hs, by omega, ?_, ?_⟩
  · have := heap_alloc_new (w.alloc (.map #[] 0)) (.cells #[.map (some w.heap.size), .int .i64 0] 55)
    rw [World.size_alloc] at this
    exact this
  · have h1 := MapF.made w
    have h2 := h1.kept (w' := (w.alloc (.map #[] 0)).alloc (.cells #[.map (some w.heap.size), .int .i64 0] 55)) (row := none) (World.grownBy_alloc _ _ none) (by simp)
    exact h2
theorem in_at {l : List Int} {T V i : Nat} {w0 w : World} {p b : Nat} (h : At l T V i w0 w p b) (hi : i < l.length) (hl : l.length ≤ 1000000) (hT : (T : Int) ≤ 9223372036854775807) {x : Int} (hx : 0 ≤ x ∧ x < T) :
    Calls Try.prog 28 #[.pointer (some ⟨p, 0, none⟩), .int .i64 x] w fun e w' => e = .returned (.tuple #[]) ∧ Cn w0 w' p b (2 * i + 1) (cov T (cntF (tl l i V ++ [x])) : Int) (cntF (tl l i V ++ [x])) := by
  have hci := cov_in (f := cntF (tl l i V)) hx.1 hx.2 (cntF_nn _ _)
  rw [cntF_in] at hci
  have hle := cov_le T (cntF (tl l i V ++ [x]))
  have hlen := tl_len l i V
  have hf := cntF_le (tl l i V) x
  refine (in_any h (by omega) x ⟨by omega, by omega⟩ ⟨by omega, fun h0 => by rw [if_pos h0] at hci; omega⟩ ⟨cntF_nn _ _, by omega⟩).mono ?_
  rintro e w' ⟨h1, h2⟩
  rw [cntF_in, ← hci] at h2
  exact ⟨h1, h2⟩
theorem out_at {W : List Int} {T n : Nat} {w0 w : World} {p b : Nat} {y : Int} (h : Cn w0 w p b n (cov T (cntF (y :: W)) : Int) (cntF (y :: W))) (hn : n < 1073741823) (hl : W.length ≤ 1000000) (hT : (T : Int) ≤ 9223372036854775807) (hy : 0 ≤ y ∧ y < T) :
    Calls Try.prog 29 #[.pointer (some ⟨p, 0, none⟩), .int .i64 y] w fun e w' => e = .returned (.tuple #[]) ∧ Cn w0 w' p b (n + 1) (cov T (cntF W) : Int) (cntF W) := by
  have h1 : 1 ≤ cntF (y :: W) y := by have := (cntF_pos (W := y :: W) (k := y)).2 List.mem_cons_self; omega
  have hco := cov_out (f := cntF (y :: W)) hy.1 hy.2 h1
  rw [cntF_out] at hco
  have hle := cov_le T (cntF (y :: W))
  have hf := cntF_le (y :: W) y
  rw [List.length_cons] at hf
  refine (out_any h hn y ⟨by omega, by omega⟩ ⟨fun h0 => by rw [if_pos h0] at hco; omega, by omega⟩ ⟨h1, by omega⟩).mono ?_
  rintro e w' ⟨h1, h2⟩
  rw [cntF_out, ← hco] at h2
  exact ⟨h1, h2⟩
set_option maxRecDepth 100000 in
set_option maxHeartbeats 8000000 in
theorem left_any (l : List Int) (a : Option Addr) (c : Nat) (T v : Int) (w : World) (h : Ri w .i64 (.slice a l.length c) l) (hn : l.length ≤ 1000000) (hT : T ≤ 9223372036854775807) :
    Calls Try.prog 18 #[.slice a l.length c, .int .i64 T, .int .i64 v] w fun e w' => ∃ p k, e = .returned (.tuple #[.int .i64 p, .int .i64 k]) ∧ LeftIs l T v p k ∧ Ext w w' := by
  have SC := Lib.hid (fun W (hx : Ext w W) => schedule_any l a c T W (h.of_ext hx) (by omega))
  have H := Lib.hid h
  have HN := Lib.hid hn
  obtain ⟨bs, fs⟩ : ∃ b, schedB l T = b := ⟨_, rfl⟩
  rw [fs] at SC
  have HS := Lib.hid fs
  obtain ⟨b1, f1⟩ : ∃ b, decide (v < 1) = b := ⟨_, rfl⟩
  obtain ⟨b2, f2⟩ : ∃ b, decide ((l.length : Int) < v) = b := ⟨_, rfl⟩
  by_cases hg : (bs && (!b1 && !b2)) = true
  rotate_left
  · have HB := Lib.hid (show LeftIs l T v (-1) (-1) from .inr ⟨rfl, rfl, fun ⟨g1, g2, g3⟩ => absurd (by
      rw [← fs, ← f1, ← f2, g1, decide_eq_false (show ¬ v < 1 by omega), decide_eq_false (show ¬ (l.length : Int) < v by omega)]; rfl) hg⟩)
    clear h hn fs
    cases bs <;> cases b1 <;> cases b2 <;> first | (exfalso; simp at hg; done) | skip
    all_goals
      clear hg
      go_enter Try.func18, Try.ntmps18
      go_wp2_with (go_at_call 27; (with_reducible refine (SC.out _ (by (repeat' (first | with_reducible exact Ext.refl _ | with_reducible refine Ext.ext ?_ _ | with_reducible refine Ext.alloc ?_ _ | with_reducible refine Ext.drew ?_ | with_reducible refine Ext.drewN ?_ _ | with_reducible assumption)))).mono ?_); rintro e w' ⟨rfl, x1, rfl⟩)
      go_returns
      exact ⟨-1, -1, rett rfl rfl, HB.out, by (repeat' (first | with_reducible exact Ext.refl _ | with_reducible refine Ext.ext ?_ _ | with_reducible refine Ext.alloc ?_ _ | with_reducible refine Ext.drew ?_ | with_reducible refine Ext.drewN ?_ _ | with_reducible assumption))⟩
  · simp only [Bool.and_eq_true, Bool.not_eq_true'] at hg
    obtain ⟨rfl, rfl, rfl⟩ := hg
    have g1 : 1 ≤ v := by have := of_decide_eq_false f1; omega
    have g2 : v ≤ l.length := by have := of_decide_eq_false f2; omega
    obtain ⟨V, rfl⟩ : ∃ V : Nat, v = V := ⟨v.toNat, by omega⟩
    obtain ⟨hT1, hall⟩ := sched_at HS.out
    obtain ⟨TN, hTN⟩ : ∃ TN : Nat, T = TN := ⟨T.toNat, by omega⟩
    have v1 : 1 ≤ V := by omega
    have v2 : V ≤ l.length := by omega
    have HV := Lib.hid (And.intro v1 v2)
    have HALL := Lib.hid hall
    have HTB := Lib.hid hT
    have hmm := @run_makeMap Try.prog
    have GO := Lib.hid (show ∀ p k : Nat, p + V ≤ l.length → k < TN → (k : Int) ∉ win l p V → (∀ j : Nat, j < k → (j : Int) ∈ win l p V) → (∀ q, q < p → Full l TN V q) → LeftIs l T V p k from fun p k h1 h2 h3 h4 h5 => .inl ⟨⟨HS.out, by omega, by omega⟩, p, k, rfl, rfl, by simpa using h1, by rw [hTN]; simpa using h2, by simpa using h3, by simpa using h4, by rw [hTN]; simpa using h5⟩)
    have NO := Lib.hid (show (∀ q, q + V ≤ l.length → Full l TN V q) → LeftIs l T V (-1) (-1) from fun h => .inr ⟨rfl, rfl, fun _ => by rw [hTN]; simpa using h⟩)
    have HTN := Lib.hid hTN
    have f2' : decide (l.length < V) = false := decide_eq_false (by omega)
    have m1 : (1 : Int) ≤ V := by omega
    have m2 : (V : Int) ≤ l.length := by omega
    clear h fs g1 g2 hT1 hall hTN hn hT
    go_enter Try.func18, Try.ntmps18
    go_wp2_with (go_at_call 27; (with_reducible refine (SC.out _ (by (repeat' (first | with_reducible exact Ext.refl _ | with_reducible refine Ext.ext ?_ _ | with_reducible refine Ext.alloc ?_ _ | with_reducible refine Ext.drew ?_ | with_reducible refine Ext.drewN ?_ _ | with_reducible assumption)))).mono ?_); rintro e w' ⟨rfl, x1, rfl⟩)
    have ST := Lib.hid (at_start (w0 := w) (w := ext w x1) (by (repeat' (first | with_reducible exact Ext.refl _ | with_reducible refine Ext.ext ?_ _ | with_reducible refine Ext.alloc ?_ _ | with_reducible refine Ext.drew ?_ | with_reducible refine Ext.drewN ?_ _ | with_reducible assumption))) l TN V)
    simp only [size_ext] at ST
    generalize hp : w.heap.size + x1.hs.length = B at *
    clear hp
    go_loopw [31] (fun si wr => ∃ i : Nat, i ≤ l.length ∧ si = .int .i64 i ∧ At l TN V i w wr (B + 1) B ∧ ∀ q, q + V ≤ i → Full l TN V q) (fun si _ => l.length - (intOf si).toNat)
    case atStart => exact ⟨0, by omega, rfl, ST.out, fun q hq => by omega⟩
    case round =>
      obtain ⟨i, hi, rfl, hat, hfull⟩ := hrel
      obtain ⟨w3, hw3⟩ : ∃ x, x = wr := ⟨_, rfl⟩
      subst hw3
      have HAT := Lib.hid hat
      have HFU := Lib.hid hfull
      clear hat hfull ST
      by_cases hlt : i < l.length
      · obtain ⟨x, hx⟩ : ∃ x, l[i]? = some x := ⟨l[i], List.getElem?_eq_getElem _⟩
        have hxb := HALL.out x (List.mem_of_getElem? hx)
        rw [HTN.out] at hxb
        obtain ⟨b0, off, rfl⟩ : ∃ b off, a = some ⟨b, off, none⟩ := by obtain ⟨b, off, e, -⟩ := Rd.cells H.out (by omega); exact ⟨b, off, e⟩
        have q0 := ri_at (H.out.of_ext HAT.out.1) hx
        have TB := Lib.hid (show (TN : Int) ≤ 9223372036854775807 by have := HTB.out; have := HTN.out; omega)
        have INA := Lib.hid (in_at HAT.out hlt HN.out TB.out hxb)
        have i1 : (0 : Int) ≤ i := by omega
        have i2 : (i : Int) < l.length := by omega
        have EI := Lib.hid (show wrap64 ((i : Int) + 1) = ((i + 1 : Nat) : Int) from (IntWalk.wrap64_in _ ⟨by omega, by have := HN.out; omega⟩).trans (by omega))
        obtain ⟨U, hU⟩ : ∃ U, V = U + 1 := ⟨V - 1, by have := HV.out; omega⟩
        have HU := Lib.hid hU
        have EV := Lib.hid (show wrap64 ((V : Int) - 1) = (U : Int) from (IntWalk.wrap64_in _ ⟨by omega, by have := HN.out; have := HV.out; omega⟩).trans (by omega))
        have HX := Lib.hid hx
        clear hx hxb hU
        rcases Nat.lt_trichotomy (i + 1) V with hA | hB | hC
        · have z1 : decide ((V : Int) ≤ (i : Int)) = false := decide_eq_false (by omega)
          have z2 : decide (V ≤ i) = false := decide_eq_false (by omega)
          have z3 : decide ((i : Int) < (U : Int)) = true := decide_eq_true (by have := HU.out; omega)
          have z4 : decide (i < U) = true := decide_eq_true (by have := HU.out; omega)
          have ev := EV.out
          go_wp2_with (go_at_call 28; (with_reducible refine (INA.out).mono ?_); rintro e w4 ⟨rfl, hc⟩; have HC4 := Lib.hid hc; clear hc)
          clear ev
          exact nat_up (P := fun i => At l TN V i w w4 (B + 1) B ∧ ∀ q, q + V ≤ i → Full l TN V q) EI.out hlt ⟨(HC4.out.mono (by omega)).as (by rw [← tl_in HX.out (by omega)]) (by rw [← tl_in HX.out (by omega)]), fun q hq => by omega⟩
        · have z1 : decide ((V : Int) ≤ (i : Int)) = false := decide_eq_false (by omega)
          have z2 : decide (V ≤ i) = false := decide_eq_false (by omega)
          have z3 : decide ((i : Int) < (U : Int)) = false := decide_eq_false (by have := HU.out; omega)
          have z4 : decide (i < U) = false := decide_eq_false (by have := HU.out; omega)
          have HIV := Lib.hid (show V ≤ i + 1 by omega)
          have HIL := Lib.hid (show i < V ∧ 2 * i + 1 ≤ 2 * (i + 1) by omega)
          have HPI := Lib.hid (show ((i + 1 - V : Nat) : Int) = 0 by omega)
          have EZ := Lib.hid (show wrap64 ((i : Int) - V) = -1 from (IntWalk.wrap64_in _ ⟨by omega, by omega⟩).trans (by omega))
          have EZ2 := Lib.hid (show True from trivial)
          obtain ⟨bq, hbq⟩ : ∃ b, ((cov TN (cntF (tl l (i + 1) V)) : Int) == T) = b := ⟨_, rfl⟩
          have HBQ := Lib.hid (show bq = true ↔ ∀ k : Nat, k < TN → 0 < cntF (tl l (i + 1) V) (k : Int) by
            rw [← hbq, HTN.out, beq_iff_eq, ← cov_all]
            omega)
          clear hB
          cases bq
          · have hex : ∃ k : Nat, k < TN ∧ ¬ 0 < cntF (tl l (i + 1) V) (k : Int) := Classical.byContradiction fun hno => absurd (HBQ.out.2 (fun k hk => Classical.byContradiction fun h => hno ⟨k, hk, h⟩)) (by decide)
            obtain ⟨K0, hK0, hK0'⟩ := hex
            obtain ⟨K, hK, hK1, hK2⟩ := least_of (p := fun k : Nat => ¬ 0 < cntF (tl l (i + 1) V) (k : Int)) hK0'
            have HK := Lib.hid (And.intro (show K < TN by omega) (And.intro hK1 hK2))
            have HKB := Lib.hid (show (K : Int) ≤ 9223372036854775807 by have := HTB.out; have := HTN.out; omega)
            clear hK0 hK0' hK hK1 hK2
            have ev := EV.out
            have ez := EZ.out
            have ez2 := EZ2.out
            go_wp2_with (go_at_call 28; (with_reducible refine (INA.out).mono ?_); rintro e w5 ⟨rfl, hc⟩; have hc5 : At l TN V (i + 1) w w5 (B + 1) B := (hc.mono HIL.out.2).as (by rw [← tl_in HX.out HIL.out.1]) (by rw [← tl_in HX.out HIL.out.1]); obtain ⟨c0, c1, -⟩ := hc5.cells; have HC5 := Lib.hid hc5; clear hc hc5)
            clear ev ez ez2
            go_loopw [11] (fun sk wr => ∃ k : Nat, k ≤ K ∧ sk = .int .i64 k ∧ wr = w5) (fun sk _ => K - (intOf sk).toNat)
            case atStart => exact ⟨0, by omega, rfl, rfl⟩
            case round =>
              obtain ⟨k, hk, rfl, rfl⟩ := hrel
              obtain ⟨d0, d1, -⟩ := HC5.out.cells
              have lk := HC5.out.2.2.2.2.2.look (x := (k : Int)) ⟨by omega, by have := HKB.out; omega⟩
              by_cases hlt2 : k < K
              · have pk : 0 < cntF (tl l (i + 1) V) (k : Int) := HK.out.2.2 k hlt2
                have EK := Lib.hid (show wrap64 ((k : Int) + 1) = ((k + 1 : Nat) : Int) from (IntWalk.wrap64_in _ ⟨by omega, by have := HKB.out; omega⟩).trans (by omega))
                generalize cntF (tl l (i + 1) V) (k : Int) = q at *
                go_wp2
                exact nat_up (P := fun _ => True) EK.out hlt2 trivial
              · obtain rfl : k = K := by omega
                have pk : cntF (tl l (i + 1) V) (k : Int) = 0 := by have := HK.out.2.1; have := cntF_nn (tl l (i + 1) V) (k : Int); omega
                rw [pk] at lk
                have HP := Lib.hid (tl_win (l := l) (i := i + 1) (w := V) HIV.out (by omega))
                have HR := Lib.hid (GO.out (i + 1 - V) k (by have := HIV.out; omega) HK.out.1 (by rw [← HP.out]; intro hm; have := cntF_pos.2 hm; omega) (fun j hj => by rw [← HP.out]; exact cntF_pos.1 (HK.out.2.2 j hj)) (fun q hq => HFU.out q (by have := HIV.out; omega)))
                clear pk
                have ev := EV.out
                have ez := EZ.out
                have ez2 := EZ2.out
                go_wp2
                go_returns
                exact ⟨_, _, rett rfl rfl, by first | exact HR.out | (have := HR.out; rw [HPI.out] at this; first | exact this | (rw [EZ2.out]; exact this)), HC5.out.1⟩
          · have ev := EV.out
            have ez := EZ.out
            have ez2 := EZ2.out
            go_wp2_with (go_at_call 28; (with_reducible refine (INA.out).mono ?_); rintro e w5 ⟨rfl, hc⟩; have hc5 : At l TN V (i + 1) w w5 (B + 1) B := (hc.mono HIL.out.2).as (by rw [← tl_in HX.out HIL.out.1]) (by rw [← tl_in HX.out HIL.out.1]); obtain ⟨c0, c1, -⟩ := hc5.cells; have HC5 := Lib.hid hc5; clear hc hc5)
            clear ev ez ez2
            exact nat_up (P := fun i => At l TN V i w w5 (B + 1) B ∧ ∀ q, q + V ≤ i → Full l TN V q) EI.out hlt ⟨HC5.out, fun q hq => by
              rcases Nat.lt_or_ge i (q + V) with h | h
              · obtain rfl : q = i + 1 - V := by have := HIV.out; omega
                intro k hk
                rw [← tl_win HIV.out (by omega)]
                exact cntF_pos.1 (HBQ.out.1 (by first | rfl | trivial) k hk)
              · exact HFU.out q h⟩
        · have z1 : decide ((V : Int) ≤ (i : Int)) = true := decide_eq_true (by omega)
          have z2 : decide (V ≤ i) = true := decide_eq_true (by omega)
          have z3 : decide ((i : Int) < (U : Int)) = false := decide_eq_false (by have := HU.out; omega)
          have z4 : decide (i < U) = false := decide_eq_false (by have := HU.out; omega)
          have HIV := Lib.hid (show V ≤ i + 1 by omega)
          have HIL := Lib.hid (show 2 * i + 1 + 1 ≤ 2 * (i + 1) by omega)
          obtain ⟨m, hm⟩ : ∃ m, m = i - V := ⟨_, rfl⟩
          have HPI := Lib.hid (show ((i + 1 - V : Nat) : Int) = (m : Int) + 1 by omega)
          obtain ⟨y, hy⟩ : ∃ y, l[m]? = some y := ⟨l[m]'(by omega), List.getElem?_eq_getElem _⟩
          have hyb := HALL.out y (List.mem_of_getElem? hy)
          rw [HTN.out] at hyb
          have EZ := Lib.hid (show wrap64 ((i : Int) - V) = (m : Int) from (IntWalk.wrap64_in _ ⟨by have := HN.out; omega, by have := HN.out; omega⟩).trans (by omega))
          have EZ2 := Lib.hid (show wrap64 ((m : Int) + 1) = (m : Int) + 1 from IntWalk.wrap64_in _ ⟨by omega, by have := HN.out; omega⟩)
          have n1 : (0 : Int) ≤ m := by omega
          have n2 : (m : Int) < l.length := by omega
          have HTO := Lib.hid (tl_out HX.out (show V ≤ i by omega) HV.out.1 (by rw [← hm]; exact hy))
          have OUT := Lib.hid (fun W (h : Cn w W (B + 1) B (2 * i + 1) (cov TN (cntF (y :: tl l (i + 1) V)) : Int) (cntF (y :: tl l (i + 1) V))) => out_at h (by have := HN.out; omega) (by have := tl_len l (i + 1) V; have := HN.out; omega) TB.out hyb)
          have HY := Lib.hid hy
          obtain ⟨bq, hbq⟩ : ∃ b, ((cov TN (cntF (tl l (i + 1) V)) : Int) == T) = b := ⟨_, rfl⟩
          have HBQ := Lib.hid (show bq = true ↔ ∀ k : Nat, k < TN → 0 < cntF (tl l (i + 1) V) (k : Int) by
            rw [← hbq, HTN.out, beq_iff_eq, ← cov_all]
            omega)
          clear hC hm hy hyb
          cases bq
          · have hex : ∃ k : Nat, k < TN ∧ ¬ 0 < cntF (tl l (i + 1) V) (k : Int) := Classical.byContradiction fun hno => absurd (HBQ.out.2 (fun k hk => Classical.byContradiction fun h => hno ⟨k, hk, h⟩)) (by decide)
            obtain ⟨K0, hK0, hK0'⟩ := hex
            obtain ⟨K, hK, hK1, hK2⟩ := least_of (p := fun k : Nat => ¬ 0 < cntF (tl l (i + 1) V) (k : Int)) hK0'
            have HK := Lib.hid (And.intro (show K < TN by omega) (And.intro hK1 hK2))
            have HKB := Lib.hid (show (K : Int) ≤ 9223372036854775807 by have := HTB.out; have := HTN.out; omega)
            clear hK0 hK0' hK hK1 hK2
            have ev := EV.out
            have ez := EZ.out
            have ez2 := EZ2.out
            go_wp2_with (first | (go_at_call 28; (with_reducible refine (INA.out).mono ?_); rintro e w4 ⟨rfl, hc⟩; have q4 := ri_at (H.out.of_ext hc.1) HY.out; rw [HTO.out] at hc; have HC4 := Lib.hid hc; clear hc) | (go_at_call 29; (with_reducible refine (OUT.out _ HC4.out).mono ?_); rintro e w5 ⟨rfl, hc⟩; have hc5 : At l TN V (i + 1) w w5 (B + 1) B := hc.mono HIL.out; obtain ⟨c0, c1, -⟩ := hc5.cells; have HC5 := Lib.hid hc5; clear hc hc5))
            clear ev ez ez2
            go_loopw [11] (fun sk wr => ∃ k : Nat, k ≤ K ∧ sk = .int .i64 k ∧ wr = w5) (fun sk _ => K - (intOf sk).toNat)
            case atStart => exact ⟨0, by omega, rfl, rfl⟩
            case round =>
              obtain ⟨k, hk, rfl, rfl⟩ := hrel
              obtain ⟨d0, d1, -⟩ := HC5.out.cells
              have lk := HC5.out.2.2.2.2.2.look (x := (k : Int)) ⟨by omega, by have := HKB.out; omega⟩
              by_cases hlt2 : k < K
              · have pk : 0 < cntF (tl l (i + 1) V) (k : Int) := HK.out.2.2 k hlt2
                have EK := Lib.hid (show wrap64 ((k : Int) + 1) = ((k + 1 : Nat) : Int) from (IntWalk.wrap64_in _ ⟨by omega, by have := HKB.out; omega⟩).trans (by omega))
                generalize cntF (tl l (i + 1) V) (k : Int) = q at *
                go_wp2
                exact nat_up (P := fun _ => True) EK.out hlt2 trivial
              · obtain rfl : k = K := by omega
                have pk : cntF (tl l (i + 1) V) (k : Int) = 0 := by have := HK.out.2.1; have := cntF_nn (tl l (i + 1) V) (k : Int); omega
                rw [pk] at lk
                have HP := Lib.hid (tl_win (l := l) (i := i + 1) (w := V) HIV.out (by omega))
                have HR := Lib.hid (GO.out (i + 1 - V) k (by have := HIV.out; omega) HK.out.1 (by rw [← HP.out]; intro hm; have := cntF_pos.2 hm; omega) (fun j hj => by rw [← HP.out]; exact cntF_pos.1 (HK.out.2.2 j hj)) (fun q hq => HFU.out q (by have := HIV.out; omega)))
                clear pk
                have ev := EV.out
                have ez := EZ.out
                have ez2 := EZ2.out
                go_wp2
                go_returns
                exact ⟨_, _, rett rfl rfl, by first | exact HR.out | (have := HR.out; rw [HPI.out] at this; first | exact this | (rw [EZ2.out]; exact this)), HC5.out.1⟩
          · have ev := EV.out
            have ez := EZ.out
            have ez2 := EZ2.out
            go_wp2_with (first | (go_at_call 28; (with_reducible refine (INA.out).mono ?_); rintro e w4 ⟨rfl, hc⟩; have q4 := ri_at (H.out.of_ext hc.1) HY.out; rw [HTO.out] at hc; have HC4 := Lib.hid hc; clear hc) | (go_at_call 29; (with_reducible refine (OUT.out _ HC4.out).mono ?_); rintro e w5 ⟨rfl, hc⟩; have hc5 : At l TN V (i + 1) w w5 (B + 1) B := hc.mono HIL.out; obtain ⟨c0, c1, -⟩ := hc5.cells; have HC5 := Lib.hid hc5; clear hc hc5))
            clear ev ez ez2
            exact nat_up (P := fun i => At l TN V i w w5 (B + 1) B ∧ ∀ q, q + V ≤ i → Full l TN V q) EI.out hlt ⟨HC5.out, fun q hq => by
              rcases Nat.lt_or_ge i (q + V) with h | h
              · obtain rfl : q = i + 1 - V := by have := HIV.out; omega
                intro k hk
                rw [← tl_win HIV.out (by omega)]
                exact cntF_pos.1 (HBQ.out.1 (by first | rfl | trivial) k hk)
              · exact HFU.out q h⟩
      · obtain rfl : i = l.length := by omega
        have HR := Lib.hid (NO.out HFU.out)
        go_wp2
        go_returns
        exact ⟨-1, -1, rett rfl rfl, HR.out, HAT.out.1⟩
end Go.Proofs.Ytgjolablgcnlmaa
