/- Prog: Run's contract. -/
import Derived.Test.YtddckdlkopohhaaPr8
namespace Go.Proofs.Ytddckdlkopohhaa
set_option linter.unusedSimpArgs false
set_option linter.unusedVariables false
open Go.RowKit

theorem own_one (w : World) (b : Nat) (e : TypeId) (x y : Value) (hb : b ≤ w.heap.size) : (w.alloc (.cells #[x, y] e)).ownsRow b e 2 (.slice (some ⟨w.heap.size, 0, none⟩) 1 1) 1 [x, y] :=
  ⟨rfl, .inr ⟨_, 1, #[x, y], rfl, hb, heap_alloc_new w _, Nat.le_refl _, by decide, rfl, rfl⟩⟩
theorem own_one' (w : World) (b : Nat) (e : TypeId) (x y : Value) (g : Nat) (hg : g = w.heap.size) (hb : b ≤ w.heap.size) : (w.alloc (.cells #[x, y] e)).ownsRow b e 2 (.slice (some ⟨g, 0, none⟩) 1 1) 1 [x, y] := by
  subst hg
  exact own_one w b e x y hb
theorem mach_first (W : World) (K V : Int) : Mach W [] (m0 K V) (W.alloc (.cells #[.int .i64 K, .int .i64 V, .slice none 0 0, .slice none 0 0, .int .i64 0, .int .i64 0] 42)) :=
  ⟨_, _, ⟨[], (W.alloc (.cells #[.int .i64 K, .int .i64 V, .slice none 0 0, .slice none 0 0, .int .i64 0, .int .i64 0] 42)).drawn⟩, (ext_zero _).symm, World.ownsRow_nil _ _ _ _, World.ownsRow_nil _ _ _ _, .inl rfl, fun _ hq => by cases hq⟩
/-- What 'Run' is to answer. -/
def RunEnd (w : World) (r : List (Int × Int) × Int) (e : Ending) (w' : World) : Prop :=
  ∃ a c, e = .returned (.tuple #[.slice a r.1.length c, .int .i64 r.2]) ∧ Ext w w' ∧ w'.ownsRow w.heap.size 24 2 (.slice a r.1.length c) r.1.length (recs r.1)
theorem run_no (ps : List (Int × Int)) (v : Value) (K V : Int) (w : World) (h : Rd w 2 ps.length v (recs ps)) (hl : ps.length ≤ 1000) (hr : rightP ps = false) :
    Calls Try.prog 9 #[v, .agg #[.int .i64 K, .int .i64 V]] w (RunEnd w (runP ps K V)) := by
  have R := Lib.hid (fun w h => right_any ps v w h hl)
  rw [hr] at R
  have H := Lib.hid h
  rw [show runP ps K V = ([], 0) by unfold runP; rw [if_neg (by rw [hr]; decide)]]
  clear h hl hr
  go_enter Try.func9, Try.ntmps9
  go_wp2_with (go_at_call 11; refine (R.out _ (H.out.of_ext (by (repeat' (first | with_reducible exact Ext.refl _ | with_reducible refine Ext.ext ?_ _ | with_reducible refine Ext.alloc ?_ _ | with_reducible refine Ext.drew ?_ | with_reducible refine Ext.drewN ?_ _ | with_reducible assumption))))).mono ?_; rintro e w' ⟨rfl, z, rfl⟩)
  go_returns
  exact ⟨none, 0, rett rfl rfl, by (repeat' (first | with_reducible exact Ext.refl _ | with_reducible refine Ext.ext ?_ _ | with_reducible refine Ext.alloc ?_ _ | with_reducible refine Ext.drew ?_ | with_reducible refine Ext.drewN ?_ _ | with_reducible assumption)), World.ownsRow_nil _ _ _ _⟩
set_option maxHeartbeats 4000000 in
theorem run_yes (ps : List (Int × Int)) (v : Value) (K V : Int) (w : World) (h : Rd w 2 ps.length v (recs ps)) (hK : In64 K) (hV : In64 V) (hn : ∀ r ∈ ps, In64 r.2) (hr : rightP ps = true) :
    Calls Try.prog 9 #[v, .agg #[.int .i64 K, .int .i64 V]] w (RunEnd w (runP ps K V)) := by
  obtain ⟨hl, hins⟩ := right_ins hr
  have R := Lib.hid (fun w h => right_any ps v w h (by omega))
  rw [hr] at R
  have H := Lib.hid h
  have GS := Lib.hid (fun f m hm => runM_good ps K V hK hV hn hr f m hm)
  have hP : runP ps K V = outP (runM ps 256 (m0 K V)) := by unfold runP; rw [if_pos hr]
  rw [hP]
  have GST : Hid (∀ (j : Nat) (m : Mc) (op n : Int), ps[j]? = some (op, n) → m.p = j → Good ps.length K V m → Good ps.length K V (stepS twoS op n m)) := Lib.hid (fun j m op n hj hp hm => by
    have hlt := (List.getElem?_eq_some_iff.1 hj).1
    refine good_step hm hK hV op n (hn _ (List.mem_of_getElem? hj)) (by omega) (fun e => ?_)
    unfold rightP at hr
    simp only [Bool.and_eq_true, List.all_eq_true] at hr
    have ho := hr.2 _ (List.mem_of_getElem? hj)
    unfold okB at ho
    rw [if_pos e] at ho
    simp only [Bool.and_eq_true] at ho
    exact of_decide_eq_true ho.2)
  have G0 : Hid (Good ps.length K V (m0 K V)) := Lib.hid ⟨rfl, rfl, Nat.zero_le _, (fun _ hx => by cases hx), Nat.zero_le _, Int.le_refl 0, (Int.natCast_nonneg _), Int.le_refl 0, (by decide : (0 : Int) ≤ 5)⟩
  have INS := Lib.hid hins
  have HL := Lib.hid hl
  obtain ⟨a, c, rfl⟩ := h.form
  clear h hl hr hn hK hV hP hins
  generalize hlen : ps.length = n at *
  have HN := Lib.hid hlen
  clear hlen
  go_enter Try.func9, Try.ntmps9
  go_wp2_with (go_at_call 11; refine (R.out _ (H.out.of_ext (by (repeat' (first | with_reducible exact Ext.refl _ | with_reducible refine Ext.ext ?_ _ | with_reducible refine Ext.alloc ?_ _ | with_reducible refine Ext.drew ?_ | with_reducible refine Ext.drewN ?_ _ | with_reducible assumption))))).mono ?_; rintro e W ⟨rfl, hx⟩; have HX := Lib.hid hx; have hk : W.cell? ⟨w.heap.size, 0, none⟩ = some (.int .i64 K) := (by obtain ⟨z, rfl⟩ := hx; rw [cell_ext_a _ _ _ (by simp)]; simp); have hv : W.cell? ⟨w.heap.size, 1, none⟩ = some (.int .i64 V) := (by obtain ⟨z, rfl⟩ := hx; rw [cell_ext_a _ _ _ (by simp)]; simp); haveI : LtSz w.heap.size W.heap.size := ⟨by obtain ⟨z, rfl⟩ := hx; simp; omega⟩; clear hx)
  have M0 := Lib.hid (mach_first W K V)
  go_loopw [7] (fun f wr => ∃ (k : Nat) (m : Mc), k ≤ 256 ∧ f = .int .i64 k ∧ Mach W [] m wr ∧ Good n K V m ∧ runM ps 256 (m0 K V) = runM ps k m) (fun f _ => (intOf f).toNat)
  case atStart => exact ⟨256, m0 K V, Nat.le_refl _, rfl, M0.out, G0.out, rfl⟩
  case round =>
    obtain ⟨k, ⟨mk, mv, s, o, p, bad⟩, hk256, rfl, hm, hg, hrun⟩ := hrel
    obtain rfl : mk = K := hg.k
    obtain rfl : mv = V := hg.v
    obtain ⟨j, rfl⟩ : ∃ j : Nat, p = j := Int.eq_ofNat_of_zero_le hg.p0
    have HG := Lib.hid hg
    have HM := Lib.hid hm
    have HR := Lib.hid hrun
    obtain ⟨vs, vo, x, rfl, h1, h2, h3, h4⟩ := hm
    obtain ⟨oa, oc, rfl⟩ := (own_rd h2).form
    dsimp only [mbox] at h2 HM ⊢
    have HO := Lib.hid h2
    clear h1 h2 h3 h4 hg hrun
    have HS := Lib.hid (show w.heap.size ≤ W.heap.size by obtain ⟨z, rfl⟩ := HX.out; simp; omega)
    have HE : Hid (∀ b y, Ext w (ext (W.alloc b) y)) := Lib.hid (fun b y => ((((Ext.refl w).alloc _).trans HX.out).alloc b).ext y)
    by_cases c1 : (j : Int) < n
    · have hj : j < ps.length := by have := HN.out; omega
      obtain ⟨⟨op, m⟩, hr⟩ : ∃ r, ps[j]? = some r := ⟨ps[j], List.getElem?_eq_getElem hj⟩
      by_cases c2 : bad = 0
      · subst c2
        cases k with
        | zero =>
          have FIN : Hid (outP (runM ps 256 (m0 mk mv)) = ([(mk, -9223372036854775804)], 4)) := Lib.hid (by
            rw [HR.out]
            unfold runM
            rw [if_pos ⟨by dsimp only; have := HN.out; omega, rfl⟩]
            rfl)
          clear hr hj hk256
          go_wp2
          go_region
          all_goals
            go_wp2
            go_returns
            rw [RunEnd, FIN.out]
            refine ⟨_, _, rett rfl rfl, (HE.out _ _).alloc _, own_one' _ _ _ _ _ _ (by simp) (by have := HS.out; simp; omega)⟩
        | succ k =>
          have INS1 := Lib.hid (INS.out j op m hr)
          have HR1 : Hid (runM ps 256 (m0 mk mv) = runM ps k (stepS twoS op m ⟨mk, mv, s, o, j, 0⟩)) := Lib.hid (by
            rw [HR.out, runM, if_pos ⟨by dsimp only; have := HN.out; omega, rfl⟩]
            dsimp only
            rw [Int.toNat_natCast, INS1.out.2])
          have G1 := Lib.hid (GST.out j ⟨mk, mv, s, o, j, 0⟩ op m hr rfl HG.out)
          have ST := Lib.hid (fun w' h => step_any twoS W [] ⟨mk, mv, s, o, j, 0⟩ w' h HG.out.s HG.out.o ⟨HG.out.p0, by have := HG.out.p1; have := HL.out; dsimp only at *; omega⟩ op m INS1.out.1 (fun h4 h10 b a t hs w => two_any op a b h4 h10 (HG.out.i a (by dsimp only at hs ⊢; rw [hs]; simp)) (HG.out.i b (by dsimp only at hs ⊢; rw [hs]; simp)) w))
          obtain ⟨b, off, rfl, hc⟩ := H.out.cells (by omega)
          have d1 := hc _ _ (recs_get ps j _ hr).1
          have d2 : w.cell? ⟨b, off + j * 2 + 1, none⟩ = some (.int .i64 m) := by rw [Nat.add_assoc]; exact hc _ _ (recs_get ps j _ hr).2
          obtain ⟨y, hy⟩ := HE.out (.cells #[.int .i64 mk, .int .i64 mv, vs, .slice oa o.length oc, .int .i64 (j : Int), .int .i64 0] 42) x
          have q1 : (ext (W.alloc (.cells #[.int .i64 mk, .int .i64 mv, vs, .slice oa o.length oc, .int .i64 (j : Int), .int .i64 0] 42)) x).cell? ⟨b, off + j * 2, none⟩ = some (.int .i64 op) := by rw [hy, cell_ext_a _ _ _ (World.block_lt_of_cell? _ _ d1), d1]
          have q2 : (ext (W.alloc (.cells #[.int .i64 mk, .int .i64 mv, vs, .slice oa o.length oc, .int .i64 (j : Int), .int .i64 0] 42)) x).cell? ⟨b, off + j * 2 + 1, none⟩ = some (.int .i64 m) := by rw [hy, cell_ext_a _ _ _ (World.block_lt_of_cell? _ _ d2), d2]
          have i1 : (0 : Int) ≤ j := by omega
          have ek : (((k + 1 : Nat) : Int) == 0) = false := by simp; omega
          have ew : wrap64 (((k + 1 : Nat) : Int) - 1) = (k : Int) := (IntWalk.wrap64_in _ ⟨by omega, by omega⟩).trans (by omega)
          clear hc d1 d2 hr hj hy
          go_wp2_with (go_at_call 15; refine (ST.out _ HM.out).mono ?_; rintro e w' ⟨⟨u, rfl⟩, hm⟩; have HM1 := Lib.hid hm; clear hm)
          exact ⟨⟨k, _, by omega, rfl, HM1.out, G1.out, HR1.out⟩, by simp only [intOf]; omega⟩
      · have e2 : (bad == 0) = false := by simp [c2]
        have e3 : (bad != 0) = true := by simp [c2]
        have FIN : Hid (outP (runM ps 256 (m0 mk mv)) = ([(mk, -9223372036854775808 + bad)], bad)) := Lib.hid (by
          rw [HR.out, show runM ps k ⟨mk, mv, s, o, j, bad⟩ = ⟨mk, mv, s, o, j, bad⟩ by cases k <;> (unfold runM; rw [if_neg (fun h => c2 h.2)]), outP, if_neg c2])
        have ew : wrap64 (-9223372036854775808 + bad) = -9223372036854775808 + bad := IntWalk.wrap64_in _ ⟨by have := HG.out.b0; dsimp only at this; omega, by have := HG.out.b1; dsimp only at this; omega⟩
        clear hr hj hk256 c2
        go_wp2
        go_region
        all_goals
          go_wp2
          go_returns
          rw [RunEnd, FIN.out]
          refine ⟨_, _, rett rfl rfl, (HE.out _ _).alloc _, own_one' _ _ _ _ _ _ (by simp) (by have := HS.out; simp; omega)⟩
    · by_cases c2 : bad = 0
      · subst c2
        have FIN : Hid (outP (runM ps 256 (m0 mk mv)) = (o, 0)) := Lib.hid (by
          rw [HR.out, show runM ps k ⟨mk, mv, s, o, j, 0⟩ = ⟨mk, mv, s, o, j, 0⟩ by cases k <;> (unfold runM; rw [if_neg (fun h => c1 (by have := h.1; have := HN.out; dsimp only at *; omega))]), outP, if_pos rfl])
        go_wp2
        go_returns
        rw [RunEnd, FIN.out]
        exact ⟨oa, oc, rett rfl rfl, HE.out _ _, own_base HO.out (by have := HS.out; omega)⟩
      · have e2 : (bad == 0) = false := by simp [c2]
        have e3 : (bad != 0) = true := by simp [c2]
        have FIN : Hid (outP (runM ps 256 (m0 mk mv)) = ([(mk, -9223372036854775808 + bad)], bad)) := Lib.hid (by
          rw [HR.out, show runM ps k ⟨mk, mv, s, o, j, bad⟩ = ⟨mk, mv, s, o, j, bad⟩ by cases k <;> (unfold runM; rw [if_neg (fun h => c2 h.2)]), outP, if_neg c2])
        have ew : wrap64 (-9223372036854775808 + bad) = -9223372036854775808 + bad := IntWalk.wrap64_in _ ⟨by have := HG.out.b0; dsimp only at this; omega, by have := HG.out.b1; dsimp only at this; omega⟩
        clear hk256 c2
        go_wp2
        go_region
        all_goals
          go_wp2
          go_returns
          rw [RunEnd, FIN.out]
          refine ⟨_, _, rett rfl rfl, (HE.out _ _).alloc _, own_one' _ _ _ _ _ _ (by simp) (by have := HS.out; simp; omega)⟩
theorem run_any (ps : List (Int × Int)) (v : Value) (K V : Int) (w : World) (h : Rd w 2 ps.length v (recs ps)) (hl : ps.length ≤ 1000) (hK : In64 K) (hV : In64 V) (hn : ∀ r ∈ ps, In64 r.2) :
    Calls Try.prog 9 #[v, .agg #[.int .i64 K, .int .i64 V]] w (RunEnd w (runP ps K V)) := by
  cases hr : rightP ps with
  | false => exact run_no ps v K V w h hl hr
  | true => exact run_yes ps v K V w h hK hV hn hr
theorem runP_good (ps : List (Int × Int)) (K V : Int) (hK : In64 K) (hV : In64 V) (hn : ∀ r ∈ ps, In64 r.2) :
    (rightP ps = false ∧ runP ps K V = ([], 0)) ∨ (rightP ps = true ∧ (((runP ps K V).2 = 0 ∧ (runP ps K V).1.length ≤ 8) ∨ ∃ b, 1 ≤ b ∧ b ≤ 5 ∧ runP ps K V = ([(K, -9223372036854775808 + b)], b))) := by
  cases hr : rightP ps with
  | false => exact .inl ⟨rfl, by unfold runP; rw [hr]; rfl⟩
  | true =>
    refine .inr ⟨rfl, ?_⟩
    have hg := runM_good ps K V hK hV hn hr 256 (m0 K V) ⟨rfl, rfl, Nat.zero_le _, (fun _ hx => by cases hx), Nat.zero_le _, Int.le_refl 0, (Int.natCast_nonneg _), Int.le_refl 0, (by decide : (0 : Int) ≤ 5)⟩
    have e : runP ps K V = outP (runM ps 256 (m0 K V)) := by unfold runP; rw [if_pos hr]
    rw [e]
    unfold outP
    by_cases hb : (runM ps 256 (m0 K V)).bad = 0
    · rw [if_pos hb]
      exact .inl ⟨rfl, hg.o⟩
    · rw [if_neg hb]
      refine .inr ⟨_, ?_, hg.b1, by rw [hg.k]⟩
      have := hg.b0
      omega
end Go.Proofs.Ytddckdlkopohhaa
