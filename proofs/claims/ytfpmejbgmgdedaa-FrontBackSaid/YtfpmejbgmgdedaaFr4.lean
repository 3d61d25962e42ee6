/- Front: put. -/
import Derived.Test.YtfpmejbgmgdedaaFr3
namespace Go.Proofs.Ytfpmejbgmgdedaa.Fr
set_option linter.unusedSimpArgs false
set_option linter.unusedVariables false
open Go.RowKit

theorem cts_set : ∀ (l : List Ct) (i : Nat) (x : Ct) (s : Int), l[i]? = some x → (cts l).set (i * 6 + 5) (.int .i64 s) = cts (l.set i { x with n := s })
  | [], i, x, s, h => by simp at h
  | a :: l, 0, x, s, h => by
    obtain rfl : a = x := by simpa using h
    rfl
  | a :: l, i + 1, x, s, h => by
    have := cts_set l i x s (by simpa using h)
    rw [show (i + 1) * 6 + 5 = (i * 6 + 5) + 1 + 1 + 1 + 1 + 1 + 1 by omega]
    simp only [cts, List.set_cons_succ, this]
theorem put_at {w w' : World} {base g n c off : Nat} {u : Value} {l l' : List Ct} (h : w.ownsRow base 48 6 (.slice (some ⟨g, 0, none⟩) n c) n (cts l)) (hl : l.length = n) (hs : (cts l).set off u = cts l') (hx : Ext (w.setCell ⟨g, off, none⟩ u) w') : Grows w base (.slice (some ⟨g, 0, none⟩) n c) l' (.returned (.slice (some ⟨g, 0, none⟩) n c)) w' := by
  have h2 := own_put h u (off := off)
  rw [hs] at h2
  have hl' : l'.length = n := by
    have := h2.1
    rw [cts_length] at this
    omega
  subst hl'
  refine ⟨some ⟨g, 0, none⟩, c, rfl, ?_, own_of_extY h2 hx, .inl rfl⟩
  have g1 := put_grown w g off u
  have g2 := Ext.grows hx (some g)
  exact ⟨g2.os.trans g1.os, g2.tape.trans g1.tape, g2.output.trans g1.output, Nat.le_trans g1.size g2.size, fun k hk hne => (g2.block k (Nat.lt_of_lt_of_le hk g1.size) hne).trans (g1.block k hk hne)⟩
/-- A count of a timestamp. -/
def ctOf (t : Tm) (q : Int) : Ct := ⟨t.d, t.a, t.b, t.c, t.e, q⟩
/-- So many times more. -/
def putS (l : List Ct) (t : Tm) (q : Int) : List Ct :=
  if (q == 0 || (!mayB q || !_root_.Go.Proofs.Ytfpmejbgmgdedaa.rightB t)) then l
  else match l[posC l t]? with
    | some x => if eqT x.t t = true then (if x.n + q = 0 then l.eraseIdx (posC l t) else if mayB (x.n + q) then l.set (posC l t) { x with n := x.n + q } else l) else l.take (posC l t) ++ ctOf t q :: l.drop (posC l t)
    | none => l.take (posC l t) ++ ctOf t q :: l.drop (posC l t)
set_option maxHeartbeats 4000000 in
theorem put_any (l : List Ct) (a : Option Addr) (n c base : Nat) (w0 w : World) (hx0 : Ext w0 w) (hb0 : w0.heap.size ≤ base) (hb : base ≤ w.heap.size) (h : w.ownsRow base 48 6 (.slice a n c) n (cts l)) (hl : l.length = n) (hn : n ≤ 1073741823) (hr : rightC l = true) (t : Tm) (q : Int) :
    Calls Try.prog 50 #[.slice a n c, .agg #[.int .i64 t.d, .int .i64 t.a, .int .i64 t.b, .int .i64 t.c, .int .i64 t.e], .int .i64 q] w (Grows w base (.slice a n c) (putS l t q)) := by
  have hch := right_srt hr
  have H := Lib.hid h
  have PL := Lib.hid (fun w' (hx : Ext w w') => place_any l a n c w' ((own_rd h).of_ext hx) hl (by omega) hch t)
  have MQ := Lib.hid (fun w' => may_any q w')
  have RT := Lib.hid (fun w' => _root_.Go.Proofs.Ytfpmejbgmgdedaa.right_any t.d t.a t.b t.c t.e w')
  obtain ⟨b1, f1⟩ : ∃ b, (q == 0) = b := ⟨_, rfl⟩
  obtain ⟨b2, f2⟩ : ∃ b, mayB q = b := ⟨_, rfl⟩
  obtain ⟨b3, f3⟩ : ∃ b, _root_.Go.Proofs.Ytfpmejbgmgdedaa.rightB t = b := ⟨_, rfl⟩
  obtain ⟨b4, f4⟩ : ∃ b, _root_.Go.Proofs.Ytfpmejbgmgdedaa.rightB ⟨t.d, t.a, t.b, t.c, t.e⟩ = b := ⟨_, rfl⟩
  rw [f2] at MQ
  rw [f4] at RT
  obtain rfl : b3 = b4 := f3.symm.trans f4
  by_cases hA : (b1 || (!b2 || !b3)) = true
  · have hS : putS l t q = l := by unfold putS; rw [f1, f2, f3, if_pos hA]
    rw [hS]
    have HL := Lib.hid hl
    clear hS hr hch hn hl h f2 hb hb0 hx0 f3 f4
    generalize posC l t = p at *
    generalize hasC l t = hs at *
    obtain ⟨td, ta, tb, tc, te⟩ := t
    dsimp only at PL RT ⊢
    cases b1 <;> cases b2 <;> cases b3 <;> first | (exfalso; simp at hA; done) | skip
    all_goals
      clear hA
      go_enter Try.func50, Try.ntmps50
      go_wp2_with (first | (go_at_call 53; (with_reducible refine (PL.out _ (by (repeat' (first | with_reducible exact Ext.refl _ | with_reducible refine Ext.ext ?_ _ | with_reducible refine Ext.alloc ?_ _ | with_reducible refine Ext.drew ?_ | with_reducible refine Ext.drewN ?_ _ | with_reducible assumption)))).mono ?_); rintro e w' ⟨rfl, x1, rfl⟩) | (go_at_call 52; (with_reducible refine (MQ.out _).mono ?_); rintro e w' ⟨rfl, rfl⟩) | (go_at_call 23; (with_reducible refine (RT.out _).mono ?_); rintro e w' ⟨rfl, x2, rfl⟩))
      go_returns
      exact grows_same HL.out H.out (by (repeat' (first | with_reducible exact Ext.refl _ | with_reducible refine Ext.ext ?_ _ | with_reducible refine Ext.alloc ?_ _ | with_reducible refine Ext.drew ?_ | with_reducible refine Ext.drewN ?_ _ | with_reducible assumption)))
  · have hb1 : b1 = false := by cases b1 <;> simp at hA ⊢
    have hb2 : b2 = true := by cases b2 <;> simp at hA ⊢
    have hb3 : b3 = true := by cases b3 <;> simp at hA ⊢
    subst hb1 hb2 hb3
    have hq0 : q ≠ 0 := by simpa using f1
    have hmq : -2147483648 ≤ q ∧ q ≤ 2147483648 := by unfold mayB at f2; exact of_decide_eq_true f2
    have hple := posC_le l t
    cases hh : hasC l t with
    | false =>
      have hS : putS l t q = l.take (posC l t) ++ ctOf t q :: l.drop (posC l t) := by
        unfold putS
        rw [f1, f2, f3, if_neg (by decide)]
        unfold hasC at hh
        cases hx : l[posC l t]? with
        | none => rfl
        | some x =>
          rw [hx] at hh
          dsimp only at hh ⊢
          rw [if_neg (by rw [hh]; decide)]
      rw [hS]
      rw [hh] at PL
      have INS := Lib.hid (fun (W : World) (hW : Ext w W) (vb : Nat) (hvb : vb = W.heap.size) => (ins_any l a n c base vb (posC l t) (ctOf t q) w0 (W.alloc (.cells #[.int .i64 t.d, .int .i64 t.a, .int .i64 t.b, .int .i64 t.c, .int .i64 t.e, .int .i64 q] 48)) ((hx0.trans hW).alloc _) hb0 (by have := (Ext.grows hW none).size; rw [World.size_alloc]; omega) (own_of_extY h (hW.alloc _)) hl hn (by omega) (fun e => by have := (h.lt _ e).2; have := (Ext.grows hW none).size; omega) (by rw [hvb]; exact heap_alloc_new W _)).mono (fun e w' hg => Grows.of_ext hg (hW.alloc _)))
      clear hS hr hch hn hl h f2 f3 f4 hb hb0 hx0 hh hple hq0 hmq hA
      generalize posC l t = p at *
      generalize hT : ctOf t q = T at *
      have HT := Lib.hid hT
      clear hT HT
      obtain ⟨td, ta, tb, tc, te⟩ := t
      dsimp only at PL RT INS ⊢
      go_enter Try.func50, Try.ntmps50
      go_wp2_with (first | (go_at_call 53; (with_reducible refine (PL.out _ (by (repeat' (first | with_reducible exact Ext.refl _ | with_reducible refine Ext.ext ?_ _ | with_reducible refine Ext.alloc ?_ _ | with_reducible refine Ext.drew ?_ | with_reducible refine Ext.drewN ?_ _ | with_reducible assumption)))).mono ?_); rintro e w' ⟨rfl, x1, rfl⟩) | (go_at_call 52; (with_reducible refine (MQ.out _).mono ?_); rintro e w' ⟨rfl, rfl⟩) | (go_at_call 23; (with_reducible refine (RT.out _).mono ?_); rintro e w' ⟨rfl, x2, rfl⟩) | (go_at_call 58; refine (INS.out _ (by (repeat' (first | with_reducible exact Ext.refl _ | with_reducible refine Ext.ext ?_ _ | with_reducible refine Ext.alloc ?_ _ | with_reducible refine Ext.drew ?_ | with_reducible refine Ext.drewN ?_ _ | with_reducible assumption))) _ (by simp)).mono ?_; intro e w' hg; obtain ⟨b', c', rfl, hg⟩ := hg; have HG := Lib.hid hg; clear hg))
      go_returns
      exact ⟨b', c', by first | rfl | (simp; done), HG.out⟩
    | true =>
      obtain ⟨x, hx⟩ : ∃ x, l[posC l t]? = some x := by
        unfold hasC at hh
        cases hx : l[posC l t]? with
        | none => rw [hx] at hh; cases hh
        | some x => exact ⟨x, rfl⟩
      have ho : eqT x.t t = true := by
        unfold hasC at hh
        rw [hx] at hh
        exact hh
      have hS : putS l t q = if x.n + q = 0 then l.eraseIdx (posC l t) else if mayB (x.n + q) then l.set (posC l t) { x with n := x.n + q } else l := by
        unfold putS
        rw [f1, f2, f3, if_neg (by decide), hx]
        dsimp only
        rw [if_pos ho]
      have hN : -2147483648 ≤ x.n ∧ x.n ≤ 2147483648 := by
        unfold rightC at hr
        simp only [Bool.and_eq_true, List.all_eq_true] at hr
        have := hr.1 _ (List.mem_of_getElem? hx)
        unfold okC at this
        simp only [Bool.and_eq_true] at this
        have := this.2.2
        unfold mayB at this
        exact of_decide_eq_true this
      rw [hh] at PL
      have hlt : posC l t < n := by have := (List.getElem?_eq_some_iff.1 hx).1; omega
      obtain ⟨g, rfl, hgb⟩ := own_form h (by omega)
      have ew : wrap64 (x.n + q) = x.n + q := IntWalk.wrap64_in _ ⟨by omega, by omega⟩
      have hcell := (cts_at (own_rd h) _ _ hx).2.2.2.2.2
      have hset := cts_set l (posC l t) _ (x.n + q) hx
      rw [Nat.zero_add] at hcell
      have p0 : (0 : Int) ≤ (posC l t : Nat) := by omega
      have p1 : ((posC l t : Nat) : Int) < n := by omega
      have p2 : ((posC l t : Nat) : Int) ≤ 1073741823 := by omega
      have hlw : g < w.heap.size := World.block_lt_of_cell? _ _ hcell
      haveI : LtSz g w.heap.size := ⟨hlw⟩
      obtain ⟨xd, xa, xb, xc, xe, xn⟩ := x
      dsimp only at hcell hset ew hS hN
      have hfz : w.frozen? ⟨g, posC l t * 6 + 5, none⟩ = false := by
        obtain ⟨-, -, -, -, -, cur, hg, -, -⟩ := own_parts h
        exact frozen_row hg
      by_cases h0 : xn + q = 0
      · rw [hS, if_pos h0]
        have DEL := Lib.hid (fun (W : World) (hW : Ext w W) => (del_all l g c (posC l t) n base W (own_of_extY h hW) hl hlt hn).mono (fun e w' hg => Grows.of_ext hg hW))
        have e0 : (xn + q == 0) = true := by simp [h0]
        clear hS hr hch hn hl h f2 f3 f4 hb hb0 hx0 hh hple hq0 hmq hA hx ho hset hlt h0 hN
        generalize posC l t = p at *
        obtain ⟨td, ta, tb, tc, te⟩ := t
        dsimp only at PL RT ⊢
        go_enter Try.func50, Try.ntmps50
        go_wp2_with (first | (go_at_call 53; (with_reducible refine (PL.out _ (by (repeat' (first | with_reducible exact Ext.refl _ | with_reducible refine Ext.ext ?_ _ | with_reducible refine Ext.alloc ?_ _ | with_reducible refine Ext.drew ?_ | with_reducible refine Ext.drewN ?_ _ | with_reducible assumption)))).mono ?_); rintro e w' ⟨rfl, x1, rfl⟩) | (go_at_call 52; (with_reducible refine (MQ.out _).mono ?_); rintro e w' ⟨rfl, rfl⟩) | (go_at_call 23; (with_reducible refine (RT.out _).mono ?_); rintro e w' ⟨rfl, x2, rfl⟩) | (go_at_call 59; refine (DEL.out _ (by (repeat' (first | with_reducible exact Ext.refl _ | with_reducible refine Ext.ext ?_ _ | with_reducible refine Ext.alloc ?_ _ | with_reducible refine Ext.drew ?_ | with_reducible refine Ext.drewN ?_ _ | with_reducible assumption)))).mono ?_; intro e w' hg; obtain ⟨b', c', rfl, hg⟩ := hg; have HG := Lib.hid hg; clear hg))
        go_returns
        exact ⟨b', c', by first | rfl | (simp; done), HG.out⟩
      · have e0 : (xn + q == 0) = false := by simp [h0]
        have M2 := Lib.hid (fun w' => may_any (xn + q) w')
        obtain ⟨b3, f3'⟩ : ∃ b, mayB (xn + q) = b := ⟨_, rfl⟩
        rw [hS, if_neg h0, f3']
        rw [f3'] at M2
        have HLN := Lib.hid hl
        have HST := Lib.hid hset
        clear hS hr hch hn hl h f2 f3 f4 hb hb0 hx0 hh hple hq0 hmq hA hx ho hset hlt h0 hN f3'
        generalize posC l t = p at *
        obtain ⟨td, ta, tb, tc, te⟩ := t
        dsimp only at PL RT ⊢
        cases b3
        · rw [if_neg (by decide)]
          go_enter Try.func50, Try.ntmps50
          go_wp2_with (first | (go_at_call 53; (with_reducible refine (PL.out _ (by (repeat' (first | with_reducible exact Ext.refl _ | with_reducible refine Ext.ext ?_ _ | with_reducible refine Ext.alloc ?_ _ | with_reducible refine Ext.drew ?_ | with_reducible refine Ext.drewN ?_ _ | with_reducible assumption)))).mono ?_); rintro e w' ⟨rfl, x1, rfl⟩) | (go_at_call 52; (with_reducible refine (MQ.out _).mono ?_); rintro e w' ⟨rfl, rfl⟩) | (go_at_call 52; (with_reducible refine (M2.out _).mono ?_); rintro e w' ⟨rfl, rfl⟩) | (go_at_call 23; (with_reducible refine (RT.out _).mono ?_); rintro e w' ⟨rfl, x2, rfl⟩))
          go_returns
          exact grows_same HLN.out H.out (by (repeat' (first | with_reducible exact Ext.refl _ | with_reducible refine Ext.ext ?_ _ | with_reducible refine Ext.alloc ?_ _ | with_reducible refine Ext.drew ?_ | with_reducible refine Ext.drewN ?_ _ | with_reducible assumption)))
        · rw [if_pos rfl]
          go_enter Try.func50, Try.ntmps50
          go_wp2_with (first | (go_at_call 53; (with_reducible refine (PL.out _ (by (repeat' (first | with_reducible exact Ext.refl _ | with_reducible refine Ext.ext ?_ _ | with_reducible refine Ext.alloc ?_ _ | with_reducible refine Ext.drew ?_ | with_reducible refine Ext.drewN ?_ _ | with_reducible assumption)))).mono ?_); rintro e w' ⟨rfl, x1, rfl⟩) | (go_at_call 52; (with_reducible refine (MQ.out _).mono ?_); rintro e w' ⟨rfl, rfl⟩) | (go_at_call 52; (with_reducible refine (M2.out _).mono ?_); rintro e w' ⟨rfl, rfl⟩) | (go_at_call 23; (with_reducible refine (RT.out _).mono ?_); rintro e w' ⟨rfl, x2, rfl⟩))
          go_returns
          refine put_at (u := .int .i64 (xn + q)) (off := p * 6 + 5) H.out HLN.out HST.out ?_
          (repeat' (first | with_reducible exact Ext.refl _ | with_reducible refine Ext.ext ?_ _ | with_reducible refine Ext.alloc ?_ _ | with_reducible refine Ext.drew ?_ | with_reducible refine Ext.drewN ?_ _ | with_reducible assumption))
end Go.Proofs.Ytfpmejbgmgdedaa.Fr
