/- Bag: put. -/
import Derived.Test.YtbglfaomebokhaaBg8
namespace Go.Proofs.Ytbglfaomebokhaa
set_option linter.unusedSimpArgs false
set_option linter.unusedVariables false
open Go.RowKit

theorem own_of_extY {w w' : World} {b : Nat} {e : TypeId} {size n : Nat} {v : Value} {xs : List Value} (h : w.ownsRow b e size v n xs) (hx : Ext w w') : w'.ownsRow b e size v n xs := by
  obtain ⟨z, rfl⟩ := hx
  exact own_ext h z
theorem Ext.grows {w w' : World} (hx : Ext w w') (r : Option Nat) : w.grownBy w' r := by
  obtain ⟨z, rfl⟩ := hx
  exact ⟨rfl, rfl, rfl, by simp, fun k hk _ => ext_get w z k hk⟩
theorem Grows.of_ext {w w1 w' : World} {base : Nat} {v : Value} {l : List It} {e : Ending} (h : Grows w1 base v l e w') (hx : Ext w w1) : Grows w base v l e w' := by
  obtain ⟨b, c, he, hg, ho, hat⟩ := h
  have g1 := Ext.grows hx v.ownBlock
  exact ⟨b, c, he, ⟨hg.os.trans g1.os, hg.tape.trans g1.tape, hg.output.trans g1.output, Nat.le_trans g1.size hg.size, fun k hk hne => (hg.block k (Nat.lt_of_lt_of_le hk g1.size) hne).trans (g1.block k hk hne)⟩, ho, hat.imp id (fun h k hk => Nat.le_trans g1.size (h k hk))⟩
theorem grows_same {w w' : World} {base n c : Nat} {a : Option Addr} {l : List It} (hl : l.length = n) (h : w.ownsRow base 30 3 (.slice a n c) n (its l)) (hx : Ext w w') : Grows w base (.slice a n c) l (.returned (.slice a n c)) w' := by
  subst hl
  exact ⟨a, c, rfl, Ext.grows hx _, own_of_extY h hx, .inl rfl⟩
/-- A store of one cell into a row of the call's own. -/
theorem own_put {w : World} {b g k n c off : Nat} {e : TypeId} {xs : List Value} (h : w.ownsRow b e k (.slice (some ⟨g, 0, none⟩) n c) n xs) (u : Value) : (w.setCell ⟨g, off, none⟩ u).ownsRow b e k (.slice (some ⟨g, 0, none⟩) n c) n (xs.set off u) := by
  obtain ⟨-, hb, hnc, hcm, hlen, cur, hg, hcs, htake⟩ := own_parts h
  refine ⟨by rw [List.length_set, hlen], .inr ⟨g, c, cur.setIfInBounds off u, rfl, hb, ?_, hnc, hcm, by rw [Array.size_setIfInBounds, hcs], ?_⟩⟩
  · simp [World.setCell, Array.getElem?_modify, hg]
  · rw [Array.toList_setIfInBounds, List.take_set, htake]
theorem put_grown (w : World) (g off : Nat) (u : Value) : w.grownBy (w.setCell ⟨g, off, none⟩ u) (some g) := by
  refine ⟨rfl, rfl, rfl, by rw [World.size_setCell]; exact Nat.le_refl _, fun k hk hne => ?_⟩
  simp only [World.setCell, Array.getElem?_modify]
  rw [if_neg (fun e => hne (by rw [e]))]
theorem its_set : ∀ (l : List It) (i : Nat) (x : It) (s : Int), l[i]? = some x → (its l).set (i * 3 + 2) (.int .i64 s) = its (l.set i { x with n := s })
  | [], i, x, s, h => by simp at h
  | a :: l, 0, x, s, h => by
    obtain rfl : a = x := by simpa using h
    rfl
  | a :: l, i + 1, x, s, h => by
    have := its_set l i x s (by simpa using h)
    rw [show (i + 1) * 3 + 2 = (i * 3 + 2) + 1 + 1 + 1 by omega]
    simp only [its, List.set_cons_succ, this]
theorem put_at {w w' : World} {base g n c off : Nat} {u : Value} {l l' : List It} (h : w.ownsRow base 30 3 (.slice (some ⟨g, 0, none⟩) n c) n (its l)) (hl : l.length = n) (hs : (its l).set off u = its l') (hx : Ext (w.setCell ⟨g, off, none⟩ u) w') : Grows w base (.slice (some ⟨g, 0, none⟩) n c) l' (.returned (.slice (some ⟨g, 0, none⟩) n c)) w' := by
  have h2 := own_put h u (off := off)
  rw [hs] at h2
  have hl' : l'.length = n := by
    have := h2.1
    rw [its_length] at this
    omega
  subst hl'
  refine ⟨some ⟨g, 0, none⟩, c, rfl, ?_, own_of_extY h2 hx, .inl rfl⟩
  have g1 := put_grown w g off u
  have g2 := Ext.grows hx (some g)
  exact ⟨g2.os.trans g1.os, g2.tape.trans g1.tape, g2.output.trans g1.output, Nat.le_trans g1.size g2.size, fun k hk hne => (g2.block k (Nat.lt_of_lt_of_le hk g1.size) hne).trans (g1.block k hk hne)⟩
/-- So many times more. -/
def putS (l : List It) (r : Int × Int) (q : Int) : List It :=
  if (q == 0 || !mayB q) then l
  else match l[posI l r]? with
    | some x => if ordR x.r r = 0 then (if x.n + q = 0 then l.eraseIdx (posI l r) else if mayB (x.n + q) then l.set (posI l r) { x with n := x.n + q } else l) else l.take (posI l r) ++ ⟨r.1, r.2, q⟩ :: l.drop (posI l r)
    | none => l.take (posI l r) ++ ⟨r.1, r.2, q⟩ :: l.drop (posI l r)
set_option maxHeartbeats 4000000 in
theorem put_any (l : List It) (a : Option Addr) (n c base : Nat) (w0 w : World) (hx0 : Ext w0 w) (hb0 : w0.heap.size ≤ base) (hb : base ≤ w.heap.size) (h : w.ownsRow base 30 3 (.slice a n c) n (its l)) (hl : l.length = n) (hn : n ≤ 1073741823) (hr : rightB l = true) (r : Int × Int) (q : Int) :
    Calls Try.prog 47 #[.slice a n c, .agg #[.int .i64 r.1, .int .i64 r.2], .int .i64 q] w (Grows w base (.slice a n c) (putS l r q)) := by
  obtain ⟨K, V⟩ := r
  have hch : chainB l = true := by unfold rightB at hr; simp only [Bool.and_eq_true] at hr; exact hr.2
  have H := Lib.hid h
  have BS := Lib.hid (fun w' (hx : Ext w w') => bsf_any l a n c w' ((own_rd h).of_ext hx) hl (by omega) hch (K, V))
  have MQ := Lib.hid (fun w' => may_any q w')
  dsimp only at BS
  obtain ⟨b1, f1⟩ : ∃ b, (q == 0) = b := ⟨_, rfl⟩
  obtain ⟨b2, f2⟩ : ∃ b, mayB q = b := ⟨_, rfl⟩
  have f2' := f2
  unfold mayB at f2'
  rw [f2'] at MQ
  dsimp only
  by_cases hA : (b1 || !b2) = true
  · have hS : putS l (K, V) q = l := by unfold putS; rw [f1, f2, if_pos hA]
    rw [hS]
    have HL := Lib.hid hl
    clear hS hr hch hn hl h f2 f2' hb hb0 hx0
    generalize posI l (K, V) = p at *
    generalize hasI l (K, V) = hs at *
    cases b1 <;> cases b2 <;> first | (exfalso; simp at hA; done) | skip
    all_goals
      clear hA
      go_enter Try.func47, Try.ntmps47
      go_wp2_with (first | (go_at_call 50; refine (BS.out _ (by (repeat' (first | with_reducible exact Ext.refl _ | with_reducible refine Ext.ext ?_ _ | with_reducible refine Ext.alloc ?_ _ | with_reducible refine Ext.drew ?_ | with_reducible refine Ext.drewN ?_ _ | with_reducible assumption)))).mono ?_; rintro e w' ⟨rfl, x1, rfl⟩) | (go_at_call 41; (with_reducible refine (MQ.out _).mono ?_); rintro e w' ⟨rfl, rfl⟩))
      go_returns
      exact grows_same HL.out H.out (by (repeat' (first | with_reducible exact Ext.refl _ | with_reducible refine Ext.ext ?_ _ | with_reducible refine Ext.alloc ?_ _ | with_reducible refine Ext.drew ?_ | with_reducible refine Ext.drewN ?_ _ | with_reducible assumption)))
  · have hb1 : b1 = false := by cases b1 <;> simp at hA ⊢
    have hb2 : b2 = true := by cases b2 <;> simp at hA ⊢
    subst hb1 hb2
    have hq0 : q ≠ 0 := by simpa using f1
    have hmq : -2147483648 ≤ q ∧ q ≤ 2147483648 := of_decide_eq_true f2'
    have hple := posI_le (K, V) l
    cases hh : hasI l (K, V) with
    | false =>
      have hS : putS l (K, V) q = l.take (posI l (K, V)) ++ ⟨K, V, q⟩ :: l.drop (posI l (K, V)) := by
        unfold putS
        rw [f1, f2, if_neg (by decide)]
        unfold hasI at hh
        cases hx : l[posI l (K, V)]? with
        | none => rfl
        | some x =>
          rw [hx] at hh
          dsimp only at hh ⊢
          rw [if_neg (of_decide_eq_false hh)]
      rw [hS]
      rw [hh] at BS
      have INS := Lib.hid (fun (W : World) (hW : Ext w W) (vb : Nat) (hvb : vb = W.heap.size) => (ins_any l a n c base vb (posI l (K, V)) ⟨K, V, q⟩ w0 (W.alloc (.cells #[.int .i64 K, .int .i64 V, .int .i64 q] 30)) ((hx0.trans hW).alloc _) hb0 (by have := (Ext.grows hW none).size; rw [World.size_alloc]; omega) (own_of_extY h (hW.alloc _)) hl hn (by omega) (fun e => by have := (h.lt _ e).2; have := (Ext.grows hW none).size; omega) (by rw [hvb]; exact heap_alloc_new W _)).mono (fun e w' hg => Grows.of_ext hg (hW.alloc _)))
      clear hS hr hch hn hl h f2 f2' hb hb0 hx0 hh hple hq0 hmq hA
      generalize posI l (K, V) = p at *
      go_enter Try.func47, Try.ntmps47
      go_wp2_with (first | (go_at_call 50; refine (BS.out _ (by (repeat' (first | with_reducible exact Ext.refl _ | with_reducible refine Ext.ext ?_ _ | with_reducible refine Ext.alloc ?_ _ | with_reducible refine Ext.drew ?_ | with_reducible refine Ext.drewN ?_ _ | with_reducible assumption)))).mono ?_; rintro e w' ⟨rfl, x1, rfl⟩) | (go_at_call 41; (with_reducible refine (MQ.out _).mono ?_); rintro e w' ⟨rfl, rfl⟩) | (go_at_call 52; refine (INS.out _ (by (repeat' (first | with_reducible exact Ext.refl _ | with_reducible refine Ext.ext ?_ _ | with_reducible refine Ext.alloc ?_ _ | with_reducible refine Ext.drew ?_ | with_reducible refine Ext.drewN ?_ _ | with_reducible assumption))) _ (by simp)).mono ?_; intro e w' hg; obtain ⟨b', c', rfl, hg⟩ := hg; have HG := Lib.hid hg; clear hg))
      go_returns
      exact ⟨b', c', by first | rfl | (simp; done), HG.out⟩
    | true =>
      obtain ⟨⟨xk, xv, xn⟩, hx⟩ : ∃ x, l[posI l (K, V)]? = some x := by
        unfold hasI at hh
        cases hx : l[posI l (K, V)]? with
        | none => rw [hx] at hh; cases hh
        | some x => exact ⟨x, rfl⟩
      have ho : ordR (xk, xv) (K, V) = 0 := by
        unfold hasI at hh
        rw [hx] at hh
        exact of_decide_eq_true hh
      have hS : putS l (K, V) q = if xn + q = 0 then l.eraseIdx (posI l (K, V)) else if mayB (xn + q) then l.set (posI l (K, V)) ⟨xk, xv, xn + q⟩ else l := by
        unfold putS
        rw [f1, f2, if_neg (by decide), hx]
        dsimp only
        rw [show (It.r ⟨xk, xv, xn⟩) = (xk, xv) from rfl, if_pos ho]
      have hN : -2147483648 ≤ xn ∧ xn ≤ 2147483648 := by
        unfold rightB at hr
        simp only [Bool.and_eq_true, List.all_eq_true] at hr
        have := hr.1 _ (List.mem_of_getElem? hx)
        unfold okN at this
        simp only [Bool.and_eq_true] at this
        exact of_decide_eq_true this.2
      rw [hh] at BS
      have hlt : posI l (K, V) < n := by have := (List.getElem?_eq_some_iff.1 hx).1; omega
      obtain ⟨g, rfl, hgb⟩ := own_form h (by omega)
      have ew : wrap64 (xn + q) = xn + q := IntWalk.wrap64_in _ ⟨by omega, by omega⟩
      have hcell := (it_at (own_rd h) _ _ hx).2.2
      have hset := its_set l (posI l (K, V)) _ (xn + q) hx
      rw [Nat.zero_add] at hcell
      have p0 : (0 : Int) ≤ (posI l (K, V) : Nat) := by omega
      have p1 : ((posI l (K, V) : Nat) : Int) < n := by omega
      have p2 : ((posI l (K, V) : Nat) : Int) ≤ 1073741823 := by omega
      have hlw : g < w.heap.size := World.block_lt_of_cell? _ _ hcell
      haveI : LtSz g w.heap.size := ⟨hlw⟩
      dsimp only at hcell hset
      have hfz : w.frozen? ⟨g, posI l (K, V) * 3 + 2, none⟩ = false := by
        obtain ⟨-, -, -, -, -, cur, hg, -, -⟩ := own_parts h
        exact frozen_row hg
      by_cases h0 : xn + q = 0
      · rw [hS, if_pos h0]
        have DEL := Lib.hid (fun (W : World) (hW : Ext w W) => (del_all l g c (posI l (K, V)) n base W (own_of_extY h hW) hl hlt hn).mono (fun e w' hg => Grows.of_ext hg hW))
        have e0 : (xn + q == 0) = true := by simp [h0]
        clear hS hr hch hn hl h f2 f2' hb hb0 hx0 hh hple hq0 hmq hA hx ho hset hlt h0 hN
        generalize posI l (K, V) = p at *
        go_enter Try.func47, Try.ntmps47
        go_wp2_with (first | (go_at_call 50; refine (BS.out _ (by (repeat' (first | with_reducible exact Ext.refl _ | with_reducible refine Ext.ext ?_ _ | with_reducible refine Ext.alloc ?_ _ | with_reducible refine Ext.drew ?_ | with_reducible refine Ext.drewN ?_ _ | with_reducible assumption)))).mono ?_; rintro e w' ⟨rfl, x1, rfl⟩) | (go_at_call 41; (with_reducible refine (MQ.out _).mono ?_); rintro e w' ⟨rfl, rfl⟩) | (go_at_call 53; refine (DEL.out _ (by (repeat' (first | with_reducible exact Ext.refl _ | with_reducible refine Ext.ext ?_ _ | with_reducible refine Ext.alloc ?_ _ | with_reducible refine Ext.drew ?_ | with_reducible refine Ext.drewN ?_ _ | with_reducible assumption)))).mono ?_; intro e w' hg; obtain ⟨b', c', rfl, hg⟩ := hg; have HG := Lib.hid hg; clear hg))
        go_returns
        exact ⟨b', c', by first | rfl | (simp; done), HG.out⟩
      · have e0 : (xn + q == 0) = false := by simp [h0]
        have M2 := Lib.hid (fun w' => may_any (xn + q) w')
        obtain ⟨b3, f3⟩ : ∃ b, mayB (xn + q) = b := ⟨_, rfl⟩
        rw [hS, if_neg h0, f3]
        unfold mayB at f3
        rw [f3] at M2
        have HLN := Lib.hid hl
        have HST := Lib.hid hset
        clear hS hr hch hn hl h f2 f2' hb hb0 hx0 hh hple hq0 hmq hA hx ho hset hlt h0 hN f3
        generalize posI l (K, V) = p at *
        cases b3
        · rw [if_neg (by decide)]
          go_enter Try.func47, Try.ntmps47
          go_wp2_with (first | (go_at_call 50; refine (BS.out _ (by (repeat' (first | with_reducible exact Ext.refl _ | with_reducible refine Ext.ext ?_ _ | with_reducible refine Ext.alloc ?_ _ | with_reducible refine Ext.drew ?_ | with_reducible refine Ext.drewN ?_ _ | with_reducible assumption)))).mono ?_; rintro e w' ⟨rfl, x1, rfl⟩) | (go_at_call 41; (with_reducible refine (MQ.out _).mono ?_); rintro e w' ⟨rfl, rfl⟩) | (go_at_call 41; (with_reducible refine (M2.out _).mono ?_); rintro e w' ⟨rfl, rfl⟩))
          go_returns
          exact grows_same HLN.out H.out (by (repeat' (first | with_reducible exact Ext.refl _ | with_reducible refine Ext.ext ?_ _ | with_reducible refine Ext.alloc ?_ _ | with_reducible refine Ext.drew ?_ | with_reducible refine Ext.drewN ?_ _ | with_reducible assumption)))
        · rw [if_pos rfl]
          go_enter Try.func47, Try.ntmps47
          go_wp2_with (first | (go_at_call 50; refine (BS.out _ (by (repeat' (first | with_reducible exact Ext.refl _ | with_reducible refine Ext.ext ?_ _ | with_reducible refine Ext.alloc ?_ _ | with_reducible refine Ext.drew ?_ | with_reducible refine Ext.drewN ?_ _ | with_reducible assumption)))).mono ?_; rintro e w' ⟨rfl, x1, rfl⟩) | (go_at_call 41; (with_reducible refine (MQ.out _).mono ?_); rintro e w' ⟨rfl, rfl⟩) | (go_at_call 41; (with_reducible refine (M2.out _).mono ?_); rintro e w' ⟨rfl, rfl⟩))
          go_returns
          refine put_at (u := .int .i64 (xn + q)) (off := p * 3 + 2) H.out HLN.out HST.out ?_
          (repeat' (first | with_reducible exact Ext.refl _ | with_reducible refine Ext.ext ?_ _ | with_reducible refine Ext.alloc ?_ _ | with_reducible refine Ext.drew ?_ | with_reducible refine Ext.drewN ?_ _ | with_reducible assumption))
end Go.Proofs.Ytbglfaomebokhaa
