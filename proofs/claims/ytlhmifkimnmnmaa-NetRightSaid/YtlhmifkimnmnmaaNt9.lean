/- Net: Take. -/
import Derived.Test.YtlhmifkimnmnmaaNt8
import Derived.Laws.Entries
namespace Go.Proofs.Ytlhmifkimnmnmaa
set_option linter.unusedSimpArgs false
set_option linter.unusedVariables false
open Go.RowKit

theorem grown_trans {w w' w'' : World} {r : Option Nat} (h : w.grownBy w' r) (k : w'.grownBy w'' r) : w.grownBy w'' r :=
  ⟨k.os.trans h.os, k.tape.trans h.tape, k.output.trans h.output, Nat.le_trans h.size k.size, fun b hb hne => (k.block b (Nat.lt_of_lt_of_le hb h.size) hne).trans (h.block b hb hne)⟩
theorem set10 (w : World) (p : Nat) (u0 u1 u2 u3 u4 u5 u6 u7 u8 u9 : Value) : w.grownBy ((((((((((w.setCell ⟨p, 0, none⟩ u0).setCell ⟨p, 1, none⟩ u1).setCell ⟨p, 2, none⟩ u2).setCell ⟨p, 3, none⟩ u3).setCell ⟨p, 4, none⟩ u4).setCell ⟨p, 5, none⟩ u5).setCell ⟨p, 6, none⟩ u6).setCell ⟨p, 7, none⟩ u7).setCell ⟨p, 8, none⟩ u8).setCell ⟨p, 9, none⟩ u9) (some p) :=
  grown_trans (grown_trans (grown_trans (grown_trans (grown_trans (grown_trans (grown_trans (grown_trans (grown_trans (put_grown _ _ _ _) (put_grown _ _ _ _)) (put_grown _ _ _ _)) (put_grown _ _ _ _)) (put_grown _ _ _ _)) (put_grown _ _ _ _)) (put_grown _ _ _ _)) (put_grown _ _ _ _)) (put_grown _ _ _ _)) (put_grown _ _ _ _)
/-- A box that is older than the rows is written. -/
theorem PtsG.beside {α β : Type} {S : Sh α β} {w w1 W W' : World} {ls : List α} {v : Value} {rp : Nat} (h : PtsG S w1 ls v W) (hx : Ext w w1) (hgr : W.grownBy W' (some rp)) (h1 : w.heap.size ≤ rp) (h2 : rp < w1.heap.size) : PtsG S w ls v W' := by
  obtain ⟨hx1, a, c, us, rfl, hl, ho, he, hd⟩ := h
  have hz := (Ext.grows hx none).size
  refine ⟨(hx.trans hx1).grown hgr (fun k hk => by cases hk; exact h1), a, c, us, rfl, hl, own_base (ho.kept hgr ?_) hz, fun i x u hi hu => ((he i x u hi hu).kept hgr ?_).base hz, hd⟩
  · cases hb : (Value.slice a ls.length c).ownBlock with
    | none => exact .inl rfl
    | some k => exact .inr (fun e => by have := (ho.lt k hb).1; cases e; omega)
  · cases hb : u.ownBlock with
    | none => exact .inl rfl
    | some k => exact .inr (fun e => by have := ((he i x u hi hu).low k hb).1; cases e; omega)
/-- slices.Delete of a box. -/
theorem del_box {w0 w : World} {l : List Bx} {g n c p : Nat} (h : PtsG shB w0 l (.slice (some ⟨g, 0, none⟩) n c) w) (hn : n ≤ 1073741823) (hp : p < l.length) :
    Calls Try.prog 28 #[.slice (some ⟨g, 0, none⟩) n c, .int .i64 p, .int .i64 ((p : Int) + 1)] w fun r w' => r = .returned (.slice (some ⟨g, 0, none⟩) (n - 1) c) ∧ w.grownBy w' (some g) ∧ PtsG shB w0 (l.eraseIdx p) (.slice (some ⟨g, 0, none⟩) (n - 1) c) w' := by
  obtain ⟨hx, a', c', us, hv', hln, ho, he, hd⟩ := h
  obtain ⟨rfl, rfl, rfl⟩ := Value.slice.inj hv'
  obtain ⟨m, hm⟩ : ∃ m, l.length = m + 1 := ⟨l.length - 1, by omega⟩
  have ho2 := ho
  rw [hm] at ho2 hn hp ⊢
  refine (bx_del_any (rowC shB l us) (rowC_one (one_of hln he)) g c m p w0.heap.size w ho2 hp (by omega)).mono ?_
  rintro r w' ⟨rfl, hgr, ho'⟩
  refine ⟨rfl, hgr, ?_⟩
  have := pts_del (S := shB) (p := p) (b := some ⟨g, 0, none⟩) (c' := c) (by omega) hln hx ho he hd hgr (by rw [hm]; exact ho')
  rw [hm] at this
  exact this
/-- slices.Delete of a message of an own row. -/
theorem del_msg {w : World} {b : Nat} {l : List Mg} {u : Value} (h : ElG 29 10 mgs w b l u) (i : Nat) (hi : i < l.length) (hn : l.length ≤ 1073741823) :
    Calls Try.prog 27 #[u, .int .i64 i, .int .i64 ((i : Int) + 1)] w fun r w' => ∃ u', r = .returned u' ∧ w.grownBy w' u.ownBlock ∧ ElG 29 10 mgs w' b (l.eraseIdx i) u' ∧ u'.ownBlock = u.ownBlock := by
  obtain ⟨a, c, rfl, ho⟩ := h
  obtain ⟨g, rfl, -⟩ := own_form ho (by omega)
  obtain ⟨m, hm⟩ : ∃ m, l.length = m + 1 := ⟨l.length - 1, by omega⟩
  have hle : (l.eraseIdx i).length = m := by rw [List.length_eraseIdx_of_lt hi]; omega
  rw [hm] at ho hi ⊢
  refine (mg_del_any (mgs l) (mgs_one l) g c m i b w ho hi (by omega)).mono ?_
  rintro r w' ⟨rfl, hgr, ho'⟩
  exact ⟨_, rfl, hgr, ⟨some ⟨g, 0, none⟩, c, by rw [hle], by rw [hle, mgs_erase]; exact ho'⟩, rfl⟩
theorem heap_on {w W : World} (hx : Ext w W) {p : Nat} {o : Obj} (h : w.heap[p]? = some o) : W.heap[p]? = some o := by
  obtain ⟨z, rfl⟩ := hx
  rw [ext_get _ _ _ (Array.getElem?_eq_some_iff.1 h).1, h]
theorem mg_cells {W : World} {p : Nat} {x0 x1 x2 x3 x4 x5 x6 x7 x8 x9 : Value} (h : W.heap[p]? = some (.cells #[x0, x1, x2, x3, x4, x5, x6, x7, x8, x9] 29 (0, 0))) : (W.cell? ⟨p, 0, none⟩ = some x0 ∧ W.cell? ⟨p, 1, none⟩ = some x1 ∧ W.cell? ⟨p, 2, none⟩ = some x2 ∧ W.cell? ⟨p, 3, none⟩ = some x3 ∧ W.cell? ⟨p, 4, none⟩ = some x4 ∧ W.cell? ⟨p, 5, none⟩ = some x5 ∧ W.cell? ⟨p, 6, none⟩ = some x6 ∧ W.cell? ⟨p, 7, none⟩ = some x7 ∧ W.cell? ⟨p, 8, none⟩ = some x8 ∧ W.cell? ⟨p, 9, none⟩ = some x9) ∧ (∀ i, W.frozen? ⟨p, i, none⟩ = false) ∧ p < W.heap.size := by
  refine ⟨⟨?_, ?_, ?_, ?_, ?_, ?_, ?_, ?_, ?_, ?_⟩, fun i => frozen_row h, (Array.getElem?_eq_some_iff.1 h).1⟩ <;> (rw [cell_of_row _ _ _ _ _ (0, 0) h]; rfl)
theorem BoxG.kept {w w' : World} {p : Nat} {cs : List Value} {r : Option Nat} (h : BoxG w p cs) (hgr : w.grownBy w' r) (hne : r ≠ some p) : BoxG w' p cs := fun i u hu => by
  have h1 := h i u hu
  rw [← h1]
  exact World.cell?_of_block (hgr.block p (World.block_lt_of_cell? _ _ h1) (fun e => hne e.symm))
def m0 : Mg := ⟨0, 0, 0, 0, 0, 0, 0, 0, 0, 0⟩
def takeOk (l : List Bx) (e f t i : Int) : Bool := !(decide (i < 0)) && !(decide ((lenS l e f t : Int) ≤ i))
def tookM (l : List Bx) (e f t i : Int) : Mg := if takeOk l e f t i then ((inB l e f t)[i.toNat]?).getD m0 else m0
/-- A message less, and its box if that was its last. -/
def cutB (l : List Bx) (p i : Nat) : List Bx := match l[p]? with
  | some x => if (x.l.eraseIdx i).length = 0 then l.eraseIdx p else l.set p { x with l := x.l.eraseIdx i }
  | none => l
def takeS (l : List Bx) (e f t i : Int) : List Bx := if takeOk l e f t i then cutB l (posB l e f t) i.toNat else l
set_option maxRecDepth 100000 in
set_option maxHeartbeats 16000000 in
theorem take_any (l : List Bx) (a : Option Addr) (n c : Nat) (w : World) (h : RdsG shB w l (.slice a n c)) (hl : n ≤ 1073741822) (hm : ∀ x ∈ l, x.l.length ≤ 1073741822) (e f t i : Int) (hi63 : -9223372036854775808 ≤ i ∧ i ≤ 9223372036854775807) :
    Calls Try.prog 13 #[.slice a n c, .int .i64 e, .int .i64 f, .int .i64 t, .int .i64 i] w fun r w' => ∃ v', r = .returned (.tuple #[v', .agg #[.int .i64 (tookM l e f t i).e, .int .i64 (tookM l e f t i).d, .int .i64 (tookM l e f t i).a, .int .i64 (tookM l e f t i).b, .int .i64 (tookM l e f t i).c, .int .i64 (tookM l e f t i).f, .int .i64 (tookM l e f t i).k, .int .i64 (tookM l e f t i).v, .int .i64 (tookM l e f t i).n, .int .i64 (tookM l e f t i).q], .bool (takeOk l e f t i)]) ∧ PtsG shB w (takeS l e f t i) v' w' := by
  have hm' : ∀ x ∈ l, x.l.length ≤ 1073741823 := fun x hx => Nat.le_trans (hm x hx) (by decide)
  have CP := Lib.hid (fun W (hx : Ext w W) => copied_any l a n c W (h.on hx) (by omega) hm')
  have LE := Lib.hid (fun W (hx : Ext w W) => len_any l a n c W (h.on hx) (by omega) hm' e f t)
  have HL := Lib.hid (And.intro hl (rds_len h))
  have HM := Lib.hid hm
  clear h hl hm hm'
  obtain ⟨b1, f1⟩ : ∃ b, decide (i < 0) = b := ⟨_, rfl⟩
  obtain ⟨L, hL⟩ : ∃ L, lenS l e f t = L := ⟨_, rfl⟩
  rw [hL] at LE
  obtain ⟨b2, f2⟩ : ∃ b, decide ((L : Int) ≤ i) = b := ⟨_, rfl⟩
  have hok : takeOk l e f t i = (!b1 && !b2) := by unfold takeOk; rw [hL, f1, f2]
  obtain ⟨bo, hbo⟩ : ∃ b, takeOk l e f t i = b := ⟨_, rfl⟩
  obtain ⟨M, hM⟩ : ∃ M, tookM l e f t i = M := ⟨_, rfl⟩
  obtain ⟨TS, hTS⟩ : ∃ TS, takeS l e f t i = TS := ⟨_, rfl⟩
  rw [hbo, hM, hTS]
  rw [hbo] at hok
  unfold tookM at hM
  unfold takeS at hTS
  rw [hbo] at hM hTS
  have HLL := Lib.hid hL
  clear hL hbo
  go_enter Try.func13, Try.ntmps13
  go_upto_region 2 with (go_at_call 19; (with_reducible refine (CP.out _ (by (repeat' (first | with_reducible exact Ext.refl _ | with_reducible refine Ext.ext ?_ _ | with_reducible refine Ext.alloc ?_ _ | with_reducible refine Ext.drew ?_ | with_reducible refine Ext.drewN ?_ _ | with_reducible assumption)))).mono ?_); rintro r w1 ⟨v1, rfl, hp⟩)
  have hr := heap_alloc_new w (.cells #[.int .i64 0, .int .i64 0, .int .i64 0, .int .i64 0, .int .i64 0, .int .i64 0, .int .i64 0, .int .i64 0, .int .i64 0, .int .i64 0] 29)
  have hwm : Ext w (w.alloc (.cells #[.int .i64 0, .int .i64 0, .int .i64 0, .int .i64 0, .int .i64 0, .int .i64 0, .int .i64 0, .int .i64 0, .int .i64 0, .int .i64 0] 29)) := (Ext.refl w).alloc _
  generalize w.alloc (.cells #[.int .i64 0, .int .i64 0, .int .i64 0, .int .i64 0, .int .i64 0, .int .i64 0, .int .i64 0, .int .i64 0, .int .i64 0, .int .i64 0] 29) = wm at *
  obtain ⟨rp, hrp⟩ : ∃ rp, w.heap.size = rp := ⟨_, rfl⟩
  rw [hrp] at hr ⊢
  have HRP := Lib.hid (And.intro (Nat.le_of_eq hrp) (Array.getElem?_eq_some_iff.1 hr).1)
  have HWM := Lib.hid hwm
  have RB := Lib.hid hr
  have PT := Lib.hid hp
  have HX1 := Lib.hid (hwm.trans hp.1)
  have hv := hp
  obtain ⟨-, va, vc, us, rfl, -⟩ := hv
  clear hp CP us hr hwm hrp
  cases b1
  case true =>
    obtain rfl : bo = false := hok
    obtain rfl : m0 = M := hM
    obtain rfl : l = TS := hTS
    clear HLL
    (obtain ⟨⟨z0, z1, z2, z3, z4, z5, z6, z7, z8, z9⟩, zf, zl⟩ := mg_cells (heap_on PT.out.1 RB.out); have zf0 := zf 0; have zf1 := zf 1; have zf2 := zf 2; have zf3 := zf 3; have zf4 := zf 4; have zf5 := zf 5; have zf6 := zf 6; have zf7 := zf 7; have zf8 := zf 8; have zf9 := zf 9; haveI : LtSz rp w1.heap.size := ⟨zl⟩; clear zf zl)
    go_wp2
    refine bodyPost_ret (by simp [results, Try.results13, go_sem, z0, z1, z2, z3, z4, z5, z6, z7, z8, z9]; try rfl) rfl ?_
    exact ⟨_, rfl, PT.out.beside HWM.out (set10 _ _ _ _ _ _ _ _ _ _ _ _) HRP.out.1 HRP.out.2⟩
  case false =>
  cases b2
  case true =>
    obtain rfl : bo = false := hok
    obtain rfl : m0 = M := hM
    obtain rfl : l = TS := hTS
    clear HLL
    go_wp2_with (go_at_call 15; (with_reducible refine (LE.out _ HX1.out).mono ?_); rintro r w2 ⟨rfl, hx⟩; have HX2 := Lib.hid hx; have RB2 := heap_on (PT.out.1.trans hx) RB.out; (obtain ⟨⟨z0, z1, z2, z3, z4, z5, z6, z7, z8, z9⟩, zf, zl⟩ := mg_cells (RB2); have zf0 := zf 0; have zf1 := zf 1; have zf2 := zf 2; have zf3 := zf 3; have zf4 := zf 4; have zf5 := zf 5; have zf6 := zf 6; have zf7 := zf 7; have zf8 := zf 8; have zf9 := zf 9; haveI : LtSz rp w2.heap.size := ⟨zl⟩; clear zf zl); clear hx RB2)
    refine bodyPost_ret (by simp [results, Try.results13, go_sem, z0, z1, z2, z3, z4, z5, z6, z7, z8, z9]; try rfl) rfl ?_
    exact ⟨_, rfl, (PT.out.on HX2.out).beside HWM.out (set10 _ _ _ _ _ _ _ _ _ _ _ _) HRP.out.1 HRP.out.2⟩
  case false =>
  have hLi : (i : Int) < L := by have := of_decide_eq_false f2; omega
  have h0i : 0 ≤ i := by have := of_decide_eq_false f1; omega
  obtain ⟨k, rfl⟩ : ∃ k : Nat, i = (k : Int) := ⟨i.toNat, by omega⟩
  have hr : rightB l = true := by
    cases hr : rightB l
    · have := HLL.out
      unfold lenS at this
      rw [hr] at this
      simp at this
      omega
    · rfl
  have hin : (inB l e f t).length = L := by
    have := HLL.out
    unfold lenS at this
    rw [hr, if_pos rfl] at this
    exact this
  have hh : hasB l e f t = true := by
    cases hh : hasB l e f t
    · rw [hasB_none hh] at hin
      simp at hin
      omega
    · rfl
  obtain ⟨x, hx, -, -, -, hxi⟩ := hasB_some hh
  rw [hxi] at hin
  obtain ⟨m, hm⟩ : ∃ m, x.l[k]? = some m := ⟨x.l[k]'(by omega), List.getElem?_eq_getElem _⟩
  obtain rfl : bo = true := hok
  have hM2 : m = M := by
    rw [← hM, hxi, if_pos rfl, show ((k : Int)).toNat = k from rfl, hm]
    rfl
  subst hM2
  have hTS2 : TS = if (x.l.eraseIdx k).length = 0 then l.eraseIdx (posB l e f t) else l.set (posB l e f t) { x with l := x.l.eraseIdx k } := by
    rw [← hTS, if_pos rfl, show ((k : Int)).toNat = k from rfl]
    unfold cutB
    rw [hx]
  have HTS := Lib.hid hTS2
  have HX := Lib.hid hx
  have HMM := Lib.hid hm
  have FD := Lib.hid (fun W (hx : Ext w1 W) => find_any l va l.length vc W (PT.out.on hx).rds (by have := HL.out; omega) (right_chain hr) e f t)
  rw [hh] at FD
  have hlt := (List.getElem?_eq_some_iff.1 hx).1
  have hkl : k < x.l.length := by omega
  have HK := Lib.hid hkl
  have HLX := Lib.hid (HM.out x (List.mem_of_getElem? hx))
  clear hLi hr hin hh hxi hM hTS hTS2 hx hm
  generalize posB l e f t = p at *
  have HPL := Lib.hid hlt
  have f2' : decide (L ≤ k) = false := decide_eq_false (by have := of_decide_eq_false f2; omega)
  go_upto_region 5 with (first | (go_at_call 15; (with_reducible refine (LE.out _ HX1.out).mono ?_); rintro r w2 ⟨rfl, hx⟩; have HX2 := Lib.hid hx; clear hx) | (go_at_call 20; (with_reducible refine (FD.out _ HX2.out).mono ?_); rintro r w3 ⟨rfl, hx⟩; have HX3 := Lib.hid (HX2.out.trans hx); clear hx))
  clear LE FD f1 f2 f2'
  obtain ⟨g, u, rfl, hgb, hel, hcl, hap, hfz, -, -, hnext⟩ := (PT.out.on HX3.out).at HX.out
  have c1 : w3.cell? ⟨g, p * 4 + 3, none⟩ = some u := hcl 3 _ (by decide) rfl
  have GL := Lib.hid (And.intro hgb (World.block_lt_of_cell? _ _ c1))
  have EU := Lib.hid hel
  have NX := Lib.hid hnext
  have hu := hel
  obtain ⟨ua, uc, rfl, hown⟩ := hu
  obtain ⟨gm, rfl, -⟩ := own_form hown (by show 0 < x.l.length; omega)
  obtain ⟨q0, q1, q2, q3, q4, q5, q6, q7, q8, q9⟩ := mgs_at (own_rd hown) k m HMM.out
  simp only [Nat.zero_add] at q0 q1 q2 q3 q4 q5 q6 q7 q8 q9
  haveI : LtSz g w3.heap.size := ⟨World.block_lt_of_cell? _ _ c1⟩
  haveI : LtSz gm w3.heap.size := ⟨World.block_lt_of_cell? _ _ q0⟩
  have i1 : (0 : Int) ≤ p := by omega
  have i2 : (p : Int) < l.length := by omega
  have i3 : (0 : Int) ≤ k := by omega
  have i4 : (k : Int) < x.l.length := by omega
  have XW3 := Lib.hid (PT.out.on HX3.out).1
  clear hel hnext hap hfz hcl hgb hown
  go_upto_region 6 with fail
  obtain ⟨W4, hW4⟩ : ∃ W, W = w3.alloc (.cells #[.int .i64 m.e, .int .i64 m.d, .int .i64 m.a, .int .i64 m.b, .int .i64 m.c, .int .i64 m.f, .int .i64 m.k, .int .i64 m.v, .int .i64 m.n, .int .i64 m.q] 29) := ⟨_, rfl⟩
  rw [← hW4]
  have hmb : BoxG W4 w3.heap.size m.cs := by
    subst hW4
    exact BoxG.new m.cs 29 rfl
  have hx4 : Ext w3 W4 := by
    subst hW4
    exact (Ext.refl w3).alloc _
  obtain ⟨mp, hmp⟩ : ∃ mp, w3.heap.size = mp := ⟨_, rfl⟩
  rw [hmp] at hmb ⊢
  have GM := Lib.hid (show g < mp ∧ ∀ kk, (Value.slice (some ⟨gm, 0, none⟩) (shB.inn x).length uc).ownBlock = some kk → kk < mp from ⟨by have h : g < w3.heap.size := GL.out.2; omega, fun kk hk => by have := (EU.out.low kk hk).2; omega⟩)
  have MB4 := Lib.hid hmb
  have PT4 := Lib.hid ((PT.out.on HX3.out).on hx4)
  have C4 := Lib.hid (keep_cell c1 hx4).2
  clear hW4 hx4 hmp hmb q0 q1 q2 q3 q4 q5 q6 q7 q8 q9 c1 EU NX GL XW3 this
  obtain ⟨g4, u4, hga, hgb, hel, hcl, hap, hfz, -, -, hnext⟩ := PT4.out.at HX.out
  obtain rfl : g = g4 := by simpa using hga
  have c4 : W4.cell? ⟨g, p * 4 + 3, none⟩ = some u4 := hcl 3 _ (by decide) rfl
  obtain rfl : Value.slice (some ⟨gm, 0, none⟩) (shB.inn x).length uc = u4 := Option.some.inj (C4.out.symm.trans c4)
  haveI : LtSz g W4.heap.size := ⟨World.block_lt_of_cell? _ _ c4⟩
  have DL := Lib.hid (del_msg hel k HK.out (by have := HLX.out; show x.l.length ≤ 1073741823; omega))
  have NX := Lib.hid hnext
  have LOW := Lib.hid hel.low
  have ewk : wrap64 ((k : Int) + 1) = (k : Int) + 1 := IntWalk.wrap64_in _ ⟨by omega, by have := HLX.out; have := HK.out; omega⟩
  have EWP := Lib.hid (show wrap64 ((p : Int) + 1) = (p : Int) + 1 from IntWalk.wrap64_in _ ⟨by omega, by have := HL.out; have := HPL.out; omega⟩)
  clear hga hgb hel hcl hap hfz hnext C4
  go_upto_region 7 with (go_at_call 27; (with_reducible refine DL.out.mono ?_); rintro r w5 ⟨u5, rfl, hgr, he5, hob⟩; have hxw5 : Ext wm w5 := PT4.out.1.grown hgr (fun kk hk => (LOW.out kk hk).1); obtain ⟨c5, f5, hp⟩ := NX.out w5 _ u5 hgr hxw5 he5 (fun kk hk => .inl (hob ▸ hk)); have c5' : w5.cell? ⟨g, p * 4 + 3, none⟩ = _ := c5; have f5' : w5.frozen? ⟨g, p * 4 + 3, none⟩ = false := f5; have HP6 := Lib.hid hp; have MB5 := Lib.hid (MB4.out.kept hgr (fun e => by have := GM.out.2 mp e; omega)); obtain ⟨va5, vc5, rfl, -⟩ := he5; clear hgr hob hxw5 c5 f5 hp)
  have s6 := World.cell?_setCell_same (w := w5) (v := .slice va5 (shB.inn x |>.eraseIdx k).length vc5) (h := c5')
  have MB6 := Lib.hid (MB5.out.kept (put_grown w5 g (p * 4 + 3) (.slice va5 (shB.inn x |>.eraseIdx k).length vc5)) (fun e => by have := GM.out.1; cases e; omega))
  have hp6 : PtsG shB wm (l.set p { x with l := x.l.eraseIdx k }) (.slice (some ⟨g, 0, none⟩) l.length vc) (w5.setCell ⟨g, p * 4 + 3, none⟩ (.slice va5 (shB.inn x |>.eraseIdx k).length vc5)) := HP6.out
  have HQ6 := Lib.hid hp6
  clear hp6 HP6 MB5 MB4 DL NX LOW c4 c5' f5' ewk this
  generalize hN : (shB.inn x |>.eraseIdx k).length = N at *
  have HNN := Lib.hid (show (x.l.eraseIdx k).length = N from hN)
  clear hN
  generalize w5.setCell ⟨g, p * 4 + 3, none⟩ (.slice va5 N vc5) = W6 at *
  haveI : LtSz g W6.heap.size := ⟨World.block_lt_of_cell? _ _ s6⟩
  obtain ⟨bz, hbz⟩ : ∃ b, decide (N = 0) = b := ⟨_, rfl⟩
  have hbz1 : ((N : Int) == 0) = bz := by
    rw [← hbz]
    by_cases h : N = 0
    · subst h; rfl
    · rw [decide_eq_false h]
      simpa using h
  cases bz
  case true =>
    have N0 : N = 0 := of_decide_eq_true hbz
    have HT := Lib.hid (show TS = l.eraseIdx p by rw [HTS.out, HNN.out, if_pos N0])
    have DB := Lib.hid (del_box HQ6.out (show l.length ≤ 1073741823 by have := HL.out; omega) (p := p) (by rw [List.length_set]; exact HPL.out))
    have hes : (l.set p { x with l := x.l.eraseIdx k }).eraseIdx p = l.eraseIdx p := by
      rw [List.eraseIdx_set_eq]
    rw [hes] at DB
    clear hbz hes HTS HNN
    subst N0
    have ewp := EWP.out
    go_upto_region 9 with (go_at_call 28; (with_reducible refine DB.out.mono ?_); rintro r w7 ⟨rfl, hgr, hp7⟩; have HP7 := Lib.hid hp7; have MB7 := Lib.hid (MB6.out.kept hgr (fun e => by have := GM.out.1; cases e; omega)); have RB7 := heap_on hp7.1 RB.out; clear hgr hp7)
    (obtain ⟨⟨z0, z1, z2, z3, z4, z5, z6, z7, z8, z9⟩, zf, zl⟩ := mg_cells (RB7); have zf0 := zf 0; have zf1 := zf 1; have zf2 := zf 2; have zf3 := zf 3; have zf4 := zf 4; have zf5 := zf 5; have zf6 := zf 6; have zf7 := zf 7; have zf8 := zf 8; have zf9 := zf 9; haveI : LtSz rp w7.heap.size := ⟨zl⟩; clear zf zl)
    have m0' : w7.cell? ⟨mp, 0, none⟩ = _ := MB7.out 0 _ rfl
    have m1' : w7.cell? ⟨mp, 1, none⟩ = _ := MB7.out 1 _ rfl
    have m2' : w7.cell? ⟨mp, 2, none⟩ = _ := MB7.out 2 _ rfl
    have m3' : w7.cell? ⟨mp, 3, none⟩ = _ := MB7.out 3 _ rfl
    have m4' : w7.cell? ⟨mp, 4, none⟩ = _ := MB7.out 4 _ rfl
    have m5' : w7.cell? ⟨mp, 5, none⟩ = _ := MB7.out 5 _ rfl
    have m6' : w7.cell? ⟨mp, 6, none⟩ = _ := MB7.out 6 _ rfl
    have m7' : w7.cell? ⟨mp, 7, none⟩ = _ := MB7.out 7 _ rfl
    have m8' : w7.cell? ⟨mp, 8, none⟩ = _ := MB7.out 8 _ rfl
    have m9' : w7.cell? ⟨mp, 9, none⟩ = _ := MB7.out 9 _ rfl
    haveI : LtSz mp w7.heap.size := ⟨World.block_lt_of_cell? _ _ m0'⟩
    clear s6 ewp RB7
    go_wp2
    refine wp_region_tail 3 (by kernel_rfl) (by kernel_rfl) ?_
    simp only [List.take_succ_cons, List.take_zero, List.drop_succ_cons, List.drop_zero]
    repeat still_step
    refine wpStill_nil ?_
    all_goals
      go_wp2
      (try simp only [Exit.inBlock, Exit.then])
      refine bodyPost_ret (by simp [results, Try.results13, go_sem, z0, z1, z2, z3, z4, z5, z6, z7, z8, z9]; try rfl) rfl ?_
      exact ⟨_, rfl, by rw [HT.out]; exact (HP7.out.beside HWM.out (set10 _ _ _ _ _ _ _ _ _ _ _ _) HRP.out.1 HRP.out.2).on (Ext.refl _).drew⟩
  case false =>
    have N0 : ¬ N = 0 := of_decide_eq_false hbz
    have HT := Lib.hid (show TS = l.set p { x with l := x.l.eraseIdx k } by rw [HTS.out, HNN.out, if_neg N0])
    have RB7 := heap_on HQ6.out.1 RB.out
    clear hbz HTS HNN
    (obtain ⟨⟨z0, z1, z2, z3, z4, z5, z6, z7, z8, z9⟩, zf, zl⟩ := mg_cells (RB7); have zf0 := zf 0; have zf1 := zf 1; have zf2 := zf 2; have zf3 := zf 3; have zf4 := zf 4; have zf5 := zf 5; have zf6 := zf 6; have zf7 := zf 7; have zf8 := zf 8; have zf9 := zf 9; haveI : LtSz rp W6.heap.size := ⟨zl⟩; clear zf zl)
    have m0' : W6.cell? ⟨mp, 0, none⟩ = _ := MB6.out 0 _ rfl
    have m1' : W6.cell? ⟨mp, 1, none⟩ = _ := MB6.out 1 _ rfl
    have m2' : W6.cell? ⟨mp, 2, none⟩ = _ := MB6.out 2 _ rfl
    have m3' : W6.cell? ⟨mp, 3, none⟩ = _ := MB6.out 3 _ rfl
    have m4' : W6.cell? ⟨mp, 4, none⟩ = _ := MB6.out 4 _ rfl
    have m5' : W6.cell? ⟨mp, 5, none⟩ = _ := MB6.out 5 _ rfl
    have m6' : W6.cell? ⟨mp, 6, none⟩ = _ := MB6.out 6 _ rfl
    have m7' : W6.cell? ⟨mp, 7, none⟩ = _ := MB6.out 7 _ rfl
    have m8' : W6.cell? ⟨mp, 8, none⟩ = _ := MB6.out 8 _ rfl
    have m9' : W6.cell? ⟨mp, 9, none⟩ = _ := MB6.out 9 _ rfl
    haveI : LtSz mp W6.heap.size := ⟨World.block_lt_of_cell? _ _ m0'⟩
    clear RB7
    go_wp2
    refine wp_region_tail 3 (by kernel_rfl) (by kernel_rfl) ?_
    simp only [List.take_succ_cons, List.take_zero, List.drop_succ_cons, List.drop_zero]
    repeat still_step
    refine wpStill_nil ?_
    all_goals
      go_wp2
      (try simp only [Exit.inBlock, Exit.then])
      refine bodyPost_ret (by simp [results, Try.results13, go_sem, z0, z1, z2, z3, z4, z5, z6, z7, z8, z9]; try rfl) rfl ?_
      exact ⟨_, rfl, by rw [HT.out]; exact (HQ6.out.beside HWM.out (set10 _ _ _ _ _ _ _ _ _ _ _ _) HRP.out.1 HRP.out.2).on (Ext.refl _).drew⟩
end Go.Proofs.Ytlhmifkimnmnmaa
