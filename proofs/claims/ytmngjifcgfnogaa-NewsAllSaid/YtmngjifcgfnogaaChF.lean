/- Chain: Of. -/
import Derived.Test.YtmngjifcgfnogaaChE
namespace Go.Proofs.Ytmngjifcgfnogaa
set_option linter.unusedSimpArgs false
set_option linter.unusedVariables false
set_option maxRecDepth 100000
open Go.RowKit

def insT (o : List Tm) (t : Tm) : List Tm := o.take (posT o t) ++ t :: o.drop (posT o t)
def stepT (o : List Tm) (t : Tm) : List Tm := if (!rightB t || o.any (fun x => leB x t)) then o else insT (o.filter (fun x => !leB t x)) t
def chT (l : List Tm) : List Tm := l.foldl stepT []
theorem insT_len (o : List Tm) (t : Tm) : (insT o t).length = o.length + 1 := by
  have := posT_le t o
  simp [insT]
  omega
theorem stepT_len (o : List Tm) (t : Tm) : (stepT o t).length ≤ o.length + 1 := by
  unfold stepT
  split
  · omega
  · rw [insT_len]
    have := List.length_filter_le (fun x => !leB t x) o
    omega
theorem chT_take {l : List Tm} {j : Nat} {x : Tm} (h : l[j]? = some x) : chT (l.take (j + 1)) = stepT (chT (l.take j)) x := by
  unfold chT
  rw [List.take_add_one, h, Option.toList_some, List.foldl_append]
  rfl
/-- All right, and in order. -/
def RS (o : List Tm) : Prop := (∀ x ∈ o, rightB x = true) ∧ Srt o
theorem posT_before {o : List Tm} {t : Tm} : ∀ x ∈ o.take (posT o t), lessB x t = true := by
  induction o with
  | nil => intro x hx; simp [posT] at hx
  | cons a o ih =>
    intro x hx
    unfold posT at hx
    cases ha : lessB a t
    · rw [ha] at hx; simp at hx
    · rw [ha] at hx
      simp only [if_true, List.take_succ_cons, List.mem_cons] at hx
      rcases hx with rfl | hx
      · exact ha
      · exact ih x hx
theorem posT_after {o : List Tm} {t : Tm} (h : RS o) (ht : rightB t = true) (hn : t ∉ o) : ∀ x ∈ o.drop (posT o t), lessB t x = true := by
  induction o with
  | nil => intro x hx; simp at hx
  | cons a o ih =>
    intro x hx
    have hs := List.pairwise_cons.1 h.2
    unfold posT at hx
    cases ha : lessB a t
    · rw [ha] at hx
      simp only [Bool.false_eq_true, if_false, List.drop_zero, List.mem_cons] at hx
      have hta : lessB t a = true := lessB_total (h.1 a (List.mem_cons_self)) ht (fun e => hn (by rw [e]; exact List.mem_cons_self)) ha
      rcases hx with rfl | hx
      · exact hta
      · exact lessB_trans hta (hs.1 x hx)
    · rw [ha] at hx
      simp only [if_true, List.drop_succ_cons] at hx
      exact ih ⟨fun y hy => h.1 y (List.mem_cons_of_mem _ hy), hs.2⟩ (fun hm => hn (List.mem_cons_of_mem _ hm)) x hx
theorem mem_ins {o : List Tm} {t x : Tm} : x ∈ insT o t ↔ x ∈ o ∨ x = t := by
  unfold insT
  rw [List.mem_append, List.mem_cons]
  conv => rhs; rw [← List.take_append_drop (posT o t) o, List.mem_append]
  rw [or_assoc]
  exact or_congr_right or_comm
theorem ins_rs {o : List Tm} {t : Tm} (h : RS o) (ht : rightB t = true) (hn : t ∉ o) : RS (insT o t) := by
  refine ⟨fun x hx => ?_, ?_⟩
  · rcases mem_ins.1 hx with hx | rfl
    · exact h.1 x hx
    · exact ht
  · have hd : Srt (o.take (posT o t) ++ o.drop (posT o t)) := by rw [List.take_append_drop]; exact h.2
    have h1 := List.pairwise_append.1 hd
    refine List.pairwise_append.2 ⟨h1.1, List.pairwise_cons.2 ⟨posT_after h ht hn, h1.2.1⟩, fun x hx y hy => ?_⟩
    rcases List.mem_cons.1 hy with rfl | hy
    · exact posT_before x hx
    · exact h1.2.2 x hx y hy
theorem filter_rs {o : List Tm} (h : RS o) (P : Tm → Bool) : RS (o.filter P) := ⟨fun x hx => h.1 x (List.mem_filter.1 hx).1, List.Pairwise.filter P h.2⟩
theorem not_in_filter {o : List Tm} {t : Tm} (ht : rightB t = true) : t ∉ o.filter (fun x => !leB t x) := by
  intro h
  have := (List.mem_filter.1 h).2
  rw [leB_refl ht] at this
  cases this
theorem step_rs {o : List Tm} {t : Tm} (h : RS o) : RS (stepT o t) := by
  unfold stepT
  split
  · exact h
  · rename_i hc
    have ht : rightB t = true := by
      cases hr : rightB t
      · simp [hr] at hc
      · rfl
    exact ins_rs (filter_rs h _) ht (not_in_filter ht)
theorem chT_rs (l : List Tm) : RS (chT l) := by
  have key : ∀ (l o : List Tm), RS o → RS (l.foldl stepT o) := by
    intro l
    induction l with
    | nil => intro o h; exact h
    | cons a l ih => intro o h; exact ih _ (step_rs h)
  exact key l [] ⟨fun x hx => by simp at hx, List.Pairwise.nil⟩
theorem chT_len (l : List Tm) : (chT l).length ≤ l.length := by
  have key : ∀ (l o : List Tm), (l.foldl stepT o).length ≤ o.length + l.length := by
    intro l
    induction l with
    | nil => intro o; exact Nat.le_refl _
    | cons a l ih =>
      intro o
      have h1 := ih (stepT o a)
      have h2 := stepT_len o a
      rw [List.foldl_cons, List.length_cons]
      omega
  have := key l []
  rwa [List.length_nil, Nat.zero_add] at this
/-- An own row of timestamps, new above 'base', in a world that 'w0' has grown into. -/
def Row (w0 : World) (base : Nat) (l : List Tm) (v : Value) (w : World) : Prop :=
  Ext w0 w ∧ ∃ a c, v = .slice a l.length c ∧ w.ownsRow base 47 5 (.slice a l.length c) l.length (tms l)
theorem Row.of_grows {w0 w w' : World} {base : Nat} {v : Value} {l : List Tm} {e : Ending} (hx : Ext w0 w) (hv : ∀ k, v.ownBlock = some k → w0.heap.size ≤ k) (h : Grows w base v l e w') : ∃ v', e = .returned v' ∧ Row w0 base l v' w' := by
  obtain ⟨b, c, rfl, hg, ho, -⟩ := h
  exact ⟨_, rfl, hx.grown hg hv, b, c, rfl, ho⟩
theorem BoxT.grownR {w w' : World} {p : Nat} {r : Option Nat} {t : Tm} (h : BoxT w p t) (hg : w.grownBy w' r) (hne : r ≠ some p) : BoxT w' p t := by
  have hb : w'.heap[p]? = w.heap[p]? := hg.block p (World.block_lt_of_cell? _ _ h.1) (fun e => hne e.symm)
  obtain ⟨h0, h1, h2, h3, h4⟩ := h
  have k : ∀ j, w'.cell? ⟨p, j, none⟩ = w.cell? ⟨p, j, none⟩ := fun j => World.cell?_of_block hb
  exact ⟨(k 0).trans h0, (k 1).trans h1, (k 2).trans h2, (k 3).trans h3, (k 4).trans h4⟩
/-- The deletion, behind it the box and the row. -/
theorem del_row (l : List Tm) (a : Option Addr) (c base p : Nat) (t : Tm) (w0 w : World) (hx : Ext w0 w) (hb0 : w0.heap.size ≤ base) (h : w.ownsRow base 47 5 (.slice a l.length c) l.length (tms l)) (hn : l.length ≤ 1073741823) (hp : BoxT w p t) (hne : (Value.slice a l.length c).ownBlock ≠ some p) :
    Calls Try.prog 45 #[.slice a l.length c, .func (Fn.func 46) #[] #[.pointer (some ⟨p, 0, none⟩)]] w fun e w' => ∃ b c', e = .returned (.slice b (l.filter (fun x => !leB t x)).length c') ∧ Ext w0 w' ∧ w'.ownsRow base 47 5 (.slice b (l.filter (fun x => !leB t x)).length c') (l.filter (fun x => !leB t x)).length (tms (l.filter (fun x => !leB t x))) ∧ BoxT w' p t ∧ w.heap.size ≤ w'.heap.size := by
  refine (del_any l a _ c base p t w h rfl hn hp hne).mono ?_
  rintro e w' ⟨b, c', rfl, hg, ho, -⟩
  exact ⟨b, c', rfl, hx.grown hg (fun k hk => Nat.le_trans hb0 (h.lt k hk).1), ho, hp.grownR hg hne, hg.size⟩
theorem ins_row (l : List Tm) (a : Option Addr) (c base : Nat) (t : Tm) (w0 w : World) (hx : Ext w0 w) (hb0 : w0.heap.size ≤ base) (hb : base ≤ w.heap.size) (h : w.ownsRow base 47 5 (.slice a l.length c) l.length (tms l)) (hn : l.length ≤ 1073741823) (vb : Nat) (hvb : vb = w.heap.size) :
    Calls Try.prog 51 #[.slice a l.length c, .int .i64 (posT l t), .slice (some ⟨vb, 0, none⟩) 1 1] (w.alloc (.cells #[.int .i64 t.d, .int .i64 t.a, .int .i64 t.b, .int .i64 t.c, .int .i64 t.e] 47)) fun e w' => ∃ v', e = .returned v' ∧ Row w0 base (insT l t) v' w' := by
  subst hvb
  refine (ins_any l a _ c base w.heap.size (posT l t) t w0 _ (hx.alloc _) hb0 (by rw [World.size_alloc]; omega) (own_of_extY h ((Ext.refl w).alloc _)) rfl hn (posT_le t l) (fun e => by have := (h.lt _ e).2; omega) (heap_alloc_new w _)).mono ?_
  intro e w' hg
  exact Row.of_grows (hx.alloc _) (fun k hk => Nat.le_trans hb0 (h.lt k hk).1) hg
set_option maxHeartbeats 4000000 in
theorem of_any (l : List Tm) (a : Option Addr) (c : Nat) (w : World) (h : Rd w 5 l.length (.slice a l.length c) (tms l)) (hn : l.length ≤ 1073741823) :
    Calls Try.prog 19 #[.slice a l.length c] w fun e w' => ∃ v', e = .returned v' ∧ Row w w.heap.size (chT l) v' w' := by
  have H := Lib.hid h
  have HN := Lib.hid hn
  clear h hn
  go_enter Try.func19, Try.ntmps19
  go_wp2
  go_loopw [10, 3] (fun si so wr => ∃ j : Nat, j ≤ l.length ∧ si = .int .i64 j ∧ Row w w.heap.size (chT (l.take j)) so wr) (fun si _ _ => l.length - (intOf si).toNat)
  case atStart => exact ⟨0, by omega, rfl, by (repeat' (first | with_reducible exact Ext.refl _ | with_reducible refine Ext.ext ?_ _ | with_reducible refine Ext.alloc ?_ _ | with_reducible refine Ext.drew ?_ | with_reducible refine Ext.drewN ?_ _ | with_reducible assumption)), none, 0, rfl, World.ownsRow_nil _ _ _ _⟩
  case round =>
    obtain ⟨j, hj, rfl, hx, ao, co, rfl, ho⟩ := hrel
    have HX1 := Lib.hid hx
    have HO := Lib.hid ho
    clear hx ho
    by_cases hlt : j < l.length
    · obtain ⟨x, hx⟩ : ∃ x, l[j]? = some x := ⟨l[j], List.getElem?_eq_getElem _⟩
      obtain ⟨b, off, rfl, -⟩ := H.out.cells (by omega)
      obtain ⟨q0, q1, q2, q3, q4⟩ := tm_at (H.out.of_ext HX1.out) j x hx
      have i1 : (0 : Int) ≤ j := by omega
      have i2 : (j : Int) < l.length := by omega
      have ew : wrap64 ((j : Int) + 1) = ((j + 1 : Nat) : Int) := (IntWalk.wrap64_in _ ⟨by omega, by have := HN.out; omega⟩).trans (by omega)
      have HS := Lib.hid (chT_take hx)
      have hrs := chT_rs (l.take j)
      have hln : (chT (l.take j)).length ≤ 1073741822 := by have := chT_len (l.take j); rw [List.length_take] at this; have := HN.out; omega
      generalize chT (l.take j) = o at *
      haveI : LtSz b wr.heap.size := ⟨World.block_lt_of_cell? _ _ q0⟩
      have RT := Lib.hid (fun W => right_any x.d x.a x.b x.c x.e W)
      have CV := Lib.hid (fun W (hW : Ext wr W) => covers_any o ao co x W ((own_rd HO.out).of_ext hW) (by omega))
      have hob : (Value.slice ao o.length co).ownBlock ≠ some wr.heap.size := fun e => by have := (HO.out.lt _ e).2; omega
      have DL := Lib.hid (fun W (hW : Ext (wr.alloc (.cells #[.int .i64 x.d, .int .i64 x.a, .int .i64 x.b, .int .i64 x.c, .int .i64 x.e] 47)) W) => del_row o ao co w.heap.size wr.heap.size x w W ((HX1.out.alloc _).trans hW) (Nat.le_refl _) (own_of_extY HO.out (((Ext.refl wr).alloc _).trans hW)) (by omega) (BoxT.on ⟨cell_lit _ _ _ _ _ _ rfl rfl, cell_lit _ _ _ _ _ _ rfl rfl, cell_lit _ _ _ _ _ _ rfl rfl, cell_lit _ _ _ _ _ _ rfl rfl, cell_lit _ _ _ _ _ _ rfl rfl⟩ hW) hob)
      obtain ⟨xd, xa, xb, xc, xe⟩ := x
      dsimp only at q0 q1 q2 q3 q4 RT CV DL
      clear hx hob
      have fin : ∀ v' W', stepT o ⟨xd, xa, xb, xc, xe⟩ = chT (l.take (j + 1)) → Row w w.heap.size (stepT o ⟨xd, xa, xb, xc, xe⟩) v' W' → (∃ j' : Nat, j' ≤ l.length ∧ Value.int IntKind.i64 (wrap64 ((j : Int) + 1)) = .int .i64 j' ∧ Row w w.heap.size (chT (l.take j')) v' W') ∧ l.length - (intOf (Value.int IntKind.i64 (wrap64 ((j : Int) + 1)))).toNat < l.length - (intOf (Value.int IntKind.i64 (j : Int))).toNat := fun v' W' h1 h2 => ⟨⟨j + 1, by omega, congrArg (Value.int .i64) ew, by rw [← h1]; exact h2⟩, by rw [ew]; simp only [intOf]; omega⟩
      have FIN := Lib.hid fin
      clear fin
      cases hr : rightB ⟨xd, xa, xb, xc, xe⟩
      · rw [hr] at RT
        have E1 := Lib.hid (show stepT o ⟨xd, xa, xb, xc, xe⟩ = o by unfold stepT; rw [hr]; rfl)
        clear hr
        go_wp2_with (go_at_call 20; refine (RT.out _).mono ?_; rintro e w2 ⟨rfl, x1, rfl⟩)
        refine FIN.out _ _ HS.out.symm ?_
        rw [E1.out]
        exact ⟨HX1.out.trans (by (repeat' (first | with_reducible exact Ext.refl _ | with_reducible refine Ext.ext ?_ _ | with_reducible refine Ext.alloc ?_ _ | with_reducible refine Ext.drew ?_ | with_reducible refine Ext.drewN ?_ _ | with_reducible assumption))), ao, co, rfl, own_of_extY HO.out (by (repeat' (first | with_reducible exact Ext.refl _ | with_reducible refine Ext.ext ?_ _ | with_reducible refine Ext.alloc ?_ _ | with_reducible refine Ext.drew ?_ | with_reducible refine Ext.drewN ?_ _ | with_reducible assumption)))⟩
      · rw [hr] at RT
        cases hcv : o.any (fun y => leB y ⟨xd, xa, xb, xc, xe⟩)
        · rw [hcv] at CV
          have E1 := Lib.hid (show stepT o ⟨xd, xa, xb, xc, xe⟩ = insT (o.filter (fun y => !leB ⟨xd, xa, xb, xc, xe⟩ y)) ⟨xd, xa, xb, xc, xe⟩ by unfold stepT; rw [hr, hcv]; rfl)
          have hrs1 := filter_rs hrs (fun y => !leB ⟨xd, xa, xb, xc, xe⟩ y)
          have hl1 := List.length_filter_le (fun y => !leB ⟨xd, xa, xb, xc, xe⟩ y) o
          generalize o.filter (fun y => !leB ⟨xd, xa, xb, xc, xe⟩ y) = o1 at *
          have BS := Lib.hid (fun W b1 c1 (hW : Rd W 5 o1.length (.slice b1 o1.length c1) (tms o1)) => bsf_any o1 b1 _ c1 W hW rfl (by omega) hrs1.2 ⟨xd, xa, xb, xc, xe⟩)
          have INS := Lib.hid (fun W vb b1 c1 hvb hx hW => ins_row o1 b1 c1 w.heap.size ⟨xd, xa, xb, xc, xe⟩ w W hx (Nat.le_refl _) (Ext.grows hx none).size hW (by omega) vb hvb)
          dsimp only at BS INS
          clear hr hcv hrs1 hl1 hrs hln
          go_wp2_with (first | (go_at_call 20; refine (RT.out _).mono ?_; rintro e w2 ⟨rfl, x1, rfl⟩) | (go_at_call 22; refine (CV.out _ (by (repeat' (first | with_reducible exact Ext.refl _ | with_reducible refine Ext.ext ?_ _ | with_reducible refine Ext.alloc ?_ _ | with_reducible refine Ext.drew ?_ | with_reducible refine Ext.drewN ?_ _ | with_reducible assumption)))).mono ?_; rintro e w2 ⟨rfl, x2, rfl⟩) | (go_at_call 45; refine (DL.out _ (by (repeat' (first | with_reducible exact Ext.refl _ | with_reducible refine Ext.ext ?_ _ | with_reducible refine Ext.alloc ?_ _ | with_reducible refine Ext.drew ?_ | with_reducible refine Ext.drewN ?_ _ | with_reducible assumption)))).mono ?_; rintro e w2 ⟨b1, c1, rfl, hx2, hw2, hp2, hs2⟩; have HX2 := Lib.hid hx2; have HW2 := Lib.hid hw2; obtain ⟨g0, g1, g2, g3, g4⟩ := hp2; haveI : LtSz wr.heap.size w2.heap.size := ⟨World.block_lt_of_cell? _ _ g0⟩; clear hx2 hw2 hs2; dsimp only at g0 g1 g2 g3 g4) | (go_at_call 48; refine (BS.out _ _ _ ((own_rd HW2.out).of_ext (by (repeat' (first | with_reducible exact Ext.refl _ | with_reducible refine Ext.ext ?_ _ | with_reducible refine Ext.alloc ?_ _ | with_reducible refine Ext.drew ?_ | with_reducible refine Ext.drewN ?_ _ | with_reducible assumption))))).mono ?_; rintro e w3 ⟨rfl, x3, rfl⟩) | (go_at_call 51; refine (INS.out _ _ _ _ (by first | rfl | (simp; done)) (HX2.out.trans (by (repeat' (first | with_reducible exact Ext.refl _ | with_reducible refine Ext.ext ?_ _ | with_reducible refine Ext.alloc ?_ _ | with_reducible refine Ext.drew ?_ | with_reducible refine Ext.drewN ?_ _ | with_reducible assumption)))) (own_of_extY HW2.out (by (repeat' (first | with_reducible exact Ext.refl _ | with_reducible refine Ext.ext ?_ _ | with_reducible refine Ext.alloc ?_ _ | with_reducible refine Ext.drew ?_ | with_reducible refine Ext.drewN ?_ _ | with_reducible assumption))))).mono ?_; rintro e w4 ⟨v4, rfl, hx4, a4, c4, rfl, ho4⟩; have HX4 := Lib.hid hx4; have HO4 := Lib.hid ho4; clear hx4 ho4))
          refine FIN.out _ _ HS.out.symm ?_
          rw [E1.out]
          exact ⟨HX4.out.trans (by (repeat' (first | with_reducible exact Ext.refl _ | with_reducible refine Ext.ext ?_ _ | with_reducible refine Ext.alloc ?_ _ | with_reducible refine Ext.drew ?_ | with_reducible refine Ext.drewN ?_ _ | with_reducible assumption))), a4, c4, rfl, own_of_extY HO4.out (by (repeat' (first | with_reducible exact Ext.refl _ | with_reducible refine Ext.ext ?_ _ | with_reducible refine Ext.alloc ?_ _ | with_reducible refine Ext.drew ?_ | with_reducible refine Ext.drewN ?_ _ | with_reducible assumption)))⟩
        · rw [hcv] at CV
          have E1 := Lib.hid (show stepT o ⟨xd, xa, xb, xc, xe⟩ = o by unfold stepT; rw [hr, hcv]; rfl)
          clear hr hcv
          go_wp2_with (first | (go_at_call 20; refine (RT.out _).mono ?_; rintro e w2 ⟨rfl, x1, rfl⟩) | (go_at_call 22; refine (CV.out _ (by (repeat' (first | with_reducible exact Ext.refl _ | with_reducible refine Ext.ext ?_ _ | with_reducible refine Ext.alloc ?_ _ | with_reducible refine Ext.drew ?_ | with_reducible refine Ext.drewN ?_ _ | with_reducible assumption)))).mono ?_; rintro e w2 ⟨rfl, x2, rfl⟩))
          refine FIN.out _ _ HS.out.symm ?_
          rw [E1.out]
          exact ⟨HX1.out.trans (by (repeat' (first | with_reducible exact Ext.refl _ | with_reducible refine Ext.ext ?_ _ | with_reducible refine Ext.alloc ?_ _ | with_reducible refine Ext.drew ?_ | with_reducible refine Ext.drewN ?_ _ | with_reducible assumption))), ao, co, rfl, own_of_extY HO.out (by (repeat' (first | with_reducible exact Ext.refl _ | with_reducible refine Ext.ext ?_ _ | with_reducible refine Ext.alloc ?_ _ | with_reducible refine Ext.drew ?_ | with_reducible refine Ext.drewN ?_ _ | with_reducible assumption)))⟩
    · obtain rfl : j = l.length := by omega
      go_wp2
      go_returns
      have hl : l.take l.length = l := List.take_of_length_le (Nat.le_refl _)
      have ho := HO.out
      rw [hl] at ho ⊢
      exact ⟨_, rfl, HX1.out, ao, co, rfl, ho⟩
end Go.Proofs.Ytmngjifcgfnogaa
