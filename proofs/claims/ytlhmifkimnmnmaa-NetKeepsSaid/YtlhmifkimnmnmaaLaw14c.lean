/- law 14: the walk of NetKeeps. -/
import Derived.Test.YtlhmifkimnmnmaaLaw14a
import Derived.Test.YtlhmifkimnmnmaaNtQ
import Derived.Test.YtlhmifkimnmnmaaNtR
namespace Go.Proofs.Ytlhmifkimnmnmaa
set_option linter.unusedSimpArgs false
set_option linter.unusedVariables false
open Go.RowKit

structure St where
  p : Bool
  e : Int
  f : Int
  t : Int
  i : Int
deriving DecidableEq
def St.cs (x : St) : List Value := [Value.bool x.p, Value.int .u8 x.e, Value.int .u8 x.f, Value.int .u8 x.t, Value.int .u8 x.i]
def sts : List St → List Value
  | [] => []
  | x :: l => Value.bool x.p :: Value.int .u8 x.e :: Value.int .u8 x.f :: Value.int .u8 x.t :: Value.int .u8 x.i :: sts l
theorem sts_length (l : List St) : (sts l).length = l.length * 5 := by
  induction l with
  | nil => rfl
  | cons a l ih => simp only [sts, List.length_cons, ih]; omega
theorem sts_append (l m : List St) : sts (l ++ m) = sts l ++ sts m := by
  induction l with
  | nil => rfl
  | cons a l ih => simp only [List.cons_append, sts, ih]
theorem sts_one (l : List St) : ∀ u ∈ sts l, u.oneCell' = true := by
  induction l with
  | nil => intro u hu; cases hu
  | cons a l ih =>
    intro u hu
    simp only [sts, List.mem_cons] at hu
    rcases hu with rfl | rfl | rfl | rfl | rfl | hu
    · rfl
    · rfl
    · rfl
    · rfl
    · rfl
    · exact ih u hu
theorem sts_get : ∀ (l : List St) (j : Nat) (x : St), l[j]? = some x → (sts l)[j * 5]? = some (Value.bool x.p) ∧ (sts l)[j * 5 + 1]? = some (Value.int .u8 x.e) ∧ (sts l)[j * 5 + 2]? = some (Value.int .u8 x.f) ∧ (sts l)[j * 5 + 3]? = some (Value.int .u8 x.t) ∧ (sts l)[j * 5 + 4]? = some (Value.int .u8 x.i)
  | [], j, x, h => by simp at h
  | a :: l, 0, x, h => by
    obtain rfl : a = x := by simpa using h
    exact ⟨rfl, rfl, rfl, rfl, rfl⟩
  | a :: l, j + 1, x, h => by
    have := sts_get l j x (by simpa using h)
    rw [show (j + 1) * 5 = j * 5 + 1 + 1 + 1 + 1 + 1 by omega]
    simpa [sts] using this
/-- The cells of an element. -/
theorem sts_at {w : World} {b off n c : Nat} {l : List St} (h : Rd w 5 n (.slice (some ⟨b, off, none⟩) n c) (sts l)) (j : Nat) (x : St) (hj : l[j]? = some x) :
    w.cell? ⟨b, off + j * 5, none⟩ = some (Value.bool x.p) ∧ w.cell? ⟨b, off + j * 5 + 1, none⟩ = some (Value.int .u8 x.e) ∧ w.cell? ⟨b, off + j * 5 + 2, none⟩ = some (Value.int .u8 x.f) ∧ w.cell? ⟨b, off + j * 5 + 3, none⟩ = some (Value.int .u8 x.t) ∧ w.cell? ⟨b, off + j * 5 + 4, none⟩ = some (Value.int .u8 x.i) := by
  obtain ⟨h1, h2, h3, h4, h5⟩ := sts_get l j x hj
  have hlt := (List.getElem?_eq_some_iff.1 hj).1
  have hl := h.len
  rw [sts_length] at hl
  obtain ⟨b', off', hb, hc⟩ := h.cells (by omega)
  obtain ⟨rfl, rfl⟩ : b = b' ∧ off = off' := by simpa using hb
  have c1 := hc _ _ h1
  have c2 := hc _ _ h2
  have c3 := hc _ _ h3
  have c4 := hc _ _ h4
  have c5 := hc _ _ h5
  rw [← Nat.add_assoc] at c2 c3 c4 c5
  exact ⟨c1, c2, c3, c4, c5⟩
theorem sts_take : ∀ (l : List St) (m : Nat), sts (l.take m) = (sts l).take (m * 5)
  | [], m => by simp [sts]
  | a :: l, 0 => by simp [sts]
  | a :: l, m + 1 => by
    rw [show (m + 1) * 5 = m * 5 + 1 + 1 + 1 + 1 + 1 by omega]
    simp only [List.take_succ_cons, sts, sts_take l m]
theorem sts_drop : ∀ (l : List St) (m : Nat), sts (l.drop m) = (sts l).drop (m * 5)
  | [], m => by simp [sts]
  | a :: l, 0 => by simp [sts]
  | a :: l, m + 1 => by
    rw [show (m + 1) * 5 = m * 5 + 1 + 1 + 1 + 1 + 1 by omega]
    simp only [List.drop_succ_cons, sts, sts_drop l m]
theorem sts_erase (l : List St) (i : Nat) : sts (l.eraseIdx i) = (sts l).take (i * 5) ++ (sts l).drop ((i + 1) * 5) := by
  rw [List.eraseIdx_eq_take_drop_succ, sts_append, sts_take, sts_drop]
theorem sts_flat (ps : List St) : ps.flatMap (fun x => [Value.bool x.p, Value.int .u8 x.e, Value.int .u8 x.f, Value.int .u8 x.t, Value.int .u8 x.i]) = sts ps := by
  induction ps with
  | nil => rfl
  | cons a l ih => simp [sts, ih]

def okSt (x : St) : Prop := (0 ≤ x.e ∧ x.e ≤ 255) ∧ (0 ≤ x.f ∧ x.f ≤ 255) ∧ (0 ≤ x.t ∧ x.t ≤ 255) ∧ (0 ≤ x.i ∧ x.i ≤ 255)
/-- A row of another type is written. -/
theorem PtsG.besideT {α β : Type} {S : Sh α β} {w0 W W' : World} {ls : List α} {v u : Value} {b n K : Nat} {T : TypeId} {xs : List Value} (h : PtsG S w0 ls v W) (hrow : W.ownsRow b T K u n xs) (h1 : S.T ≠ T) (h2 : T ≠ S.TI) (hgr : W.grownBy W' u.ownBlock) (hx : Ext w0 W') : PtsG S w0 ls v W' := by
  obtain ⟨hx1, a, c, us, rfl, hl, ho, he, hd⟩ := h
  have row : ∀ g, u.ownBlock = some g → (Value.slice a ls.length c).ownBlock ≠ some g := fun g hg e => by
    rcases hrow.2 with ⟨rfl, -⟩ | ⟨g', cap', cur', rfl, -, hg', -⟩
    · cases hg
    · obtain rfl : g' = g := by simpa [Value.ownBlock] using hg
      rcases ho.2 with ⟨h0, -⟩ | ⟨g2, cap, cur, h0, -, hg2, -⟩
      · obtain ⟨rfl, -, -⟩ := Value.slice.inj h0
        cases e
      · obtain ⟨rfl, -, -⟩ := Value.slice.inj h0
        obtain rfl : g2 = g' := by simpa [Value.ownBlock] using e
        rw [hg2] at hg'
        have := Option.some.inj hg'
        simp only [Obj.cells.injEq] at this
        exact h1 this.2.1
  refine ⟨hx, a, c, us, rfl, hl, ho.kept hgr ?_, fun i x u' hi hu => (he i x u' hi hu).kept hgr ?_, hd⟩
  · cases hb : (Value.slice a ls.length c).ownBlock with
    | none => exact .inl rfl
    | some k => exact .inr (fun e => row k e.symm hb)
  · cases hb : u'.ownBlock with
    | none => exact .inl rfl
    | some k => exact .inr (fun e => (he i x u' hi hu).apart h2 hrow k e.symm hb)
theorem put_letP {w0 w : World} {l : List Bx} {a : Option Addr} {n c : Nat} (h : PtsG shB w0 l (.slice a n c) w) (hf : Few l) (f t room e d x0 x1 x2 x3 k v q o : Int) (l' : List Bx) (b : Bool) (hP : putS l f t room ⟨e, d, x0, x1, x2, x3, k, v, q, o⟩ = l') (hO : putOk l f t room ⟨e, d, x0, x1, x2, x3, k, v, q, o⟩ = b) :
    Calls Try.prog 8 #[.slice a n c, .int .i64 f, .int .i64 t, .int .i64 room, .agg #[.int .i64 e, .int .i64 d, .int .i64 x0, .int .i64 x1, .int .i64 x2, .int .i64 x3, .int .i64 k, .int .i64 v, .int .i64 q, .int .i64 o]] w fun r w' => ∃ a' c', r = .returned (.tuple #[.slice a' l'.length c', .bool b]) ∧ Ext w w' ∧ PtsG shB w0 l' (.slice a' l'.length c') w' := by
  subst hP hO
  have hr := h.rds
  refine (put_any l a n c w hr (by have := rds_len hr; have := hf.1; omega) (fun x hx => Nat.le_trans (hf.2 x hx) (by decide)) f t room ⟨e, d, x0, x1, x2, x3, k, v, q, o⟩).mono ?_
  rintro r w' ⟨v', rfl, hp⟩
  obtain ⟨a', c', rfl⟩ := rds_form hp.rds
  exact ⟨a', c', rfl, hp.1, hp.up h.1⟩
theorem take_letP {w0 w : World} {l : List Bx} {a : Option Addr} {n c : Nat} (h : PtsG shB w0 l (.slice a n c) w) (hf : Few l) (e f t i : Int) (hi : -9223372036854775808 ≤ i ∧ i ≤ 9223372036854775807) (l' : List Bx) (m : Mg) (b : Bool) (hP : takeS l e f t i = l') (hM : tookM l e f t i = m) (hO : takeOk l e f t i = b) :
    Calls Try.prog 13 #[.slice a n c, .int .i64 e, .int .i64 f, .int .i64 t, .int .i64 i] w fun r w' => ∃ a' c', r = .returned (.tuple #[.slice a' l'.length c', .agg #[.int .i64 m.e, .int .i64 m.d, .int .i64 m.a, .int .i64 m.b, .int .i64 m.c, .int .i64 m.f, .int .i64 m.k, .int .i64 m.v, .int .i64 m.n, .int .i64 m.q], .bool b]) ∧ Ext w w' ∧ PtsG shB w0 l' (.slice a' l'.length c') w' := by
  subst hP hM hO
  have hr := h.rds
  refine (take_any l a n c w hr (by have := rds_len hr; have := hf.1; omega) (fun x hx => Nat.le_trans (hf.2 x hx) (by decide)) e f t i hi).mono ?_
  rintro r w' ⟨v', rfl, hp⟩
  obtain ⟨a', c', rfl⟩ := rds_form hp.rds
  exact ⟨a', c', rfl, hp.1, hp.up h.1⟩
theorem PtsG.nil {α β : Type} {S : Sh α β} (w0 w : World) (hx : Ext w0 w) : PtsG S w0 [] (.slice none 0 0) w := ⟨hx, none, 0, [], rfl, rfl, by simpa [rowC] using World.ownsRow_nil w w0.heap.size S.T S.K, fun i x u h => by simp at h, fun i i' u u' _ h => by simp at h⟩
theorem push_num {ops : Array Oper} {rest : List Oper} {o : Oper} {a : Act} {Q : Exit → Act → World → Prop} (hgd : o.guard = none) (s x : Operand) (ho : o.op = .call { callee := .builtin .append, args := #[s, x], argTypes := #[45, 45] })
    (w0 w1 : World) (hx0 : Ext w0 w1) (l : List Int) (v : Value) (h : Nums w0 w1 l v) (b c : Nat) (n : Int) (hs : a.eval s = v) (hx : a.eval x = .slice (some ⟨b, 0, none⟩) 1 c) (hb : b = w1.heap.size) (hl : l.length ≤ 1073741823)
    (k : ∀ v' w', Ext w0 w' → w1.grownBy w' v.ownBlock → Nums w0 w' (l ++ [n]) v' → wpList Try.prog ops Q rest (a.put o.dst v') w') :
    wpList Try.prog ops Q (o :: rest) a (w1.alloc (.cells #[.int .i64 n] 3)) := by
  obtain ⟨a', c', rfl, hown⟩ := h
  obtain ⟨i, rfl⟩ := hx0
  refine wpList_pushF hgd s x 45 ho 3 (.int .i64 0) 1 8 Try.underlying45 info_i64i rfl (by decide) w0 i w0.heap.size _ l.length (l.map (Value.int .i64)) hown b 1 c #[.int .i64 n] hs hx rfl (by simp [Value.oneCell']) (by decide) hb (by unfold maxLen; omega) (by omega) (by simp) (Nat.le_refl _) ?_
  intro g cap y hown1 hgr hat
  refine k _ _ ⟨y, rfl⟩ hgr ⟨some ⟨g, 0, none⟩, cap, by rw [List.length_append]; rfl, ?_⟩
  rw [List.length_append, List.map_append]
  exact hown1
set_option maxRecDepth 100000 in
set_option maxHeartbeats 16000000 in
theorem walk_NetKeeps (w : World) (L : List St) (a : Option Addr) (c : Nat) (hr : Rd w 5 L.length (.slice a L.length c) (sts L)) (hs : ∀ x ∈ L, okSt x) (room : Int) (hrm : 0 ≤ room ∧ room ≤ 255) :
    Calls Try.prog 4 #[.slice a L.length c, .int .u8 room] w fun r w' => r = .returned (.bool true) ∧ Ext w w' := by
  have AW := Lib.hid awake14
  have H := Lib.hid hr
  have HS := Lib.hid hs
  have HR := Lib.hid hrm
  obtain ⟨hr1, hr2⟩ := hrm
  clear hr hs
  go_enter Try.func4, Try.ntmps4
  go_upto_region 6 with (go_at_call 6; refine (AW.out _).mono ?_; rintro r w1 ⟨rfl, hx⟩; have HX1 := Lib.hid hx; clear hx)
  go_wp2
  go_loopw [5, 6, 7, 8, 9] (fun n v x y i wr => ∃ (j nx tk : Nat) (l : List Bx) (ins : List Int), j ≤ L.length ∧ nx ≤ j ∧ j ≤ 150 ∧ i = .int .i64 j ∧ x = .int .i64 nx ∧ y = .int .i64 tk ∧ Ext w wr ∧ PtsG shB w l n wr ∧ Nums w wr ins v ∧ Inv14 l ins nx tk) (fun _ _ _ _ i _ => 150 - (intOf i).toNat)
  case atStart => exact ⟨0, 0, 0, [], [], by omega, by omega, by omega, rfl, rfl, rfl, HX1.out, PtsG.nil _ _ HX1.out, Nums.nil _ _, Inv14.nil⟩
  case round =>
    obtain ⟨j, nx, tk, l, ins, hj1, hj2, hj3, rfl, rfl, rfl, hx, hb, hv, hi⟩ := hrel
    have HX2 := Lib.hid hx
    have B2 := Lib.hid hb
    have V2 := Lib.hid hv
    have I2 := Lib.hid hi
    obtain ⟨na, nc, rfl⟩ := rds_form hb.rds
    obtain ⟨va, vc, rfl, -⟩ := hv
    have HJ := Lib.hid (And.intro hj1 (And.intro hj2 hj3))
    clear hx hb hi hj1 hj2 hj3
    obtain ⟨w2, hw2⟩ : ∃ x, x = wr := ⟨_, rfl⟩
    subst hw2
    by_cases hlt : j < L.length ∧ j < 150
    · obtain ⟨s, hsx⟩ : ∃ s, L[j]? = some s := ⟨L[j]'(by omega), List.getElem?_eq_getElem _⟩
      obtain ⟨b, off, rfl, -⟩ := H.out.cells (by omega)
      obtain ⟨q0, q1, q2, q3, q4⟩ := sts_at (H.out.of_ext HX2.out) j s hsx
      have i1 : (0 : Int) ≤ j := by omega
      have i2 : (j : Int) < L.length := by omega
      have i3 : (j : Int) < 150 := by omega
      have OS := Lib.hid (HS.out s (List.mem_of_getElem? hsx))
      obtain ⟨sp, se, sf, st, si⟩ := s
      dsimp only at q0 q1 q2 q3 q4 OS
      have os := OS.out
      obtain ⟨⟨o1, o2⟩, ⟨o3, o4⟩, ⟨o5, o6⟩, ⟨o7, o8⟩⟩ := os
      dsimp only at o1 o2 o3 o4 o5 o6 o7 o8
      have EW := Lib.hid (show wrap64 ((j : Int) + 1) = ((j + 1 : Nat) : Int) from (IntWalk.wrap64_in _ ⟨by omega, by omega⟩).trans (by omega))
      clear hsx
      go_upto_region 10 with fail
      obtain ⟨w3, hw3⟩ : ∃ W, W = w2.alloc (.cells #[.bool sp, .int .u8 se, .int .u8 sf, .int .u8 st, .int .u8 si] 47) := ⟨_, rfl⟩
      obtain ⟨sb, hsb⟩ : ∃ g, g = w2.heap.size := ⟨_, rfl⟩
      rw [← hw3, ← hsb]
      have s0 : w3.cell? ⟨sb, 0, none⟩ = some (.bool sp) := by subst hw3; exact cell_lit _ _ _ _ _ _ hsb rfl
      have s1 : w3.cell? ⟨sb, 1, none⟩ = some (.int .u8 se) := by subst hw3; exact cell_lit _ _ _ _ _ _ hsb rfl
      have s2 : w3.cell? ⟨sb, 2, none⟩ = some (.int .u8 sf) := by subst hw3; exact cell_lit _ _ _ _ _ _ hsb rfl
      have s3 : w3.cell? ⟨sb, 3, none⟩ = some (.int .u8 st) := by subst hw3; exact cell_lit _ _ _ _ _ _ hsb rfl
      have s4 : w3.cell? ⟨sb, 4, none⟩ = some (.int .u8 si) := by subst hw3; exact cell_lit _ _ _ _ _ _ hsb rfl
      have hx3 : Ext w2 w3 := by subst hw3; exact (Ext.refl w2).alloc _
      have HX3 := Lib.hid (HX2.out.trans hx3)
      have B3 := Lib.hid (B2.out.on hx3)
      have V3 := Lib.hid (V2.out.on hx3)
      haveI : LtSz sb w3.heap.size := ⟨World.block_lt_of_cell? _ _ s0⟩
      clear hw3 hsb hx3 q0 q1 q2 q3 q4 B2 V2 HX2
      refine wp_region_ext (by kernel_rfl) (by kernel_rfl) ?_
      repeat (go_big_quiet_step (fail))
      refine wpQuiet_nil ?_
      intro xK
      have c0 := (keep_cell s0 ((Ext.refl w3).ext xK)).2
      have c4 := (keep_cell s4 ((Ext.refl w3).ext xK)).2
      have HX4 := Lib.hid (HX3.out.ext xK)
      have B4 := Lib.hid (B3.out.on ((Ext.refl w3).ext xK))
      have V4 := Lib.hid (V3.out.on ((Ext.refl w3).ext xK))
      clear s0 s1 s2 s3 s4 B3 V3 HX3
      generalize ext w3 xK = w4 at *
      haveI : LtSz sb w4.heap.size := ⟨World.block_lt_of_cell? _ _ c0⟩
      obtain ⟨e, he⟩ : ∃ e, se % 3 = e := ⟨_, rfl⟩
      obtain ⟨f, hf⟩ : ∃ f, sf % 2 = f := ⟨_, rfl⟩
      obtain ⟨t, ht⟩ : ∃ t, st % 2 = t := ⟨_, rfl⟩
      have HE := Lib.hid (show 0 ≤ e ∧ 0 ≤ f ∧ 0 ≤ t by omega)
      rw [he, hf, ht]
      clear he hf ht o1 o2 o3 o4 o5 o6
      go_upto_if 53 with fail
      go_cut [5, 6, 7, 8] (fun n v x y wx => ∃ (nx' tk' : Nat) (l' : List Bx) (ins' : List Int), nx' ≤ j + 1 ∧ x = .int .i64 nx' ∧ y = .int .i64 tk' ∧ Ext w wx ∧ PtsG shB w l' n wx ∧ Nums w wx ins' v ∧ Inv14 l' ins' nx' tk')
      case first =>
        have FW := Lib.hid (I2.out.few (by have := HJ.out; omega))
        obtain ⟨Ln, hLn⟩ : ∃ Ln, lenS l e f t = Ln := ⟨_, rfl⟩
        have LE := Lib.hid (fun W (hx : Ext w4 W) => len_let (B4.out.on hx).rds FW.out e f t Ln hLn)
        cases sp
        case true =>
          obtain ⟨bo, hbo⟩ : ∃ b, decide ((Ln : Int) < room) = b := ⟨_, rfl⟩
          have hok := putOk_len (m := ⟨e, 0, 0, 0, 0, 0, 0, 0, nx, 0⟩) I2.out.right rfl HE.out.1 HE.out.2.1 HE.out.2.2 (show room ≤ 4096 by omega)
          rw [hLn, hbo] at hok
          obtain ⟨l', hl'⟩ : ∃ l', putS l f t room ⟨e, 0, 0, 0, 0, 0, 0, 0, nx, 0⟩ = l' := ⟨_, rfl⟩
          have PU := Lib.hid (put_letP B4.out FW.out f t room e 0 0 0 0 0 0 0 nx 0 l' bo hl' hok)
          unfold putS at hl'
          rw [hok] at hl'
          have HLN := Lib.hid (show bo = true → (inB l e f t).length < 4096 from fun h => by
            rw [h] at hbo
            have h1 := of_decide_eq_true hbo
            have h2 : lenS l e f t = (inB l e f t).length := by unfold lenS; rw [I2.out.right, if_pos rfl]
            omega)
          clear hok hLn
          cases bo
          case false =>
            obtain rfl : l = l' := hl'
            have bb : (false != false) = false := rfl
            go_wp2_with (first  | (go_at_call 8; (with_reducible refine PU.out.mono ?_); rintro r w5 ⟨a5, c5, rfl, hx, hb⟩; have HX5 := Lib.hid hx; have B5 := Lib.hid hb; clear hx hb)  | (go_at_call 15; (with_reducible refine (LE.out _ (by (repeat' (first | with_reducible exact Ext.refl _ | with_reducible refine Ext.ext ?_ _ | with_reducible refine Ext.alloc ?_ _ | with_reducible refine Ext.drew ?_ | with_reducible refine Ext.drewN ?_ _ | with_reducible refine Ext.trans ?_ HX1.out | with_reducible refine Ext.trans ?_ HX2.out | with_reducible refine Ext.trans ?_ HX3.out | with_reducible refine Ext.trans ?_ HX4.out | with_reducible refine Ext.trans ?_ HX5.out | with_reducible refine Ext.trans ?_ HX6.out | with_reducible refine Ext.trans ?_ HX7.out | with_reducible refine Ext.trans ?_ HX8.out | with_reducible refine Ext.trans ?_ HX9.out | with_reducible refine Ext.trans ?_ HX10.out | with_reducible refine Ext.trans ?_ HX11.out | with_reducible refine Ext.trans ?_ HX12.out | with_reducible refine Ext.trans ?_ HX13.out | with_reducible refine Ext.trans ?_ HX14.out | with_reducible refine Ext.trans ?_ HX15.out | with_reducible refine Ext.trans ?_ HX16.out | with_reducible refine Ext.trans ?_ HX17.out | with_reducible refine Ext.trans ?_ HX18.out | with_reducible refine Ext.trans ?_ HX19.out | with_reducible refine Ext.trans ?_ HX20.out | with_reducible refine Ext.trans ?_ HX21.out | with_reducible refine Ext.trans ?_ HX22.out | with_reducible refine Ext.trans ?_ HX23.out | with_reducible refine Ext.trans ?_ HX24.out)))).mono ?_); rintro r w6 ⟨rfl, hx⟩; have HX6 := Lib.hid hx; clear hx))
            go_meet
            exact ⟨nx, tk, l, ins, by have := HJ.out; omega, rfl, rfl, HX4.out.trans (by (repeat' (first | with_reducible exact Ext.refl _ | with_reducible refine Ext.ext ?_ _ | with_reducible refine Ext.alloc ?_ _ | with_reducible refine Ext.drew ?_ | with_reducible refine Ext.drewN ?_ _ | with_reducible refine Ext.trans ?_ HX1.out | with_reducible refine Ext.trans ?_ HX2.out | with_reducible refine Ext.trans ?_ HX3.out | with_reducible refine Ext.trans ?_ HX4.out | with_reducible refine Ext.trans ?_ HX5.out | with_reducible refine Ext.trans ?_ HX6.out | with_reducible refine Ext.trans ?_ HX7.out | with_reducible refine Ext.trans ?_ HX8.out | with_reducible refine Ext.trans ?_ HX9.out | with_reducible refine Ext.trans ?_ HX10.out | with_reducible refine Ext.trans ?_ HX11.out | with_reducible refine Ext.trans ?_ HX12.out | with_reducible refine Ext.trans ?_ HX13.out | with_reducible refine Ext.trans ?_ HX14.out | with_reducible refine Ext.trans ?_ HX15.out | with_reducible refine Ext.trans ?_ HX16.out | with_reducible refine Ext.trans ?_ HX17.out | with_reducible refine Ext.trans ?_ HX18.out | with_reducible refine Ext.trans ?_ HX19.out | with_reducible refine Ext.trans ?_ HX20.out | with_reducible refine Ext.trans ?_ HX21.out | with_reducible refine Ext.trans ?_ HX22.out | with_reducible refine Ext.trans ?_ HX23.out | with_reducible refine Ext.trans ?_ HX24.out))), B5.out.on HX6.out, V4.out.on (by (repeat' (first | with_reducible exact Ext.refl _ | with_reducible refine Ext.ext ?_ _ | with_reducible refine Ext.alloc ?_ _ | with_reducible refine Ext.drew ?_ | with_reducible refine Ext.drewN ?_ _ | with_reducible refine Ext.trans ?_ HX1.out | with_reducible refine Ext.trans ?_ HX2.out | with_reducible refine Ext.trans ?_ HX3.out | with_reducible refine Ext.trans ?_ HX4.out | with_reducible refine Ext.trans ?_ HX5.out | with_reducible refine Ext.trans ?_ HX6.out | with_reducible refine Ext.trans ?_ HX7.out | with_reducible refine Ext.trans ?_ HX8.out | with_reducible refine Ext.trans ?_ HX9.out | with_reducible refine Ext.trans ?_ HX10.out | with_reducible refine Ext.trans ?_ HX11.out | with_reducible refine Ext.trans ?_ HX12.out | with_reducible refine Ext.trans ?_ HX13.out | with_reducible refine Ext.trans ?_ HX14.out | with_reducible refine Ext.trans ?_ HX15.out | with_reducible refine Ext.trans ?_ HX16.out | with_reducible refine Ext.trans ?_ HX17.out | with_reducible refine Ext.trans ?_ HX18.out | with_reducible refine Ext.trans ?_ HX19.out | with_reducible refine Ext.trans ?_ HX20.out | with_reducible refine Ext.trans ?_ HX21.out | with_reducible refine Ext.trans ?_ HX22.out | with_reducible refine Ext.trans ?_ HX23.out | with_reducible refine Ext.trans ?_ HX24.out))), I2.out⟩
          case true =>
            have INV := Lib.hid (I2.out.put HE.out.1 HE.out.2.1 HE.out.2.2 (HLN.out rfl))
            rw [show addB l f t ⟨e, 0, 0, 0, 0, 0, 0, 0, nx, 0⟩ = l' from hl'] at INV
            clear hl' HLN
            have ewn : wrap64 ((nx : Int) + 1) = ((nx + 1 : Nat) : Int) := (IntWalk.wrap64_in _ ⟨by omega, by have := HJ.out; omega⟩).trans (by omega)
            go_wp2_with (first  | (go_at_call 8; (with_reducible refine PU.out.mono ?_); rintro r w5 ⟨a5, c5, rfl, hx, hb⟩; have HX5 := Lib.hid hx; have B5 := Lib.hid hb; clear hx hb)  | (go_at_call 15; (with_reducible refine (LE.out _ (by (repeat' (first | with_reducible exact Ext.refl _ | with_reducible refine Ext.ext ?_ _ | with_reducible refine Ext.alloc ?_ _ | with_reducible refine Ext.drew ?_ | with_reducible refine Ext.drewN ?_ _ | with_reducible refine Ext.trans ?_ HX1.out | with_reducible refine Ext.trans ?_ HX2.out | with_reducible refine Ext.trans ?_ HX3.out | with_reducible refine Ext.trans ?_ HX4.out | with_reducible refine Ext.trans ?_ HX5.out | with_reducible refine Ext.trans ?_ HX6.out | with_reducible refine Ext.trans ?_ HX7.out | with_reducible refine Ext.trans ?_ HX8.out | with_reducible refine Ext.trans ?_ HX9.out | with_reducible refine Ext.trans ?_ HX10.out | with_reducible refine Ext.trans ?_ HX11.out | with_reducible refine Ext.trans ?_ HX12.out | with_reducible refine Ext.trans ?_ HX13.out | with_reducible refine Ext.trans ?_ HX14.out | with_reducible refine Ext.trans ?_ HX15.out | with_reducible refine Ext.trans ?_ HX16.out | with_reducible refine Ext.trans ?_ HX17.out | with_reducible refine Ext.trans ?_ HX18.out | with_reducible refine Ext.trans ?_ HX19.out | with_reducible refine Ext.trans ?_ HX20.out | with_reducible refine Ext.trans ?_ HX21.out | with_reducible refine Ext.trans ?_ HX22.out | with_reducible refine Ext.trans ?_ HX23.out | with_reducible refine Ext.trans ?_ HX24.out)))).mono ?_); rintro r w6 ⟨rfl, hx⟩; have HX6 := Lib.hid hx; clear hx)  | (at_builtin; apply stop_here))
            unfold Stop
            refine push_num rfl _ _ rfl w w6 (HX4.out.trans (by (repeat' (first | with_reducible exact Ext.refl _ | with_reducible refine Ext.ext ?_ _ | with_reducible refine Ext.alloc ?_ _ | with_reducible refine Ext.drew ?_ | with_reducible refine Ext.drewN ?_ _ | with_reducible refine Ext.trans ?_ HX1.out | with_reducible refine Ext.trans ?_ HX2.out | with_reducible refine Ext.trans ?_ HX3.out | with_reducible refine Ext.trans ?_ HX4.out | with_reducible refine Ext.trans ?_ HX5.out | with_reducible refine Ext.trans ?_ HX6.out | with_reducible refine Ext.trans ?_ HX7.out | with_reducible refine Ext.trans ?_ HX8.out | with_reducible refine Ext.trans ?_ HX9.out | with_reducible refine Ext.trans ?_ HX10.out | with_reducible refine Ext.trans ?_ HX11.out | with_reducible refine Ext.trans ?_ HX12.out | with_reducible refine Ext.trans ?_ HX13.out | with_reducible refine Ext.trans ?_ HX14.out | with_reducible refine Ext.trans ?_ HX15.out | with_reducible refine Ext.trans ?_ HX16.out | with_reducible refine Ext.trans ?_ HX17.out | with_reducible refine Ext.trans ?_ HX18.out | with_reducible refine Ext.trans ?_ HX19.out | with_reducible refine Ext.trans ?_ HX20.out | with_reducible refine Ext.trans ?_ HX21.out | with_reducible refine Ext.trans ?_ HX22.out | with_reducible refine Ext.trans ?_ HX23.out | with_reducible refine Ext.trans ?_ HX24.out)))) ins _ (V4.out.on (by (repeat' (first | with_reducible exact Ext.refl _ | with_reducible refine Ext.ext ?_ _ | with_reducible refine Ext.alloc ?_ _ | with_reducible refine Ext.drew ?_ | with_reducible refine Ext.drewN ?_ _ | with_reducible refine Ext.trans ?_ HX1.out | with_reducible refine Ext.trans ?_ HX2.out | with_reducible refine Ext.trans ?_ HX3.out | with_reducible refine Ext.trans ?_ HX4.out | with_reducible refine Ext.trans ?_ HX5.out | with_reducible refine Ext.trans ?_ HX6.out | with_reducible refine Ext.trans ?_ HX7.out | with_reducible refine Ext.trans ?_ HX8.out | with_reducible refine Ext.trans ?_ HX9.out | with_reducible refine Ext.trans ?_ HX10.out | with_reducible refine Ext.trans ?_ HX11.out | with_reducible refine Ext.trans ?_ HX12.out | with_reducible refine Ext.trans ?_ HX13.out | with_reducible refine Ext.trans ?_ HX14.out | with_reducible refine Ext.trans ?_ HX15.out | with_reducible refine Ext.trans ?_ HX16.out | with_reducible refine Ext.trans ?_ HX17.out | with_reducible refine Ext.trans ?_ HX18.out | with_reducible refine Ext.trans ?_ HX19.out | with_reducible refine Ext.trans ?_ HX20.out | with_reducible refine Ext.trans ?_ HX21.out | with_reducible refine Ext.trans ?_ HX22.out | with_reducible refine Ext.trans ?_ HX23.out | with_reducible refine Ext.trans ?_ HX24.out)))) _ 1 nx rfl rfl (by simp) (by have := I2.out.sum; have := HJ.out; omega) ?_
            intro v7 w7 hx7 hgr7 hv7
            have B7 := Lib.hid (by
              obtain ⟨xa, xc, hxe, hxo⟩ := V4.out.on (show Ext w4 w6 by (repeat' (first | with_reducible exact Ext.refl _ | with_reducible refine Ext.ext ?_ _ | with_reducible refine Ext.alloc ?_ _ | with_reducible refine Ext.drew ?_ | with_reducible refine Ext.drewN ?_ _ | with_reducible refine Ext.trans ?_ HX1.out | with_reducible refine Ext.trans ?_ HX2.out | with_reducible refine Ext.trans ?_ HX3.out | with_reducible refine Ext.trans ?_ HX4.out | with_reducible refine Ext.trans ?_ HX5.out | with_reducible refine Ext.trans ?_ HX6.out | with_reducible refine Ext.trans ?_ HX7.out | with_reducible refine Ext.trans ?_ HX8.out | with_reducible refine Ext.trans ?_ HX9.out | with_reducible refine Ext.trans ?_ HX10.out | with_reducible refine Ext.trans ?_ HX11.out | with_reducible refine Ext.trans ?_ HX12.out | with_reducible refine Ext.trans ?_ HX13.out | with_reducible refine Ext.trans ?_ HX14.out | with_reducible refine Ext.trans ?_ HX15.out | with_reducible refine Ext.trans ?_ HX16.out | with_reducible refine Ext.trans ?_ HX17.out | with_reducible refine Ext.trans ?_ HX18.out | with_reducible refine Ext.trans ?_ HX19.out | with_reducible refine Ext.trans ?_ HX20.out | with_reducible refine Ext.trans ?_ HX21.out | with_reducible refine Ext.trans ?_ HX22.out | with_reducible refine Ext.trans ?_ HX23.out | with_reducible refine Ext.trans ?_ HX24.out)))
              rw [← hxe] at hxo
              exact (B5.out.on HX6.out).besideT hxo (by decide) (by decide) hgr7 hx7)
            have V7 := Lib.hid (And.intro hx7 hv7)
            obtain ⟨xa, xc, rfl, -⟩ := hv7
            generalize (ins ++ [(nx : Int)]).length = kl at *
            clear hgr7 hx7
            go_wp2
            go_meet
            exact ⟨nx + 1, tk, l', ins ++ [(nx : Int)], by have := HJ.out; omega, by first | with_reducible rfl | exact congrArg (Value.int .i64) ewn | (simp; done), rfl, V7.out.1, B7.out, V7.out.2, INV.out⟩
        case false =>
          obtain ⟨bo, hbo⟩ : ∃ b, decide (si < (Ln : Int)) = b := ⟨_, rfl⟩
          have hok := takeOk_len (l := l) (e := e) (f := f) (t := t) o7
          rw [hLn, hbo] at hok
          obtain ⟨l', hl'⟩ : ∃ l', takeS l e f t si = l' := ⟨_, rfl⟩
          obtain ⟨m, hm⟩ : ∃ m, tookM l e f t si = m := ⟨_, rfl⟩
          have TK := Lib.hid (take_letP B4.out FW.out e f t si ⟨by omega, by omega⟩ l' m bo hl' hm hok)
          clear hLn
          cases bo
          case false =>
            have HLL := Lib.hid (show l = l' by rw [← hl']; unfold takeS; rw [hok]; rfl)
            clear hok hl' hm
            go_upto_region 20 with (go_at_call 13; (with_reducible refine TK.out.mono ?_); rintro r w5 ⟨a5, c5, rfl, hx, hb⟩; have HX5 := Lib.hid hx; have B5 := Lib.hid hb; have d4 := (keep_cell c4 hx).2; haveI : LtSz sb w5.heap.size := ⟨World.block_lt_of_cell? _ _ d4⟩; clear hx hb)
            refine wp_region_ext (by kernel_rfl) (by kernel_rfl) ?_
            repeat (go_big_quiet_step (first | (go_at_call 15; (apply quiet_of; (with_reducible exact LE.out _ (by (repeat' (first | with_reducible exact Ext.refl _ | with_reducible refine Ext.ext ?_ _ | with_reducible refine Ext.alloc ?_ _ | with_reducible refine Ext.drew ?_ | with_reducible refine Ext.drewN ?_ _ | with_reducible refine Ext.trans ?_ HX1.out | with_reducible refine Ext.trans ?_ HX2.out | with_reducible refine Ext.trans ?_ HX3.out | with_reducible refine Ext.trans ?_ HX4.out | with_reducible refine Ext.trans ?_ HX5.out | with_reducible refine Ext.trans ?_ HX6.out | with_reducible refine Ext.trans ?_ HX7.out | with_reducible refine Ext.trans ?_ HX8.out | with_reducible refine Ext.trans ?_ HX9.out | with_reducible refine Ext.trans ?_ HX10.out | with_reducible refine Ext.trans ?_ HX11.out | with_reducible refine Ext.trans ?_ HX12.out | with_reducible refine Ext.trans ?_ HX13.out | with_reducible refine Ext.trans ?_ HX14.out | with_reducible refine Ext.trans ?_ HX15.out | with_reducible refine Ext.trans ?_ HX16.out | with_reducible refine Ext.trans ?_ HX17.out | with_reducible refine Ext.trans ?_ HX18.out | with_reducible refine Ext.trans ?_ HX19.out | with_reducible refine Ext.trans ?_ HX20.out | with_reducible refine Ext.trans ?_ HX21.out | with_reducible refine Ext.trans ?_ HX22.out | with_reducible refine Ext.trans ?_ HX23.out | with_reducible refine Ext.trans ?_ HX24.out)))); (intro w' hx; obtain ⟨z, rfl⟩ := hx; (try simp only [ext_ext, add_assoc]); exact ⟨_, rfl⟩)))))
            refine wpQuiet_nil ?_
            intro xK
            go_wp2
            go_meet
            exact ⟨nx, tk, l', ins, by have := HJ.out; omega, rfl, rfl, HX4.out.trans (by (repeat' (first | with_reducible exact Ext.refl _ | with_reducible refine Ext.ext ?_ _ | with_reducible refine Ext.alloc ?_ _ | with_reducible refine Ext.drew ?_ | with_reducible refine Ext.drewN ?_ _ | with_reducible refine Ext.trans ?_ HX1.out | with_reducible refine Ext.trans ?_ HX2.out | with_reducible refine Ext.trans ?_ HX3.out | with_reducible refine Ext.trans ?_ HX4.out | with_reducible refine Ext.trans ?_ HX5.out | with_reducible refine Ext.trans ?_ HX6.out | with_reducible refine Ext.trans ?_ HX7.out | with_reducible refine Ext.trans ?_ HX8.out | with_reducible refine Ext.trans ?_ HX9.out | with_reducible refine Ext.trans ?_ HX10.out | with_reducible refine Ext.trans ?_ HX11.out | with_reducible refine Ext.trans ?_ HX12.out | with_reducible refine Ext.trans ?_ HX13.out | with_reducible refine Ext.trans ?_ HX14.out | with_reducible refine Ext.trans ?_ HX15.out | with_reducible refine Ext.trans ?_ HX16.out | with_reducible refine Ext.trans ?_ HX17.out | with_reducible refine Ext.trans ?_ HX18.out | with_reducible refine Ext.trans ?_ HX19.out | with_reducible refine Ext.trans ?_ HX20.out | with_reducible refine Ext.trans ?_ HX21.out | with_reducible refine Ext.trans ?_ HX22.out | with_reducible refine Ext.trans ?_ HX23.out | with_reducible refine Ext.trans ?_ HX24.out))), B5.out.on (by (repeat' (first | with_reducible exact Ext.refl _ | with_reducible refine Ext.ext ?_ _ | with_reducible refine Ext.alloc ?_ _ | with_reducible refine Ext.drew ?_ | with_reducible refine Ext.drewN ?_ _ | with_reducible refine Ext.trans ?_ HX1.out | with_reducible refine Ext.trans ?_ HX2.out | with_reducible refine Ext.trans ?_ HX3.out | with_reducible refine Ext.trans ?_ HX4.out | with_reducible refine Ext.trans ?_ HX5.out | with_reducible refine Ext.trans ?_ HX6.out | with_reducible refine Ext.trans ?_ HX7.out | with_reducible refine Ext.trans ?_ HX8.out | with_reducible refine Ext.trans ?_ HX9.out | with_reducible refine Ext.trans ?_ HX10.out | with_reducible refine Ext.trans ?_ HX11.out | with_reducible refine Ext.trans ?_ HX12.out | with_reducible refine Ext.trans ?_ HX13.out | with_reducible refine Ext.trans ?_ HX14.out | with_reducible refine Ext.trans ?_ HX15.out | with_reducible refine Ext.trans ?_ HX16.out | with_reducible refine Ext.trans ?_ HX17.out | with_reducible refine Ext.trans ?_ HX18.out | with_reducible refine Ext.trans ?_ HX19.out | with_reducible refine Ext.trans ?_ HX20.out | with_reducible refine Ext.trans ?_ HX21.out | with_reducible refine Ext.trans ?_ HX22.out | with_reducible refine Ext.trans ?_ HX23.out | with_reducible refine Ext.trans ?_ HX24.out))), V4.out.on (by (repeat' (first | with_reducible exact Ext.refl _ | with_reducible refine Ext.ext ?_ _ | with_reducible refine Ext.alloc ?_ _ | with_reducible refine Ext.drew ?_ | with_reducible refine Ext.drewN ?_ _ | with_reducible refine Ext.trans ?_ HX1.out | with_reducible refine Ext.trans ?_ HX2.out | with_reducible refine Ext.trans ?_ HX3.out | with_reducible refine Ext.trans ?_ HX4.out | with_reducible refine Ext.trans ?_ HX5.out | with_reducible refine Ext.trans ?_ HX6.out | with_reducible refine Ext.trans ?_ HX7.out | with_reducible refine Ext.trans ?_ HX8.out | with_reducible refine Ext.trans ?_ HX9.out | with_reducible refine Ext.trans ?_ HX10.out | with_reducible refine Ext.trans ?_ HX11.out | with_reducible refine Ext.trans ?_ HX12.out | with_reducible refine Ext.trans ?_ HX13.out | with_reducible refine Ext.trans ?_ HX14.out | with_reducible refine Ext.trans ?_ HX15.out | with_reducible refine Ext.trans ?_ HX16.out | with_reducible refine Ext.trans ?_ HX17.out | with_reducible refine Ext.trans ?_ HX18.out | with_reducible refine Ext.trans ?_ HX19.out | with_reducible refine Ext.trans ?_ HX20.out | with_reducible refine Ext.trans ?_ HX21.out | with_reducible refine Ext.trans ?_ HX22.out | with_reducible refine Ext.trans ?_ HX23.out | with_reducible refine Ext.trans ?_ HX24.out))), by rw [← HLL.out]; exact I2.out⟩
          case true =>
            obtain ⟨kI, mI, xI, -, hxI, hmI, hmE, hlE⟩ := take_some hok
            obtain ⟨K, hK, hI⟩ := I2.out.take hxI hmI
            rw [hm] at hmE
            rw [hl'] at hlE
            subst hmE
            rw [← hlE] at hI
            have KK := Lib.hid hK
            have IT := Lib.hid hI
            clear hok hl' hm hxI hmI hK hI hlE kI xI
            go_upto_region 20 with (go_at_call 13; (with_reducible refine TK.out.mono ?_); rintro r w5 ⟨a5, c5, rfl, hx, hb⟩; have HX5 := Lib.hid hx; have B5 := Lib.hid hb; have d4 := (keep_cell c4 hx).2; haveI : LtSz sb w5.heap.size := ⟨World.block_lt_of_cell? _ _ d4⟩; clear hx hb)
            obtain ⟨w6, hw6⟩ : ∃ W, W = w5.alloc (.cells #[.int .i64 m.e, .int .i64 m.d, .int .i64 m.a, .int .i64 m.b, .int .i64 m.c, .int .i64 m.f, .int .i64 m.k, .int .i64 m.v, .int .i64 m.n, .int .i64 m.q] 29) := ⟨_, rfl⟩
            obtain ⟨mb, hmb⟩ : ∃ g, g = w5.heap.size := ⟨_, rfl⟩
            rw [← hw6, ← hmb]
            have m8 : w6.cell? ⟨mb, 8, none⟩ = some (.int .i64 m.n) := by subst hw6; exact cell_lit _ _ _ _ _ _ hmb rfl
            have hx6 : Ext w5 w6 := by subst hw6; exact (Ext.refl w5).alloc _
            have e4 := (keep_cell d4 hx6).2
            have HX6 := Lib.hid (HX5.out.trans hx6)
            have B6 := Lib.hid (B5.out.on hx6)
            haveI : LtSz sb w6.heap.size := ⟨World.block_lt_of_cell? _ _ e4⟩
            haveI : LtSz mb w6.heap.size := ⟨World.block_lt_of_cell? _ _ m8⟩
            clear hw6 hmb hx6 d4 c4 c0 B5
            refine wp_region_ext (by kernel_rfl) (by kernel_rfl) ?_
            repeat (go_big_quiet_step (first | (go_at_call 15; (apply quiet_of; (with_reducible exact LE.out _ (by (repeat' (first | with_reducible exact Ext.refl _ | with_reducible refine Ext.ext ?_ _ | with_reducible refine Ext.alloc ?_ _ | with_reducible refine Ext.drew ?_ | with_reducible refine Ext.drewN ?_ _ | with_reducible refine Ext.trans ?_ HX1.out | with_reducible refine Ext.trans ?_ HX2.out | with_reducible refine Ext.trans ?_ HX3.out | with_reducible refine Ext.trans ?_ HX4.out | with_reducible refine Ext.trans ?_ HX5.out | with_reducible refine Ext.trans ?_ HX6.out | with_reducible refine Ext.trans ?_ HX7.out | with_reducible refine Ext.trans ?_ HX8.out | with_reducible refine Ext.trans ?_ HX9.out | with_reducible refine Ext.trans ?_ HX10.out | with_reducible refine Ext.trans ?_ HX11.out | with_reducible refine Ext.trans ?_ HX12.out | with_reducible refine Ext.trans ?_ HX13.out | with_reducible refine Ext.trans ?_ HX14.out | with_reducible refine Ext.trans ?_ HX15.out | with_reducible refine Ext.trans ?_ HX16.out | with_reducible refine Ext.trans ?_ HX17.out | with_reducible refine Ext.trans ?_ HX18.out | with_reducible refine Ext.trans ?_ HX19.out | with_reducible refine Ext.trans ?_ HX20.out | with_reducible refine Ext.trans ?_ HX21.out | with_reducible refine Ext.trans ?_ HX22.out | with_reducible refine Ext.trans ?_ HX23.out | with_reducible refine Ext.trans ?_ HX24.out)))); (intro w' hx; obtain ⟨z, rfl⟩ := hx; (try simp only [ext_ext, add_assoc]); exact ⟨_, rfl⟩)))))
            refine wpQuiet_nil ?_
            intro xK
            have n8 := (keep_cell m8 ((Ext.refl w6).ext xK)).2
            have HX7 := Lib.hid (HX6.out.ext xK)
            have B7 := Lib.hid (B6.out.on ((Ext.refl w6).ext xK))
            clear m8 e4 B6
            generalize ext w6 xK = w7 at *
            haveI : LtSz mb w7.heap.size := ⟨World.block_lt_of_cell? _ _ n8⟩
            have V7 := Lib.hid (V4.out.on HX7.out)
            have IL := Lib.hid (show ins.length ≤ 1000 by have := I2.out.sum; have := HJ.out; omega)
            go_wp2
            go_loopw [19, 20] (fun at' k wr => ∃ q : Nat, q ≤ ins.length ∧ k = .int .i64 q ∧ at' = .int .i64 (if K < q then (K : Int) else -1) ∧ Ext w7 wr) (fun _ k _ => ins.length - (intOf k).toNat)
            case atStart => exact ⟨0, by omega, rfl, by rw [if_neg (by omega)], Ext.refl _⟩
            case round =>
              obtain ⟨q, hq, rfl, rfl, hx⟩ := hrel
              obtain ⟨A, hA⟩ : ∃ A, (if K < q then (K : Int) else -1) = A := ⟨_, rfl⟩
              rw [hA]
              have HA := Lib.hid hA
              clear hA
              obtain ⟨w8, hw8⟩ : ∃ x, x = wr := ⟨_, rfl⟩
              subst hw8
              have HX8 := Lib.hid hx
              have o8 := (keep_cell n8 hx).2
              haveI : LtSz mb w8.heap.size := ⟨World.block_lt_of_cell? _ _ o8⟩
              clear hx n8
              by_cases hql : q < ins.length
              · obtain ⟨y, hy⟩ : ∃ y, ins[q]? = some y := ⟨ins[q], List.getElem?_eq_getElem _⟩
                have q0 := NumsAt V7.out hy
                obtain ⟨ib, io, rfl, q0⟩ := q0
                have q1 := (keep_cell q0 HX8.out).2
                haveI : LtSz ib w8.heap.size := ⟨World.block_lt_of_cell? _ _ q1⟩
                have k1 : (0 : Int) ≤ q := by omega
                have k2 : (q : Int) < ins.length := by omega
                have HY := Lib.hid (show (y = m.n) ↔ K = q from ⟨fun h => up_inj I2.out.up KK.out (h ▸ hy), fun h => by subst h; have := KK.out; rw [hy] at this; exact Option.some.inj this⟩)
                have EQ := Lib.hid (show wrap64 ((q : Int) + 1) = ((q + 1 : Nat) : Int) from (IntWalk.wrap64_in _ ⟨by omega, by have := IL.out; omega⟩).trans (by omega))
                clear hy q0
                clear LE TK AW HS HR H I2 V4 V7 B4 B7 FW IT KK hlt i1 i2 i3 o7 hr1 hr2 EW OS HE HJ HX4 HX6 HX5
                obtain ⟨bq, hbq⟩ : ∃ b, decide (y = m.n) = b := ⟨_, rfl⟩
                cases bq
                case false =>
                  have dn : (y == m.n) = false := by rw [beq_eq_false_iff_ne]; exact of_decide_eq_false hbq
                  have HA2 := Lib.hid (show A = (if K < q + 1 then (K : Int) else -1) by
                    have h1 : K ≠ q := fun h => of_decide_eq_false hbq (HY.out.2 h)
                    rw [← HA.out]
                    by_cases h : K < q
                    · rw [if_pos h, if_pos (by omega)]
                    · rw [if_neg h, if_neg (by omega)])
                  go_wp2
                  refine wp_region_ext (by kernel_rfl) (by kernel_rfl) ?_
                  repeat (go_big_quiet_step (fail))
                  refine wpQuiet_nil ?_
                  intro xK
                  have eq2 := EQ.out
                  go_wp2
                  clear eq2
                  exact ⟨⟨q + 1, by omega, by first | with_reducible rfl | exact congrArg (Value.int .i64) EQ.out | (simp; done), by rw [HA2.out], by (repeat' (first | with_reducible exact Ext.refl _ | with_reducible refine Ext.ext ?_ _ | with_reducible refine Ext.alloc ?_ _ | with_reducible refine Ext.drew ?_ | with_reducible refine Ext.drewN ?_ _ | with_reducible refine Ext.trans ?_ HX1.out | with_reducible refine Ext.trans ?_ HX2.out | with_reducible refine Ext.trans ?_ HX3.out | with_reducible refine Ext.trans ?_ HX4.out | with_reducible refine Ext.trans ?_ HX5.out | with_reducible refine Ext.trans ?_ HX6.out | with_reducible refine Ext.trans ?_ HX7.out | with_reducible refine Ext.trans ?_ HX8.out | with_reducible refine Ext.trans ?_ HX9.out | with_reducible refine Ext.trans ?_ HX10.out | with_reducible refine Ext.trans ?_ HX11.out | with_reducible refine Ext.trans ?_ HX12.out | with_reducible refine Ext.trans ?_ HX13.out | with_reducible refine Ext.trans ?_ HX14.out | with_reducible refine Ext.trans ?_ HX15.out | with_reducible refine Ext.trans ?_ HX16.out | with_reducible refine Ext.trans ?_ HX17.out | with_reducible refine Ext.trans ?_ HX18.out | with_reducible refine Ext.trans ?_ HX19.out | with_reducible refine Ext.trans ?_ HX20.out | with_reducible refine Ext.trans ?_ HX21.out | with_reducible refine Ext.trans ?_ HX22.out | with_reducible refine Ext.trans ?_ HX23.out | with_reducible refine Ext.trans ?_ HX24.out))⟩, by first | (simp only [intOf]; omega) | (rw [EQ.out]; simp only [intOf]; omega)⟩
                case true =>
                  have hyn : y = m.n := of_decide_eq_true hbq
                  have hKq := HY.out.1 hyn
                  have HA2 := Lib.hid (show (q : Int) = (if K < q + 1 then (K : Int) else -1) by rw [if_pos (by omega), hKq])
                  clear HY hKq hbq
                  subst hyn
                  go_wp2
                  refine wp_region_ext (by kernel_rfl) (by kernel_rfl) ?_
                  repeat (go_big_quiet_step (fail))
                  refine wpQuiet_nil ?_
                  intro xK
                  have eq2 := EQ.out
                  go_wp2
                  clear eq2
                  exact ⟨⟨q + 1, by omega, by first | with_reducible rfl | exact congrArg (Value.int .i64) EQ.out | (simp; done), by rw [← HA2.out], by (repeat' (first | with_reducible exact Ext.refl _ | with_reducible refine Ext.ext ?_ _ | with_reducible refine Ext.alloc ?_ _ | with_reducible refine Ext.drew ?_ | with_reducible refine Ext.drewN ?_ _ | with_reducible refine Ext.trans ?_ HX1.out | with_reducible refine Ext.trans ?_ HX2.out | with_reducible refine Ext.trans ?_ HX3.out | with_reducible refine Ext.trans ?_ HX4.out | with_reducible refine Ext.trans ?_ HX5.out | with_reducible refine Ext.trans ?_ HX6.out | with_reducible refine Ext.trans ?_ HX7.out | with_reducible refine Ext.trans ?_ HX8.out | with_reducible refine Ext.trans ?_ HX9.out | with_reducible refine Ext.trans ?_ HX10.out | with_reducible refine Ext.trans ?_ HX11.out | with_reducible refine Ext.trans ?_ HX12.out | with_reducible refine Ext.trans ?_ HX13.out | with_reducible refine Ext.trans ?_ HX14.out | with_reducible refine Ext.trans ?_ HX15.out | with_reducible refine Ext.trans ?_ HX16.out | with_reducible refine Ext.trans ?_ HX17.out | with_reducible refine Ext.trans ?_ HX18.out | with_reducible refine Ext.trans ?_ HX19.out | with_reducible refine Ext.trans ?_ HX20.out | with_reducible refine Ext.trans ?_ HX21.out | with_reducible refine Ext.trans ?_ HX22.out | with_reducible refine Ext.trans ?_ HX23.out | with_reducible refine Ext.trans ?_ HX24.out))⟩, by first | (simp only [intOf]; omega) | (rw [EQ.out]; simp only [intOf]; omega)⟩
              · obtain rfl : q = ins.length := by omega
                have hK : K < ins.length := (List.getElem?_eq_some_iff.1 KK.out).1
                have hA := HA.out
                rw [if_pos hK] at hA
                subst hA
                have a1 : ¬ (K : Int) < 0 := by omega
                obtain ⟨ai, ci, hve, hvo⟩ := V7.out
                obtain ⟨rfl, -, rfl⟩ := Value.slice.inj hve
                have RI := Lib.hid (And.intro ((own_rd hvo).of_ext HX8.out) (own_capY hvo))
                clear hve hvo
                go_upto_region 31 with fail
                refine reg31 _ w8 ins _ _ K _ rfl rfl (by simp) RI.out.1 RI.out.2 hK IL.out ?_
                intro a w9 hn hx hnum
                have HX9 := Lib.hid hx
                have V9 := Lib.hid hnum
                clear hx hnum
                rw [hn.eq]
                clear hn
                dsimp only [puts, ts31, List.foldl, Act.put]
                simp only [List.setIfInBounds_toArray, List.set_cons_succ, List.set_cons_zero]
                rw [V_eval a 6]
                generalize a.eval (.tmp 124) = t124
                generalize a.eval (.tmp 125) = t125
                generalize a.eval (.tmp 126) = t126
                generalize a.eval (.tmp 127) = t127
                generalize a.eval (.tmp 128) = t128
                generalize a.eval (.tmp 129) = t129
                generalize a.eval (.tmp 130) = t130
                generalize a.eval (.tmp 131) = t131
                generalize a.eval (.tmp 132) = t132
                generalize a.eval (.tmp 133) = t133
                obtain ⟨a9, c9, h9, ho9⟩ := V9.out
                have V9' := Lib.hid (show Nums w w9 (ins.eraseIdx K) (V a 6) from by rw [h9]; exact ⟨a9, c9, rfl, own_base ho9 (Ext.grows (HX4.out.trans (HX7.out.trans HX8.out)) none).size⟩)
                rw [h9] at V9' ⊢
                clear h9 ho9 V9 a
                have ews : wrap64 ((tk : Int) + 1) = ((tk + 1 : Nat) : Int) := (IntWalk.wrap64_in _ ⟨by omega, by have := I2.out.sum; have := HJ.out; omega⟩).trans (by omega)
                have EWS := Lib.hid ews
                obtain ⟨nl, hnl⟩ : ∃ n, (ins.eraseIdx K).length = n := ⟨_, rfl⟩
                rw [hnl]
                go_wp2
                go_meet
                clear ews
                rw [← hnl]
                exact ⟨nx, tk + 1, l', ins.eraseIdx K, by have := HJ.out; omega, rfl, by first | with_reducible rfl | (simp; done) | exact congrArg (Value.int .i64) EWS.out, HX4.out.trans (HX7.out.trans (HX8.out.trans HX9.out)), B7.out.on (HX8.out.trans HX9.out), V9'.out, IT.out⟩
      case rest =>
        obtain ⟨w8, hw8⟩ : ∃ x, x = wc := ⟨_, rfl⟩
        subst hw8
        obtain ⟨nx', tk', l', ins', hnx, rfl, rfl, hx, hb, hv, hi⟩ := hcut
        have HX8 := Lib.hid hx
        have B8 := Lib.hid hb
        have V8 := Lib.hid hv
        have I8 := Lib.hid hi
        have HN8 := Lib.hid hnx
        have FW8 := Lib.hid (hi.few (by have := HJ.out; omega))
        obtain ⟨na', nc', rfl⟩ := rds_form hb.rds
        obtain ⟨va', vc', rfl, -⟩ := hv
        obtain ⟨M, hM⟩ : ∃ M, allS l' = M := ⟨_, rfl⟩
        have hMl : M.length = ins'.length := by rw [← hM]; exact hi.all
        have AL := Lib.hid (all_let B8.out.rds FW8.out M hM)
        simp only [hMl] at AL
        have RG := Lib.hid (fun W (hx : Ext w8 W) => right_let (B8.out.on hx).rds FW8.out true hi.right)
        have ews : wrap64 ((ins'.length : Int) + (tk' : Int)) = (nx' : Int) := (IntWalk.wrap64_in _ ⟨by omega, by have := hi.sum; have := HJ.out; omega⟩).trans (by have := hi.sum; omega)
        have ee : ((ins'.length : Int) != (ins'.length : Int)) = false := by simp
        have ee2 : ((nx' : Int) != (nx' : Int)) = false := by simp
        clear hx hb hi hnx hM hMl c0 c4 this
        go_wp2_with (first  | (go_at_call 18; (with_reducible refine AL.out.mono ?_); rintro r w9 ⟨a9, c9, rfl, hx, -⟩; have HX9 := Lib.hid hx; clear hx)  | (go_at_call 10; (with_reducible refine (RG.out _ HX9.out).mono ?_); rintro r w10 ⟨rfl, hx⟩; have HX10 := Lib.hid (HX9.out.trans hx); clear hx))
        have UP := Lib.hid I8.out.ups
        have BL := Lib.hid (show l'.length ≤ 1000 from FW8.out.1)
        clear AL RG ews ee ee2
        go_loopw [22] (fun k wr => ∃ q : Nat, q ≤ l'.length ∧ k = .int .i64 q ∧ Ext w10 wr) (fun k _ => l'.length - (intOf k).toNat)
        case atStart => exact ⟨0, by omega, rfl, Ext.refl _⟩
        case round =>
          obtain ⟨q, hq, rfl, hx⟩ := hrel
          obtain ⟨w11, hw11⟩ : ∃ x, x = wr := ⟨_, rfl⟩
          subst hw11
          have HX11 := Lib.hid hx
          clear hx
          by_cases hql : q < l'.length
          · obtain ⟨x, hxq⟩ : ∃ x, l'[q]? = some x := ⟨l'[q], List.getElem?_eq_getElem _⟩
            obtain ⟨bb, boff, rfl⟩ := rds_some B8.out.rds (by omega)
            obtain ⟨u, ⟨ua, uc, rfl, hrd⟩, -, -, -, q3⟩ := bx_at (B8.out.on (HX10.out.trans HX11.out)).rds hxq
            have UX := Lib.hid (UP.out x (List.mem_of_getElem? hxq))
            have XL := Lib.hid (FW8.out.2 x (List.mem_of_getElem? hxq))
            have RD := Lib.hid hrd
            have Q3 := Lib.hid q3
            have k1 : (0 : Int) ≤ q := by omega
            have k2 : (q : Int) < l'.length := by omega
            haveI : LtSz bb w11.heap.size := ⟨World.block_lt_of_cell? _ _ q3⟩
            have EQ := Lib.hid (show wrap64 ((q : Int) + 1) = ((q + 1 : Nat) : Int) from (IntWalk.wrap64_in _ ⟨by omega, by have := BL.out; omega⟩).trans (by omega))
            clear hrd hxq
            go_wp2
            go_loopw [23] (fun r wr => ∃ s : Nat, 1 ≤ s ∧ s ≤ x.l.length + 1 ∧ r = .int .i64 s ∧ Ext w11 wr) (fun r _ => x.l.length + 1 - (intOf r).toNat)
            case atStart => exact ⟨1, by omega, by omega, rfl, Ext.refl _⟩
            case round =>
              obtain ⟨s, hs1, hs2, rfl, hx⟩ := hrel
              have HX12 := Lib.hid hx
              have q4 := (keep_cell Q3.out hx).2
              haveI : LtSz bb wr.heap.size := ⟨World.block_lt_of_cell? _ _ q4⟩
              clear q3
              by_cases hsl : s < x.l.length
              · obtain ⟨m1, hm1⟩ : ∃ m, x.l[s]? = some m := ⟨x.l[s], List.getElem?_eq_getElem _⟩
                obtain ⟨m2, hm2⟩ : ∃ m, x.l[s - 1]? = some m := ⟨x.l[s - 1], List.getElem?_eq_getElem _⟩
                have hlt : m2.n < m1.n := by
                  have := UX.out
                  rw [List.pairwise_iff_getElem] at this
                  obtain ⟨h1, rfl⟩ := List.getElem?_eq_some_iff.1 hm1
                  obtain ⟨h2, rfl⟩ := List.getElem?_eq_some_iff.1 hm2
                  exact this (s - 1) s h2 h1 (by omega)
                obtain ⟨bm, moff, rfl, -⟩ := RD.out.cells (by omega)
                obtain ⟨-, -, -, -, -, -, -, -, n1, -⟩ := mgs_at (RD.out.of_ext HX12.out) s m1 hm1
                obtain ⟨-, -, -, -, -, -, -, -, n2, -⟩ := mgs_at (RD.out.of_ext HX12.out) (s - 1) m2 hm2
                obtain ⟨s', hs'⟩ : ∃ s', s - 1 = s' := ⟨_, rfl⟩
                rw [hs'] at n2
                haveI : LtSz bm wr.heap.size := ⟨World.block_lt_of_cell? _ _ n1⟩
                have es : wrap64 ((s : Int) - 1) = (s' : Int) := (IntWalk.wrap64_in _ ⟨by omega, by have := XL.out; omega⟩).trans (by omega)
                have ES := Lib.hid (show wrap64 ((s : Int) + 1) = ((s + 1 : Nat) : Int) from (IntWalk.wrap64_in _ ⟨by omega, by have := XL.out; omega⟩).trans (by omega))
                have s1 : (0 : Int) ≤ s := by omega
                have s2 : (s : Int) < x.l.length := by omega
                have s3 : (0 : Int) ≤ s' := by omega
                have s4 : (s' : Int) < x.l.length := by omega
                have dn : decide (m1.n ≤ m2.n) = false := decide_eq_false (by omega)
                clear hm1 hm2 hs' hlt
                go_wp2
                refine wp_region_ext (by kernel_rfl) (by kernel_rfl) ?_
                repeat (go_big_quiet_step (fail))
                refine wpQuiet_nil ?_
                intro xK
                have es2 := ES.out
                clear es
                go_wp2
                exact ⟨⟨s + 1, by omega, by omega, by first | with_reducible rfl | exact congrArg (Value.int .i64) ES.out | (simp; done), by (repeat' (first | with_reducible exact Ext.refl _ | with_reducible refine Ext.ext ?_ _ | with_reducible refine Ext.alloc ?_ _ | with_reducible refine Ext.drew ?_ | with_reducible refine Ext.drewN ?_ _ | with_reducible refine Ext.trans ?_ HX1.out | with_reducible refine Ext.trans ?_ HX2.out | with_reducible refine Ext.trans ?_ HX3.out | with_reducible refine Ext.trans ?_ HX4.out | with_reducible refine Ext.trans ?_ HX5.out | with_reducible refine Ext.trans ?_ HX6.out | with_reducible refine Ext.trans ?_ HX7.out | with_reducible refine Ext.trans ?_ HX8.out | with_reducible refine Ext.trans ?_ HX9.out | with_reducible refine Ext.trans ?_ HX10.out | with_reducible refine Ext.trans ?_ HX11.out | with_reducible refine Ext.trans ?_ HX12.out | with_reducible refine Ext.trans ?_ HX13.out | with_reducible refine Ext.trans ?_ HX14.out | with_reducible refine Ext.trans ?_ HX15.out | with_reducible refine Ext.trans ?_ HX16.out | with_reducible refine Ext.trans ?_ HX17.out | with_reducible refine Ext.trans ?_ HX18.out | with_reducible refine Ext.trans ?_ HX19.out | with_reducible refine Ext.trans ?_ HX20.out | with_reducible refine Ext.trans ?_ HX21.out | with_reducible refine Ext.trans ?_ HX22.out | with_reducible refine Ext.trans ?_ HX23.out | with_reducible refine Ext.trans ?_ HX24.out))⟩, by first | (simp only [intOf]; omega) | (rw [ES.out]; simp only [intOf]; omega)⟩
              · have s2 : ¬ (s : Int) < x.l.length := by omega
                have s2' : ¬ s < x.l.length := hsl
                have eq' := EQ.out
                go_wp2
                exact ⟨⟨q + 1, by omega, by first | with_reducible rfl | exact congrArg (Value.int .i64) EQ.out | (simp; done), HX11.out.trans (HX12.out.trans (Ext.refl _))⟩, by first | (simp only [intOf]; omega) | (rw [EQ.out]; simp only [intOf]; omega)⟩
          · obtain rfl : q = l'.length := by omega
            have HJJ := HJ.out
            have HNN := HN8.out
            go_wp2
            exact ⟨⟨j + 1, nx', tk', l', ins', by omega, by omega, by omega, by first | with_reducible rfl | exact congrArg (Value.int .i64) EW.out | (simp; done), rfl, rfl, HX8.out.trans (HX10.out.trans HX11.out), B8.out.on (HX10.out.trans HX11.out), V8.out.on (HX10.out.trans HX11.out), I8.out⟩, by simp only [intOf]; omega⟩
    · have hor : j = L.length ∨ j = 150 := by have := HJ.out; omega
      by_cases h1 : (j : Int) < L.length
      · have h2 : ¬ (j : Int) < 150 := by omega
        go_wp2
        go_returns
        exact ⟨retb rfl rfl, HX2.out⟩
      · go_wp2
        go_returns
        exact ⟨retb rfl rfl, HX2.out⟩
end Go.Proofs.Ytlhmifkimnmnmaa
