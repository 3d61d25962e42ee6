/- Chain, in a namespace of its own: rows of timestamps, their lowest. -/
import Derived.Test.YtkmgdejpdhlleaaRhD
import Derived.Test.YtkmgdejpdhlleaaEqTs
namespace Go.Proofs.Ytkmgdejpdhlleaa.Rc
set_option linter.unusedSimpArgs false
set_option linter.unusedVariables false
set_option maxRecDepth 100000
open Go.RowKit

theorem eq_time (d : Nat) (w : World) (x a b c e x' a' b' c' e' : Int) : (Op.equalIn (d + 3) 73 (.agg #[.int .i64 x, .int .i64 a, .int .i64 b, .int .i64 c, .int .i64 e]) (.agg #[.int .i64 x', .int .i64 a', .int .i64 b', .int .i64 c', .int .i64 e'])).run Try.prog w = .ok (x == x' && (a == a' && (b == b' && (c == c' && e == e')))) w := by
  rw [run_equalIn_struct (ht := by kernel_rfl) (hp := by kernel_rfl)]
  have q1 : ∀ w, (isAgg 71).run Try.prog w = .ok true w := fun w => by rfl
  have q2 : ∀ w, (isAgg 3).run Try.prog w = .ok false w := fun w => by rfl
  have q3 : ∀ w, (sizeOf 71).run Try.prog w = .ok 4 w := fun w => by rfl
  have q4 : ∀ w, (sizeOf 3).run Try.prog w = .ok 1 w := fun w => by rfl
  have e1 := equalIn_arr4 w d a b c e a' b' c' e'
  have e2 : (Op.equalIn (d + 2) 3 (.int .i64 x) (.int .i64 x')).run Try.prog w = .ok (x == x') w := run_equalIn_int w (d + 1) 3 .i64 .i64 x x' Try.underlying3
  cases h1 : (a == a' && (b == b' && (c == c' && e == e'))) <;> cases h2 : x == x' <;> rw [h1] at e1 <;> rw [h2] at e2 <;> simp [Program.fieldsOf, Try.underlying73, Op.eqFields, part, q1, q2, q3, q4, e1, e2]
theorem guard_time : Try.prog.eqGuardType Try.prog.depth 73 = false := by kernel_rfl
@[go_sem high] theorem same_time (w : World) (x a b c e x' a' b' c' e' : Int) : (Op.equalIn 10000 73 (.agg #[.int .i64 x, .int .i64 a, .int .i64 b, .int .i64 c, .int .i64 e]) (.agg #[.int .i64 x', .int .i64 a', .int .i64 b', .int .i64 c', .int .i64 e'])).run Try.prog w = .ok (x == x' && (a == a' && (b == b' && (c == c' && e == e')))) w := eq_time 9997 w x a b c e x' a' b' c' e'
@[go_sem high] theorem gd_time (op : BinOp) (x y : Operand) (xs ys : Array Value) (w : World) : (eqGuard op 73 x y (.agg xs) (.agg ys)).run Try.prog w = .ok () w := run_eqGuard_agg w op _ x y xs ys guard_time
@[go_sem high] theorem neq_time (w : World) (x a b c e x' a' b' c' e' : Int) : (binOp .neq 73 (.agg #[.int .i64 x, .int .i64 a, .int .i64 b, .int .i64 c, .int .i64 e]) (.agg #[.int .i64 x', .int .i64 a', .int .i64 b', .int .i64 c', .int .i64 e'])).run Try.prog w = .ok (.bool (!(x == x' && (a == a' && (b == b' && (c == c' && e == e')))))) w := by
  rw [run_neq_struct, same_time]; rfl
@[go_sem high] theorem eql_time (w : World) (x a b c e x' a' b' c' e' : Int) : (binOp .eql 73 (.agg #[.int .i64 x, .int .i64 a, .int .i64 b, .int .i64 c, .int .i64 e]) (.agg #[.int .i64 x', .int .i64 a', .int .i64 b', .int .i64 c', .int .i64 e'])).run Try.prog w = .ok (.bool (x == x' && (a == a' && (b == b' && (c == c' && e == e'))))) w := by
  rw [run_eql_struct, same_time]; rfl
noncomputable def sameB {α : Type} (l m : List α) : Bool := @decide (l = m) (Classical.propDecidable _)
theorem sameB_yes {α : Type} {l m : List α} (h : l = m) : sameB l m = true := @decide_eq_true _ (Classical.propDecidable _) h
theorem sameB_no {α : Type} {l m : List α} (h : l ≠ m) : sameB l m = false := @decide_eq_false _ (Classical.propDecidable _) h
theorem list_same {α : Type} {l m : List α} (hl : l.length = m.length) (h : ∀ (k : Nat) x y, l[k]? = some x → m[k]? = some y → x = y) : l = m := by
  refine List.ext_getElem hl fun k h1 h2 => ?_
  exact h k _ _ (List.getElem?_eq_getElem h1) (List.getElem?_eq_getElem h2)
def eqT (x y : Tm) : Bool := x.d == y.d && (x.a == y.a && (x.b == y.b && (x.c == y.c && x.e == y.e)))
theorem eqT_iff (x y : Tm) : eqT x y = true ↔ x = y := by
  obtain ⟨xd, xa, xb, xc, xe⟩ := x
  obtain ⟨yd, ya, yb, yc, ye⟩ := y
  unfold eqT
  simp only [Bool.and_eq_true, beq_iff_eq, Tm.mk.injEq]
set_option maxHeartbeats 4000000 in
theorem refSame_any (l m : List Tm) (a a' : Option Addr) (c c' : Nat) (w : World) (h : Rd w 5 l.length (.slice a l.length c) (tms l)) (h' : Rd w 5 m.length (.slice a' m.length c') (tms m)) (hn : l.length ≤ 1073741823) :
    Calls Try.prog 43 #[.slice a l.length c, .slice a' m.length c'] w fun e w' => e = .returned (.bool (sameB l m)) ∧ Ext w w' := by
  obtain ⟨R, hR⟩ : ∃ R, R = sameB l m := ⟨_, rfl⟩
  rw [← hR]
  have HR := Lib.hid hR
  have H := Lib.hid h
  have H' := Lib.hid h'
  have HN := Lib.hid hn
  by_cases hlen : l.length = m.length
  · rw [← hlen] at H' ⊢
    have HLEN := Lib.hid hlen
    clear h h' hn hR hlen
    go_enter Try.func43, Try.ntmps43
    go_wp2
    go_loopw [5] (fun i wr => ∃ j : Nat, j ≤ l.length ∧ i = .int .i64 j ∧ Ext w wr ∧ ∀ (k : Nat) x y, k < j → l[k]? = some x → m[k]? = some y → x = y) (fun i _ => l.length - (intOf i).toNat)
    case atStart => exact ⟨0, by omega, rfl, by (repeat' (first | with_reducible exact Ext.refl _ | with_reducible refine Ext.ext ?_ _ | with_reducible refine Ext.alloc ?_ _ | with_reducible refine Ext.drew ?_ | with_reducible refine Ext.drewN ?_ _ | with_reducible assumption)), fun k x y hk => absurd hk (Nat.not_lt_zero k)⟩
    case round =>
      obtain ⟨j, hj, rfl, ⟨z, rfl⟩, hok⟩ := hrel
      have HOK := Lib.hid hok
      clear hok
      by_cases hlt : j < l.length
      · obtain ⟨x, hx⟩ : ∃ x, l[j]? = some x := ⟨l[j], List.getElem?_eq_getElem _⟩
        obtain ⟨y, hy⟩ : ∃ y, m[j]? = some y := ⟨m[j]'(by have := HLEN.out; omega), List.getElem?_eq_getElem _⟩
        obtain ⟨b, off, rfl, -⟩ := H.out.cells (by omega)
        obtain ⟨b', off', rfl, -⟩ := H'.out.cells (by omega)
        obtain ⟨q0, q1, q2, q3, q4⟩ := tm_at H.out j x hx
        obtain ⟨p0, p1, p2, p3, p4⟩ := tm_at H'.out j y hy
        haveI : LtSz b w.heap.size := ⟨World.block_lt_of_cell? _ _ q0⟩
        haveI : LtSz b' w.heap.size := ⟨World.block_lt_of_cell? _ _ p0⟩
        have i1 : (0 : Int) ≤ j := by omega
        have i2 : (j : Int) < l.length := by omega
        have ew : wrap64 ((j : Int) + 1) = ((j + 1 : Nat) : Int) := (IntWalk.wrap64_in _ ⟨by omega, by have := HN.out; omega⟩).trans (by omega)
        have NO := Lib.hid (show x ≠ y → false = R from fun e => by rw [HR.out, sameB_no (fun k => e (by rw [k, hy] at hx; exact (Option.some.inj hx).symm))])
        have ST := Lib.hid (show x = y → ∀ (k : Nat) x y, k < j + 1 → l[k]? = some x → m[k]? = some y → x = y from fun e k u v hk hu hv => by
          rcases Nat.lt_or_ge k j with h | h
          · exact HOK.out k u v h hu hv
          · obtain rfl : k = j := by omega
            rw [hx] at hu
            rw [hy] at hv
            cases hu
            cases hv
            exact e)
        have EQ := eqT_iff x y
        obtain ⟨xd, xa, xb, xc, xe⟩ := x
        obtain ⟨yd, ya, yb, yc, ye⟩ := y
        dsimp only at q0 q1 q2 q3 q4 p0 p1 p2 p3 p4
        clear hx hy
        unfold eqT at EQ
        dsimp only at EQ
        obtain ⟨b4, f4⟩ : ∃ b, (xd == yd && (xa == ya && (xb == yb && (xc == yc && xe == ye)))) = b := ⟨_, rfl⟩
        rw [f4] at EQ
        cases b4
        · have HF := Lib.hid (NO.out (fun e => absurd (EQ.2 e) (by decide)))
          clear NO ST EQ
          go_wp2
          refine wp_region_ext (by kernel_rfl) (by kernel_rfl) ?_
          repeat (go_big_quiet_step (fail))
          refine wpQuiet_nil ?_
          intro xK
          go_wp2
          go_returns
          exact ⟨retb rfl HF.out, by (repeat' (first | with_reducible exact Ext.refl _ | with_reducible refine Ext.ext ?_ _ | with_reducible refine Ext.alloc ?_ _ | with_reducible refine Ext.drew ?_ | with_reducible refine Ext.drewN ?_ _ | with_reducible assumption))⟩
        · have HS := Lib.hid (ST.out (EQ.1 rfl))
          clear NO ST EQ
          go_wp2
          refine wp_region_ext (by kernel_rfl) (by kernel_rfl) ?_
          repeat (go_big_quiet_step (fail))
          refine wpQuiet_nil ?_
          intro xK
          go_wp2
          exact ⟨⟨j + 1, by omega, congrArg (Value.int .i64) ew, by (repeat' (first | with_reducible exact Ext.refl _ | with_reducible refine Ext.ext ?_ _ | with_reducible refine Ext.alloc ?_ _ | with_reducible refine Ext.drew ?_ | with_reducible refine Ext.drewN ?_ _ | with_reducible assumption)), HS.out⟩, by rw [ew]; simp only [intOf]; omega⟩
      · obtain rfl : j = l.length := by omega
        have HS := Lib.hid (show true = R by rw [HR.out, sameB_yes (list_same HLEN.out (fun k x y h1 h2 => HOK.out k x y (List.getElem?_eq_some_iff.1 h1).1 h1 h2))])
        go_wp2
        go_returns
        exact ⟨retb rfl HS.out, by (repeat' (first | with_reducible exact Ext.refl _ | with_reducible refine Ext.ext ?_ _ | with_reducible refine Ext.alloc ?_ _ | with_reducible refine Ext.drew ?_ | with_reducible refine Ext.drewN ?_ _ | with_reducible assumption))⟩
  · have HF := Lib.hid (show false = R by rw [hR, sameB_no (fun e => hlen (by rw [e]))])
    have e0 : ((l.length : Int) != m.length) = true := by simp; omega
    clear h h' hn hR hlen
    go_enter Try.func43, Try.ntmps43
    go_wp2
    go_returns
    exact ⟨retb rfl HF.out, by (repeat' (first | with_reducible exact Ext.refl _ | with_reducible refine Ext.ext ?_ _ | with_reducible refine Ext.alloc ?_ _ | with_reducible refine Ext.drew ?_ | with_reducible refine Ext.drewN ?_ _ | with_reducible assumption))⟩
/-- Right, of the list, and nothing of it below. -/
def Low (l : List Tm) (x : Tm) : Prop := x ∈ l ∧ rightB x = true ∧ ∀ y ∈ l, leB y x = true → y = x
theorem leB_right {s t : Tm} (h : leB s t = true) : rightB s = true ∧ rightB t = true := ⟨((leB_iff _ _).1 h).1, ((leB_iff _ _).1 h).2.1⟩
theorem srt_ext : ∀ {l m : List Tm}, Srt l → Srt m → (∀ x, x ∈ l ↔ x ∈ m) → l = m
  | [], [], _, _, _ => rfl
  | [], b :: m, _, _, h => by have := (h b).2 List.mem_cons_self; cases this
  | a :: l, [], _, _, h => by have := (h a).1 List.mem_cons_self; cases this
  | a :: l, b :: m, hl, hm, h => by
    have h1 := List.pairwise_cons.1 hl
    have h2 := List.pairwise_cons.1 hm
    have hab : a = b := by
      rcases List.mem_cons.1 ((h a).1 List.mem_cons_self) with e | e
      · exact e
      · rcases List.mem_cons.1 ((h b).2 List.mem_cons_self) with e' | e'
        · exact e'.symm
        · have := lessB_trans (h1.1 b e') (h2.1 a e)
          rw [lessB_irrefl] at this
          cases this
    subst hab
    have na : a ∉ l := fun hm => by have := h1.1 a hm; rw [lessB_irrefl] at this; cases this
    have nb : a ∉ m := fun hm => by have := h2.1 a hm; rw [lessB_irrefl] at this; cases this
    rw [srt_ext h1.2 h2.2 (fun x => ⟨fun hx => by
      rcases List.mem_cons.1 ((h x).1 (List.mem_cons_of_mem _ hx)) with e | e
      · exact absurd (e ▸ hx) na
      · exact e, fun hx => by
      rcases List.mem_cons.1 ((h x).2 (List.mem_cons_of_mem _ hx)) with e | e
      · exact absurd (e ▸ hx) nb
      · exact e⟩)]
/-- What has been made of a list so far. -/
def Inv (l o : List Tm) : Prop := (∀ x, x ∈ o ↔ Low l x) ∧ ∀ y ∈ l, rightB y = true → ∃ x ∈ o, leB x y = true
theorem inv_step {l o : List Tm} {t : Tm} (h : Inv l o) : Inv (l ++ [t]) (stepT o t) := by
  obtain ⟨h1, h2⟩ := h
  unfold stepT
  split
  · rename_i hc
    rw [Bool.or_eq_true] at hc
    rcases hc with hc | hc
    · have hr : rightB t = false := by simpa using hc
      refine ⟨fun x => (h1 x).trans ⟨fun ⟨a, b, c⟩ => ⟨List.mem_append_left _ a, b, fun y hy hle => ?_⟩, fun ⟨a, b, c⟩ => ⟨?_, b, fun y hy hle => c y (List.mem_append_left _ hy) hle⟩⟩, fun y hy hyr => ?_⟩
      · rcases List.mem_append.1 hy with hy | hy
        · exact c y hy hle
        · rw [List.mem_singleton] at hy
          rw [hy] at hle
          rw [(leB_right hle).1] at hr
          cases hr
      · rcases List.mem_append.1 a with hy | hy
        · exact hy
        · rw [List.mem_singleton] at hy
          rw [hy, hr] at b
          cases b
      · rcases List.mem_append.1 hy with hy | hy
        · exact h2 y hy hyr
        · rw [List.mem_singleton] at hy
          rw [hy, hr] at hyr
          cases hyr
    · obtain ⟨o1, ho1, hle1⟩ := List.any_eq_true.1 hc
      have hlo := (h1 o1).1 ho1
      refine ⟨fun x => (h1 x).trans ⟨fun ⟨a, b, c⟩ => ⟨List.mem_append_left _ a, b, fun y hy hle => ?_⟩, fun ⟨a, b, c⟩ => ⟨?_, b, fun y hy hle => c y (List.mem_append_left _ hy) hle⟩⟩, fun y hy hyr => ?_⟩
      · rcases List.mem_append.1 hy with hy | hy
        · exact c y hy hle
        · rw [List.mem_singleton] at hy
          subst hy
          have e := c o1 hlo.1 (leB_trans hle1 hle)
          rw [e] at hle1
          exact leB_anti hle hle1
      · rcases List.mem_append.1 a with hy | hy
        · exact hy
        · rw [List.mem_singleton] at hy
          subst hy
          have e := c o1 (List.mem_append_left _ hlo.1) hle1
          rw [← e]
          exact hlo.1
      · rcases List.mem_append.1 hy with hy | hy
        · exact h2 y hy hyr
        · rw [List.mem_singleton] at hy
          rw [hy]
          exact ⟨o1, ho1, hle1⟩
  · rename_i hc
    rw [Bool.or_eq_true, not_or] at hc
    obtain ⟨hc1, hc2⟩ := hc
    have hr : rightB t = true := by simpa using hc1
    have hno : ∀ y ∈ o, leB y t = false := fun y hy => by
      cases hle : leB y t
      · rfl
      · exact absurd (List.any_eq_true.2 ⟨y, hy, hle⟩) hc2
    have hnl : ∀ y ∈ l, leB y t = false := fun y hy => by
      cases hle : leB y t
      · rfl
      · obtain ⟨x, hx, hxy⟩ := h2 y hy (leB_right hle).1
        have := hno x hx
        rw [leB_trans hxy hle] at this
        cases this
    refine ⟨fun x => ?_, fun y hy hyr => ?_⟩
    · rw [mem_ins, List.mem_filter]
      constructor
      · rintro (⟨hx, hnt⟩ | rfl)
        · obtain ⟨a, b, c⟩ := (h1 x).1 hx
          refine ⟨List.mem_append_left _ a, b, fun y hy hle => ?_⟩
          rcases List.mem_append.1 hy with hy | hy
          · exact c y hy hle
          · rw [List.mem_singleton] at hy
            rw [hy] at hle
            rw [hle] at hnt
            cases hnt
        · refine ⟨List.mem_append_right _ (List.mem_singleton.2 rfl), hr, fun y hy hle => ?_⟩
          rcases List.mem_append.1 hy with hy | hy
          · rw [hnl y hy] at hle
            cases hle
          · exact List.mem_singleton.1 hy
      · rintro ⟨a, b, c⟩
        rcases List.mem_append.1 a with hx | hx
        · by_cases e : x = t
          · exact .inr e
          · refine .inl ⟨(h1 x).2 ⟨hx, b, fun y hy hle => c y (List.mem_append_left _ hy) hle⟩, ?_⟩
            cases hle : leB t x
            · rfl
            · exact absurd (c t (List.mem_append_right _ (List.mem_singleton.2 rfl)) hle).symm e
        · exact .inr (List.mem_singleton.1 hx)
    · rcases List.mem_append.1 hy with hy | hy
      · obtain ⟨x, hx, hxy⟩ := h2 y hy hyr
        cases hle : leB t x
        · exact ⟨x, mem_ins.2 (.inl (List.mem_filter.2 ⟨hx, by rw [hle]; rfl⟩)), hxy⟩
        · exact ⟨t, mem_ins.2 (.inr rfl), leB_trans hle hxy⟩
      · rw [List.mem_singleton] at hy
        rw [hy]
        exact ⟨t, mem_ins.2 (.inr rfl), leB_refl hr⟩
theorem inv_all (l : List Tm) : Inv l (chT l) := by
  have key : ∀ (l p o : List Tm), Inv p o → Inv (p ++ l) (l.foldl stepT o) := by
    intro l
    induction l with
    | nil => intro p o h; rw [List.append_nil]; exact h
    | cons a l ih =>
      intro p o h
      have := ih (p ++ [a]) _ (inv_step h)
      rw [List.append_assoc] at this
      exact this
  have := key l [] [] ⟨fun x => ⟨fun h => (nomatch h), fun h => (nomatch h.1)⟩, fun y hy => (nomatch hy)⟩
  exact this
theorem mem_chT {l : List Tm} {x : Tm} : x ∈ chT l ↔ Low l x := (inv_all l).1 x
/-- The lists have the same lowest. -/
theorem chT_same {l m : List Tm} (h : ∀ x, Low l x ↔ Low m x) : chT l = chT m := srt_ext (chT_rs l).2 (chT_rs m).2 (fun x => mem_chT.trans ((h x).trans mem_chT.symm))
def badB (l : List Tm) (i : Nat) (x : Tm) (k : Nat) : Bool := match l[k]? with
  | some y => (!eqT y x && leB y x) || (decide (k < i) && eqT y x)
  | none => false
def lowTo (l : List Tm) (i : Nat) (x : Tm) : Nat → Bool
  | 0 => rightB x
  | k + 1 => lowTo l i x k && !badB l i x k
def refT (l : List Tm) : Nat → List Tm
  | 0 => []
  | i + 1 => match l[i]? with
    | some x => if lowTo l i x l.length then insT (refT l i) x else refT l i
    | none => refT l i
theorem badB_at {l : List Tm} {i k : Nat} {x y : Tm} (h : l[k]? = some y) : badB l i x k = ((!eqT y x && leB y x) || (decide (k < i) && eqT y x)) := by
  unfold badB
  rw [h]
theorem lowTo_iff (l : List Tm) (i : Nat) (x : Tm) : ∀ n, lowTo l i x n = true ↔ rightB x = true ∧ ∀ (k : Nat) y, k < n → l[k]? = some y → (leB y x = true → y = x) ∧ (k < i → y ≠ x)
  | 0 => ⟨fun h => ⟨h, fun k y hk => absurd hk (Nat.not_lt_zero k)⟩, fun h => h.1⟩
  | n + 1 => by
    unfold lowTo
    rw [Bool.and_eq_true, lowTo_iff l i x n]
    constructor
    · rintro ⟨⟨h1, h2⟩, h3⟩
      refine ⟨h1, fun k y hk hy => ?_⟩
      rcases Nat.lt_or_ge k n with h | h
      · exact h2 k y h hy
      · obtain rfl : k = n := by omega
        rw [badB_at hy] at h3
        simp only [Bool.not_eq_true', Bool.or_eq_false_iff, Bool.and_eq_false_iff, Bool.not_eq_false', decide_eq_false_iff_not] at h3
        obtain ⟨h4, h5⟩ := h3
        refine ⟨fun hle => ?_, fun hk e => ?_⟩
        · rcases h4 with h4 | h4
          · exact (eqT_iff _ _).1 h4
          · rw [h4] at hle; cases hle
        · rcases h5 with h5 | h5
          · exact h5 hk
          · rw [(eqT_iff _ _).2 e] at h5; cases h5
    · rintro ⟨h1, h2⟩
      refine ⟨⟨h1, fun k y hk hy => h2 k y (by omega) hy⟩, ?_⟩
      cases hb : badB l i x n
      · rfl
      · exfalso
        unfold badB at hb
        split at hb
        · rename_i y hy
          obtain ⟨h3, h4⟩ := h2 n y (by omega) hy
          simp only [Bool.or_eq_true, Bool.and_eq_true, Bool.not_eq_true', decide_eq_true_eq] at hb
          rcases hb with ⟨hb1, hb2⟩ | ⟨hb1, hb2⟩
          · rw [(eqT_iff _ _).2 (h3 hb2)] at hb1; cases hb1
          · exact h4 hb1 ((eqT_iff _ _).1 hb2)
        · cases hb
theorem mem_refT {l : List Tm} : ∀ {i : Nat} {y : Tm}, y ∈ refT l i ↔ ∃ j, j < i ∧ l[j]? = some y ∧ lowTo l j y l.length = true
  | 0, y => ⟨fun h => (nomatch h), fun ⟨j, hj, _⟩ => absurd hj (Nat.not_lt_zero j)⟩
  | i + 1, y => by
    have ih := @mem_refT l i y
    have old : y ∈ refT l i → ∃ j, j < i + 1 ∧ l[j]? = some y ∧ lowTo l j y l.length = true := fun h => by
      obtain ⟨j, h1, h2, h3⟩ := ih.1 h
      exact ⟨j, by omega, h2, h3⟩
    unfold refT
    split
    · rename_i x hx
      split
      · rename_i hlow
        rw [mem_ins]
        constructor
        · rintro (h | rfl)
          · exact old h
          · exact ⟨i, by omega, hx, hlow⟩
        · rintro ⟨j, h1, h2, h3⟩
          rcases Nat.lt_or_ge j i with h | h
          · exact .inl (ih.2 ⟨j, h, h2, h3⟩)
          · obtain rfl : j = i := by omega
            rw [hx] at h2
            exact .inr (Option.some.inj h2).symm
      · rename_i hlow
        refine ⟨old, ?_⟩
        rintro ⟨j, h1, h2, h3⟩
        rcases Nat.lt_or_ge j i with h | h
        · exact ih.2 ⟨j, h, h2, h3⟩
        · obtain rfl : j = i := by omega
          rw [hx] at h2
          cases h2
          exact absurd h3 hlow
    · rename_i hx
      refine ⟨old, ?_⟩
      rintro ⟨j, h1, h2, h3⟩
      rcases Nat.lt_or_ge j i with h | h
      · exact ih.2 ⟨j, h, h2, h3⟩
      · obtain rfl : j = i := by omega
        rw [hx] at h2
        cases h2
theorem fresh_refT {l : List Tm} {i : Nat} {x : Tm} (hl : lowTo l i x l.length = true) : x ∉ refT l i := fun h => by
  obtain ⟨j, h1, h2, -⟩ := mem_refT.1 h
  exact ((lowTo_iff _ _ _ _).1 hl).2 j x ((List.getElem?_eq_some_iff.1 h2).1) h2 |>.2 h1 rfl
theorem refT_rs {l : List Tm} : ∀ i, RS (refT l i)
  | 0 => ⟨fun x hx => (nomatch hx), List.Pairwise.nil⟩
  | i + 1 => by
    have ih := @refT_rs l i
    unfold refT
    split
    · split
      · rename_i hlow
        exact ins_rs ih ((lowTo_iff _ _ _ _).1 hlow).1 (fresh_refT hlow)
      · exact ih
    · exact ih
theorem refT_len (l : List Tm) : ∀ i, (refT l i).length ≤ i
  | 0 => Nat.le_refl _
  | i + 1 => by
    have ih := refT_len l i
    unfold refT
    split
    · split
      · rw [insT_len]; omega
      · omega
    · omega
theorem first_at {x : Tm} : ∀ {l : List Tm}, x ∈ l → ∃ j, l[j]? = some x ∧ ∀ (k : Nat) y, k < j → l[k]? = some y → y ≠ x
  | [], h => by cases h
  | a :: l, h => by
    by_cases e : a = x
    · exact ⟨0, by rw [e]; rfl, fun k y hk => absurd hk (Nat.not_lt_zero k)⟩
    · rcases List.mem_cons.1 h with h | h
      · exact absurd h.symm e
      · obtain ⟨j, h1, h2⟩ := first_at h
        refine ⟨j + 1, h1, fun k y hk hy => ?_⟩
        cases k with
        | zero =>
          obtain rfl : a = y := by simpa using hy
          exact e
        | succ k => exact h2 k y (by omega) (by simpa using hy)
theorem ref_is (l : List Tm) : refT l l.length = chT l := by
  refine srt_ext (refT_rs _).2 (chT_rs l).2 (fun x => ?_)
  rw [mem_chT, mem_refT]
  constructor
  · rintro ⟨j, h1, h2, h3⟩
    obtain ⟨h4, h5⟩ := (lowTo_iff _ _ _ _).1 h3
    refine ⟨List.mem_of_getElem? h2, h4, fun y hy hle => ?_⟩
    obtain ⟨k, hk⟩ := List.getElem?_of_mem hy
    exact (h5 k y ((List.getElem?_eq_some_iff.1 hk).1) hk).1 hle
  · rintro ⟨h1, h2, h3⟩
    obtain ⟨j, hj, hf⟩ := first_at h1
    exact ⟨j, (List.getElem?_eq_some_iff.1 hj).1, hj, (lowTo_iff _ _ _ _).2 ⟨h2, fun k y hk hy => ⟨fun hle => h3 y (List.mem_of_getElem? hy) hle, fun hkj => hf k y hkj hy⟩⟩⟩
/-- A timestamp put in at a place. -/
def insAt (o : List Tm) (x : Tm) (k : Nat) : List Tm := o.take k ++ x :: o.drop k
theorem insAt_len {o : List Tm} {x : Tm} {k : Nat} (h : k ≤ o.length) : (insAt o x k).length = o.length + 1 := by
  simp [insAt]
  omega
theorem insAt_self {o : List Tm} {x : Tm} {k : Nat} (h : k ≤ o.length) : (insAt o x k)[k]? = some x := by
  unfold insAt
  rw [List.getElem?_append_right (by rw [List.length_take]; omega), List.length_take, Nat.min_eq_left h, Nat.sub_self]
  rfl
theorem insAt_before {o : List Tm} {x : Tm} {k j : Nat} (h : k ≤ o.length) (hj : j < k) : (insAt o x k)[j]? = o[j]? := by
  unfold insAt
  rw [List.getElem?_append_left (by rw [List.length_take]; omega), List.getElem?_take, if_pos hj]
theorem insAt_swap {o : List Tm} {x y : Tm} {k : Nat} (h : k + 1 ≤ o.length) (hy : o[k]? = some y) : ((insAt o x (k + 1)).set (k + 1) y).set k x = insAt o x k := by
  have hlt := (List.getElem?_eq_some_iff.1 hy).1
  have ht : o.take (k + 1) = o.take k ++ [y] := by rw [List.take_add_one, hy]; rfl
  have hd : o.drop k = y :: o.drop (k + 1) := by
    rw [List.drop_eq_getElem_cons hlt]
    rw [(List.getElem?_eq_some_iff.1 hy).2]
  have hkl : (o.take k).length = k := by rw [List.length_take]; omega
  unfold insAt
  rw [ht, hd]
  apply List.ext_getElem?
  intro j
  rw [List.getElem?_set, List.getElem?_set]
  simp only [List.append_assoc, List.length_set, List.length_append, List.length_cons, List.singleton_append, hkl]
  by_cases e1 : k = j
  · subst e1
    rw [if_pos rfl, if_pos (by omega), List.getElem?_append_right (by omega), hkl, Nat.sub_self]
    rfl
  · rw [if_neg e1]
    by_cases e2 : k + 1 = j
    · subst e2
      rw [if_pos rfl, if_pos (by omega), List.getElem?_append_right (by omega), hkl, show k + 1 - k = 1 by omega]
      rfl
    · rw [if_neg e2]
      by_cases hj : j < k
      · rw [List.getElem?_append_left (by omega), List.getElem?_append_left (by omega)]
      · rw [List.getElem?_append_right (by omega), List.getElem?_append_right (by omega), hkl]
        obtain ⟨d, hd⟩ : ∃ d, j - k = d + 2 := ⟨j - k - 2, by omega⟩
        rw [hd]
        rfl
theorem insAt_end {o : List Tm} {x : Tm} : insAt o x o.length = o ++ [x] := by
  unfold insAt
  rw [List.take_length, List.drop_length]
/-- Where the going down ends, is the place. -/
theorem insAt_done {o : List Tm} {x : Tm} {k : Nat} (h : RS o) (hx : rightB x = true) (hn : x ∉ o) (hk : k ≤ o.length) (hd : ∀ j y, k ≤ j → o[j]? = some y → lessB x y = true) (hs : k = 0 ∨ ∃ y, o[k - 1]? = some y ∧ lessB x y = false) : insAt o x k = insT o x := by
  have hp : posT o x = k := by
    refine posT_at hk (fun i z hi hz => ?_) (fun z hz => ?_)
    · rcases hs with rfl | ⟨y, hy, hl⟩
      · exact absurd hi (Nat.not_lt_zero i)
      · have hym := List.mem_of_getElem? hy
        have hyx : lessB y x = true := lessB_total hx (h.1 y hym) (fun e => hn (e ▸ hym)) hl
        rcases Nat.lt_or_ge i (k - 1) with hi' | hi'
        · exact lessB_trans (h.2.at hi' hz hy) hyx
        · obtain rfl : i = k - 1 := by omega
          rw [hy] at hz
          cases hz
          exact hyx
    · have h1 := hd k z (Nat.le_refl _) hz
      rw [Bool.eq_false_iff]
      intro h2
      have := lessB_trans h1 h2
      rw [lessB_irrefl] at this
      cases this
  unfold insAt insT
  rw [hp]
end Go.Proofs.Ytkmgdejpdhlleaa.Rc
