/- law 14: the contracts in the law's words; awake; one box alone. -/
import Derived.Test.YtlhmifkimnmnmaaNt9
namespace Go.Proofs.Ytlhmifkimnmnmaa
set_option linter.unusedSimpArgs false
set_option linter.unusedVariables false
open Go.RowKit

/-- Mailboxes that are not too long. -/
def Few (l : List Bx) : Prop := l.length ≤ 1000 ∧ ∀ x ∈ l, x.l.length ≤ 1000000
theorem rds_form {w : World} {l : List Bx} {v : Value} (h : RdsG shB w l v) : ∃ a c, v = .slice a l.length c := by
  obtain ⟨a, c, us, rfl, -⟩ := h
  exact ⟨a, c, rfl⟩
theorem put_let {w : World} {l : List Bx} {a : Option Addr} {n c : Nat} (h : RdsG shB w l (.slice a n c)) (hf : Few l) (f t room e d x0 x1 x2 x3 k v q o : Int) (l' : List Bx) (b : Bool) (hP : putS l f t room ⟨e, d, x0, x1, x2, x3, k, v, q, o⟩ = l') (hO : putOk l f t room ⟨e, d, x0, x1, x2, x3, k, v, q, o⟩ = b) :
    Calls Try.prog 8 #[.slice a n c, .int .i64 f, .int .i64 t, .int .i64 room, .agg #[.int .i64 e, .int .i64 d, .int .i64 x0, .int .i64 x1, .int .i64 x2, .int .i64 x3, .int .i64 k, .int .i64 v, .int .i64 q, .int .i64 o]] w fun r w' => ∃ a' c', r = .returned (.tuple #[.slice a' l'.length c', .bool b]) ∧ Ext w w' ∧ RdsG shB w' l' (.slice a' l'.length c') := by
  subst hP hO
  have hn := rds_len h
  refine (put_any l a n c w h (by have := hf.1; omega) (fun x hx => Nat.le_trans (hf.2 x hx) (by decide)) f t room ⟨e, d, x0, x1, x2, x3, k, v, q, o⟩).mono ?_
  rintro r w' ⟨v', rfl, hp⟩
  have hr := hp.rds
  obtain ⟨a', c', rfl⟩ := rds_form hr
  exact ⟨a', c', rfl, hp.1, hr⟩
theorem take_let {w : World} {l : List Bx} {a : Option Addr} {n c : Nat} (h : RdsG shB w l (.slice a n c)) (hf : Few l) (e f t i : Int) (hi : -9223372036854775808 ≤ i ∧ i ≤ 9223372036854775807) (l' : List Bx) (m : Mg) (b : Bool) (hP : takeS l e f t i = l') (hM : tookM l e f t i = m) (hO : takeOk l e f t i = b) :
    Calls Try.prog 13 #[.slice a n c, .int .i64 e, .int .i64 f, .int .i64 t, .int .i64 i] w fun r w' => ∃ a' c', r = .returned (.tuple #[.slice a' l'.length c', .agg #[.int .i64 m.e, .int .i64 m.d, .int .i64 m.a, .int .i64 m.b, .int .i64 m.c, .int .i64 m.f, .int .i64 m.k, .int .i64 m.v, .int .i64 m.n, .int .i64 m.q], .bool b]) ∧ Ext w w' ∧ RdsG shB w' l' (.slice a' l'.length c') := by
  subst hP hM hO
  refine (take_any l a n c w h (by have := rds_len h; have := hf.1; omega) (fun x hx => Nat.le_trans (hf.2 x hx) (by decide)) e f t i hi).mono ?_
  rintro r w' ⟨v', rfl, hp⟩
  have hr := hp.rds
  obtain ⟨a', c', rfl⟩ := rds_form hr
  exact ⟨a', c', rfl, hp.1, hr⟩
theorem len_let {w : World} {l : List Bx} {a : Option Addr} {n c : Nat} (h : RdsG shB w l (.slice a n c)) (hf : Few l) (e f t : Int) (L : Nat) (hL : lenS l e f t = L) :
    Calls Try.prog 15 #[.slice a n c, .int .i64 e, .int .i64 f, .int .i64 t] w fun r w' => r = .returned (.int .i64 (L : Int)) ∧ Ext w w' := by
  subst hL
  exact len_any l a n c w h (by have := rds_len h; have := hf.1; omega) (fun x hx => Nat.le_trans (hf.2 x hx) (by decide)) e f t
theorem right_let {w : World} {l : List Bx} {a : Option Addr} {n c : Nat} (h : RdsG shB w l (.slice a n c)) (hf : Few l) (b : Bool) (hb : rightB l = b) :
    Calls Try.prog 10 #[.slice a n c] w fun r w' => r = .returned (.bool b) ∧ Ext w w' := by
  subst hb
  exact right_any l a n c w h (by have := rds_len h; have := hf.1; omega) (fun x hx => Nat.le_trans (hf.2 x hx) (by decide))
theorem all_let {w : World} {l : List Bx} {a : Option Addr} {n c : Nat} (h : RdsG shB w l (.slice a n c)) (hf : Few l) (m : List Mg) (hm : allS l = m) :
    Calls Try.prog 18 #[.slice a n c] w fun r w' => ∃ a' c', r = .returned (.slice a' m.length c') ∧ Ext w w' ∧ Rd w' 10 m.length (.slice a' m.length c') (mgs m) := by
  subst hm
  refine (all_any l a n c w h (by have := rds_len h; have := hf.1; omega) (fun x hx => Nat.le_trans (hf.2 x hx) (by decide))).mono ?_
  rintro r w' ⟨v, rfl, hx, a', c', rfl, hr⟩
  exact ⟨a', c', rfl, hx, hr⟩
/-- One box alone, if it has messages. -/
def oneB (e f t : Int) (ms : List Mg) : List Bx := match ms with
  | [] => []
  | m :: ms => [⟨e, f, t, m :: ms⟩]
theorem oneB_len (e f t : Int) (ms : List Mg) : (oneB e f t ms).length = if ms.length = 0 then 0 else 1 := by cases ms <;> rfl
theorem oneB_some (e f t : Int) {ms : List Mg} (h : 0 < ms.length) : oneB e f t ms = [⟨e, f, t, ms⟩] := by
  cases ms with
  | nil => simp at h
  | cons m ms => rfl
theorem ord3_self (e f t : Int) : ord3 e f t e f t = 0 := (ord3_zero _ _ _ _ _ _).2 ⟨rfl, rfl, rfl⟩
theorem oneB_pos (e f t : Int) (ms : List Mg) : posB (oneB e f t ms) e f t = 0 := by
  cases ms with
  | nil => rfl
  | cons m ms => unfold oneB posB; rw [ord3_self]; rfl
theorem oneB_has (e f t : Int) (ms : List Mg) : hasB (oneB e f t ms) e f t = decide (0 < ms.length) := by
  cases ms with
  | nil => rfl
  | cons m ms =>
    unfold hasB
    rw [oneB_pos]
    unfold oneB
    simp [ord3_self]
theorem oneB_in (e f t : Int) (ms : List Mg) : inB (oneB e f t ms) e f t = ms := by
  unfold inB
  rw [oneB_pos, oneB_has]
  cases ms with
  | nil => rfl
  | cons m ms => simp [oneB]
theorem oneB_right {e f t : Int} {ms : List Mg} (he : 0 ≤ e) (hf : 0 ≤ f) (ht : 0 ≤ t) (hl : ms.length ≤ 4096) (hm : ∀ m ∈ ms, m.e = e) : rightB (oneB e f t ms) = true := by
  cases ms with
  | nil => rfl
  | cons m ms =>
    unfold oneB rightB okB
    simp only [List.all_cons, List.all_nil, Bool.and_true]
    have h1 : ¬ e < 0 := by omega
    have h2 : ¬ f < 0 := by omega
    have h3 : ¬ t < 0 := by omega
    have h4 : ¬ (m :: ms).length < 1 := by simp
    have h5 : ¬ 4096 < (m :: ms).length := by omega
    have h6 : (m :: ms).any (fun x => x.e != e) = false := by
      rw [List.any_eq_false]
      intro x hx
      rw [hm x hx]
      simp
    simp only [h1, h2, h3, h4, h5, h6, decide_false]
    rfl
theorem oneB_add {e f t : Int} {ms : List Mg} {m : Mg} (h : m.e = e) : addB (oneB e f t ms) f t m = oneB e f t (ms ++ [m]) := by
  unfold addB
  rw [h, oneB_pos, oneB_has]
  cases ms with
  | nil => simp [oneB]
  | cons x ms => simp [oneB]
theorem oneB_lenS {e f t : Int} {ms : List Mg} (hr : rightB (oneB e f t ms) = true) : lenS (oneB e f t ms) e f t = ms.length := by
  unfold lenS
  rw [hr, oneB_in]
  rfl
theorem oneB_putOk {e f t : Int} {ms : List Mg} (room : Int) {m : Mg} (h : m.e = e) (he : 0 ≤ e) (hf : 0 ≤ f) (ht : 0 ≤ t) (hr : rightB (oneB e f t ms) = true) (hl : room ≤ 4096) : putOk (oneB e f t ms) f t room m = decide ((ms.length : Int) < room) := by
  unfold putOk
  rw [hr, h, oneB_in, decide_eq_false (show ¬ e < 0 by omega), decide_eq_false (show ¬ f < 0 by omega), decide_eq_false (show ¬ t < 0 by omega), Int.min_eq_left hl]
  by_cases hc : room ≤ (ms.length : Int)
  · rw [decide_eq_true hc, decide_eq_false (by omega)]; rfl
  · rw [decide_eq_false hc, decide_eq_true (by omega)]; rfl
theorem oneB_take {e f t : Int} {ms : List Mg} {k : Nat} {m : Mg} (hr : rightB (oneB e f t ms) = true) (hk : ms[k]? = some m) : takeOk (oneB e f t ms) e f t k = true ∧ tookM (oneB e f t ms) e f t k = m ∧ takeS (oneB e f t ms) e f t k = oneB e f t (ms.eraseIdx k) := by
  have hlt := (List.getElem?_eq_some_iff.1 hk).1
  have h1 : takeOk (oneB e f t ms) e f t k = true := by
    unfold takeOk
    rw [oneB_lenS hr, decide_eq_false (show ¬ (k : Int) < 0 by omega), decide_eq_false (show ¬ (ms.length : Int) ≤ k by omega)]
    rfl
  refine ⟨h1, ?_, ?_⟩
  · unfold tookM
    rw [h1, if_pos rfl, oneB_in, show ((k : Int)).toNat = k from rfl, hk]
    rfl
  · unfold takeS
    rw [h1, if_pos rfl, oneB_pos, show ((k : Int)).toNat = k from rfl]
    unfold cutB
    rw [oneB_some e f t (show 0 < ms.length by omega)]
    simp only [List.getElem?_cons_zero]
    split
    · next h0 =>
      rw [List.eq_nil_of_length_eq_zero h0]
      rfl
    · next h0 => rw [oneB_some e f t (by omega)]; rfl
theorem awake14 (w : World) : Calls Try.prog 6 #[] w fun r w' => r = .returned (.bool true) ∧ Ext w w' := by
  have M : Hid (rightB (oneB 3 1 2 [⟨3, 0, 0, 0, 0, 0, 0, 0, 1, 0⟩]) = true) := Lib.hid (oneB_right (by decide) (by decide) (by decide) (by decide) (by intro m hm; obtain rfl := List.mem_singleton.1 hm; rfl))
  have P := Lib.hid (fun W => put_let (l := []) (RdsG.nil W none 0) ⟨Nat.zero_le _, fun x hx => by cases hx⟩ 1 2 9 3 0 0 0 0 0 0 0 1 0 (oneB 3 1 2 [⟨3, 0, 0, 0, 0, 0, 0, 0, 1, 0⟩]) true (by rw [putS, show putOk [] 1 2 9 ⟨3, 0, 0, 0, 0, 0, 0, 0, 1, 0⟩ = true by decide]; exact oneB_add (e := 3) (ms := []) rfl) (by decide))
  have FW := Lib.hid (show Few (oneB 3 1 2 [⟨3, 0, 0, 0, 0, 0, 0, 0, 1, 0⟩]) from ⟨by decide, fun x hx => by obtain rfl := List.mem_singleton.1 hx; decide⟩)
  obtain ⟨t1, t2, t3⟩ := oneB_take (e := 3) (f := 1) (t := 2) (k := 0) (m := ⟨3, 0, 0, 0, 0, 0, 0, 0, 1, 0⟩) M.out rfl
  have TK := Lib.hid (fun W a c (h : RdsG shB W (oneB 3 1 2 [⟨3, 0, 0, 0, 0, 0, 0, 0, 1, 0⟩]) (.slice a 1 c)) => take_let h FW.out 3 1 2 0 (by decide) [] _ true t3 t2 t1)
  have LN := Lib.hid (fun W a c (h : RdsG shB W (oneB 3 1 2 [⟨3, 0, 0, 0, 0, 0, 0, 0, 1, 0⟩]) (.slice a 1 c)) => len_let h FW.out 3 1 2 1 (oneB_lenS M.out))
  have AL := Lib.hid (fun W a c (h : RdsG shB W (oneB 3 1 2 [⟨3, 0, 0, 0, 0, 0, 0, 0, 1, 0⟩]) (.slice a 1 c)) => all_let h FW.out [⟨3, 0, 0, 0, 0, 0, 0, 0, 1, 0⟩] (by rw [allS, M.out]; rfl))
  clear t1 t2 t3 M FW
  go_enter Try.func6, Try.ntmps6
  go_wp2_with (first  | (go_at_call 8; (with_reducible refine (P.out _).mono ?_); rintro r w1 ⟨a1, c1, rfl, hx, hb⟩; have HX1 := Lib.hid hx; have B1 := Lib.hid hb; clear hx hb; simp only [show (oneB 3 1 2 [⟨3, 0, 0, 0, 0, 0, 0, 0, 1, 0⟩]).length = 1 from rfl] at B1 ⊢)  | (go_at_call 13; (with_reducible refine (TK.out _ _ _ B1.out).mono ?_); rintro r w2 ⟨a2, c2, rfl, hx, hb⟩; have HX2 := Lib.hid hx; clear hx hb)  | (go_at_call 15; (with_reducible refine (LN.out _ _ _ (B1.out.on (by (repeat' (first | with_reducible exact Ext.refl _ | with_reducible refine Ext.ext ?_ _ | with_reducible refine Ext.alloc ?_ _ | with_reducible refine Ext.drew ?_ | with_reducible refine Ext.drewN ?_ _ | with_reducible refine Ext.trans ?_ HX1.out | with_reducible refine Ext.trans ?_ HX2.out | with_reducible refine Ext.trans ?_ HX3.out | with_reducible refine Ext.trans ?_ HX4.out | with_reducible refine Ext.trans ?_ HX5.out | with_reducible refine Ext.trans ?_ HX6.out | with_reducible refine Ext.trans ?_ HX7.out | with_reducible refine Ext.trans ?_ HX8.out | with_reducible refine Ext.trans ?_ HX9.out | with_reducible refine Ext.trans ?_ HX10.out | with_reducible refine Ext.trans ?_ HX11.out | with_reducible refine Ext.trans ?_ HX12.out | with_reducible refine Ext.trans ?_ HX13.out | with_reducible refine Ext.trans ?_ HX14.out | with_reducible refine Ext.trans ?_ HX15.out | with_reducible refine Ext.trans ?_ HX16.out | with_reducible refine Ext.trans ?_ HX17.out | with_reducible refine Ext.trans ?_ HX18.out | with_reducible refine Ext.trans ?_ HX19.out | with_reducible refine Ext.trans ?_ HX20.out | with_reducible refine Ext.trans ?_ HX21.out | with_reducible refine Ext.trans ?_ HX22.out | with_reducible refine Ext.trans ?_ HX23.out | with_reducible refine Ext.trans ?_ HX24.out))))).mono ?_); rintro r w3 ⟨rfl, x3, rfl⟩)  | (go_at_call 18; (with_reducible refine (AL.out _ _ _ (B1.out.on (by (repeat' (first | with_reducible exact Ext.refl _ | with_reducible refine Ext.ext ?_ _ | with_reducible refine Ext.alloc ?_ _ | with_reducible refine Ext.drew ?_ | with_reducible refine Ext.drewN ?_ _ | with_reducible refine Ext.trans ?_ HX1.out | with_reducible refine Ext.trans ?_ HX2.out | with_reducible refine Ext.trans ?_ HX3.out | with_reducible refine Ext.trans ?_ HX4.out | with_reducible refine Ext.trans ?_ HX5.out | with_reducible refine Ext.trans ?_ HX6.out | with_reducible refine Ext.trans ?_ HX7.out | with_reducible refine Ext.trans ?_ HX8.out | with_reducible refine Ext.trans ?_ HX9.out | with_reducible refine Ext.trans ?_ HX10.out | with_reducible refine Ext.trans ?_ HX11.out | with_reducible refine Ext.trans ?_ HX12.out | with_reducible refine Ext.trans ?_ HX13.out | with_reducible refine Ext.trans ?_ HX14.out | with_reducible refine Ext.trans ?_ HX15.out | with_reducible refine Ext.trans ?_ HX16.out | with_reducible refine Ext.trans ?_ HX17.out | with_reducible refine Ext.trans ?_ HX18.out | with_reducible refine Ext.trans ?_ HX19.out | with_reducible refine Ext.trans ?_ HX20.out | with_reducible refine Ext.trans ?_ HX21.out | with_reducible refine Ext.trans ?_ HX22.out | with_reducible refine Ext.trans ?_ HX23.out | with_reducible refine Ext.trans ?_ HX24.out))))).mono ?_); rintro r w4 ⟨a4, c4, rfl, hx, -⟩; have HX4 := Lib.hid hx; clear hx))
  go_returns
  exact ⟨retb rfl rfl, by (repeat' (first | with_reducible exact Ext.refl _ | with_reducible refine Ext.ext ?_ _ | with_reducible refine Ext.alloc ?_ _ | with_reducible refine Ext.drew ?_ | with_reducible refine Ext.drewN ?_ _ | with_reducible refine Ext.trans ?_ HX1.out | with_reducible refine Ext.trans ?_ HX2.out | with_reducible refine Ext.trans ?_ HX3.out | with_reducible refine Ext.trans ?_ HX4.out | with_reducible refine Ext.trans ?_ HX5.out | with_reducible refine Ext.trans ?_ HX6.out | with_reducible refine Ext.trans ?_ HX7.out | with_reducible refine Ext.trans ?_ HX8.out | with_reducible refine Ext.trans ?_ HX9.out | with_reducible refine Ext.trans ?_ HX10.out | with_reducible refine Ext.trans ?_ HX11.out | with_reducible refine Ext.trans ?_ HX12.out | with_reducible refine Ext.trans ?_ HX13.out | with_reducible refine Ext.trans ?_ HX14.out | with_reducible refine Ext.trans ?_ HX15.out | with_reducible refine Ext.trans ?_ HX16.out | with_reducible refine Ext.trans ?_ HX17.out | with_reducible refine Ext.trans ?_ HX18.out | with_reducible refine Ext.trans ?_ HX19.out | with_reducible refine Ext.trans ?_ HX20.out | with_reducible refine Ext.trans ?_ HX21.out | with_reducible refine Ext.trans ?_ HX22.out | with_reducible refine Ext.trans ?_ HX23.out | with_reducible refine Ext.trans ?_ HX24.out))⟩
end Go.Proofs.Ytlhmifkimnmnmaa
