/- Net: messages, boxes; cmp.Compare, cmp.Or, order. -/
import Derived.Test.YtlhmifkimnmnmaaNe1
import Derived.Deep.DeepCutAuto
import Derived.Deep.RegionHeld3
import Derived.Test.YtlhmifkimnmnmaaNtM
import Derived.Test.YtlhmifkimnmnmaaNtB
namespace Go.Proofs.Ytlhmifkimnmnmaa
set_option linter.unusedSimpArgs false
set_option linter.unusedVariables false
open Go.RowKit

structure Mg where
  e : Int
  d : Int
  a : Int
  b : Int
  c : Int
  f : Int
  k : Int
  v : Int
  n : Int
  q : Int
deriving DecidableEq
def Mg.cs (x : Mg) : List Value := [Value.int .i64 x.e, Value.int .i64 x.d, Value.int .i64 x.a, Value.int .i64 x.b, Value.int .i64 x.c, Value.int .i64 x.f, Value.int .i64 x.k, Value.int .i64 x.v, Value.int .i64 x.n, Value.int .i64 x.q]
def mgs : List Mg → List Value
  | [] => []
  | x :: l => Value.int .i64 x.e :: Value.int .i64 x.d :: Value.int .i64 x.a :: Value.int .i64 x.b :: Value.int .i64 x.c :: Value.int .i64 x.f :: Value.int .i64 x.k :: Value.int .i64 x.v :: Value.int .i64 x.n :: Value.int .i64 x.q :: mgs l
theorem mgs_length (l : List Mg) : (mgs l).length = l.length * 10 := by
  induction l with
  | nil => rfl
  | cons a l ih => simp only [mgs, List.length_cons, ih]; omega
theorem mgs_append (l m : List Mg) : mgs (l ++ m) = mgs l ++ mgs m := by
  induction l with
  | nil => rfl
  | cons a l ih => simp only [List.cons_append, mgs, ih]
theorem mgs_one (l : List Mg) : ∀ u ∈ mgs l, u.oneCell' = true := by
  induction l with
  | nil => intro u hu; cases hu
  | cons a l ih =>
    intro u hu
    simp only [mgs, List.mem_cons] at hu
    rcases hu with rfl | rfl | rfl | rfl | rfl | rfl | rfl | rfl | rfl | rfl | hu
    · rfl
    · rfl
    · rfl
    · rfl
    · rfl
    · rfl
    · rfl
    · rfl
    · rfl
    · rfl
    · exact ih u hu
theorem mgs_get : ∀ (l : List Mg) (j : Nat) (x : Mg), l[j]? = some x → (mgs l)[j * 10]? = some (Value.int .i64 x.e) ∧ (mgs l)[j * 10 + 1]? = some (Value.int .i64 x.d) ∧ (mgs l)[j * 10 + 2]? = some (Value.int .i64 x.a) ∧ (mgs l)[j * 10 + 3]? = some (Value.int .i64 x.b) ∧ (mgs l)[j * 10 + 4]? = some (Value.int .i64 x.c) ∧ (mgs l)[j * 10 + 5]? = some (Value.int .i64 x.f) ∧ (mgs l)[j * 10 + 6]? = some (Value.int .i64 x.k) ∧ (mgs l)[j * 10 + 7]? = some (Value.int .i64 x.v) ∧ (mgs l)[j * 10 + 8]? = some (Value.int .i64 x.n) ∧ (mgs l)[j * 10 + 9]? = some (Value.int .i64 x.q)
  | [], j, x, h => by simp at h
  | a :: l, 0, x, h => by
    obtain rfl : a = x := by simpa using h
    exact ⟨rfl, rfl, rfl, rfl, rfl, rfl, rfl, rfl, rfl, rfl⟩
  | a :: l, j + 1, x, h => by
    have := mgs_get l j x (by simpa using h)
    rw [show (j + 1) * 10 = j * 10 + 1 + 1 + 1 + 1 + 1 + 1 + 1 + 1 + 1 + 1 by omega]
    simpa [mgs] using this
/-- The cells of an element. -/
theorem mgs_at {w : World} {b off n c : Nat} {l : List Mg} (h : Rd w 10 n (.slice (some ⟨b, off, none⟩) n c) (mgs l)) (j : Nat) (x : Mg) (hj : l[j]? = some x) :
    w.cell? ⟨b, off + j * 10, none⟩ = some (Value.int .i64 x.e) ∧ w.cell? ⟨b, off + j * 10 + 1, none⟩ = some (Value.int .i64 x.d) ∧ w.cell? ⟨b, off + j * 10 + 2, none⟩ = some (Value.int .i64 x.a) ∧ w.cell? ⟨b, off + j * 10 + 3, none⟩ = some (Value.int .i64 x.b) ∧ w.cell? ⟨b, off + j * 10 + 4, none⟩ = some (Value.int .i64 x.c) ∧ w.cell? ⟨b, off + j * 10 + 5, none⟩ = some (Value.int .i64 x.f) ∧ w.cell? ⟨b, off + j * 10 + 6, none⟩ = some (Value.int .i64 x.k) ∧ w.cell? ⟨b, off + j * 10 + 7, none⟩ = some (Value.int .i64 x.v) ∧ w.cell? ⟨b, off + j * 10 + 8, none⟩ = some (Value.int .i64 x.n) ∧ w.cell? ⟨b, off + j * 10 + 9, none⟩ = some (Value.int .i64 x.q) := by
  obtain ⟨h1, h2, h3, h4, h5, h6, h7, h8, h9, h10⟩ := mgs_get l j x hj
  have hlt := (List.getElem?_eq_some_iff.1 hj).1
  have hl := h.len
  rw [mgs_length] at hl
  obtain ⟨b', off', hb, hc⟩ := h.cells (by omega)
  obtain ⟨rfl, rfl⟩ : b = b' ∧ off = off' := by simpa using hb
  have c1 := hc _ _ h1
  have c2 := hc _ _ h2
  have c3 := hc _ _ h3
  have c4 := hc _ _ h4
  have c5 := hc _ _ h5
  have c6 := hc _ _ h6
  have c7 := hc _ _ h7
  have c8 := hc _ _ h8
  have c9 := hc _ _ h9
  have c10 := hc _ _ h10
  rw [← Nat.add_assoc] at c2 c3 c4 c5 c6 c7 c8 c9 c10
  exact ⟨c1, c2, c3, c4, c5, c6, c7, c8, c9, c10⟩
theorem mgs_take : ∀ (l : List Mg) (m : Nat), mgs (l.take m) = (mgs l).take (m * 10)
  | [], m => by simp [mgs]
  | a :: l, 0 => by simp [mgs]
  | a :: l, m + 1 => by
    rw [show (m + 1) * 10 = m * 10 + 1 + 1 + 1 + 1 + 1 + 1 + 1 + 1 + 1 + 1 by omega]
    simp only [List.take_succ_cons, mgs, mgs_take l m]
theorem mgs_drop : ∀ (l : List Mg) (m : Nat), mgs (l.drop m) = (mgs l).drop (m * 10)
  | [], m => by simp [mgs]
  | a :: l, 0 => by simp [mgs]
  | a :: l, m + 1 => by
    rw [show (m + 1) * 10 = m * 10 + 1 + 1 + 1 + 1 + 1 + 1 + 1 + 1 + 1 + 1 by omega]
    simp only [List.drop_succ_cons, mgs, mgs_drop l m]
theorem mgs_erase (l : List Mg) (i : Nat) : mgs (l.eraseIdx i) = (mgs l).take (i * 10) ++ (mgs l).drop ((i + 1) * 10) := by
  rw [List.eraseIdx_eq_take_drop_succ, mgs_append, mgs_take, mgs_drop]
theorem mgs_flat (ps : List Mg) : ps.flatMap (fun x => [Value.int .i64 x.e, Value.int .i64 x.d, Value.int .i64 x.a, Value.int .i64 x.b, Value.int .i64 x.c, Value.int .i64 x.f, Value.int .i64 x.k, Value.int .i64 x.v, Value.int .i64 x.n, Value.int .i64 x.q]) = mgs ps := by
  induction ps with
  | nil => rfl
  | cons a l ih => simp [mgs, ih]

structure Bx where
  e : Int
  f : Int
  t : Int
  l : List Mg
def shB : Sh Bx Mg where
  T := 34
  TI := 29
  K := 4
  D := 3
  KI := 10
  f := mgs
  cs := fun x u => [.int .i64 x.e, .int .i64 x.f, .int .i64 x.t, u]
  inn := fun x => x.l
  upd := fun x l => { x with l := l }
  len := fun _ _ => rfl
  at' := fun _ _ => rfl
  set' := fun _ _ _ _ => rfl
  iu := fun _ _ => rfl
  hD := by decide
  hT := by decide
  one := fun x u hu c hc => by
    simp only [List.mem_cons, List.not_mem_nil, or_false] at hc
    rcases hc with rfl | rfl | rfl | rfl
    · rfl
    · rfl
    · rfl
    · exact hu
def cmpI (x y : Int) : Int := if x < y then -1 else if y < x then 1 else 0
theorem cmpI_lt (x y : Int) : cmpI x y < 0 ↔ x < y := by unfold cmpI; split <;> (try split) <;> omega
theorem cmpI_zero (x y : Int) : cmpI x y = 0 ↔ x = y := by unfold cmpI; split <;> (try split) <;> omega
theorem isNaN_any (x : Int) (w : World) : Calls Try.prog 38 #[.int .i64 x] w fun e w' => e = .returned (.bool false) ∧ w' = w := by
  have e0 : (x != x) = false := by simp
  go_enter Try.func38, Try.ntmps38
  go_wp2
  go_returns
  exact ⟨retb rfl rfl, rfl⟩
theorem compare_any (x y : Int) (w : World) : Calls Try.prog 35 #[.int .i64 x, .int .i64 y] w fun e w' => e = .returned (.int .i64 (cmpI x y)) ∧ w' = w := by
  have N := Lib.hid isNaN_any
  obtain ⟨b1, f1⟩ : ∃ b, decide (x < y) = b := ⟨_, rfl⟩
  obtain ⟨b2, f2⟩ : ∃ b, decide (y < x) = b := ⟨_, rfl⟩
  have hc : cmpI x y = bif b1 then -1 else bif b2 then 1 else 0 := by
    subst f1 f2
    unfold cmpI
    by_cases h1 : x < y
    · simp [h1]
    · by_cases h2 : y < x <;> simp [h1, h2]
  rw [hc]
  clear hc
  cases b1 <;> cases b2
  all_goals
    go_enter Try.func35, Try.ntmps35
    go_wp2_with (go_at_call 38; refine (N.out _ _).mono ?_; rintro r w' ⟨rfl, rfl⟩)
    go_returns
    exact ⟨reti rfl rfl, rfl⟩
/-- The first that is not 0. -/
def firstN : List Int → Int
  | [] => 0
  | x :: l => if x = 0 then firstN l else x
theorem firstN_no : ∀ {l : List Int}, (∀ x ∈ l, x = 0) → firstN l = 0
  | [], _ => rfl
  | x :: l, h => by
    rw [firstN, if_pos (h x List.mem_cons_self)]
    exact firstN_no fun y hy => h y (List.mem_cons_of_mem _ hy)
theorem firstN_at : ∀ {l : List Int} {j : Nat} {x : Int}, l[j]? = some x → x ≠ 0 → (∀ (k : Nat) y, k < j → l[k]? = some y → y = 0) → firstN l = x
  | y :: l, 0, x, hx, h0, _ => by
    obtain rfl : y = x := by simpa using hx
    rw [firstN, if_neg h0]
  | y :: l, j + 1, x, hx, h0, hl => by
    rw [firstN, if_pos (hl 0 y (by omega) rfl)]
    exact firstN_at (by simpa using hx) h0 fun k z hk hz => hl (k + 1) z (by omega) (by simpa using hz)
  | [], j, x, hx, _, _ => by simp at hx
theorem or_any (l : List Int) (a : Option Addr) (c : Nat) (w : World) (h : Ri w .i64 (.slice a l.length c) l) (hn : l.length ≤ 1000) :
    Calls Try.prog 34 #[.slice a l.length c] w fun e w' => e = .returned (.int .i64 (firstN l)) ∧ w' = w := by
  have H := Lib.hid h
  have HN := Lib.hid hn
  obtain ⟨R, hR⟩ : ∃ R, R = firstN l := ⟨_, rfl⟩
  rw [← hR]
  have HR := Lib.hid hR
  clear h hn hR
  go_enter Try.func34, Try.ntmps34
  go_wp2
  go_loopw [8] (fun i wr => ∃ j : Nat, j ≤ l.length ∧ i = .int .i64 j ∧ wr = w ∧ ∀ (k : Nat) y, k < j → l[k]? = some y → y = 0) (fun i _ => l.length - (intOf i).toNat)
  case atStart => exact ⟨0, by omega, rfl, rfl, fun k y hk => absurd hk (Nat.not_lt_zero k)⟩
  case round =>
    obtain ⟨j, hj, rfl, rfl, hall⟩ := hrel
    have HA := Lib.hid hall
    clear hall
    by_cases hlt : j < l.length
    · obtain ⟨x, hx⟩ : ∃ x, l[j]? = some x := ⟨l[j], List.getElem?_eq_getElem _⟩
      obtain ⟨b, off, rfl⟩ : ∃ b off, a = some ⟨b, off, none⟩ := by obtain ⟨b, off, e, -⟩ := Rd.cells H.out (by omega); exact ⟨b, off, e⟩
      have q0 := H.out.cell j hlt
      rw [show l[j] = x from Option.some.inj ((List.getElem?_eq_getElem hlt).symm.trans hx)] at q0
      have i1 : (0 : Int) ≤ j := by omega
      have i2 : (j : Int) < l.length := by omega
      have ew : wrap64 ((j : Int) + 1) = ((j + 1 : Nat) : Int) := (IntWalk.wrap64_in _ ⟨by omega, by have := HN.out; omega⟩).trans (by omega)
      have EW := Lib.hid ew
      have HX := Lib.hid hx
      clear hx
      by_cases h0 : x = 0
      · have e0 : (x != 0) = false := by simp [h0]
        have H0 := Lib.hid h0
        clear h0
        go_wp2
        exact ⟨⟨j + 1, by omega, congrArg (Value.int .i64) EW.out, by first | rfl | trivial, fun k y hk hy => by
          rcases Nat.lt_or_ge k j with h | h
          · exact HA.out k y h hy
          · obtain rfl : k = j := by omega
            rw [HX.out] at hy
            cases hy
            exact H0.out⟩, by rw [EW.out]; simp only [intOf]; omega⟩
      · have e0 : (x != 0) = true := by simp [h0]
        have RR := Lib.hid (show x = R by rw [HR.out]; exact (firstN_at HX.out h0 HA.out).symm)
        clear h0
        go_wp2
        go_returns
        exact ⟨reti rfl RR.out, rfl⟩
    · obtain rfl : j = l.length := by omega
      have RR := Lib.hid (show 0 = R by
        rw [HR.out]
        refine (firstN_no fun x hx => ?_).symm
        obtain ⟨i, hi⟩ := List.getElem?_of_mem hx
        exact HA.out i x (List.getElem?_eq_some_iff.1 hi).1 hi)
      go_wp2
      go_returns
      exact ⟨reti rfl RR.out, rfl⟩
/-- The order of two boxes. -/
def ord3 (e f t e' f' t' : Int) : Int := firstN [cmpI e e', cmpI f f', cmpI t t']
theorem order_any (e f t e' f' t' : Int) (v v' : Value) (w : World) : Calls Try.prog 24 #[.agg #[.int .i64 e, .int .i64 f, .int .i64 t, v], .agg #[.int .i64 e', .int .i64 f', .int .i64 t', v']] w fun r w' => r = .returned (.int .i64 (ord3 e f t e' f' t')) ∧ Ext w w' := by
  have C1 := fun w => compare_any e e' w
  have C2 := fun w => compare_any f f' w
  have C3 := fun w => compare_any t t' w
  unfold ord3
  generalize cmpI e e' = c1 at *
  generalize cmpI f f' = c2 at *
  generalize cmpI t t' = c3 at *
  have O := Lib.hid (fun (W : World) (g : Nat) (hg : g = W.heap.size) => or_any [c1, c2, c3] (some ⟨g, 0, none⟩) 3 (W.alloc (.cells #[.int .i64 c1, .int .i64 c2, .int .i64 c3] 3)).drew ⟨rfl, _, _, rfl, fun _ => ⟨g, 0, rfl, fun j u hu => by
    rw [Nat.zero_add]
    exact cell_lit W _ _ _ _ _ hg (by simpa using hu)⟩⟩ (by simp))
  generalize firstN [c1, c2, c3] = R at *
  go_enter Try.func24, Try.ntmps24
  go_wp2
  refine wp_region_tail 15 (by kernel_rfl) (by kernel_rfl) ?_
  simp only [List.take_succ_cons, List.take_zero, List.drop_succ_cons, List.drop_zero]
  repeat still_step
  still_call (C1 _)
  repeat still_step
  still_call (C2 _)
  repeat still_step
  still_call (C3 _)
  repeat still_step
  refine wpStill_nil ?_
  go_wp2_with (go_at_call 34; refine (O.out _ _ (by simp)).mono ?_; rintro r w' ⟨rfl, rfl⟩)
  go_returns
  exact ⟨reti rfl rfl, by (repeat' (first | with_reducible exact Ext.refl _ | with_reducible refine Ext.ext ?_ _ | with_reducible refine Ext.alloc ?_ _ | with_reducible refine Ext.drew ?_ | with_reducible refine Ext.drewN ?_ _ | with_reducible assumption))⟩
end Go.Proofs.Ytlhmifkimnmnmaa
