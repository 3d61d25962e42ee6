/- Bag: items; Right. -/
import Derived.Test.YtbglfaomebokhaaBg1
namespace Go.Proofs.Ytbglfaomebokhaa
set_option linter.unusedSimpArgs false
set_option linter.unusedVariables false
open Go.RowKit

theorem keep_add {w : World} {z : Inc} {b i : Nat} {v : Value} (h : ∀ u, (ext w (z.add u)).cell? ⟨b, i, none⟩ = some v) : (ext w z).cell? ⟨b, i, none⟩ = some v := by
  have h1 := h ⟨[], z.n⟩
  have e : z.add ⟨[], z.n⟩ = z := by cases z; simp [Inc.add]
  rwa [e] at h1
/-- What leaves the world alone only grows it. -/
theorem still_quiet {P : Program} {f : FuncId} {args : Array Value} {w : World} {v : Value} (h : Calls P f args w fun e w' => e = .returned v ∧ w' = w) : Calls P f args w fun e w' => e = .returned v ∧ Ext w w' :=
  h.mono fun _ _ ⟨h1, h2⟩ => ⟨h1, h2 ▸ Ext.refl w⟩
structure It where
  k : Int
  v : Int
  n : Int
def its : List It → List Value
  | [] => []
  | x :: l => .int .i64 x.k :: .int .i64 x.v :: .int .i64 x.n :: its l
theorem its_length (l : List It) : (its l).length = l.length * 3 := by
  induction l with
  | nil => rfl
  | cons a l ih => simp only [its, List.length_cons, ih]; omega
theorem its_append (l m : List It) : its (l ++ m) = its l ++ its m := by
  induction l with
  | nil => rfl
  | cons a l ih => simp only [List.cons_append, its, ih]
theorem its_one (l : List It) : ∀ u ∈ its l, u.oneCell' = true := by
  induction l with
  | nil => intro u hu; cases hu
  | cons a l ih =>
    intro u hu
    simp only [its, List.mem_cons] at hu
    rcases hu with rfl | rfl | rfl | hu
    · rfl
    · rfl
    · rfl
    · exact ih u hu
theorem its_get : ∀ (l : List It) (j : Nat) (x : It), l[j]? = some x → (its l)[j * 3]? = some (.int .i64 x.k) ∧ (its l)[j * 3 + 1]? = some (.int .i64 x.v) ∧ (its l)[j * 3 + 2]? = some (.int .i64 x.n)
  | [], j, x, h => by simp at h
  | a :: l, 0, x, h => by
    obtain rfl : a = x := by simpa using h
    exact ⟨rfl, rfl, rfl⟩
  | a :: l, j + 1, x, h => by
    have := its_get l j x (by simpa using h)
    rw [show (j + 1) * 3 = j * 3 + 1 + 1 + 1 by omega]
    simpa [its] using this
/-- The cells of an item, in any later world. -/
theorem it_cells {w : World} {b off n c : Nat} {l : List It} (h : Rd w 3 n (.slice (some ⟨b, off, none⟩) n c) (its l)) (j : Nat) (x : It) (hj : l[j]? = some x) (z : Inc) :
    (∀ u, (ext w (z.add u)).cell? ⟨b, off + j * 3, none⟩ = some (.int .i64 x.k)) ∧ (∀ u, (ext w (z.add u)).cell? ⟨b, off + j * 3 + 1, none⟩ = some (.int .i64 x.v)) ∧ (∀ u, (ext w (z.add u)).cell? ⟨b, off + j * 3 + 2, none⟩ = some (.int .i64 x.n)) := by
  obtain ⟨h1, h2, h3⟩ := its_get l j x hj
  have hlt := (List.getElem?_eq_some_iff.1 hj).1
  have hl := h.len
  rw [its_length] at hl
  obtain ⟨b', off', hb, hc⟩ := h.cells (by omega)
  obtain ⟨rfl, rfl⟩ : b = b' ∧ off = off' := by simpa using hb
  have c1 := hc _ _ h1
  have c2 := hc _ _ h2
  have c3 := hc _ _ h3
  rw [← Nat.add_assoc] at c2 c3
  exact ⟨fun u => by rw [cell_ext_a _ _ _ (World.block_lt_of_cell? _ _ c1), c1], fun u => by rw [cell_ext_a _ _ _ (World.block_lt_of_cell? _ _ c2), c2], fun u => by rw [cell_ext_a _ _ _ (World.block_lt_of_cell? _ _ c3), c3]⟩

def It.r (x : It) : Int × Int := (x.k, x.v)
def mayB (n : Int) : Bool := decide (-2147483648 ≤ n ∧ n ≤ 2147483648)
def okN (x : It) : Bool := !(x.n == 0) && mayB x.n
def lessI (x y : It) : Bool := decide (ordR x.r y.r < 0)
def chainB : List It → Bool
  | x :: y :: l => lessI x y && chainB (y :: l)
  | _ => true
def rightB (l : List It) : Bool := l.all okN && chainB l
theorem chain_iff : ∀ l : List It, chainB l = true ↔ ∀ j x y, l[j]? = some x → l[j + 1]? = some y → lessI x y = true
  | [] => by simp [chainB]
  | [x] => by simp [chainB]
  | x :: y :: l => by
    rw [chainB, Bool.and_eq_true, chain_iff (y :: l)]
    constructor
    · rintro ⟨h1, h2⟩ j a b ha hb
      cases j with
      | zero =>
        obtain rfl : x = a := by simpa using ha
        obtain rfl : y = b := by simpa using hb
        exact h1
      | succ j => exact h2 j a b (by simpa using ha) (by simpa using hb)
    · intro h
      exact ⟨h 0 x y rfl rfl, fun j a b ha hb => h (j + 1) a b (by simpa using ha) (by simpa using hb)⟩
theorem right_no1 {l : List It} {j : Nat} {x : It} (hj : l[j]? = some x) (h : okN x = false) : rightB l = false := by
  have : l.all okN = false := by rw [List.all_eq_false]; exact ⟨x, List.mem_of_getElem? hj, by simp [h]⟩
  rw [rightB, this, Bool.false_and]
theorem right_no2 {l : List It} {j : Nat} {x y : It} (hj : l[j]? = some x) (hk : l[j + 1]? = some y) (h : lessI x y = false) : rightB l = false := by
  have : chainB l = false := by
    cases hc : chainB l with
    | false => rfl
    | true => rw [(chain_iff l).1 hc j x y hj hk] at h; cases h
  rw [rightB, this, Bool.and_false]
theorem right_yes {l : List It} (h : ∀ j x, l[j]? = some x → okN x = true ∧ (∀ i y, j = i + 1 → l[i]? = some y → lessI y x = true)) : rightB l = true := by
  rw [rightB, Bool.and_eq_true]
  refine ⟨?_, (chain_iff l).2 fun j x y hx hy => (h (j + 1) y hy).2 j x rfl hx⟩
  rw [List.all_eq_true]
  intro x hx
  obtain ⟨j, hj⟩ := List.getElem?_of_mem hx
  exact (h j x hj).1
set_option maxHeartbeats 4000000 in
theorem bagRight_any (l : List It) (a : Option Addr) (n c : Nat) (w : World) (h : Rd w 3 n (.slice a n c) (its l)) (hn : l.length = n) (hl : n ≤ 1073741824) :
    Calls Try.prog 14 #[.slice a n c] w fun e w' => e = .returned (.bool (rightB l)) ∧ Ext w w' := by
  have H := Lib.hid h
  have HN := Lib.hid hn
  have HL := Lib.hid hl
  have M := Lib.hid may_any
  have LS := Lib.hid less_any
  obtain ⟨R, hR⟩ : ∃ R, R = rightB l := ⟨_, rfl⟩
  rw [← hR]
  have HR := Lib.hid hR
  clear h hn hl hR
  go_enter Try.func14, Try.ntmps14
  go_wp2
  go_loopw [7] (fun i wr => ∃ j : Nat, j ≤ n ∧ i = .int .i64 j ∧ Ext w wr ∧ ∀ (k : Nat) (x : It), k < j → l[k]? = some x → okN x = true ∧ (∀ i y, k = i + 1 → l[i]? = some y → lessI y x = true)) (fun i _ => n - (intOf i).toNat)
  case atStart => exact ⟨0, by omega, rfl, by (repeat' (first | with_reducible exact Ext.refl _ | with_reducible refine Ext.ext ?_ _ | with_reducible refine Ext.alloc ?_ _ | with_reducible refine Ext.drew ?_ | with_reducible refine Ext.drewN ?_ _ | with_reducible assumption)), fun k x hk => absurd hk (Nat.not_lt_zero k)⟩
  case round =>
    obtain ⟨j, hj, rfl, ⟨z, rfl⟩, hok⟩ := hrel
    have HOK := Lib.hid hok
    clear hok
    by_cases hlt : j < n
    · obtain ⟨x, hx⟩ : ∃ x, l[j]? = some x := ⟨l[j]'(by have := HN.out; omega), List.getElem?_eq_getElem _⟩
      obtain ⟨b, off, rfl, -⟩ := H.out.cells (by omega)
      have q := it_cells H.out j x hx z
      have q0 := keep_add q.1
      have q1 := keep_add q.2.1
      have q2 := keep_add q.2.2
      have i1 : (0 : Int) ≤ j := by omega
      have i2 : (j : Int) < n := by omega
      have ew : wrap64 ((j : Int) + 1) = ((j + 1 : Nat) : Int) := (IntWalk.wrap64_in _ ⟨by omega, by have := HL.out; omega⟩).trans (by omega)
      have HX := Lib.hid hx
      have STEP : okN x = true → (∀ i y, j = i + 1 → l[i]? = some y → lessI y x = true) → ∀ (k : Nat) (x : It), k < j + 1 → l[k]? = some x → okN x = true ∧ (∀ i y, k = i + 1 → l[i]? = some y → lessI y x = true) := fun h1 h2 k x' hk hx' => by
        rcases Nat.lt_or_ge k j with h | h
        · exact HOK.out k x' h hx'
        · obtain rfl : k = j := by omega
          rw [HX.out] at hx'
          cases hx'
          exact ⟨h1, h2⟩
      have ST := Lib.hid STEP
      clear STEP q hx
      obtain ⟨xk, xv, xn⟩ := x
      dsimp only at q0 q1 q2
      obtain ⟨b1, f1⟩ : ∃ b, (xn == 0) = b := ⟨_, rfl⟩
      obtain ⟨b2, f2⟩ : ∃ b, mayB xn = b := ⟨_, rfl⟩
      have hk : okN ⟨xk, xv, xn⟩ = (!b1 && b2) := by subst f1 f2; rfl
      have HK := Lib.hid hk
      have MN := Lib.hid (fun w => M.out xn w)
      unfold mayB at f2
      rw [f2] at MN
      clear hk f2
      cases b1
      case true =>
        have RR := Lib.hid (show false = R by rw [HR.out, right_no1 HX.out (by rw [HK.out]; rfl)])
        go_wp2
        refine wp_region_ext (by kernel_rfl) (by kernel_rfl) ?_
        repeat (go_big_quiet_step (fail))
        refine wpQuiet_nil ?_
        intro xK
        go_wp2
        go_returns
        exact ⟨retb rfl RR.out, by (repeat' (first | with_reducible exact Ext.refl _ | with_reducible refine Ext.ext ?_ _ | with_reducible refine Ext.alloc ?_ _ | with_reducible refine Ext.drew ?_ | with_reducible refine Ext.drewN ?_ _ | with_reducible assumption))⟩
      case false =>
      cases b2
      case false =>
        have RR := Lib.hid (show false = R by rw [HR.out, right_no1 HX.out (by rw [HK.out]; rfl)])
        go_wp2
        refine wp_region_ext (by kernel_rfl) (by kernel_rfl) ?_
        repeat (go_big_quiet_step (first | (go_at_call 41; (apply quiet_of; (with_reducible exact still_quiet (MN.out _)); (intro w' hx; obtain ⟨z, rfl⟩ := hx; (try simp only [ext_ext, add_assoc]); exact ⟨_, rfl⟩)))))
        refine wpQuiet_nil ?_
        intro xK
        go_wp2
        go_returns
        exact ⟨retb rfl RR.out, by (repeat' (first | with_reducible exact Ext.refl _ | with_reducible refine Ext.ext ?_ _ | with_reducible refine Ext.alloc ?_ _ | with_reducible refine Ext.drew ?_ | with_reducible refine Ext.drewN ?_ _ | with_reducible assumption))⟩
      case true =>
        by_cases h0 : j = 0
        · have j0 : decide (0 < (j : Int)) = false := decide_eq_false (by omega)
          have j0' : decide (0 < j) = false := decide_eq_false (by omega)
          have H0 := Lib.hid h0
          clear h0
          go_wp2
          refine wp_region_ext (by kernel_rfl) (by kernel_rfl) ?_
          repeat (go_big_quiet_step (first | (go_at_call 41; (apply quiet_of; (with_reducible exact still_quiet (MN.out _)); (intro w' hx; obtain ⟨z, rfl⟩ := hx; (try simp only [ext_ext, add_assoc]); exact ⟨_, rfl⟩)))))
          refine wpQuiet_nil ?_
          intro xK
          go_wp2
          exact ⟨⟨j + 1, by omega, congrArg (Value.int .i64) ew, by (repeat' (first | with_reducible exact Ext.refl _ | with_reducible refine Ext.ext ?_ _ | with_reducible refine Ext.alloc ?_ _ | with_reducible refine Ext.drew ?_ | with_reducible refine Ext.drewN ?_ _ | with_reducible assumption)), ST.out (by rw [HK.out]; rfl) (fun i y hi => by have := H0.out; omega)⟩, by rw [ew]; simp only [intOf]; omega⟩
        · have j0 : decide (0 < (j : Int)) = true := decide_eq_true (by omega)
          have j0' : decide (0 < j) = true := decide_eq_true (by omega)
          obtain ⟨i, hi⟩ : ∃ i, j = i + 1 := ⟨j - 1, by omega⟩
          have HI := Lib.hid hi
          have ei : wrap64 ((j : Int) - 1) = (i : Int) := (IntWalk.wrap64_in _ ⟨by omega, by have := HL.out; omega⟩).trans (by omega)
          have i3 : (0 : Int) ≤ i := by omega
          have i4 : (i : Int) < n := by omega
          obtain ⟨y, hy⟩ : ∃ y, l[i]? = some y := ⟨l[i]'(by have := HN.out; omega), List.getElem?_eq_getElem _⟩
          have HY := Lib.hid hy
          have p := it_cells H.out i y hy z
          have p0 := keep_add p.1
          have p1 := keep_add p.2.1
          haveI : LtSz b (w.heap.size + z.hs.length) := ⟨by have := World.block_lt_of_cell? _ _ p0; simpa using this⟩
          obtain ⟨yk, yv, yn⟩ := y
          dsimp only at p0 p1
          have LN := Lib.hid (fun w => LS.out (yk, yv) (xk, xv) w)
          obtain ⟨b4, f4⟩ : ∃ b, decide (ordR (yk, yv) (xk, xv) < 0) = b := ⟨_, rfl⟩
          have HL4 := Lib.hid (show lessI ⟨yk, yv, yn⟩ ⟨xk, xv, xn⟩ = b4 from f4)
          rw [f4] at LN
          dsimp only at LN
          clear h0 hi p hy f4
          cases b4
          · have RR := Lib.hid (show false = R by rw [HR.out, right_no2 HY.out (by rw [← HI.out]; exact HX.out) HL4.out])
            go_wp2
            refine wp_region_ext (by kernel_rfl) (by kernel_rfl) ?_
            repeat (go_big_quiet_step (first | (go_at_call 41; (apply quiet_of; (with_reducible exact still_quiet (MN.out _)); (intro w' hx; obtain ⟨z, rfl⟩ := hx; (try simp only [ext_ext, add_assoc]); exact ⟨_, rfl⟩))) | (go_at_call 31; (apply quiet_of; (with_reducible exact LN.out _); (intro w' hx; obtain ⟨z, rfl⟩ := hx; (try simp only [ext_ext, add_assoc]); exact ⟨_, rfl⟩)))))
            refine wpQuiet_nil ?_
            intro xK
            go_wp2
            go_returns
            exact ⟨retb rfl RR.out, by (repeat' (first | with_reducible exact Ext.refl _ | with_reducible refine Ext.ext ?_ _ | with_reducible refine Ext.alloc ?_ _ | with_reducible refine Ext.drew ?_ | with_reducible refine Ext.drewN ?_ _ | with_reducible assumption))⟩
          · go_wp2
            refine wp_region_ext (by kernel_rfl) (by kernel_rfl) ?_
            repeat (go_big_quiet_step (first | (go_at_call 41; (apply quiet_of; (with_reducible exact still_quiet (MN.out _)); (intro w' hx; obtain ⟨z, rfl⟩ := hx; (try simp only [ext_ext, add_assoc]); exact ⟨_, rfl⟩))) | (go_at_call 31; (apply quiet_of; (with_reducible exact LN.out _); (intro w' hx; obtain ⟨z, rfl⟩ := hx; (try simp only [ext_ext, add_assoc]); exact ⟨_, rfl⟩)))))
            refine wpQuiet_nil ?_
            intro xK
            go_wp2
            exact ⟨⟨j + 1, by omega, congrArg (Value.int .i64) ew, by (repeat' (first | with_reducible exact Ext.refl _ | with_reducible refine Ext.ext ?_ _ | with_reducible refine Ext.alloc ?_ _ | with_reducible refine Ext.drew ?_ | with_reducible refine Ext.drewN ?_ _ | with_reducible assumption)), ST.out (by rw [HK.out]; rfl) (fun i' y hi' hy' => by
              have := HI.out
              obtain rfl : i' = i := by omega
              rw [HY.out] at hy'
              cases hy'
              exact HL4.out)⟩, by rw [ew]; simp only [intOf]; omega⟩
    · obtain rfl : j = n := by omega
      have RR := Lib.hid (show true = R by rw [HR.out, right_yes (fun k x hx => HOK.out k x (by have := (List.getElem?_eq_some_iff.1 hx).1; have := HN.out; omega) hx)])
      go_wp2
      go_returns
      exact ⟨retb rfl RR.out, by (repeat' (first | with_reducible exact Ext.refl _ | with_reducible refine Ext.ext ?_ _ | with_reducible refine Ext.alloc ?_ _ | with_reducible refine Ext.drew ?_ | with_reducible refine Ext.drewN ?_ _ | with_reducible assumption))⟩
end Go.Proofs.Ytbglfaomebokhaa
