/- Front, plain: the reference's Add, as it is written, is put. -/
import Derived.Test.YtfpmejbgmgdedaaFrP
namespace Go.Proofs.Ytfpmejbgmgdedaa.Fr
set_option linter.unusedSimpArgs false
set_option linter.unusedVariables false

/-- One item of the bag is looked at. -/
def stp (r : Tm) (q : Int) : Option (List Ct × Bool) → Ct → Option (List Ct × Bool)
  | none, _ => none
  | some (O, d), x =>
    if x.t = r then (if mayB (x.n + q) then some (if x.n + q = 0 then O else O ++ [{ x with n := x.n + q }], true) else none)
    else if (!d && decide (ordR r x.t < 0)) then some (O ++ [(ctOf r q)] ++ [x], true)
    else some (O ++ [x], d)
def fld (r : Tm) (q : Int) (l : List Ct) : Option (List Ct × Bool) := l.foldl (stp r q) (some ([], q == 0))
theorem fld_snoc (r : Tm) (q : Int) {l : List Ct} {j : Nat} {x : Ct} (h : l[j]? = some x) : fld r q (l.take (j + 1)) = stp r q (fld r q (l.take j)) x := by
  rw [take_snoc h]; unfold fld; rw [List.foldl_append]; rfl
theorem stp_none (r : Tm) (q : Int) (l : List Ct) : l.foldl (stp r q) none = none := by
  induction l with
  | nil => rfl
  | cons x l ih => exact ih
theorem fld_none (r : Tm) (q : Int) {l : List Ct} {j : Nat} (h : fld r q (l.take j) = none) : fld r q l = none := by
  have e : l = l.take j ++ l.drop j := (List.take_append_drop _ _).symm
  rw [e]
  unfold fld at *
  rw [List.foldl_append, h, stp_none]
/-- Add, as the reference does it. -/
def addR (l : List Ct) (r : Tm) (q : Int) : List Ct :=
  if rightK l && mayB q then
    match fld r q l with
    | none => l
    | some (O, d) => if d then O else O ++ [(ctOf r q)]
  else l
theorem fld_len (r : Tm) (q : Int) : ∀ (l : List Ct) (O : List Ct) (d : Bool) (O' : List Ct) (d' : Bool), l.foldl (stp r q) (some (O, d)) = some (O', d') → O'.length + (if d' then 0 else 1) ≤ O.length + (if d then 0 else 1) + l.length
  | [], O, d, O', d', h => by
    simp only [List.foldl_nil, Option.some.injEq, Prod.mk.injEq] at h
    obtain ⟨rfl, rfl⟩ := h
    simp
  | x :: l, O, d, O', d', h => by
    rw [List.foldl_cons] at h
    cases hs : stp r q (some (O, d)) x with
    | none => rw [hs, stp_none] at h; cases h
    | some p =>
      obtain ⟨P, e⟩ := p
      rw [hs] at h
      have ih := fld_len r q l P e O' d' h
      have hp : P.length + (if e then 0 else 1) ≤ O.length + (if d then 0 else 1) + 1 := by
        unfold stp at hs
        dsimp only at hs
        split at hs
        · split at hs
          · simp only [Option.some.injEq, Prod.mk.injEq] at hs
            obtain ⟨rfl, rfl⟩ := hs
            split <;> simp <;> omega
          · cases hs
        · split at hs
          · next hd =>
            simp only [Option.some.injEq, Prod.mk.injEq] at hs
            obtain ⟨rfl, rfl⟩ := hs
            simp only [Bool.and_eq_true, Bool.not_eq_true'] at hd
            rw [hd.1]
            simp
          · simp only [Option.some.injEq, Prod.mk.injEq] at hs
            obtain ⟨rfl, rfl⟩ := hs
            simp
            omega
      rw [List.length_cons]
      omega
theorem stp_done (r : Tm) (q : Int) : ∀ (l : List Ct) (O : List Ct), (∀ x ∈ l, x.t ≠ r) → l.foldl (stp r q) (some (O, true)) = some (O ++ l, true)
  | [], O, h => by simp
  | x :: l, O, h => by
    have e : stp r q (some (O, true)) x = some (O ++ [x], true) := by
      unfold stp
      dsimp only
      rw [if_neg (h x List.mem_cons_self), if_neg (by simp)]
    rw [List.foldl_cons, e, stp_done r q l _ (fun y hy => h y (List.mem_cons_of_mem _ hy)), List.append_assoc]
    rfl
theorem stp_zero (r : Tm) : ∀ (l : List Ct) (O : List Ct), (∀ x ∈ l, okN x = true) → l.foldl (stp r 0) (some (O, true)) = some (O ++ l, true)
  | [], O, h => by simp
  | x :: l, O, h => by
    have hx := h x List.mem_cons_self
    unfold okN at hx
    simp only [Bool.and_eq_true, Bool.not_eq_true', beq_eq_false_iff_ne] at hx
    have e : stp r 0 (some (O, true)) x = some (O ++ [x], true) := by
      unfold stp
      dsimp only
      rw [Int.add_zero, hx.2, if_neg hx.1]
      split
      · rfl
      · rw [if_neg (by simp)]
    rw [List.foldl_cons, e, stp_zero r l _ (fun y hy => h y (List.mem_cons_of_mem _ hy)), List.append_assoc]
    rfl
theorem stp_ins (r : Tm) (q : Int) (hq : mayB q = true) : ∀ (l : List Ct) (O : List Ct), SrtK l →
    (match l.foldl (stp r q) (some (O, false)) with
      | none => none
      | some (P, d) => some (if d then P else P ++ [(ctOf r q)])) = if mayB (cnt l r + q) then some (O ++ insR r q l) else none
  | [], O, _ => by rw [cnt, Int.zero_add, hq]; rfl
  | x :: l, O, hs => by
    obtain ⟨h1, h2⟩ := List.pairwise_cons.1 hs
    rw [List.foldl_cons, insR]
    by_cases hlt : ordR x.t r < 0
    · have hne : x.t ≠ r := fun e => by rw [(ordR_zero _ _).2 e] at hlt; omega
      have hnl : ¬ ordR r x.t < 0 := fun h => ltK_irrefl _ (ltK_trans ((ordR_lt _ _).1 hlt) ((ordR_lt _ _).1 h))
      have e : stp r q (some (O, false)) x = some (O ++ [x], false) := by
        unfold stp
        dsimp only
        rw [if_neg hne, decide_eq_false hnl]
        rfl
      rw [e, stp_ins r q hq l _ h2, cnt, if_neg hne, Int.zero_add, if_pos hlt, List.append_assoc]
      rfl
    · rw [if_neg hlt]
      by_cases h0 : ordR x.t r = 0
      · have he := (ordR_zero _ _).1 h0
        have hc := cnt_head hs
        rw [he] at hc
        rw [if_pos h0, hc]
        have e : stp r q (some (O, false)) x = if mayB (x.n + q) then some (if x.n + q = 0 then O else O ++ [{ x with n := x.n + q }], true) else none := by
          unfold stp
          dsimp only
          rw [if_pos he]
        rw [e]
        cases hm : mayB (x.n + q)
        · simp only [Bool.false_eq_true, if_false]
          rw [stp_none]
        · simp only [if_true]
          rw [stp_done r q l _ (fun y hy e => srt_ne hs y hy (e.trans he.symm))]
          dsimp only
          by_cases hz : x.n + q = 0
          · rw [if_pos hz, if_pos hz]; rfl
          · rw [if_neg hz, if_neg hz, List.append_assoc]; rfl
      · have hgt := ordR_gt _ _ hlt h0
        have hne : x.t ≠ r := fun e => h0 ((ordR_zero _ _).2 e)
        have hall : ∀ y ∈ x :: l, y.t ≠ r := fun y hy e => by
          rcases List.mem_cons.1 hy with rfl | hy
          · exact hne e
          · have := ltK_trans hgt (h1 y hy)
            rw [e] at this
            exact ltK_irrefl _ this
        have e : stp r q (some (O, false)) x = some (O ++ [(ctOf r q)] ++ [x], true) := by
          unfold stp
          dsimp only
          rw [if_neg hne, decide_eq_true ((ordR_lt _ _).2 hgt)]
          rfl
        rw [e, stp_done r q l _ (fun y hy => hall y (List.mem_cons_of_mem _ hy)), if_neg h0, cnt_none hall, Int.zero_add, hq]
        simp
def addI (l : List Ct) (r : Tm) (q : Int) : List Ct := if rightK l then putI l r q else l
theorem addR_eq (l : List Ct) (r : Tm) (q : Int) : addR l r q = addI l r q := by
  unfold addR addI
  cases hr : rightK l
  · rfl
  · obtain ⟨ho, hs⟩ := (right_iff l).1 hr
    rw [put_eq hr, if_pos rfl]
    cases hq : mayB q
    · simp
    · simp only [Bool.and_self, if_true, Bool.not_true, Bool.or_false]
      by_cases h0 : q = 0
      · subst h0
        unfold fld
        rw [show ((0 : Int) == 0) = true from rfl, stp_zero r l [] ho]
        simp
      · rw [show (q == 0) = false by simp [h0], Bool.false_or]
        have h := stp_ins r q hq l [] hs
        unfold fld
        rw [show (q == 0) = false by simp [h0]]
        cases hm : mayB (cnt l r + q)
        · rw [hm] at h
          simp only [Bool.false_eq_true, if_false] at h
          simp only [Bool.not_false, if_true]
          cases hf : l.foldl (stp r q) (some ([], false)) with
          | none => rfl
          | some p => rw [hf] at h; cases h
        · rw [hm] at h
          simp only [if_true, List.nil_append] at h
          simp only [Bool.not_true, Bool.false_eq_true, if_false]
          cases hf : l.foldl (stp r q) (some ([], false)) with
          | none => rw [hf] at h; cases h
          | some p =>
            rw [hf] at h
            exact Option.some.inj h
end Go.Proofs.Ytfpmejbgmgdedaa.Fr
