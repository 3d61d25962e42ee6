/- The reference of layer 5, plain: Add, as it is written, is put. -/
import Derived.Test.YtbglfaomebokhaaBgQ
namespace Go.Proofs.Ytbglfaomebokhaa
set_option linter.unusedSimpArgs false
set_option linter.unusedVariables false

/-- One item of the bag is looked at. -/
def stp (r : Int × Int) (q : Int) : Option (List It × Bool) → It → Option (List It × Bool)
  | none, _ => none
  | some (O, d), x =>
    if x.r = r then (if mayB (x.n + q) then some (if x.n + q = 0 then O else O ++ [⟨x.k, x.v, x.n + q⟩], true) else none)
    else if (!d && decide (ordR r x.r < 0)) then some (O ++ [⟨r.1, r.2, q⟩] ++ [x], true)
    else some (O ++ [x], d)
def fld (r : Int × Int) (q : Int) (l : List It) : Option (List It × Bool) := l.foldl (stp r q) (some ([], q == 0))
theorem fld_snoc (r : Int × Int) (q : Int) {l : List It} {j : Nat} {x : It} (h : l[j]? = some x) : fld r q (l.take (j + 1)) = stp r q (fld r q (l.take j)) x := by
  rw [take_snoc h]; unfold fld; rw [List.foldl_append]; rfl
theorem stp_none (r : Int × Int) (q : Int) (l : List It) : l.foldl (stp r q) none = none := by
  induction l with
  | nil => rfl
  | cons x l ih => exact ih
theorem fld_none (r : Int × Int) (q : Int) {l : List It} {j : Nat} (h : fld r q (l.take j) = none) : fld r q l = none := by
  have e : l = l.take j ++ l.drop j := (List.take_append_drop _ _).symm
  rw [e]
  unfold fld at *
  rw [List.foldl_append, h, stp_none]
/-- Add, as the reference does it. -/
def addR (l : List It) (r : Int × Int) (q : Int) : List It :=
  if rightB l && mayB q then
    match fld r q l with
    | none => l
    | some (O, d) => if d then O else O ++ [⟨r.1, r.2, q⟩]
  else l
theorem fld_len (r : Int × Int) (q : Int) : ∀ (l : List It) (O : List It) (d : Bool) (O' : List It) (d' : Bool), l.foldl (stp r q) (some (O, d)) = some (O', d') → O'.length + (if d' then 0 else 1) ≤ O.length + (if d then 0 else 1) + l.length
  | [], O, d, O', d', h => by
    simp only [List.foldl_nil, Option.some.injEq, Prod.mk.injEq] at h
    obtain ⟨rfl, rfl⟩ := h
    simp
  | x :: l, O, d, O', d', h => by
    rw [List.foldl_cons] at h
    cases hs : stp r q (some (O, d)) x with
    | none => rw [hs, stp_none] at h; cases h
    | some p =>
      obtain ⟨P, e⟩ := p
      rw [hs] at h
      have ih := fld_len r q l P e O' d' h
      have hp : P.length + (if e then 0 else 1) ≤ O.length + (if d then 0 else 1) + 1 := by
        unfold stp at hs
        dsimp only at hs
        split at hs
        · split at hs
          · simp only [Option.some.injEq, Prod.mk.injEq] at hs
            obtain ⟨rfl, rfl⟩ := hs
            split <;> simp <;> omega
          · cases hs
        · split at hs
          · next hd =>
            simp only [Option.some.injEq, Prod.mk.injEq] at hs
            obtain ⟨rfl, rfl⟩ := hs
            simp only [Bool.and_eq_true, Bool.not_eq_true'] at hd
            rw [hd.1]
            simp
          · simp only [Option.some.injEq, Prod.mk.injEq] at hs
            obtain ⟨rfl, rfl⟩ := hs
            simp
            omega
      rw [List.length_cons]
      omega
theorem stp_done (r : Int × Int) (q : Int) : ∀ (l : List It) (O : List It), (∀ x ∈ l, x.r ≠ r) → l.foldl (stp r q) (some (O, true)) = some (O ++ l, true)
  | [], O, h => by simp
  | x :: l, O, h => by
    have e : stp r q (some (O, true)) x = some (O ++ [x], true) := by
      unfold stp
      dsimp only
      rw [if_neg (h x List.mem_cons_self), if_neg (by simp)]
    rw [List.foldl_cons, e, stp_done r q l _ (fun y hy => h y (List.mem_cons_of_mem _ hy)), List.append_assoc]
    rfl
theorem stp_zero (r : Int × Int) : ∀ (l : List It) (O : List It), (∀ x ∈ l, okN x = true) → l.foldl (stp r 0) (some (O, true)) = some (O ++ l, true)
  | [], O, h => by simp
  | x :: l, O, h => by
    have hx := h x List.mem_cons_self
    unfold okN at hx
    simp only [Bool.and_eq_true, Bool.not_eq_true', beq_eq_false_iff_ne] at hx
    have e : stp r 0 (some (O, true)) x = some (O ++ [x], true) := by
      unfold stp
      dsimp only
      rw [Int.add_zero, hx.2, if_neg hx.1]
      split
      · rfl
      · rw [if_neg (by simp)]
    rw [List.foldl_cons, e, stp_zero r l _ (fun y hy => h y (List.mem_cons_of_mem _ hy)), List.append_assoc]
    rfl
theorem stp_ins (r : Int × Int) (q : Int) (hq : mayB q = true) : ∀ (l : List It) (O : List It), Srt l →
    (match l.foldl (stp r q) (some (O, false)) with
      | none => none
      | some (P, d) => some (if d then P else P ++ [⟨r.1, r.2, q⟩])) = if mayB (cnt l r + q) then some (O ++ insR r q l) else none
  | [], O, _ => by rw [cnt, Int.zero_add, hq]; rfl
  | x :: l, O, hs => by
    obtain ⟨h1, h2⟩ := List.pairwise_cons.1 hs
    rw [List.foldl_cons, insR]
    by_cases hlt : ordR x.r r < 0
    · have hne : x.r ≠ r := fun e => by rw [(ordR_zero _ _).2 e] at hlt; omega
      have hnl : ¬ ordR r x.r < 0 := fun h => ltR_irrefl _ (ltR_trans ((ordR_lt _ _).1 hlt) ((ordR_lt _ _).1 h))
      have e : stp r q (some (O, false)) x = some (O ++ [x], false) := by
        unfold stp
        dsimp only
        rw [if_neg hne, decide_eq_false hnl]
        rfl
      rw [e, stp_ins r q hq l _ h2, cnt, if_neg hne, Int.zero_add, if_pos hlt, List.append_assoc]
      rfl
    · rw [if_neg hlt]
      by_cases h0 : ordR x.r r = 0
      · have he := (ordR_zero _ _).1 h0
        have hc := cnt_head hs
        rw [he] at hc
        rw [if_pos h0, hc]
        have e : stp r q (some (O, false)) x = if mayB (x.n + q) then some (if x.n + q = 0 then O else O ++ [⟨x.k, x.v, x.n + q⟩], true) else none := by
          unfold stp
          dsimp only
          rw [if_pos he]
        rw [e]
        cases hm : mayB (x.n + q)
        · simp only [Bool.false_eq_true, if_false]
          rw [stp_none]
        · simp only [if_true]
          rw [stp_done r q l _ (fun y hy e => srt_ne hs y hy (e.trans he.symm))]
          dsimp only
          by_cases hz : x.n + q = 0
          · rw [if_pos hz, if_pos hz]; rfl
          · rw [if_neg hz, if_neg hz, List.append_assoc]; rfl
      · have hgt := ordR_gt _ _ hlt h0
        have hne : x.r ≠ r := fun e => h0 ((ordR_zero _ _).2 e)
        have hall : ∀ y ∈ x :: l, y.r ≠ r := fun y hy e => by
          rcases List.mem_cons.1 hy with rfl | hy
          · exact hne e
          · have := ltR_trans hgt (h1 y hy)
            rw [e] at this
            exact ltR_irrefl _ this
        have e : stp r q (some (O, false)) x = some (O ++ [⟨r.1, r.2, q⟩] ++ [x], true) := by
          unfold stp
          dsimp only
          rw [if_neg hne, decide_eq_true ((ordR_lt _ _).2 hgt)]
          rfl
        rw [e, stp_done r q l _ (fun y hy => hall y (List.mem_cons_of_mem _ hy)), if_neg h0, cnt_none hall, Int.zero_add, hq]
        simp
theorem addR_eq (l : List It) (r : Int × Int) (q : Int) : addR l r q = addS l r q := by
  unfold addR addS
  cases hr : rightB l
  · rfl
  · obtain ⟨ho, hs⟩ := (right_iff l).1 hr
    rw [put_eq hr, if_pos rfl]
    cases hq : mayB q
    · simp
    · simp only [Bool.and_self, if_true, Bool.not_true, Bool.or_false]
      by_cases h0 : q = 0
      · subst h0
        unfold fld
        rw [show ((0 : Int) == 0) = true from rfl, stp_zero r l [] ho]
        simp
      · rw [show (q == 0) = false by simp [h0], Bool.false_or]
        have h := stp_ins r q hq l [] hs
        unfold fld
        rw [show (q == 0) = false by simp [h0]]
        cases hm : mayB (cnt l r + q)
        · rw [hm] at h
          simp only [Bool.false_eq_true, if_false] at h
          simp only [Bool.not_false, if_true]
          cases hf : l.foldl (stp r q) (some ([], false)) with
          | none => rfl
          | some p => rw [hf] at h; cases h
        · rw [hm] at h
          simp only [if_true, List.nil_append] at h
          simp only [Bool.not_true, Bool.false_eq_true, if_false]
          cases hf : l.foldl (stp r q) (some ([], false)) with
          | none => rw [hf] at h; cases h
          | some p =>
            rw [hf] at h
            exact Option.some.inj h
theorem add_len (l : List It) (r : Int × Int) (q : Int) : (addS l r q).length ≤ l.length + 1 := by
  unfold addS
  split
  · next h => exact put_len h r q
  · omega
/-- Join, as the reference does it. -/
def joinR (a b : List It) (t : Int) : List It := if rightB b then b.foldl (fun o x => addS o x.r (t * x.n)) a else a
theorem addS_right {l : List It} (h : rightB l = true) (r : Int × Int) (q : Int) : addS l r q = putS l r q := by unfold addS; rw [if_pos h]
theorem addS_not {l : List It} (h : rightB l = false) (r : Int × Int) (q : Int) : addS l r q = l := by unfold addS; rw [h]; rfl
theorem join_right_eq {a : List It} (ha : rightB a = true) (t : Int) (b : List It) : b.foldl (fun o x => addS o x.r (t * x.n)) a = joinF a t b := by
  induction b generalizing a with
  | nil => rfl
  | cons x b ih => rw [List.foldl_cons, addS_right ha, ih (put_right ha _ _)]; rfl
theorem join_not {a : List It} (ha : rightB a = false) (t : Int) (b : List It) : b.foldl (fun o x => addS o x.r (t * x.n)) a = a := by
  induction b with
  | nil => rfl
  | cons x b ih => rw [List.foldl_cons, addS_not ha, ih]
theorem joinR_eq (a b : List It) (t : Int) : joinR a b t = joinS a b t := by
  unfold joinR joinS
  cases hb : rightB b
  · simp
  · cases ha : rightB a
    · simp [join_not ha]
    · simp [join_right_eq ha]
theorem ofR_eq (l : List (Int × Int)) : l.foldl (fun o r => addS o r 1) [] = ofF l := by
  have : ∀ (o : List It), rightB o = true → l.foldl (fun o r => addS o r 1) o = l.foldl (fun o r => putS o r 1) o := by
    induction l with
    | nil => intro o _; rfl
    | cons x l ih => intro o h; rw [List.foldl_cons, List.foldl_cons, addS_right h, ih _ (put_right h _ _)]
  exact this [] rfl
end Go.Proofs.Ytbglfaomebokhaa
