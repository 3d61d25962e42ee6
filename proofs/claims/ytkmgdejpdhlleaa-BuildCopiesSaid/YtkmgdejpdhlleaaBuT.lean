/- Graphs put together step by step, plain: what is copied and dropped, or swapped twice, changes nothing. No program in sight. -/
import Derived.Test.YtkmgdejpdhlleaaBuQ
namespace Go.Proofs.Ytkmgdejpdhlleaa.Va
set_option linter.unusedSimpArgs false
set_option linter.unusedVariables false
set_option maxRecDepth 100000

/-- Two builders are alike but for what lies above the pile's top. -/
structure Eqv (v w : Bs) : Prop where
  p : v.p = w.p
  b : v.b = w.b
  n : v.n = w.n
  e : v.e = w.e
  q : v.q = w.q
  L : v.L = w.L
  r : v.r = w.r
  P : v.P.take v.q = w.P.take w.q
section
variable {v w : Bs}
theorem Eqv.lp (h : Eqv v w) : lpAt v = lpAt w := by unfold lpAt; rw [h.L, h.r]
theorem Eqv.sco (h : Eqv v w) : scoI v = scoI w := by unfold scoI; rw [h.lp, h.r]
theorem Eqv.flo (h : Eqv v w) : floI v = floI w := by unfold floI; rw [h.lp, h.r]
theorem Eqv.hig (h : Eqv v w) : higI v = higI w := by unfold higI; rw [h.flo, h.q]
theorem Eqv.may (h : Eqv v w) (s : Sp) : mayI v s = mayI w s := by unfold mayI; rw [h.hig, h.r]
theorem take_le {l m : List Int} {q k : Nat} (h : l.take q = m.take q) (hk : k ≤ q) : l.take k = m.take k := by
  have h1 : (l.take q).take k = (m.take q).take k := by rw [h]
  rw [List.take_take, List.take_take, Nat.min_eq_left hk] at h1
  exact h1
theorem Eqv.pop (h : Eqv v w) : Eqv (popS v) (popS w) := ⟨h.p, h.b, h.n, h.e, by show v.q - 1 = w.q - 1; rw [h.q], h.L, h.r, by
  show v.P.take (v.q - 1) = w.P.take (w.q - 1)
  have := h.P
  rw [← h.q] at this ⊢
  exact take_le this (Nat.sub_le _ _)⟩
theorem Eqv.popI (h : Eqv v w) (h0 : 0 < v.q) : popI v = popI w := by
  unfold Va.popI
  have := h.P
  rw [← h.q] at this ⊢
  have h1 : (v.P.take v.q)[v.q - 1]? = (w.P.take v.q)[v.q - 1]? := by rw [this]
  rw [List.getElem?_take, List.getElem?_take, if_pos (by omega), if_pos (by omega)] at h1
  rw [h1]
theorem Eqv.push (h : Eqv v w) (l : List Int) : Eqv (pushS v l) (pushS w l) := ⟨h.p, h.b, h.n, h.e, by show v.q + l.length = w.q + l.length; rw [h.q], h.L, h.r, by
  show (v.P.take v.q ++ l).take (v.q + l.length) = (w.P.take w.q ++ l).take (w.q + l.length)
  rw [h.P, h.q]⟩
theorem Eqv.edg (h : Eqv v w) (f t k : Int) : Eqv (edgS v f t k) (edgS w f t k) := ⟨h.p, h.b, h.n, by
  show v.e ++ [_] = w.e ++ [_]
  rw [h.e]
  unfold ndK
  rw [h.n], h.q, h.L, h.r, h.P⟩
theorem Eqv.eds : ∀ (t : Int) (l : List Int) (k : Int) {v w : Bs}, Eqv v w → Eqv (edsS t l k v) (edsS t l k w)
  | _, [], _, _, _, h => h
  | t, f :: l, k, _, _, h => Eqv.eds t l (k + 1) (h.edg f t k)
theorem Eqv.add (h : Eqv v w) (x : Nd) : Eqv (addN v x) (addN w x) := ⟨h.p, h.b, by
  show v.n ++ [_] = w.n ++ [_]
  rw [h.n, h.sco], h.e, h.q, h.L, h.r, h.P⟩
theorem Eqv.nod (h : Eqv v w) (x : Nd) (l : List Int) : Eqv (nodS v x l) (nodS w x l) := by
  unfold nodS
  rw [h.n]
  exact Eqv.eds _ l 0 (h.add x)
theorem Eqv.scp (h : Eqv v w) (bd : Int) : Eqv (scpS v bd) (scpS w bd) := ⟨by
  show v.p ++ [_] = w.p ++ [_]
  rw [h.p, h.sco], by show v.b ++ [_] = w.b ++ [_]; rw [h.b], h.n, h.e, h.q, h.L, h.r, h.P⟩
theorem Eqv.opn (h : Eqv v w) (l : Lp) : Eqv (opnS v l) (opnS w l) := ⟨h.p, h.b, h.n, h.e, h.q, by
  show v.L.take v.r ++ [l] = w.L.take w.r ++ [l]
  rw [h.L, h.r], by show v.r + 1 = w.r + 1; rw [h.r], h.P⟩
theorem Eqv.set (h : Eqv v w) (l : Lp) : Eqv (setS v l) (setS w l) := ⟨h.p, h.b, h.n, h.e, h.q, by
  show v.L.set (v.r - 1) l = w.L.set (w.r - 1) l
  rw [h.L, h.r], h.r, h.P⟩
theorem Eqv.beg (h : Eqv v w) (bd : Int) (h0 : 0 < v.q) : Eqv (begS v bd) (begS w bd) := by
  have h1 : Eqv (bg1 v bd) (bg1 w bd) := by
    unfold bg1
    rw [h.p, h.q]
    exact (h.pop.scp bd).opn _
  have h2 : Eqv (bg2 v bd) (bg2 w bd) := by
    unfold bg2
    rw [h.popI h0]
    exact h1.nod _ _
  have h3 : Eqv (bg3 v bd) (bg3 w bd) := by
    unfold bg3
    rw [h1.n]
    exact h2.nod _ _
  unfold begS
  rw [h2.n, h.p, h.q]
  exact (h3.set _).push _
theorem Eqv.ende (h : Eqv v w) (h0 : 0 < v.q) (hf : (lpAt v).f.toNat ≤ v.q) : Eqv (endS v) (endS w) := by
  have h1 : Eqv (en1 v) (en1 w) := by
    unfold en1
    rw [h.popI h0]
    exact h.pop.nod _ _
  have h2 : Eqv (en2 v) (en2 w) := by
    unfold en2
    rw [h.n, h.lp]
    exact h1.edg _ _ _
  have h3 : Eqv (en3 v) (en3 w) := by
    unfold en3
    rw [h.popI h0]
    exact h2.nod _ _
  have pP : (en3 v).P = v.P ∧ (en3 w).P = w.P := by
    have : ∀ v : Bs, (en3 v).P = v.P := fun v => by
      rw [show en3 v = nodS (en2 v) ⟨11, 0, 0, []⟩ [Va.popI v] from rfl, (nod_sme _ _ _).P]
      show (en1 v).P = _
      rw [show en1 v = nodS (popS v) ⟨12, 0, 0, []⟩ [Va.popI v] from rfl, (nod_sme _ _ _).P]
      rfl
    exact ⟨this v, this w⟩
  unfold endS
  rw [h2.n, h.lp]
  refine ⟨h3.p, h3.b, h3.n, h3.e, rfl, h3.L, by show (en3 v).r - 1 = (en3 w).r - 1; rw [h3.r], ?_⟩
  show ((en3 v).P.take _ ++ [_]).take _ = ((en3 w).P.take _ ++ [_]).take _
  rw [pP.1, pP.2]
  have := h.P
  rw [← h.q] at this
  rw [take_le this (by rw [← h.lp]; exact hf)]
  rfl
theorem Eqv.pops : ∀ (k : Nat) {v w : Bs}, Eqv v w → k ≤ v.q → Eqv (popsS k v) (popsS k w) ∧ ∀ l, popsL k v l = popsL k w l
  | 0, _, _, h, _ => ⟨h, fun _ => rfl⟩
  | k + 1, v, w, h, hk => by
    obtain ⟨h1, h2⟩ := Eqv.pops k h.pop (show k ≤ v.q - 1 by omega)
    refine ⟨h1, fun l => ?_⟩
    show popsL k (popS v) (Va.popI v :: l) = popsL k (popS w) (Va.popI w :: l)
    rw [h.popI (by omega), h2]
theorem Eqv.doe {s : Sp} (h : Eqv v w) (ho : Ok v) (hm : mayI v s = 0) : Eqv (doS v s) (doS w s) := by
  obtain ⟨hf, h23, h7, h1f, ht⟩ := may_0 hm
  obtain ⟨k1, k8⟩ := for_k hf
  obtain ⟨t1, t5, t0⟩ := tks_of (s := s)
  have hfl := ho.flo.1
  have hh : higI v = (v.q : Int) - floI v := rfl
  have : s.k = 1 ∨ s.k = 2 ∨ s.k = 3 ∨ s.k = 4 ∨ s.k = 5 ∨ s.k = 6 ∨ s.k = 7 ∨ s.k = 8 := by omega
  rcases this with e | e | e | e | e | e | e | e
  · have := t1 e
    have pb := (portsI_bd s.nd).1
    obtain ⟨g1, g2⟩ := Eqv.pops (portsI s.nd).toNat h (by omega)
    unfold doS
    rw [e]
    show Eqv (pushS (nodS _ _ _) _) (pushS (nodS _ _ _) _)
    rw [g2, h.n]
    exact (g1.nod _ _).push _
  · unfold doS
    rw [e]
    show Eqv (pushS (nodS v _ _) _) (pushS (nodS w _ _) _)
    rw [h.n]
    exact (h.nod _ _).push _
  · have := t0 (.inl e)
    unfold doS
    rw [e]
    show Eqv (nodS (popS v) _ _) (nodS (popS w) _ _)
    rw [h.popI (by omega)]
    exact h.pop.nod _ _
  · have := t0 (.inr (.inl e))
    unfold doS
    rw [e]
    show Eqv (pushS (popS v) _) (pushS (popS w) _)
    rw [h.popI (by omega)]
    exact h.pop.push _
  · have := t5 e
    unfold doS
    rw [e]
    show Eqv (pushS (popS (popS v)) _) (pushS (popS (popS w)) _)
    rw [h.popI (by omega), h.pop.popI (show 0 < v.q - 1 by omega)]
    exact h.pop.pop.push _
  · have := t0 (.inr (.inr (.inl e)))
    unfold doS
    rw [e]
    show Eqv (begS v _) (begS w _)
    exact h.beg _ (by omega)
  · have := t0 (.inr (.inr (.inr (.inl e))))
    have r0 := h7 e
    have hl := lp_last ho.r r0
    obtain ⟨-, f0, f1⟩ := ho.at_ _ _ (by omega) hl
    unfold doS
    rw [e]
    show Eqv (endS v) (endS w)
    exact h.ende (by omega) (by omega)
  · unfold doS
    rw [e]
    exact h.pop
theorem Eqv.refl (v : Bs) : Eqv v v := ⟨rfl, rfl, rfl, rfl, rfl, rfl, rfl, rfl⟩
theorem Eqv.symm (h : Eqv v w) : Eqv w v := ⟨h.p.symm, h.b.symm, h.n.symm, h.e.symm, h.q.symm, h.L.symm, h.r.symm, h.P.symm⟩
end
theorem all_eqv : ∀ (l : List Sp) (i i' : Int) {v w : Bs}, Ok v → Eqv v w → (allS l i v).2.1 = (allS l i' w).2.1 ∧ Eqv (allS l i v).1 (allS l i' w).1
  | [], _, _, _, _, _, h => ⟨rfl, h⟩
  | s :: l, i, i', v, w, ho, h => by
    unfold allS
    rw [← h.may s]
    by_cases hm : (mayI v s != 0) = true
    · rw [if_pos hm, if_pos hm]
      exact ⟨rfl, h⟩
    · rw [if_neg hm, if_neg hm]
      have hm : mayI v s = 0 := by simpa using hm
      exact all_eqv l (i + 1) (i' + 1) (ho.doe hm) (h.doe ho hm)
theorem all_app : ∀ (l m : List Sp) (i : Int) (v : Bs), (allS (l ++ m) i v).2.1 = 0 → (allS l i v).2.1 = 0
  | [], _, _, _, _ => rfl
  | s :: l, m, i, v, h => by
    rw [List.cons_append] at h
    unfold allS at h ⊢
    by_cases hm : (mayI v s != 0) = true
    · rw [if_pos hm] at h ⊢
      exact h
    · rw [if_neg hm] at h ⊢
      exact all_app l m (i + 1) (doS v s) h
theorem all_app2 : ∀ (l m : List Sp) (i : Int) (v : Bs), (allS l i v).2.1 = 0 → allS (l ++ m) i v = allS m (i + l.length) (allS l i v).1
  | [], m, i, v, _ => by
    show allS m i v = allS m (i + ((0 : Nat) : Int)) v
    rw [show (i + ((0 : Nat) : Int)) = i by omega]
  | s :: l, m, i, v, h => by
    show (if (mayI v s != 0) = true then (v, mayI v s, i + 1) else allS (l ++ m) (i + 1) (doS v s)) = allS m (i + ((s :: l).length : Int)) (if (mayI v s != 0) = true then (v, mayI v s, i + 1) else allS l (i + 1) (doS v s)).1
    have h : (if (mayI v s != 0) = true then (v, mayI v s, i + 1) else allS l (i + 1) (doS v s)).2.1 = 0 := h
    by_cases hm : (mayI v s != 0) = true
    · rw [if_pos hm] at h
      exact absurd h (by simpa using hm)
    · rw [if_neg hm] at h ⊢
      rw [if_neg hm, show i + ((s :: l).length : Int) = i + 1 + (l.length : Int) by rw [List.length_cons]; omega]
      exact all_app2 l m (i + 1) (doS v s) h
theorem take_add' : ∀ (A B : List Int) (i : Nat), (A ++ B).take (A.length + i) = A ++ B.take i
  | [], B, i => by simp
  | a :: A, B, i => by
    rw [List.length_cons, show A.length + 1 + i = (A.length + i) + 1 by omega, List.cons_append, List.take_succ_cons, take_add' A B i]
    rfl
theorem all_two {s t : Sp} {i : Int} {v : Bs} (h1 : mayI v s = 0) (h2 : mayI (doS v s) t = 0) : allS [s, t] i v = (doS (doS v s) t, 0, 0) := by
  unfold allS
  rw [if_neg (by rw [h1]; decide)]
  unfold allS
  rw [if_neg (by rw [h2]; decide)]
  rfl
def cpy : List Sp := [⟨4, 0, 0, []⟩, ⟨8, 0, 0, []⟩]
def swp2 : List Sp := [⟨5, 0, 0, []⟩, ⟨5, 0, 0, []⟩]
theorem may_in {v : Bs} {k : Int} (hk : k = 4 ∨ k = 5 ∨ k = 8) (h : tksI ⟨k, 0, 0, []⟩ ≤ higI v) : mayI v ⟨k, 0, 0, []⟩ = 0 := by
  unfold mayI
  have d := decide_eq_false (show ¬ higI v < tksI ⟨k, 0, 0, []⟩ by omega)
  rw [d]
  rcases hk with rfl | rfl | rfl <;> rfl
theorem top_split {v : Bs} (h0 : 0 < v.q) (hq : v.q ≤ v.P.length) : v.P.take v.q = v.P.take (v.q - 1) ++ [popI v] := by
  obtain ⟨k, hk⟩ : ∃ k, v.q = k + 1 := ⟨v.q - 1, by omega⟩
  unfold popI
  rw [hk, Nat.add_sub_cancel, List.take_add_one, List.getElem?_eq_getElem (by omega)]
  rfl
theorem cpy_same {v : Bs} (h : Ok v) (hh : 1 ≤ higI v) (i : Int) : (allS cpy i v).2.1 = 0 ∧ Eqv v (allS cpy i v).1 ∧ Ok (allS cpy i v).1 := by
  have hfl := h.flo.1
  have hd : higI v = (v.q : Int) - floI v := rfl
  have m1 : mayI v ⟨4, 0, 0, []⟩ = 0 := may_in (.inl rfl) (by show (1 : Int) ≤ _; exact hh)
  have e1 : doS v ⟨4, 0, 0, []⟩ = pushS (popS v) [popI v, popI v] := rfl
  have hu : higI (pushS (popS v) [popI v, popI v]) = higI v + 1 := by
    show ((v.q - 1 + 2 : Nat) : Int) - floI v = _
    omega
  have m2 : mayI (doS v ⟨4, 0, 0, []⟩) ⟨8, 0, 0, []⟩ = 0 := may_in (.inr (.inr rfl)) (by show (1 : Int) ≤ higI (pushS (popS v) [popI v, popI v]); omega)
  have ha := all_two (i := i) m1 m2
  rw [show cpy = [⟨4, 0, 0, []⟩, ⟨8, 0, 0, []⟩] from rfl, ha]
  have e2 : doS (doS v ⟨4, 0, 0, []⟩) ⟨8, 0, 0, []⟩ = popS (pushS (popS v) [popI v, popI v]) := rfl
  refine ⟨rfl, ?_, (h.doe m1).doe m2⟩
  rw [e2]
  refine ⟨rfl, rfl, rfl, rfl, ?_, rfl, rfl, ?_⟩
  · show v.q = v.q - 1 + 2 - 1
    omega
  · show v.P.take v.q = (v.P.take (v.q - 1) ++ [popI v, popI v]).take (v.q - 1 + 2 - 1)
    have hl : (v.P.take (v.q - 1)).length = v.q - 1 := by rw [List.length_take]; have := h.q; omega
    rw [top_split (by omega) h.q]
    obtain ⟨A, hA⟩ : ∃ A, v.P.take (v.q - 1) = A := ⟨_, rfl⟩
    rw [hA] at hl ⊢
    rw [show v.q - 1 + 2 - 1 = A.length + 1 by omega, take_add']
    rfl
theorem swp_same {v : Bs} (h : Ok v) (hh : 2 ≤ higI v) (i : Int) : (allS swp2 i v).2.1 = 0 ∧ Eqv v (allS swp2 i v).1 ∧ Ok (allS swp2 i v).1 := by
  have hfl := h.flo.1
  have hd : higI v = (v.q : Int) - floI v := rfl
  obtain ⟨x, hx⟩ : ∃ x, popI v = x := ⟨_, rfl⟩
  obtain ⟨y, hy⟩ : ∃ y, popI (popS v) = y := ⟨_, rfl⟩
  have m1 : mayI v ⟨5, 0, 0, []⟩ = 0 := may_in (.inr (.inl rfl)) (by show (2 : Int) ≤ _; exact hh)
  obtain ⟨u, hu⟩ : ∃ u, pushS (popS (popS v)) [x, y] = u := ⟨_, rfl⟩
  have e1 : doS v ⟨5, 0, 0, []⟩ = u := by rw [← hu, ← hx, ← hy]; rfl
  have uq : u.q = v.q := by rw [← hu]; show v.q - 1 - 1 + 2 = v.q; omega
  have uP : u.P = v.P.take (v.q - 1 - 1) ++ [x, y] := by rw [← hu]; rfl
  have hl : (v.P.take (v.q - 1 - 1)).length = v.q - 1 - 1 := by rw [List.length_take]; have := h.q; omega
  have m2 : mayI (doS v ⟨5, 0, 0, []⟩) ⟨5, 0, 0, []⟩ = 0 := by
    rw [e1]
    refine may_in (.inr (.inl rfl)) ?_
    show (2 : Int) ≤ (u.q : Int) - floI u
    rw [uq, ← hu]
    exact hh
  have ha := all_two (i := i) m1 m2
  rw [show swp2 = [⟨5, 0, 0, []⟩, ⟨5, 0, 0, []⟩] from rfl, ha]
  have py : popI u = y := by
    unfold popI
    rw [uq, uP, List.getElem?_append_right (by omega), hl, show v.q - 1 - (v.q - 1 - 1) = 1 by omega]
    rfl
  have px : popI (popS u) = x := by
    show (u.P[u.q - 1 - 1]?).getD 0 = x
    rw [uq, uP, List.getElem?_append_right (by omega), hl, show v.q - 1 - 1 - (v.q - 1 - 1) = 0 by omega]
    rfl
  have e2 : doS (doS v ⟨5, 0, 0, []⟩) ⟨5, 0, 0, []⟩ = pushS (popS (popS u)) [y, x] := by rw [e1, ← py, ← px]; rfl
  refine ⟨rfl, ?_, (h.doe m1).doe m2⟩
  rw [e2]
  refine ⟨by rw [← hu]; rfl, by rw [← hu]; rfl, by rw [← hu]; rfl, by rw [← hu]; rfl, ?_, by rw [← hu]; rfl, by rw [← hu]; rfl, ?_⟩
  · show v.q = u.q - 1 - 1 + 2
    omega
  · show v.P.take v.q = (u.P.take (u.q - 1 - 1) ++ [y, x]).take (u.q - 1 - 1 + 2)
    have s1 := top_split (v := v) (by omega) h.q
    have s2 := top_split (v := popS v) (show 0 < v.q - 1 by omega) (show v.q - 1 ≤ v.P.length by have := h.q; omega)
    have s2 : v.P.take (v.q - 1) = v.P.take (v.q - 1 - 1) ++ [popI (popS v)] := s2
    rw [s1, s2, hx, hy, uq, uP]
    obtain ⟨A, hA⟩ : ∃ A, v.P.take (v.q - 1 - 1) = A := ⟨_, rfl⟩
    rw [hA] at hl ⊢
    rw [List.take_left' hl, show v.q - 1 - 1 + 2 = A.length + 2 by omega, take_add', List.append_assoc]
    rfl
/-- What stands in between. -/
def mid (h : Int) : List Sp := (if 1 ≤ h then cpy else []) ++ (if 2 ≤ h then swp2 else [])
theorem mid_same {v : Bs} (h : Ok v) (i : Int) : (allS (mid (higI v)) i v).2.1 = 0 ∧ Eqv v (allS (mid (higI v)) i v).1 := by
  unfold mid
  by_cases h1 : 1 ≤ higI v
  · obtain ⟨a1, a2, a3⟩ := cpy_same h h1 i
    rw [if_pos h1]
    by_cases h2 : 2 ≤ higI v
    · rw [if_pos h2, all_app2 _ _ _ _ a1]
      obtain ⟨u, hu⟩ : ∃ u, (allS cpy i v).1 = u := ⟨_, rfl⟩
      rw [hu] at a2 a3 ⊢
      obtain ⟨b1, b2, -⟩ := swp_same a3 (by rw [← a2.hig]; exact h2) (i + cpy.length)
      exact ⟨b1, ⟨a2.p.trans b2.p, a2.b.trans b2.b, a2.n.trans b2.n, a2.e.trans b2.e, a2.q.trans b2.q, a2.L.trans b2.L, a2.r.trans b2.r, a2.P.trans b2.P⟩⟩
    · rw [if_neg h2, List.append_nil]
      exact ⟨a1, a2⟩
  · rw [if_neg h1, if_neg (by omega)]
    exact ⟨rfl, Eqv.refl v⟩
/-- What is built is what it was. -/
theorem copies_law (l : List Sp) (k : Nat) (h : (graS l).2.1 = 0) : (graS (l.take k ++ mid (pilS (l.take k)) ++ l.drop k)).2.1 = 0 ∧ (graS (l.take k ++ mid (pilS (l.take k)) ++ l.drop k)).1 = (graS l).1 := by
  have he : (allS l 0 fre0).2.1 = 0 := by
    by_cases h1 : ((allS l 0 fre0).2.1 != 0) = true
    · unfold graS at h
      rw [if_pos h1] at h
      exact h
    · simpa using h1
  obtain ⟨u, hu⟩ : ∃ u, (allS (l.take k) 0 fre0).1 = u := ⟨_, rfl⟩
  have hsp : l.take k ++ l.drop k = l := List.take_append_drop k l
  have h0 : (allS (l.take k) 0 fre0).2.1 = 0 := all_app (l.take k) (l.drop k) 0 fre0 (by rw [hsp]; exact he)
  have hl : allS l 0 fre0 = allS (l.drop k) (0 + (l.take k).length) u := by
    have := all_app2 (l.take k) (l.drop k) 0 fre0 h0
    rw [hsp, hu] at this
    exact this
  have hok : Ok u := by rw [← hu]; exact (all_ok (l.take k) 0 fre0 1 Ok.zero Fit.zero).1
  have hp : pilS (l.take k) = higI u := by unfold pilS; rw [hu]
  rw [hp]
  obtain ⟨m1, m2⟩ := mid_same hok (0 + (l.take k).length)
  have h1 := all_app2 (l.take k) (mid (higI u)) 0 fre0 h0
  rw [hu] at h1
  have h2 := all_app2 (l.take k ++ mid (higI u)) (l.drop k) 0 fre0 (by rw [h1]; exact m1)
  rw [h1] at h2
  obtain ⟨g1, g2⟩ := all_eqv (l.drop k) (0 + (l.take k).length) (0 + ((l.take k ++ mid (higI u)).length : Int)) hok m2
  rw [← h2, ← hl] at g1 g2
  have hgr : grB (allS (l.take k ++ mid (higI u) ++ l.drop k) 0 fre0).1 = grB (allS l 0 fre0).1 := by
    unfold grB
    rw [g2.p, g2.b, g2.n, g2.e]
  have hn1 : ((allS (l.take k ++ mid (higI u) ++ l.drop k) 0 fre0).2.1 != 0) = ((allS l 0 fre0).2.1 != 0) := by rw [g1]
  unfold graS at h ⊢
  rw [hn1, hgr, ← g2.r]
  by_cases c1 : ((allS l 0 fre0).2.1 != 0) = true
  · exact absurd he (by simpa using c1)
  rw [if_neg c1] at h ⊢
  rw [if_neg c1]
  by_cases c2 : decide (0 < ((allS l 0 fre0).1.r : Int)) = true
  · rw [if_pos c2] at h
    exact absurd h (by dsimp only; decide)
  rw [if_neg c2] at h ⊢
  rw [if_neg c2]
  by_cases c3 : ((chkS (grB (allS l 0 fre0).1)).1 != 0) = true
  · rw [if_pos c3] at h
    exact absurd h (by simpa using c3)
  rw [if_neg c3, if_neg c3]
  exact ⟨rfl, rfl⟩
end Go.Proofs.Ytkmgdejpdhlleaa.Va
