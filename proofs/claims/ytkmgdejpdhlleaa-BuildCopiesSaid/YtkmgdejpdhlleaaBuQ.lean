/- Graphs put together step by step, plain: a sound builder stays sound. No program in sight. -/
import Derived.Test.YtkmgdejpdhlleaaBuP
namespace Go.Proofs.Ytkmgdejpdhlleaa.Va
set_option linter.unusedSimpArgs false
set_option linter.unusedVariables false
set_option maxRecDepth 100000

theorem lp_last {v : Bs} (h : v.r ≤ v.L.length) (h0 : 0 < v.r) : v.L[v.r - 1]? = some (lpAt v) := by
  unfold lpAt
  rw [List.getElem?_eq_getElem (by omega)]
  rfl
theorem Ok.flo {v : Bs} (h : Ok v) : (0 ≤ floI v ∧ floI v ≤ v.q) ∧ ∀ (i : Nat) x, i < v.r → v.L[i]? = some x → x.f ≤ floI v := by
  unfold floI
  by_cases h0 : 0 < v.r
  · have hl := lp_last h.r h0
    rw [if_pos h0]
    refine ⟨(h.at_ _ _ (by omega) hl).2, fun i x hi hx => ?_⟩
    by_cases e : i = v.r - 1
    · subst e
      rw [hl] at hx
      obtain rfl := Option.some.inj hx
      exact Int.le_refl _
    · exact h.up i (v.r - 1) x _ (by omega) (by omega) hx hl
  · rw [if_neg h0]
    exact ⟨⟨Int.le_refl _, by omega⟩, fun i x hi => absurd hi (by omega)⟩
theorem Ok.pop {v : Bs} (h : Ok v) (hq : floI v ≤ ((v.q - 1 : Nat) : Int)) : Ok (popS v) := ⟨Nat.le_trans (Nat.sub_le _ _) h.q, h.r, fun i x hi hx => ⟨(h.at_ i x hi hx).1, (h.at_ i x hi hx).2.1, Int.le_trans (h.flo.2 i x hi hx) hq⟩, h.up⟩
theorem Ok.push {v : Bs} {l : List Int} (h : Ok v) : Ok (pushS v l) := ⟨by
  show v.q + l.length ≤ (v.P.take v.q ++ l).length
  have := h.q
  rw [List.length_append, List.length_take]
  omega, h.r, fun i x hi hx => ⟨(h.at_ i x hi hx).1, (h.at_ i x hi hx).2.1, by have := (h.at_ i x hi hx).2.2; show x.f ≤ ((v.q + l.length : Nat) : Int); omega⟩, h.up⟩
theorem Ok.sme {v w : Bs} (h : Ok v) (hs : Sme v w) : Ok w := ⟨by rw [hs.q, hs.P]; exact h.q, by rw [hs.r, hs.L]; exact h.r, fun i x hi hx => by
  rw [hs.r] at hi
  rw [hs.L] at hx
  rw [hs.n, hs.q]
  exact h.at_ i x hi hx, fun i j x y hij hj hx hy => by
  rw [hs.r] at hj
  rw [hs.L] at hx hy
  exact h.up i j x y hij hj hx hy⟩
theorem Ok.add {v : Bs} {x : Nd} (h : Ok v) : Ok (addN v x) := ⟨h.q, h.r, fun i y hi hy => by
  obtain ⟨⟨h1, h2⟩, h3⟩ := h.at_ i y hi hy
  refine ⟨⟨h1, ?_⟩, h3⟩
  show y.b < ((v.n ++ [_]).length : Int)
  rw [List.length_append]
  simp only [List.length_cons, List.length_nil]
  omega, h.up⟩
theorem Ok.nod {v : Bs} {x : Nd} {l : List Int} (h : Ok v) : Ok (nodS v x l) := h.add.sme (nod_sme v x l)
theorem flo_same {v w : Bs} (hL : w.L = v.L) (hr : w.r = v.r) : floI w = floI v := by
  unfold floI lpAt
  rw [hL, hr]
theorem flo_pops : ∀ (k : Nat) (v : Bs), floI (popsS k v) = floI v
  | 0, _ => rfl
  | k + 1, v => flo_pops k (popS v)
theorem Ok.pops : ∀ (k : Nat) {v : Bs}, Ok v → floI v + k ≤ v.q → Ok (popsS k v)
  | 0, _, h, _ => h
  | k + 1, v, h, hq => by
    refine Ok.pops k (h.pop (by omega)) ?_
    rw [show floI (popS v) = floI v from rfl]
    show floI v + k ≤ ((v.q - 1 : Nat) : Int)
    have := h.flo.1.1
    omega
theorem Ok.beg {v : Bs} {bd : Int} (h : Ok v) (q0 : 0 < v.q) (hq : floI v ≤ ((v.q - 1 : Nat) : Int)) : Ok (begS v bd) := by
  obtain ⟨u1, hu1⟩ : ∃ u, popS v = u := ⟨_, rfl⟩
  obtain ⟨u3, hu3⟩ : ∃ u, bg1 v bd = u := ⟨_, rfl⟩
  obtain ⟨u4, hu4⟩ : ∃ u, bg2 v bd = u := ⟨_, rfl⟩
  obtain ⟨u5, hu5⟩ : ∃ u, bg3 v bd = u := ⟨_, rfl⟩
  have s4 : Sme (addN u3 ⟨10, 0, 0, []⟩) u4 := by rw [← hu4, ← hu3]; exact nod_sme _ _ _
  have s5 : Sme (addN u4 ⟨5, 0, 0, []⟩) u5 := by rw [← hu5, ← hu4]; exact nod_sme _ _ _
  have L3 : u3.L = v.L.take v.r ++ [⟨v.p.length, 0, (v.q - 1 : Nat)⟩] := by rw [← hu3]; rfl
  have r3 : u3.r = v.r + 1 := by rw [← hu3]; rfl
  have q3 : u3.q = v.q - 1 := by rw [← hu3]; rfl
  have P3 : u3.P = v.P := by rw [← hu3]; rfl
  have n3 : u3.n = v.n := by rw [← hu3]; rfl
  have n4 : u4.n.length = v.n.length + 1 := by rw [s4.n]; show (u3.n ++ [_]).length = _; rw [List.length_append, n3]; rfl
  have n5 : u5.n.length = v.n.length + 2 := by rw [s5.n]; show (u4.n ++ [_]).length = _; rw [List.length_append, n4]; rfl
  have L5 : u5.L = u3.L := s5.L.trans s4.L
  have r5 : u5.r = v.r + 1 := (s5.r.trans s4.r).trans r3
  have q5 : u5.q = v.q - 1 := (s5.q.trans s4.q).trans q3
  have P5 : u5.P = v.P := (s5.P.trans s4.P).trans P3
  have hlen : (v.L.take v.r).length = v.r := by rw [List.length_take]; have := h.r; omega
  have hset : (setS u5 ⟨v.p.length, u4.n.length, (v.q - 1 : Nat)⟩).L = v.L.take v.r ++ [⟨v.p.length, u4.n.length, (v.q - 1 : Nat)⟩] := by
    show u5.L.set (u5.r - 1) _ = _
    rw [L5, L3, r5, Nat.add_sub_cancel, List.set_append_right _ _ (by omega), hlen, Nat.sub_self]
    rfl
  have hb : begS v bd = pushS (setS u5 ⟨v.p.length, u4.n.length, (v.q - 1 : Nat)⟩) [(u4.n.length : Int)] := by rw [← hu5, ← hu4]; rfl
  rw [hb]
  refine Ok.push ⟨?_, ?_, fun i x hi hx => ?_, fun i j x y hij hj hx hy => ?_⟩
  · show u5.q ≤ u5.P.length
    rw [q5, P5]
    have := h.q
    omega
  · rw [hset]
    show u5.r ≤ _
    rw [r5, List.length_append, hlen]
    exact Nat.le_refl _
  · rw [hset] at hx
    have hi : i < u5.r := hi
    show (0 ≤ x.b ∧ x.b < (u5.n.length : Int)) ∧ 0 ≤ x.f ∧ x.f ≤ (u5.q : Int)
    rw [n5, q5]
    by_cases e : i < v.r
    · rw [List.getElem?_append_left (by omega), List.getElem?_take, if_pos e] at hx
      obtain ⟨⟨h1, h2⟩, h3, h4⟩ := h.at_ i x e hx
      have := h.flo.2 i x e hx
      exact ⟨⟨h1, by omega⟩, h3, by omega⟩
    · obtain rfl : i = v.r := by omega
      rw [List.getElem?_append_right (by omega), hlen, Nat.sub_self] at hx
      obtain rfl := Option.some.inj hx
      dsimp only
      refine ⟨⟨by omega, by omega⟩, by omega, Int.le_refl _⟩
  · rw [hset] at hx hy
    have hj : j < u5.r := hj
    have hi' : i < v.r := by omega
    rw [List.getElem?_append_left (by omega), List.getElem?_take, if_pos hi'] at hx
    by_cases e : j < v.r
    · rw [List.getElem?_append_left (by omega), List.getElem?_take, if_pos e] at hy
      exact h.up i j x y hij e hx hy
    · obtain rfl : j = v.r := by omega
      rw [List.getElem?_append_right (by omega), hlen, Nat.sub_self] at hy
      obtain rfl := Option.some.inj hy
      exact Int.le_trans (h.flo.2 i x hi' hx) hq
theorem end_parts (v : Bs) : (endS v).L = v.L ∧ (endS v).r = v.r - 1 ∧ (endS v).q = (lpAt v).f.toNat + 1 ∧ (endS v).P = v.P.take (lpAt v).f.toNat ++ [((en2 v).n.length : Int)] ∧ (endS v).n.length = v.n.length + 2 := by
  obtain ⟨u2, hu2⟩ : ∃ u, en1 v = u := ⟨_, rfl⟩
  obtain ⟨u3, hu3⟩ : ∃ u, en2 v = u := ⟨_, rfl⟩
  obtain ⟨u4, hu4⟩ : ∃ u, en3 v = u := ⟨_, rfl⟩
  have s2 : Sme (addN (popS v) ⟨12, 0, 0, []⟩) u2 := by rw [← hu2]; exact nod_sme _ _ _
  have s4 : Sme (addN u3 ⟨11, 0, 0, []⟩) u4 := by rw [← hu4, ← hu3]; exact nod_sme _ _ _
  have L3 : u3.L = u2.L := by rw [← hu3, ← hu2]; rfl
  have r3 : u3.r = u2.r := by rw [← hu3, ← hu2]; rfl
  have P3 : u3.P = u2.P := by rw [← hu3, ← hu2]; rfl
  have n3 : u3.n = u2.n := by rw [← hu3, ← hu2]; rfl
  have n2 : u2.n.length = v.n.length + 1 := by rw [s2.n]; show (v.n ++ [_]).length = _; rw [List.length_append]; rfl
  have n4 : u4.n.length = v.n.length + 2 := by rw [s4.n]; show (u3.n ++ [_]).length = _; rw [List.length_append, n3, n2]; rfl
  have hL : u4.L = v.L := (s4.L.trans L3).trans s2.L
  have hr : u4.r = v.r := (s4.r.trans r3).trans s2.r
  have hP : u4.P = v.P := (s4.P.trans P3).trans s2.P
  have he : endS v = cutS u4 (lpAt v).f u3.n.length := by rw [← hu4, ← hu3]; rfl
  rw [he]
  refine ⟨hL, ?_, rfl, ?_, n4⟩
  · show u4.r - 1 = _
    rw [hr]
  · show u4.P.take _ ++ _ = _
    rw [hP, hu3]
theorem Ok.ende {v : Bs} (h : Ok v) (r0 : 0 < v.r) : Ok (endS v) := by
  obtain ⟨hL, hr, hq, hP, hn⟩ := end_parts v
  have hl := lp_last h.r r0
  obtain ⟨-, f0, f1⟩ := h.at_ _ _ (by omega) hl
  have hqP := h.q
  refine ⟨?_, ?_, fun i x hi hx => ?_, fun i j x y hij hj hx hy => ?_⟩
  · rw [hq, hP, List.length_append, List.length_take]
    simp only [List.length_cons, List.length_nil]
    omega
  · rw [hr, hL]
    have := h.r
    omega
  · rw [hr] at hi
    rw [hL] at hx
    rw [hn, hq]
    obtain ⟨⟨h1, h2⟩, h3, h4⟩ := h.at_ i x (by omega) hx
    have := h.up i (v.r - 1) x _ (by omega) (by omega) hx hl
    exact ⟨⟨h1, by omega⟩, h3, by omega⟩
  · rw [hr] at hj
    rw [hL] at hx hy
    exact h.up i j x y hij (by omega) hx hy
theorem may_0 {v : Bs} {s : Sp} (h : mayI v s = 0) : forB s = true ∧ ((s.k = 2 ∨ s.k = 3) → v.r = 0) ∧ (s.k = 7 → 0 < v.r) ∧ (s.k = 1 → freB s.nd = true) ∧ tksI s ≤ higI v := by
  unfold mayI at h
  split at h
  · exact absurd h (by decide)
  split at h
  · exact absurd h (by decide)
  split at h
  · exact absurd h (by decide)
  split at h
  · exact absurd h (by decide)
  split at h
  · exact absurd h (by decide)
  split at h
  · exact absurd h (by decide)
  next h1 h2 h3 h4 h5 h6 =>
  refine ⟨by simpa using h1, fun hk => ?_, fun hk => ?_, fun hk => ?_, ?_⟩
  · by_cases h0 : v.r = 0
    · exact h0
    · refine absurd ?_ h2
      rw [decide_eq_true (show (0 : Int) < (v.r : Int) by omega), Bool.and_true]
      rcases hk with hk | hk <;> rw [hk] <;> rfl
  · by_cases h0 : 0 < v.r
    · exact h0
    · refine absurd ?_ h3
      rw [decide_eq_false (show ¬ (0 : Int) < (v.r : Int) by omega), hk]
      rfl
  · cases hf : freB s.nd
    · refine absurd ?_ h4
      rw [hf, hk]
      rfl
    · rfl
  · have := h6
    rw [decide_eq_true_eq] at this
    omega
theorem for_k {s : Sp} (h : forB s = true) : 1 ≤ s.k ∧ s.k ≤ 8 := by
  unfold forB at h
  simp only [Bool.and_eq_true, decide_eq_true_eq] at h
  exact ⟨h.1.1.1, h.1.1.2⟩
/-- How a step is done, by its kind. -/
theorem do_cases (v : Bs) (s : Sp) (h1 : 1 ≤ s.k) (h8 : s.k ≤ 8) : (s.k = 2 ∧ doS v s = pushS (nodS v ⟨1, 0, 0, []⟩ []) [(v.n.length : Int)]) ∨ (s.k = 1 ∧ doS v s = pushS (nodS (popsS (portsI s.nd).toNat v) ⟨s.nd, 0, s.a, s.pr⟩ (popsL (portsI s.nd).toNat v [])) [(v.n.length : Int)]) ∨ (s.k = 3 ∧ doS v s = nodS (popS v) ⟨15, 0, 0, []⟩ [popI v]) ∨ (s.k = 4 ∧ doS v s = pushS (popS v) [popI v, popI v]) ∨ (s.k = 5 ∧ doS v s = pushS (popS (popS v)) [popI v, popI (popS v)]) ∨ (s.k = 6 ∧ doS v s = begS v s.a) ∨ (s.k = 7 ∧ doS v s = endS v) ∨ (s.k = 8 ∧ doS v s = popS v) := by
  unfold doS
  have : s.k = 1 ∨ s.k = 2 ∨ s.k = 3 ∨ s.k = 4 ∨ s.k = 5 ∨ s.k = 6 ∨ s.k = 7 ∨ s.k = 8 := by omega
  rcases this with e | e | e | e | e | e | e | e <;> rw [e]
  · exact .inr (.inl ⟨rfl, rfl⟩)
  · exact .inl ⟨rfl, rfl⟩
  · exact .inr (.inr (.inl ⟨rfl, rfl⟩))
  · exact .inr (.inr (.inr (.inl ⟨rfl, rfl⟩)))
  · exact .inr (.inr (.inr (.inr (.inl ⟨rfl, rfl⟩))))
  · exact .inr (.inr (.inr (.inr (.inr (.inl ⟨rfl, rfl⟩)))))
  · exact .inr (.inr (.inr (.inr (.inr (.inr (.inl ⟨rfl, rfl⟩))))))
  · exact .inr (.inr (.inr (.inr (.inr (.inr (.inr ⟨rfl, rfl⟩))))))
theorem tks_of {s : Sp} : (s.k = 1 → tksI s = portsI s.nd) ∧ (s.k = 5 → tksI s = 2) ∧ (s.k = 3 ∨ s.k = 4 ∨ s.k = 6 ∨ s.k = 7 ∨ s.k = 8 → tksI s = 1) := by
  unfold tksI
  refine ⟨fun h => by rw [h]; rfl, fun h => by rw [h]; rfl, fun h => ?_⟩
  rcases h with h | h | h | h | h <;> rw [h] <;> rfl
theorem Ok.doe {v : Bs} {s : Sp} (h : Ok v) (hm : mayI v s = 0) : Ok (doS v s) := by
  obtain ⟨hf, h23, h7, h1f, ht⟩ := may_0 hm
  obtain ⟨k1, k8⟩ := for_k hf
  obtain ⟨t1, t5, t0⟩ := tks_of (s := s)
  have hfl := h.flo.1
  have hh : higI v = (v.q : Int) - floI v := rfl
  rcases do_cases v s k1 k8 with ⟨e, hd⟩ | ⟨e, hd⟩ | ⟨e, hd⟩ | ⟨e, hd⟩ | ⟨e, hd⟩ | ⟨e, hd⟩ | ⟨e, hd⟩ | ⟨e, hd⟩ <;> rw [hd]
  · exact h.nod.push
  · have := t1 e
    have := (portsI_bd s.nd).1
    exact ((Ok.pops _ h (by omega)).nod).push
  · have := t0 (.inl e)
    exact (h.pop (by omega)).nod
  · have := t0 (.inr (.inl e))
    exact (h.pop (by omega)).push
  · have := t5 e
    have h2 : Ok (popS v) := h.pop (by omega)
    exact (h2.pop (show floI v ≤ ((v.q - 1 - 1 : Nat) : Int) by omega)).push
  · have := t0 (.inr (.inr (.inl e)))
    exact h.beg (by omega) (by omega)
  · exact h.ende (h7 e)
  · have := t0 (.inr (.inr (.inr (.inr e))))
    exact h.pop (by omega)
theorem Ok.zero : Ok fre0 := ⟨Nat.le_refl _, Nat.le_refl _, fun i x hi => absurd hi (Nat.not_lt_zero _), fun i j x y _ hj => absurd hj (Nat.not_lt_zero _)⟩
theorem fit_pops' {v : Bs} {m : Nat} (h : Fit v m) : ∀ (k : Nat), Fit (popsS k v) m := by
  intro k
  induction k generalizing v with
  | zero => exact h
  | succ k ih => exact ih h.pop
theorem popsL_len' : ∀ (k : Nat) (v : Bs) (l : List Int), (popsL k v l).length = k + l.length
  | 0, _, l => by show l.length = _; omega
  | k + 1, v, l => by
    show (popsL k (popS v) (popI v :: l)).length = _
    rw [popsL_len' k]
    simp only [List.length_cons]
    omega
theorem Fit.doe {v : Bs} {s : Sp} {m : Nat} (h : Fit v m) (ho : Ok v) (hm : mayI v s = 0) : Fit (doS v s) (m + 10) := by
  obtain ⟨hf, h23, h7, h1f, ht⟩ := may_0 hm
  obtain ⟨k1, k8⟩ := for_k hf
  rcases do_cases v s k1 k8 with ⟨e, hd⟩ | ⟨e, hd⟩ | ⟨e, hd⟩ | ⟨e, hd⟩ | ⟨e, hd⟩ | ⟨e, hd⟩ | ⟨e, hd⟩ | ⟨e, hd⟩ <;> rw [hd]
  · exact (h.nod.push).le (by simp only [List.length_cons, List.length_nil]; omega)
  · have := portsI_bd s.nd
    refine (((fit_pops' h _).nod).push).le ?_
    rw [popsL_len']
    simp only [List.length_cons, List.length_nil]
    omega
  · exact (h.pop.nod).le (by simp only [List.length_cons, List.length_nil]; omega)
  · exact (h.pop.push).le (by simp only [List.length_cons, List.length_nil]; omega)
  · exact (h.pop.pop.push).le (by simp only [List.length_cons, List.length_nil]; omega)
  · have h1 : Fit (bg1 v s.a) (m + 2) := (h.pop.scp).opn
    have h2 : Fit (bg2 v s.a) (m + 2 + 1 + 1) := h1.nod
    have h3 : Fit (bg3 v s.a) (m + 2 + 1 + 1 + 1 + 1) := h2.nod
    exact ((h3.set).push).le (by simp only [List.length_cons, List.length_nil]; omega)
  · have h1 : Fit (en1 v) (m + 1 + 1) := h.pop.nod
    have h2 : Fit (en2 v) (m + 1 + 1 + 1) := h1.edg
    have h3 : Fit (en3 v) (m + 1 + 1 + 1 + 1 + 1) := h2.nod
    have hl := lp_last ho.r (h7 e)
    obtain ⟨-, f0, f1⟩ := ho.at_ _ _ (by have := h7 e; omega) hl
    have hP : (en3 v).P = v.P := by
      rw [show en3 v = nodS (en2 v) ⟨11, 0, 0, []⟩ [popI v] from rfl, (nod_sme _ _ _).P]
      show (en1 v).P = _
      rw [show en1 v = nodS (popS v) ⟨12, 0, 0, []⟩ [popI v] from rfl, (nod_sme _ _ _).P]
      rfl
    exact (h3.cut (by rw [hP]; have := ho.q; omega)).le (by omega)
  · exact h.pop.le (by omega)
theorem Fit.zero : Fit fre0 1 := ⟨Nat.le_refl _, Nat.le_refl _, Nat.le_refl _, Nat.le_refl _, Nat.zero_le _, Nat.zero_le _, Nat.zero_le _, Nat.zero_le _, Nat.zero_le _⟩
theorem all_at {l : List Sp} {j : Nat} {s : Sp} {i : Int} {w : Bs} (h : l[j]? = some s) : allS (l.drop j) i w = if (mayI w s != 0) = true then (w, mayI w s, i + 1) else allS (l.drop (j + 1)) (i + 1) (doS w s) := by
  obtain ⟨h1, h2⟩ := List.getElem?_eq_some_iff.1 h
  rw [List.drop_eq_getElem_cons h1, h2, allS]
/-- What all steps make is sound. -/
theorem all_ok : ∀ (l : List Sp) (i : Int) (v : Bs) (m : Nat), Ok v → Fit v m → Ok (allS l i v).1 ∧ Fit (allS l i v).1 (m + 10 * l.length)
  | [], _, v, m, h, f => ⟨h, f⟩
  | s :: l, i, v, m, h, f => by
    unfold allS
    by_cases hm : (mayI v s != 0) = true
    · rw [if_pos hm]
      exact ⟨h, f.le (by omega)⟩
    · rw [if_neg hm]
      have hm : mayI v s = 0 := by simpa using hm
      obtain ⟨h1, h2⟩ := all_ok l (i + 1) (doS v s) (m + 10) (h.doe hm) (f.doe h hm)
      refine ⟨h1, h2.le ?_⟩
      rw [List.length_cons]
      omega
end Go.Proofs.Ytkmgdejpdhlleaa.Va
