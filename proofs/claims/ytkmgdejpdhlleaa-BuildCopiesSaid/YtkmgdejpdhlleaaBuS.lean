/- Graphs put together step by step, plain: each input and sink step has its operator. No program in sight. -/
import Derived.Test.YtkmgdejpdhlleaaBuQ
namespace Go.Proofs.Ytkmgdejpdhlleaa.Va
set_option linter.unusedSimpArgs false
set_option linter.unusedVariables false
set_option maxRecDepth 100000

def nk (k : Int) (l : List Nd) : Nat := (l.filter fun x => x.k == k).length
def sk (k : Int) (l : List Sp) : Nat := (l.filter fun x => x.k == k).length
theorem nk_snoc {k : Int} {l : List Nd} {x : Nd} : nk k (l ++ [x]) = nk k l + if (x.k == k) = true then 1 else 0 := by
  unfold nk
  rw [List.filter_append, List.length_append]
  congr 1
  by_cases h : (x.k == k) = true
  · rw [if_pos h, List.filter_cons_of_pos (by exact h)]; rfl
  · rw [if_neg h, List.filter_cons_of_neg (by exact h)]; rfl
theorem sk_cons {k : Int} {l : List Sp} {x : Sp} : sk k (x :: l) = sk k l + if (x.k == k) = true then 1 else 0 := by
  unfold sk
  by_cases h : (x.k == k) = true
  · rw [if_pos h, List.filter_cons_of_pos (by exact h)]; rfl
  · rw [if_neg h, List.filter_cons_of_neg (by exact h)]; rfl
theorem nk_take {k : Int} {l : List Nd} {j : Nat} {x : Nd} (h : l[j]? = some x) : nk k (l.take (j + 1)) = nk k (l.take j) + if (x.k == k) = true then 1 else 0 := by
  rw [List.take_add_one, h]
  exact nk_snoc
theorem sk_take {k : Int} {l : List Sp} {j : Nat} {x : Sp} (h : l[j]? = some x) : sk k (l.take (j + 1)) = sk k (l.take j) + if (x.k == k) = true then 1 else 0 := by
  rw [List.take_add_one, h]
  unfold sk
  rw [List.filter_append, List.length_append]
  congr 1
  by_cases h : (x.k == k) = true
  · rw [if_pos h]
    show ([x].filter _).length = 1
    rw [List.filter_cons_of_pos (by exact h)]; rfl
  · rw [if_neg h]
    show ([x].filter _).length = 0
    rw [List.filter_cons_of_neg (by exact h)]; rfl
theorem sk_le (k : Int) (l : List Sp) : sk k l ≤ l.length := List.length_filter_le _ _
theorem nk_le (k : Int) (l : List Nd) : nk k l ≤ l.length := List.length_filter_le _ _
theorem nod_nk {k : Int} {v : Bs} {x : Nd} {l : List Int} : nk k (nodS v x l).n = nk k v.n + if (x.k == k) = true then 1 else 0 := by
  rw [(nod_sme v x l).n]
  exact nk_snoc
theorem nod_p {v : Bs} {x : Nd} {l : List Int} : (nodS v x l).p = v.p := (nod_sme v x l).p
theorem pops_np : ∀ (k : Nat) (v : Bs), (popsS k v).n = v.n ∧ (popsS k v).p = v.p
  | 0, _ => ⟨rfl, rfl⟩
  | k + 1, v => pops_np k (popS v)
theorem beg_nk {k : Int} {v : Bs} {bd : Int} (h1 : ((10 : Int) == k) = false) (h2 : ((5 : Int) == k) = false) : nk k (begS v bd).n = nk k v.n ∧ (begS v bd).p.length = v.p.length + 1 := by
  refine ⟨?_, ?_⟩
  · show nk k (bg3 v bd).n = _
    rw [show bg3 v bd = nodS (bg2 v bd) ⟨5, 0, 0, []⟩ [((bg1 v bd).n.length : Int)] from rfl, nod_nk, show bg2 v bd = nodS (bg1 v bd) ⟨10, 0, 0, []⟩ [popI v] from rfl, nod_nk]
    dsimp only
    rw [h1, h2]
    rfl
  · show (bg3 v bd).p.length = _
    rw [show bg3 v bd = nodS (bg2 v bd) ⟨5, 0, 0, []⟩ [((bg1 v bd).n.length : Int)] from rfl, nod_p, show bg2 v bd = nodS (bg1 v bd) ⟨10, 0, 0, []⟩ [popI v] from rfl, nod_p]
    show (v.p ++ [_]).length = _
    rw [List.length_append]
    rfl
theorem end_nk {k : Int} {v : Bs} (h1 : ((12 : Int) == k) = false) (h2 : ((11 : Int) == k) = false) : nk k (endS v).n = nk k v.n ∧ (endS v).p = v.p := by
  refine ⟨?_, ?_⟩
  · show nk k (en3 v).n = _
    rw [show en3 v = nodS (en2 v) ⟨11, 0, 0, []⟩ [popI v] from rfl, nod_nk]
    show nk k (en1 v).n + _ = _
    rw [show en1 v = nodS (popS v) ⟨12, 0, 0, []⟩ [popI v] from rfl, nod_nk]
    dsimp only
    rw [h1, h2]
    rfl
  · show (en3 v).p = _
    rw [show en3 v = nodS (en2 v) ⟨11, 0, 0, []⟩ [popI v] from rfl, nod_p]
    show (en1 v).p = _
    rw [show en1 v = nodS (popS v) ⟨12, 0, 0, []⟩ [popI v] from rfl, nod_p]
    rfl
theorem do_nk {v : Bs} {s : Sp} (hm : mayI v s = 0) : nk 1 (doS v s).n = nk 1 v.n + (if (s.k == 2) = true then 1 else 0) ∧ nk 15 (doS v s).n = nk 15 v.n + (if (s.k == 3) = true then 1 else 0) ∧ (doS v s).p.length = v.p.length + (if (s.k == 6) = true then 1 else 0) := by
  obtain ⟨hf, h23, h7, h1f, ht⟩ := may_0 hm
  obtain ⟨k1, k8⟩ := for_k hf
  rcases do_cases v s k1 k8 with ⟨e, hd⟩ | ⟨e, hd⟩ | ⟨e, hd⟩ | ⟨e, hd⟩ | ⟨e, hd⟩ | ⟨e, hd⟩ | ⟨e, hd⟩ | ⟨e, hd⟩ <;> rw [hd, e]
  · refine ⟨?_, ?_, ?_⟩
    · show nk 1 (nodS v ⟨1, 0, 0, []⟩ []).n = _
      rw [nod_nk]; rfl
    · show nk 15 (nodS v ⟨1, 0, 0, []⟩ []).n = _
      rw [nod_nk]; rfl
    · show (nodS v ⟨1, 0, 0, []⟩ []).p.length = _
      rw [nod_p]; rfl
  · have hfr := h1f e
    unfold freB at hfr
    simp only [Bool.and_eq_true, decide_eq_true_eq] at hfr
    have n1 : (s.nd == 1) = false := by rw [beq_eq_false_iff_ne]; omega
    have n15 : (s.nd == 15) = false := by rw [beq_eq_false_iff_ne]; omega
    obtain ⟨pn, pp⟩ := pops_np (portsI s.nd).toNat v
    refine ⟨?_, ?_, ?_⟩
    · show nk 1 (nodS (popsS (portsI s.nd).toNat v) ⟨s.nd, 0, s.a, s.pr⟩ _).n = _
      rw [nod_nk, pn]; dsimp only; rw [n1]; rfl
    · show nk 15 (nodS (popsS (portsI s.nd).toNat v) ⟨s.nd, 0, s.a, s.pr⟩ _).n = _
      rw [nod_nk, pn]; dsimp only; rw [n15]; rfl
    · show (nodS (popsS (portsI s.nd).toNat v) ⟨s.nd, 0, s.a, s.pr⟩ _).p.length = _
      rw [nod_p, pp]; rfl
  · refine ⟨?_, ?_, ?_⟩
    · rw [nod_nk]; rfl
    · rw [nod_nk]; rfl
    · rw [nod_p]; rfl
  · exact ⟨rfl, rfl, rfl⟩
  · exact ⟨rfl, rfl, rfl⟩
  · have a1 := beg_nk (k := 1) (v := v) (bd := s.a) rfl rfl
    have a2 := beg_nk (k := 15) (v := v) (bd := s.a) rfl rfl
    exact ⟨a1.1, a2.1, a1.2⟩
  · have a1 := end_nk (k := 1) (v := v) rfl rfl
    have a2 := end_nk (k := 15) (v := v) rfl rfl
    exact ⟨a1.1, a2.1, by rw [a1.2]; rfl⟩
  · exact ⟨rfl, rfl, rfl⟩
theorem all_nk : ∀ (l : List Sp) (i : Int) (v : Bs), (allS l i v).2.1 = 0 → nk 1 (allS l i v).1.n = nk 1 v.n + sk 2 l ∧ nk 15 (allS l i v).1.n = nk 15 v.n + sk 3 l ∧ (allS l i v).1.p.length = v.p.length + sk 6 l
  | [], _, v, _ => ⟨rfl, rfl, rfl⟩
  | s :: l, i, v, h => by
    unfold allS at h ⊢
    by_cases hm : (mayI v s != 0) = true
    · rw [if_pos hm] at h
      exact absurd h (by simpa using hm)
    · rw [if_neg hm] at h ⊢
      have hm : mayI v s = 0 := by simpa using hm
      obtain ⟨h1, h2, h3⟩ := all_nk l (i + 1) (doS v s) h
      obtain ⟨g1, g2, g3⟩ := do_nk hm
      rw [h1, h2, h3, g1, g2, g3, sk_cons, sk_cons, sk_cons]
      omega
theorem all_bd : ∀ (l : List Sp) (i : Int) (v : Bs), (allS l i v).2.1 ≠ 0 → i < (allS l i v).2.2 ∧ (allS l i v).2.2 ≤ i + l.length
  | [], _, v, h => absurd rfl h
  | s :: l, i, v, h => by
    unfold allS at h ⊢
    by_cases hm : (mayI v s != 0) = true
    · rw [if_pos hm]
      dsimp only
      rw [List.length_cons]
      omega
    · rw [if_neg hm] at h ⊢
      obtain ⟨h1, h2⟩ := all_bd l (i + 1) (doS v s) h
      rw [List.length_cons]
      omega
/-- What is built may run, and has its operators; what is not is told of. -/
theorem gra_law (l : List Sp) : ((graS l).2.1 ≠ 0 → (graS l).1 = gr0 ∧ 0 ≤ (graS l).2.2 ∧ (graS l).2.2 ≤ l.length) ∧ ((graS l).2.1 = 0 → (chkS (graS l).1).1 = 0 ∧ nk 1 (graS l).1.n = sk 2 l ∧ nk 15 (graS l).1.n = sk 3 l ∧ (graS l).1.p.length = 1 + sk 6 l) := by
  have hb := all_bd l 0 fre0
  have hn := all_nk l 0 fre0
  unfold graS
  by_cases h1 : ((allS l 0 fre0).2.1 != 0) = true
  · rw [if_pos h1]
    have h1 : (allS l 0 fre0).2.1 ≠ 0 := by simpa using h1
    refine ⟨fun _ => ⟨rfl, ?_, ?_⟩, fun h => absurd h h1⟩
    · have := (hb h1).1
      show 0 ≤ (allS l 0 fre0).2.2
      omega
    · have := (hb h1).2
      show (allS l 0 fre0).2.2 ≤ l.length
      omega
  rw [if_neg h1]
  have h1 : (allS l 0 fre0).2.1 = 0 := by simpa using h1
  by_cases h2 : decide (0 < ((allS l 0 fre0).1.r : Int)) = true
  · rw [if_pos h2]
    exact ⟨fun _ => ⟨rfl, by dsimp only; omega, Int.le_refl _⟩, fun h => absurd h (by dsimp only; decide)⟩
  rw [if_neg h2]
  by_cases h3 : ((chkS (grB (allS l 0 fre0).1)).1 != 0) = true
  · rw [if_pos h3]
    exact ⟨fun _ => ⟨rfl, by dsimp only; omega, Int.le_refl _⟩, fun h => absurd h (by simpa using h3)⟩
  rw [if_neg h3]
  have h3 : (chkS (grB (allS l 0 fre0).1)).1 = 0 := by simpa using h3
  obtain ⟨g1, g2, g3⟩ := hn h1
  refine ⟨fun h => absurd rfl h, fun _ => ⟨h3, ?_, ?_, g3⟩⟩
  · show nk 1 (allS l 0 fre0).1.n = _
    rw [g1]
    show 0 + _ = _
    omega
  · show nk 15 (allS l 0 fre0).1.n = _
    rw [g2]
    show 0 + _ = _
    omega
def shoS (l : List Sp) : Bool := decide ((l.length : Int) ≤ 100) && l.all fun s => decide ((s.pr.length : Int) ≤ 100)
end Go.Proofs.Ytkmgdejpdhlleaa.Va
