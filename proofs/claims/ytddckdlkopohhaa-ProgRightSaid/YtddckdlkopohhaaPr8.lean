/- Prog: Run: what it computes. -/
import Derived.Test.YtddckdlkopohhaaPr4
import Derived.Test.YtddckdlkopohhaaPr6
import Derived.Test.YtddckdlkopohhaaPr7
namespace Go.Proofs.Ytddckdlkopohhaa
set_option linter.unusedSimpArgs false
set_option linter.unusedVariables false
open Go.RowKit

/-- A machine runs. -/
def runM (ps : List (Int × Int)) : Nat → Mc → Mc
  | 0, m => if m.p < ps.length ∧ m.bad = 0 then { m with bad := 4 } else m
  | f + 1, m => if m.p < ps.length ∧ m.bad = 0 then runM ps f (stepS twoS (ps.getD m.p.toNat (0, 0)).1 (ps.getD m.p.toNat (0, 0)).2 m) else m
def m0 (K V : Int) : Mc := ⟨K, V, [], [], 0, 0⟩
/-- What a program makes of a machine that has ended. -/
def outP (m : Mc) : List (Int × Int) × Int := if m.bad = 0 then (m.o, 0) else ([(m.k, -9223372036854775808 + m.bad)], m.bad)
def runP (ps : List (Int × Int)) (K V : Int) : List (Int × Int) × Int := if rightP ps then outP (runM ps 256 (m0 K V)) else ([], 0)
/-- What holds all the time. -/
structure Good (len : Nat) (K V : Int) (m : Mc) : Prop where
  k : m.k = K
  v : m.v = V
  s : m.s.length ≤ 8
  i : ∀ x ∈ m.s, In64 x
  o : m.o.length ≤ 8
  p0 : 0 ≤ m.p
  p1 : m.p ≤ len
  b0 : 0 ≤ m.bad
  b1 : m.bad ≤ 5
theorem good_push {len : Nat} {K V : Int} {m : Mc} (h : Good len K V m) {n : Int} (hn : In64 n) : Good len K V (pushS m n) := by
  unfold pushS
  split
  · exact ⟨h.k, h.v, h.s, h.i, h.o, h.p0, h.p1, by dsimp only; decide, by dsimp only; decide⟩
  · refine ⟨h.k, h.v, ?_, ?_, h.o, h.p0, h.p1, h.b0, h.b1⟩
    · have := h.s; simp only [List.length_cons]; omega
    · intro x hx
      rcases List.mem_cons.1 hx with rfl | hx
      · exact hn
      · exact h.i x hx
theorem good_bad {len : Nat} {K V : Int} {m : Mc} (h : Good len K V m) {e : Int} (h0 : 0 ≤ e) (h5 : e ≤ 5) : Good len K V { m with bad := e } := ⟨h.k, h.v, h.s, h.i, h.o, h.p0, h.p1, h0, h5⟩
theorem good_pop {len : Nat} {K V : Int} {m : Mc} (h : Good len K V m) {t : List Int} (ht : t.length ≤ m.s.length) (hi : ∀ x ∈ t, x ∈ m.s) : Good len K V { m with s := t } :=
  ⟨h.k, h.v, Nat.le_trans ht h.s, fun x hx => h.i x (hi x hx), h.o, h.p0, h.p1, h.b0, h.b1⟩
theorem good_at {len : Nat} {K V : Int} {m : Mc} (h : Good len K V m) {q : Int} (h0 : 0 ≤ q) (h1 : q ≤ len) : Good len K V { m with p := q } := ⟨h.k, h.v, h.s, h.i, h.o, h0, h1, h.b0, h.b1⟩
theorem good_moves {len : Nat} {K V : Int} {m : Mc} (h : Good len K V m) (hK : In64 K) (hV : In64 V) (op n : Int) (hn : In64 n) : Good len K V (movesS op n m) := by
  obtain ⟨k, v, s, o, p, bad⟩ := m
  obtain rfl : k = K := h.k
  obtain rfl : v = V := h.v
  unfold movesS
  split
  · exact good_push h hn
  split
  · exact good_push h hK
  split
  · exact good_push h hV
  split
  · cases s with
    | nil => exact good_bad h (by decide) (by decide)
    | cons a t => exact good_push (good_push (good_pop h (by simp) (fun x hx => List.mem_cons_of_mem _ hx)) (h.i a List.mem_cons_self)) (h.i a List.mem_cons_self)
  split
  · rcases s with _ | ⟨b, _ | ⟨a, t⟩⟩
    · exact good_bad h (by decide) (by decide)
    · exact good_bad h (by decide) (by decide)
    · exact good_push (good_push (good_pop h (by simp; omega) (fun x hx => List.mem_cons_of_mem _ (List.mem_cons_of_mem _ hx))) (h.i b List.mem_cons_self)) (h.i a (List.mem_cons_of_mem _ List.mem_cons_self))
  split
  · cases s with
    | nil => exact good_bad h (by decide) (by decide)
    | cons a t => exact good_pop h (by simp) (fun x hx => List.mem_cons_of_mem _ hx)
  · exact h
theorem good_step {len : Nat} {K V : Int} {m : Mc} (h : Good len K V m) (hK : In64 K) (hV : In64 V) (op n : Int) (hn : In64 n) (hp : m.p < len) (hj : op = 14 ∨ op = 15 → 0 ≤ n ∧ n ≤ len) : Good len K V (stepS twoS op n m) := by
  have h1 : Good len K V { m with p := m.p + 1 } := good_at h (by have := h.p0; omega) (by omega)
  obtain ⟨k, v, s, o, p, bad⟩ := m
  obtain rfl : k = K := h.k
  obtain rfl : v = V := h.v
  dsimp only at hp h1
  unfold stepS
  split
  · exact good_moves h1 hK hV op n hn
  split
  · rename_i e
    exact good_at h (hj (.inl e)).1 (hj (.inl e)).2
  split
  · rename_i e
    cases s with
    | nil => exact good_bad h1 (by decide) (by decide)
    | cons a t =>
      have h2 := good_pop h (t := t) (by simp) (fun x hx => List.mem_cons_of_mem _ hx)
      dsimp only
      split
      · exact good_at h2 (hj (.inr e)).1 (hj (.inr e)).2
      · exact good_at h2 (by have := h.p0; dsimp only at this; omega) (by omega)
  split
  · rcases s with _ | ⟨b, _ | ⟨a, t⟩⟩
    · exact good_bad h1 (by decide) (by decide)
    · exact good_bad h1 (by decide) (by decide)
    · have h2 := good_pop h1 (t := t) (by simp; omega) (fun x hx => List.mem_cons_of_mem _ (List.mem_cons_of_mem _ hx))
      dsimp only
      split
      · exact good_bad h2 (by decide) (by decide)
      · refine ⟨rfl, rfl, h2.s, h2.i, ?_, h2.p0, h2.p1, h2.b0, h2.b1⟩
        have := h.o
        simp only [List.length_append, List.length_cons, List.length_nil] at this ⊢
        omega
  · rcases s with _ | ⟨b, _ | ⟨a, t⟩⟩
    · exact good_bad h1 (by decide) (by decide)
    · exact good_bad h1 (by decide) (by decide)
    · have h2 := good_pop h1 (t := t) (by simp; omega) (fun x hx => List.mem_cons_of_mem _ (List.mem_cons_of_mem _ hx))
      have h3 := twoS_in op a b (h.i a (List.mem_cons_of_mem _ List.mem_cons_self))
      exact good_push (good_bad h2 h3.2.1 (Int.le_trans h3.2.2 (by decide))) h3.1
theorem runM_good (ps : List (Int × Int)) (K V : Int) (hK : In64 K) (hV : In64 V) (hn : ∀ r ∈ ps, In64 r.2) (hr : rightP ps = true) : ∀ (f : Nat) (m : Mc), Good ps.length K V m → Good ps.length K V (runM ps f m)
  | 0, m, h => by
    unfold runM
    split
    · exact good_bad h (by decide) (by decide)
    · exact h
  | f + 1, m, h => by
    unfold runM
    split
    · rename_i hc
      refine runM_good ps K V hK hV hn hr f _ ?_
      have hlt : m.p.toNat < ps.length := by have := h.p0; omega
      have hg : ps.getD m.p.toNat (0, 0) = ps[m.p.toNat] := by simp [hlt]
      have hmem : ps[m.p.toNat] ∈ ps := List.getElem_mem _
      rw [hg]
      unfold rightP at hr
      simp only [Bool.and_eq_true, List.all_eq_true] at hr
      have ho := hr.2 _ hmem
      unfold okB at ho
      refine good_step h hK hV _ _ (hn _ hmem) hc.1 (fun e => ?_)
      rw [if_pos e] at ho
      simp only [Bool.and_eq_true] at ho
      exact of_decide_eq_true ho.2
    · exact h
theorem right_ins {ps : List (Int × Int)} (hr : rightP ps = true) : ps.length ≤ 64 ∧ ∀ j op n, ps[j]? = some (op, n) → okIns 1000 op n ∧ ps.getD j (0, 0) = (op, n) := by
  unfold rightP at hr
  simp only [Bool.and_eq_true, List.all_eq_true, decide_eq_true_eq] at hr
  refine ⟨hr.1, fun j op n hj => ⟨?_, by simp [hj]⟩⟩
  have ho := hr.2 _ (List.mem_of_getElem? hj)
  have hl := hr.1
  unfold okB at ho
  simp only [Bool.and_eq_true, decide_eq_true_eq] at ho
  refine ⟨ho.1.1, ho.1.2, fun e => ?_⟩
  rw [if_pos e] at ho
  have := of_decide_eq_true ho.2
  omega
end Go.Proofs.Ytddckdlkopohhaa
