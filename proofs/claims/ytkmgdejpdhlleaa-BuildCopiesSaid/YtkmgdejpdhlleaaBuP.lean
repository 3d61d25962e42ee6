/- Graphs put together step by step, plain. No program in sight. -/
import Derived.Test.YtkmgdejpdhlleaaVaP
namespace Go.Proofs.Ytkmgdejpdhlleaa.Va
set_option linter.unusedSimpArgs false
set_option linter.unusedVariables false
set_option maxRecDepth 100000

structure Lp where
  s : Int
  b : Int
  f : Int
structure Sp where
  k : Int
  nd : Int
  a : Int
  pr : List Is
/-- A builder: its graph, its pile (the first q of P), its open loops (the first r of L). -/
structure Bs where
  p : List Int
  b : List Int
  n : List Nd
  e : List Eg
  P : List Int
  q : Nat
  L : List Lp
  r : Nat
def lpAt (v : Bs) : Lp := (v.L[v.r - 1]?).getD ⟨0, 0, 0⟩
def scoI (v : Bs) : Int := if 0 < v.r then (lpAt v).s else 0
def floI (v : Bs) : Int := if 0 < v.r then (lpAt v).f else 0
def higI (v : Bs) : Int := v.q - floI v
def popS (v : Bs) : Bs := { v with q := v.q - 1 }
def popI (v : Bs) : Int := (v.P[v.q - 1]?).getD 0
def pushS (v : Bs) (l : List Int) : Bs := { v with P := v.P.take v.q ++ l, q := v.q + l.length }
def ndK (v : Bs) (t : Int) : Int := ((v.n[t.toNat]?).getD ⟨0, 0, 0, []⟩).k
def edgS (v : Bs) (f t k : Int) : Bs := { v with e := v.e ++ [⟨f, t, k, keyB (ndK v t)⟩] }
def edsS (t : Int) : List Int → Int → Bs → Bs
  | [], _, v => v
  | f :: l, k, v => edsS t l (k + 1) (edgS v f t k)
def addN (v : Bs) (x : Nd) : Bs := { v with n := v.n ++ [{ x with s := scoI v }] }
def nodS (v : Bs) (x : Nd) (l : List Int) : Bs := edsS v.n.length l 0 (addN v x)
def scpS (v : Bs) (bd : Int) : Bs := { v with p := v.p ++ [scoI v], b := v.b ++ [bd] }
def opnS (v : Bs) (l : Lp) : Bs := { v with L := v.L.take v.r ++ [l], r := v.r + 1 }
def setS (v : Bs) (l : Lp) : Bs := { v with L := v.L.set (v.r - 1) l }
def bg1 (v : Bs) (bd : Int) : Bs := opnS (scpS (popS v) bd) ⟨v.p.length, 0, (v.q - 1 : Nat)⟩
def bg2 (v : Bs) (bd : Int) : Bs := nodS (bg1 v bd) ⟨10, 0, 0, []⟩ [popI v]
def bg3 (v : Bs) (bd : Int) : Bs := nodS (bg2 v bd) ⟨5, 0, 0, []⟩ [((bg1 v bd).n.length : Int)]
def begS (v : Bs) (bd : Int) : Bs := pushS (setS (bg3 v bd) ⟨v.p.length, (bg2 v bd).n.length, (v.q - 1 : Nat)⟩) [((bg2 v bd).n.length : Int)]
def en1 (v : Bs) : Bs := nodS (popS v) ⟨12, 0, 0, []⟩ [popI v]
def en2 (v : Bs) : Bs := edgS (en1 v) v.n.length (lpAt v).b 1
def en3 (v : Bs) : Bs := nodS (en2 v) ⟨11, 0, 0, []⟩ [popI v]
def cutS (v : Bs) (f x : Int) : Bs := { v with P := v.P.take f.toNat ++ [x], q := f.toNat + 1, r := v.r - 1 }
def endS (v : Bs) : Bs := cutS (en3 v) (lpAt v).f (en2 v).n.length
/-- Some are taken from the pile. -/
def popsS : Nat → Bs → Bs
  | 0, v => v
  | k + 1, v => popsS k (popS v)
def popsL : Nat → Bs → List Int → List Int
  | 0, _, l => l
  | k + 1, v, l => popsL k (popS v) (popI v :: l)
def doS (v : Bs) (s : Sp) : Bs :=
  if (s.k == 2) = true then pushS (nodS v ⟨1, 0, 0, []⟩ []) [(v.n.length : Int)] else
  if (s.k == 1) = true then pushS (nodS (popsS (portsI s.nd).toNat v) ⟨s.nd, 0, s.a, s.pr⟩ (popsL (portsI s.nd).toNat v [])) [(v.n.length : Int)] else
  if (s.k == 3) = true then nodS (popS v) ⟨15, 0, 0, []⟩ [popI v] else
  if (s.k == 4) = true then pushS (popS v) [popI v, popI v] else
  if (s.k == 5) = true then pushS (popS (popS v)) [popI v, popI (popS v)] else
  if (s.k == 6) = true then begS v s.a else
  if (s.k == 7) = true then endS v else
  if (s.k == 8) = true then popS v else v
def freB (k : Int) : Bool := (decide (1 < k) && decide (k < 15)) && (decide (k < 10) || decide (12 < k))
def tksI (s : Sp) : Int := if (s.k == 2) = true then 0 else if (s.k == 1) = true then portsI s.nd else if (s.k == 5) = true then 2 else 1
def forB (s : Sp) : Bool := (((decide (1 ≤ s.k) && decide (s.k ≤ 8)) && (((s.k == 1) || s.k == 6) || s.a == 0)) && ((s.k == 1) || (s.nd == 0 && ((s.pr.length : Int) == 0))))
def mayI (v : Bs) (s : Sp) : Int :=
  if (!forB s) = true then 4 else
  if ((s.k == 2 || s.k == 3) && decide (0 < (v.r : Int))) = true then 6 else
  if (s.k == 7 && !decide (0 < (v.r : Int))) = true then 6 else
  if (s.k == 1 && !freB s.nd) = true then 1 else
  if (s.k == 6 && (decide (s.a < 1) || decide (64 < s.a))) = true then 2 else
  if decide (higI v < tksI s) = true then 12 else 0
/-- All steps: the builder, the first error, and at which one. -/
def allS : List Sp → Int → Bs → Bs × Int × Int
  | [], _, v => (v, 0, 0)
  | s :: l, i, v => if (mayI v s != 0) = true then (v, mayI v s, i + 1) else allS l (i + 1) (doS v s)
def fre0 : Bs := ⟨[-1], [0], [], [], [], 0, [], 0⟩
def grB (v : Bs) : Gr := ⟨v.p, v.b, v.n, v.e⟩
def gr0 : Gr := ⟨[], [], [], []⟩
/-- What is built. -/
def graS (l : List Sp) : Gr × Int × Int :=
  if ((allS l 0 fre0).2.1 != 0) = true then (gr0, (allS l 0 fre0).2.1, (allS l 0 fre0).2.2) else
  if decide (0 < ((allS l 0 fre0).1.r : Int)) = true then (gr0, 6, l.length) else
  if ((chkS (grB (allS l 0 fre0).1)).1 != 0) = true then (gr0, (chkS (grB (allS l 0 fre0).1)).1, l.length) else (grB (allS l 0 fre0).1, 0, 0)
def pilS (l : List Sp) : Int := higI (allS l 0 fre0).1
/-- A builder is sound: it may be gone on with. -/
structure Ok (v : Bs) : Prop where
  q : v.q ≤ v.P.length
  r : v.r ≤ v.L.length
  at_ : ∀ (i : Nat) x, i < v.r → v.L[i]? = some x → (0 ≤ x.b ∧ x.b < v.n.length) ∧ 0 ≤ x.f ∧ x.f ≤ v.q
  up : ∀ (i j : Nat) x y, i < j → j < v.r → v.L[i]? = some x → v.L[j]? = some y → x.f ≤ y.f
/-- How long its lists may be. -/
structure Bn (v : Bs) (m : Nat) : Prop where
  p : v.p.length ≤ m
  b : v.b.length ≤ m
  n : v.n.length ≤ m
  e : v.e.length ≤ m
  P : v.P.length ≤ m
  L : v.L.length ≤ m
  q : v.q ≤ m
theorem Bn.le {v : Bs} {m m' : Nat} (h : Bn v m) (hm : m ≤ m') : Bn v m' := ⟨Nat.le_trans h.p hm, Nat.le_trans h.b hm, Nat.le_trans h.n hm, Nat.le_trans h.e hm, Nat.le_trans h.P hm, Nat.le_trans h.L hm, Nat.le_trans h.q hm⟩
theorem Bn.pop {v : Bs} {m : Nat} (h : Bn v m) : Bn (popS v) m := ⟨h.p, h.b, h.n, h.e, h.P, h.L, Nat.le_trans (Nat.sub_le _ _) h.q⟩
theorem Bn.push {v : Bs} {m : Nat} {l : List Int} (h : Bn v m) : Bn (pushS v l) (m + l.length) := by
  have hq := h.q
  refine ⟨Nat.le_add_right_of_le h.p, Nat.le_add_right_of_le h.b, Nat.le_add_right_of_le h.n, Nat.le_add_right_of_le h.e, ?_, Nat.le_add_right_of_le h.L, ?_⟩
  · show (v.P.take v.q ++ l).length ≤ _
    rw [List.length_append, List.length_take]
    omega
  · show v.q + l.length ≤ _
    omega
theorem Bn.edg {v : Bs} {m : Nat} {f t k : Int} (h : Bn v m) : Bn (edgS v f t k) (m + 1) := by
  refine ⟨Nat.le_add_right_of_le h.p, Nat.le_add_right_of_le h.b, Nat.le_add_right_of_le h.n, ?_, Nat.le_add_right_of_le h.P, Nat.le_add_right_of_le h.L, Nat.le_add_right_of_le h.q⟩
  show (v.e ++ [_]).length ≤ _
  rw [List.length_append]
  exact Nat.add_le_add_right h.e 1
theorem Bn.eds {t : Int} : ∀ {l : List Int} {k : Int} {v : Bs} {m : Nat}, Bn v m → Bn (edsS t l k v) (m + l.length)
  | [], _, _, _, h => h
  | f :: l, k, v, m, h => by
    have := Bn.eds (t := t) (l := l) (k := k + 1) (h.edg (f := f) (t := t) (k := k))
    rw [List.length_cons, show m + (l.length + 1) = m + 1 + l.length by omega]
    exact this
theorem Bn.add {v : Bs} {m : Nat} {x : Nd} (h : Bn v m) : Bn (addN v x) (m + 1) := by
  refine ⟨Nat.le_add_right_of_le h.p, Nat.le_add_right_of_le h.b, ?_, Nat.le_add_right_of_le h.e, Nat.le_add_right_of_le h.P, Nat.le_add_right_of_le h.L, Nat.le_add_right_of_le h.q⟩
  show (v.n ++ [_]).length ≤ _
  rw [List.length_append]
  exact Nat.add_le_add_right h.n 1
theorem Bn.nod {v : Bs} {m : Nat} {x : Nd} {l : List Int} (h : Bn v m) : Bn (nodS v x l) (m + 1 + l.length) := (h.add).eds
structure Fit (v : Bs) (m : Nat) : Prop where
  q : v.q ≤ v.P.length
  r : v.r ≤ v.L.length
  n : Bn v m
theorem Fit.le {v : Bs} {m m' : Nat} (h : Fit v m) (hm : m ≤ m') : Fit v m' := ⟨h.q, h.r, h.n.le hm⟩
theorem Fit.pop {v : Bs} {m : Nat} (h : Fit v m) : Fit (popS v) m := ⟨Nat.le_trans (Nat.sub_le _ _) h.q, h.r, h.n.pop⟩
theorem Fit.push {v : Bs} {m : Nat} {l : List Int} (h : Fit v m) : Fit (pushS v l) (m + l.length) := ⟨by
  show v.q + l.length ≤ (v.P.take v.q ++ l).length
  have := h.q
  rw [List.length_append, List.length_take]
  omega, h.r, h.n.push⟩
theorem Fit.edg {v : Bs} {m : Nat} {f t k : Int} (h : Fit v m) : Fit (edgS v f t k) (m + 1) := ⟨h.q, h.r, h.n.edg⟩
theorem Fit.eds {t : Int} : ∀ {l : List Int} {k : Int} {v : Bs} {m : Nat}, Fit v m → Fit (edsS t l k v) (m + l.length)
  | [], _, _, _, h => h
  | f :: l, k, v, m, h => by
    have := Fit.eds (t := t) (l := l) (k := k + 1) (h.edg (f := f) (t := t) (k := k))
    rw [List.length_cons, show m + (l.length + 1) = m + 1 + l.length by omega]
    exact this
theorem Fit.add {v : Bs} {m : Nat} {x : Nd} (h : Fit v m) : Fit (addN v x) (m + 1) := ⟨h.q, h.r, h.n.add⟩
theorem Fit.nod {v : Bs} {m : Nat} {x : Nd} {l : List Int} (h : Fit v m) : Fit (nodS v x l) (m + 1 + l.length) := h.add.eds
theorem Fit.scp {v : Bs} {m : Nat} {bd : Int} (h : Fit v m) : Fit (scpS v bd) (m + 1) := ⟨h.q, h.r, by
  refine ⟨?_, ?_, Nat.le_add_right_of_le h.n.n, Nat.le_add_right_of_le h.n.e, Nat.le_add_right_of_le h.n.P, Nat.le_add_right_of_le h.n.L, Nat.le_add_right_of_le h.n.q⟩
  · show (v.p ++ [_]).length ≤ _
    rw [List.length_append]
    exact Nat.add_le_add_right h.n.p 1
  · show (v.b ++ [_]).length ≤ _
    rw [List.length_append]
    exact Nat.add_le_add_right h.n.b 1⟩
theorem Fit.opn {v : Bs} {m : Nat} {l : Lp} (h : Fit v m) : Fit (opnS v l) (m + 1) := by
  have h1 := h.r
  have h2 := h.n.L
  refine ⟨h.q, ?_, Nat.le_add_right_of_le h.n.p, Nat.le_add_right_of_le h.n.b, Nat.le_add_right_of_le h.n.n, Nat.le_add_right_of_le h.n.e, Nat.le_add_right_of_le h.n.P, ?_, Nat.le_add_right_of_le h.n.q⟩
  · show v.r + 1 ≤ (v.L.take v.r ++ [l]).length
    rw [List.length_append, List.length_take]
    simp only [List.length_cons, List.length_nil]
    omega
  · show (v.L.take v.r ++ [l]).length ≤ _
    rw [List.length_append, List.length_take]
    simp only [List.length_cons, List.length_nil]
    omega
theorem Fit.set {v : Bs} {m : Nat} {l : Lp} (h : Fit v m) : Fit (setS v l) m := ⟨h.q, by show v.r ≤ (v.L.set _ _).length; rw [List.length_set]; exact h.r, ⟨h.n.p, h.n.b, h.n.n, h.n.e, h.n.P, by show (v.L.set _ _).length ≤ m; rw [List.length_set]; exact h.n.L, h.n.q⟩⟩
theorem Fit.cut {v : Bs} {m : Nat} {f x : Int} (h : Fit v m) (hf : f.toNat ≤ v.P.length) : Fit (cutS v f x) (m + 1) := by
  have h1 := h.r
  have h2 := h.n.P
  refine ⟨?_, Nat.le_trans (Nat.sub_le _ _) h.r, Nat.le_add_right_of_le h.n.p, Nat.le_add_right_of_le h.n.b, Nat.le_add_right_of_le h.n.n, Nat.le_add_right_of_le h.n.e, ?_, Nat.le_add_right_of_le h.n.L, ?_⟩
  · show f.toNat + 1 ≤ (v.P.take f.toNat ++ [x]).length
    rw [List.length_append, List.length_take]
    simp only [List.length_cons, List.length_nil]
    omega
  · show (v.P.take f.toNat ++ [x]).length ≤ _
    rw [List.length_append, List.length_take]
    simp only [List.length_cons, List.length_nil]
    omega
  · show f.toNat + 1 ≤ _
    omega
/-- What the edges of a node leave as it was. -/
structure Sme (v w : Bs) : Prop where
  p : w.p = v.p
  b : w.b = v.b
  n : w.n = v.n
  P : w.P = v.P
  q : w.q = v.q
  L : w.L = v.L
  r : w.r = v.r
theorem eds_sme {t : Int} : ∀ (l : List Int) (k : Int) (v : Bs), Sme v (edsS t l k v)
  | [], _, v => ⟨rfl, rfl, rfl, rfl, rfl, rfl, rfl⟩
  | f :: l, k, v => by
    have := eds_sme (t := t) l (k + 1) (edgS v f t k)
    exact ⟨this.p, this.b, this.n, this.P, this.q, this.L, this.r⟩
theorem nod_sme (v : Bs) (x : Nd) (l : List Int) : Sme (addN v x) (nodS v x l) := eds_sme l 0 (addN v x)
theorem nod_len (v : Bs) (x : Nd) (l : List Int) : (nodS v x l).n.length = v.n.length + 1 := by
  rw [(nod_sme v x l).n]
  show (v.n ++ [_]).length = _
  rw [List.length_append]
  rfl
end Go.Proofs.Ytkmgdejpdhlleaa.Va
