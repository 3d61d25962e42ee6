/- Graphs that may run, plain: valid's, and the reference's. No program in sight. -/
import Derived.KernelRfl
namespace Go.Proofs.Ytkmgdejpdhlleaa.Va
set_option linter.unusedSimpArgs false
set_option linter.unusedVariables false
set_option maxRecDepth 100000

/-- The first place in a list where something holds. -/
def idxN {α : Type} (P : α → Bool) : List α → Int
  | [] => -1
  | x :: l => if P x then 0 else if idxN P l < 0 then -1 else idxN P l + 1
theorem idxN_any {α : Type} (P : α → Bool) : ∀ l : List α, decide (0 ≤ idxN P l) = l.any P
  | [] => rfl
  | x :: l => by
    have ih := idxN_any P l
    rw [List.any_cons, ← ih, idxN]
    cases hx : P x
    · simp only [Bool.false_eq_true, if_false, Bool.false_or]
      split
      · next h => rw [decide_eq_false (by omega), decide_eq_false (by omega)]
      · next h => rw [decide_eq_true (by omega), decide_eq_true (by omega)]
    · simp
theorem idxN_at {α : Type} {P : α → Bool} : ∀ {l : List α} {j : Nat} {x : α}, l[j]? = some x → P x = true → (∀ (k : Nat) y, k < j → l[k]? = some y → P y = false) → idxN P l = j
  | [], j, x, h, _, _ => by simp at h
  | y :: l, 0, x, h, hp, _ => by
    obtain rfl : y = x := by simpa using h
    rw [idxN, if_pos hp]
    rfl
  | y :: l, j + 1, x, h, hp, hn => by
    have ih := idxN_at (l := l) (j := j) (by simpa using h) hp (fun k z hk hz => hn (k + 1) z (by omega) (by simpa using hz))
    rw [idxN, if_neg (by rw [hn 0 y (by omega) rfl]; decide), ih, if_neg (by omega)]
    omega
theorem idxN_no {α : Type} {P : α → Bool} : ∀ {l : List α}, (∀ (k : Nat) y, l[k]? = some y → P y = false) → idxN P l = -1
  | [], _ => rfl
  | y :: l, h => by
    rw [idxN, if_neg (by rw [h 0 y rfl]; decide), idxN_no (l := l) (fun k z hz => h (k + 1) z (by simpa using hz)), if_pos (by omega)]
structure Is where
  o : Int
  n : Int
structure Nd where
  k : Int
  s : Int
  a : Int
  pr : List Is
structure Eg where
  f : Int
  t : Int
  p : Int
  x : Bool
structure Gr where
  p : List Int
  b : List Int
  n : List Nd
  e : List Eg
def insB (n m : Int) : Bool := decide (0 ≤ n) && decide (n < m)
theorem insB_iff {n m : Int} : insB n m = true ↔ 0 ≤ n ∧ n < m := by unfold insB; rw [Bool.and_eq_true, decide_eq_true_iff, decide_eq_true_iff]
def portsI (k : Int) : Int := if (k == 5 || k == 9) = true then 2 else if (decide (1 < k) && decide (k ≤ 15)) = true then 1 else 0
theorem portsI_bd (k : Int) : 0 ≤ portsI k ∧ portsI k ≤ 2 := by unfold portsI; split; decide; split <;> decide
def getI (P : List Int) (i : Int) : Int := (P[i.toNat]?).getD 0
theorem getI_of {P : List Int} {i : Int} (h0 : 0 ≤ i) (h1 : i < P.length) : P[i.toNat]? = some (getI P i) := by
  unfold getI
  rw [List.getElem?_eq_getElem (by omega)]
  rfl
/-- How deep a scope is. -/
def dpF (P : List Int) : Nat → Int → Int → Int
  | 0, _, d => d
  | f + 1, s, d => if (insB s P.length && decide (d ≤ 8)) = true then dpF P f (getI P s) (d + 1) else d
def dpS (P : List Int) (s : Int) : Int := dpF P 9 s 0
def takI (g : Gr) (x : Nd) : Int := if (x.k == 10) = true then getI g.p x.s else x.s
def givI (g : Gr) (x : Nd) : Int := if (x.k == 11) = true then getI g.p x.s else x.s
def arA (k : Int) : Bool := (k == 10 || k == 11) || k == 12
def arB (k : Int) : Bool := k == 1 || k == 15
def keyB (k : Int) : Bool := (decide (6 ≤ k) && decide (k ≤ 9)) || k == 14
def fedB (l : List Eg) (n p : Int) : Bool := l.any fun e => e.t == n && e.p == p
/-- Has one of the ports from here on no edge? -/
def fulF (l : List Eg) (n : Int) : Nat → Int → Bool
  | 0, _ => true
  | f + 1, p => if fedB l n p = true then fulF l n f (p + 1) else false
def fulB (g : Gr) (n : Int) (x : Nd) : Bool := fulF g.e n (portsI x.k).toNat 0
/-- Scopes and their parents. -/
def Par (P : List Int) : Prop := ∀ i : Int, 0 ≤ i → i < P.length → getI P i < i ∧ -1 ≤ getI P i
def unF (P : List Int) (s : Int) : Nat → Int → Bool
  | 0, _ => false
  | f + 1, p => if 0 ≤ p then (if (p == s) = true then true else unF P s f (getI P p)) else false
def undB (P : List Int) (s o : Int) : Bool := unF P s (P.length + 1) (getI P o)
def bhF (P : List Int) (s outer : Int) : Nat → Int → Bool → Bool × Bool
  | 0, _, fr => (false, fr)
  | f + 1, p, fr => if 0 ≤ p then (if (p == s) = true then (true, fr) else bhF P s outer f (getI P p) (fr || p == outer)) else (false, fr)
def scI (g : Gr) (n : Int) : Int := ((g.n[n.toNat]?).getD ⟨0, 0, 0, []⟩).s
def behB (g : Gr) (n : Int) : Bool :=
  if (n == 0) = true then scI g n == 0 else
    if (bhF g.p (scI g n) (getI g.p (scI g n)) (g.p.length + 1) (scI g (n - 1)) false).1 = true then true else
      (bhF g.p (scI g n) (getI g.p (scI g n)) (g.p.length + 1) (scI g (n - 1)) false).2 && !((g.n.take n.toNat).any fun x => x.s == scI g n)
def scoB (g : Gr) (s : Int) : Bool :=
  if (s == 0) = true then getI g.p 0 == -1 && getI g.b 0 == 0 else
    ((insB (getI g.p s) s && decide (1 ≤ getI g.b s)) && decide (getI g.b s ≤ 64)) && decide (dpS g.p s ≤ 4)
def jmpB (o : Int) : Bool := o == 14 || o == 15
def insBad (m : Int) (x : Is) : Bool := if (decide (x.o < 1) || decide (16 < x.o)) = true then true else if jmpB x.o = true then (decide (x.n < 0) || decide (m < x.n)) else (x.o != 1 && x.n != 0)
def prgB (p : List Is) : Bool := if 64 < p.length then false else !p.any (insBad p.length)
def nodI (g : Gr) (n : Int) (x : Nd) : Int :=
  if (decide (x.k < 1) || decide (15 < x.k)) = true then 1 else
  if (((!insB x.s g.p.length || (arA x.k && x.s == 0)) || (arB x.k && x.s != 0)) || !behB g n) = true then 6 else
  if ((x.k == 4 && decide (x.a < 1)) || ((x.k != 4 && x.k != 3) && x.a != 0)) = true then 1 else
  if (!prgB x.pr || (x.k != 2 && decide (0 < (x.pr.length : Int)))) = true then 13 else 0
theorem nodI_ok {g : Gr} {n : Int} {x : Nd} (h : nodI g n x = 0) : 0 ≤ x.s ∧ x.s < g.p.length ∧ ((x.k = 10 ∨ x.k = 11 ∨ x.k = 12) → x.s ≠ 0) := by
  unfold nodI at h
  split at h
  · cases h
  split at h
  · cases h
  next h2 =>
  simp only [Bool.or_eq_true, not_or, Bool.not_eq_true', Bool.not_eq_true, Bool.and_eq_false_iff] at h2
  obtain ⟨⟨⟨a, b⟩, c⟩, d⟩ := h2
  have a := insB_iff.1 (by simpa using a)
  refine ⟨a.1, a.2, fun hk hs => ?_⟩
  unfold arA at b
  rcases b with b | b
  · rcases hk with hk | hk | hk <;> rw [hk] at b <;> cases b
  · rw [hs] at b
    cases b
def edgI (g : Gr) (n : Int) (e : Eg) (x y : Nd) : Int :=
  if (!insB e.f g.n.length || !insB e.t g.n.length) = true then 7 else
  if (x.k == 15 || !insB e.p (portsI y.k)) = true then 7 else
  if (givI g x != takI g y) = true then 6 else
  if (decide (e.t ≤ e.f) && x.k != 12) = true then 8 else
  if (keyB y.k && !e.x) = true then 1 else
  if fedB (g.e.take n.toNat) e.t e.p = true then 7 else 0
def ndAt (g : Gr) (i : Int) : Nd := (g.n[i.toNat]?).getD ⟨0, 0, 0, []⟩
theorem ndAt_of {g : Gr} {i : Int} (h0 : 0 ≤ i) (h1 : i < g.n.length) : g.n[i.toNat]? = some (ndAt g i) := by
  unfold ndAt
  rw [List.getElem?_eq_getElem (by omega)]
  rfl
def egAt (g : Gr) (i : Int) : Eg := (g.e[i.toNat]?).getD ⟨0, 0, 0, false⟩
theorem egAt_of {g : Gr} {i : Int} (h0 : 0 ≤ i) (h1 : i < g.e.length) : g.e[i.toNat]? = some (egAt g i) := by
  unfold egAt
  rw [List.getElem?_eq_getElem (by omega)]
  rfl
def edS (g : Gr) (n : Int) : Int := edgI g n (egAt g n) (ndAt g (egAt g n).f) (ndAt g (egAt g n).t)
theorem edS_ok {g : Gr} {n : Int} (h : edS g n = 0) : (0 ≤ (egAt g n).f ∧ (egAt g n).f < g.n.length) ∧ (0 ≤ (egAt g n).t ∧ (egAt g n).t < g.n.length) := by
  unfold edS edgI at h
  split at h
  · cases h
  next h2 =>
  simp only [Bool.or_eq_true, not_or, Bool.not_eq_true', Bool.not_eq_true] at h2
  exact ⟨insB_iff.1 (by simpa using h2.1), insB_iff.1 (by simpa using h2.2)⟩
/-- How many are not seen. -/
def uns : List Bool → Nat
  | [] => 0
  | b :: l => (if b then 0 else 1) + uns l
theorem uns_len : ∀ l : List Bool, uns l ≤ l.length
  | [] => Nat.le_refl _
  | b :: l => by
    have := uns_len l
    cases b <;> simp only [uns, List.length_cons] <;> simp <;> omega
theorem uns_set : ∀ {l : List Bool} {i : Nat}, l[i]? = some false → uns (l.set i true) + 1 = uns l
  | [], i, h => by simp at h
  | b :: l, 0, h => by
    obtain rfl : b = false := by simpa using h
    simp [uns]
    omega
  | b :: l, i + 1, h => by
    have := uns_set (l := l) (i := i) (by simpa using h)
    simp only [List.set_cons_succ, uns]
    omega
theorem uns_le : ∀ (l : List Bool) (i : Nat), uns (l.set i true) ≤ uns l
  | [], i => by simp
  | b :: l, 0 => by cases b <;> simp [uns]
  | b :: l, i + 1 => by
    have := uns_le l i
    simp only [List.set_cons_succ, uns]
    omega
/-- What is seen, edge by edge. -/
def goE (rec : Int → List Bool → List Bool) (g : Gr) (s frm : Int) : List Eg → List Bool → List Bool
  | [], sn => sn
  | e :: l, sn => if (e.f != frm || (sn[e.t.toNat]?).getD false) = true then goE rec g s frm l sn else
      goE rec g s frm l (if ((ndAt g e.t).k != 12 || !undB g.p (ndAt g e.t).s s) = true then rec e.t (sn.set e.t.toNat true) else sn.set e.t.toNat true)
def rch (g : Gr) (s : Int) : Nat → Int → List Bool → List Bool
  | 0, _, sn => sn
  | n + 1, frm, sn => goE (rch g s n) g s frm g.e sn
theorem goE_ok {rec : Int → List Bool → List Bool} {g : Gr} {s frm : Int} (hr : ∀ t sn, (rec t sn).length = sn.length ∧ uns (rec t sn) ≤ uns sn) : ∀ (l : List Eg) (sn : List Bool), (goE rec g s frm l sn).length = sn.length ∧ uns (goE rec g s frm l sn) ≤ uns sn
  | [], sn => ⟨rfl, Nat.le_refl _⟩
  | e :: l, sn => by
    unfold goE
    split
    · exact goE_ok hr l sn
    · obtain ⟨h1, h2⟩ := goE_ok (frm := frm) hr l (if ((ndAt g e.t).k != 12 || !undB g.p (ndAt g e.t).s s) = true then rec e.t (sn.set e.t.toNat true) else sn.set e.t.toNat true)
      have h3 := uns_le sn e.t.toNat
      refine ⟨h1.trans ?_, Nat.le_trans h2 ?_⟩
      · split
        · rw [(hr _ _).1, List.length_set]
        · rw [List.length_set]
      · split
        · exact Nat.le_trans (hr _ _).2 h3
        · exact h3
theorem rch_ok {g : Gr} {s : Int} : ∀ (n : Nat) (frm : Int) (sn : List Bool), (rch g s n frm sn).length = sn.length ∧ uns (rch g s n frm sn) ≤ uns sn
  | 0, _, _ => ⟨rfl, Nat.le_refl _⟩
  | n + 1, frm, sn => goE_ok (rch_ok n) g.e sn
theorem goE_at {rec : Int → List Bool → List Bool} {g : Gr} {s frm : Int} {j : Nat} {e : Eg} {sn : List Bool} (h : g.e[j]? = some e) : goE rec g s frm (g.e.drop j) sn = if (e.f != frm || (sn[e.t.toNat]?).getD false) = true then goE rec g s frm (g.e.drop (j + 1)) sn else
      goE rec g s frm (g.e.drop (j + 1)) (if ((ndAt g e.t).k != 12 || !undB g.p (ndAt g e.t).s s) = true then rec e.t (sn.set e.t.toNat true) else sn.set e.t.toNat true) := by
  obtain ⟨h1, h2⟩ := List.getElem?_eq_some_iff.1 h
  rw [List.drop_eq_getElem_cons h1, h2, goE]
def goN (g : Gr) (s : Int) : List Nd → Nat → List Bool → List Bool
  | [], _, sn => sn
  | x :: l, i, sn => goN g s l (i + 1) (if (x.k == 11 && x.s == s) = true then rch g s (g.n.length + 1) i sn else sn)
theorem goN_at {g : Gr} {s : Int} {j : Nat} {x : Nd} {sn : List Bool} (h : g.n[j]? = some x) : goN g s (g.n.drop j) j sn = goN g s (g.n.drop (j + 1)) (j + 1) (if (x.k == 11 && x.s == s) = true then rch g s (g.n.length + 1) j sn else sn) := by
  obtain ⟨h1, h2⟩ := List.getElem?_eq_some_iff.1 h
  rw [List.drop_eq_getElem_cons h1, h2, goN]
/-- The first place at which there is an error. -/
def fstF (f : Int → Int) : Nat → Int → Int × Int
  | 0, _ => (0, 0)
  | n + 1, i => if (f i != 0) = true then (f i, i) else fstF f n (i + 1)
theorem fstF_ok {f : Int → Int} : ∀ {n : Nat} {i : Int}, (fstF f n i).1 = 0 → ∀ j : Int, i ≤ j → j < i + n → f j = 0
  | 0, i, _, j, h1, h2 => by omega
  | n + 1, i, h, j, h1, h2 => by
    unfold fstF at h
    split at h
    · next h0 =>
      rw [bne_iff_ne] at h0
      exact absurd h h0
    · next h0 =>
      have h0 : f i = 0 := by simpa using h0
      by_cases e : j = i
      · rw [e]; exact h0
      · exact fstF_ok h j (by omega) (by omega)
theorem fst_hit {f : Int → Int} {k : Nat} {j : Int} (h : f j ≠ 0) : fstF f (k + 1) j = (f j, j) := by rw [fstF, if_pos (by rw [bne_iff_ne]; exact h)]
theorem fst_go {f : Int → Int} {k : Nat} {j : Int} (h : f j = 0) : fstF f (k + 1) j = fstF f k (j + 1) := by rw [fstF, if_neg (by rw [bne_iff_ne]; exact fun n => n h)]
def orE (r s : Int × Int) : Int × Int := if (r.1 != 0) = true then r else s
theorem orE_hit {r s : Int × Int} (h : r.1 ≠ 0) : orE r s = r := if_pos (by rw [bne_iff_ne]; exact h)
/-- Does what has left a loop come into it again? -/
def agS (g : Gr) (n : Int) : Bool := if ((ndAt g n).k != 10) = true then false else
  ((goN g (ndAt g n).s g.n 0 (List.replicate g.n.length false))[n.toNat]?).getD false
def f1 (g : Gr) (s : Int) : Int := if scoB g s = true then 0 else 6
def f2 (g : Gr) (n : Int) : Int := nodI g n (ndAt g n)
def f4 (g : Gr) (n : Int) : Int := if fulB g n (ndAt g n) = true then 0 else 7
def f5 (g : Gr) (n : Int) : Int := if agS g n = true then 8 else 0
def chk5 (g : Gr) : Int × Int := orE (fstF (f5 g) g.n.length 0) (0, 0)
def chk4 (g : Gr) : Int × Int := orE (fstF (f4 g) g.n.length 0) (chk5 g)
def chk3 (g : Gr) : Int × Int := orE (fstF (edS g) g.e.length 0) (chk4 g)
def chk2 (g : Gr) : Int × Int := orE (fstF (f2 g) g.n.length 0) (chk3 g)
def chk1 (g : Gr) : Int × Int := orE (fstF (f1 g) g.p.length 0) (if ((decide ((g.n.length : Int) < 1) || decide (32 < (g.n.length : Int))) || decide (64 < (g.e.length : Int))) = true then (11, 0) else chk2 g)
/-- What is wrong with a graph, and where. -/
def chkS (g : Gr) : Int × Int := if ((decide ((g.p.length : Int) < 1) || decide (8 < (g.p.length : Int))) || (g.b.length : Int) != (g.p.length : Int)) = true then (6, 0) else chk1 g
theorem sco_par {g : Gr} (h : ∀ j : Int, 0 ≤ j → j < g.p.length → f1 g j = 0) : Par g.p := by
  intro i h0 h1
  have := h i h0 h1
  unfold f1 at this
  split at this
  · next hs =>
    unfold scoB at hs
    split at hs
    · next hz =>
      have hz : i = 0 := by simpa using hz
      rw [Bool.and_eq_true] at hs
      have := hs.1
      have : getI g.p 0 = -1 := by simpa using this
      subst hz
      omega
    · simp only [Bool.and_eq_true, decide_eq_true_iff] at hs
      have := insB_iff.1 hs.1.1.1
      omega
  · cases this
theorem nod_sc {g : Gr} {j : Int} (h : f2 g j = 0) : 0 ≤ (ndAt g j).s ∧ (ndAt g j).s < g.p.length := ⟨(nodI_ok h).1, (nodI_ok h).2.1⟩
/-- A scope's chain. -/
def chF (P : List Int) : Nat → Int → List Int → List Int
  | 0, _, out => out
  | f + 1, s, out => if insB s P.length = true then chF P f (getI P s) (s :: out) else out
def chS (P : List Int) (s : Int) : List Int := chF P 10 s []
theorem chF_len (P : List Int) : ∀ (f : Nat) (s : Int) (out : List Int), (chF P f s out).length ≤ out.length + f
  | 0, _, _ => Nat.le_refl _
  | f + 1, s, out => by
    unfold chF
    split
    · have := chF_len P f (getI P s) (s :: out)
      rw [List.length_cons] at this
      omega
    · omega
def plI (g : Gr) (x : Nd) (gv : Bool) : Int := if ((x.k == 10 && !gv) || (x.k == 11 && gv)) = true then getI g.p x.s else x.s
/-- Is a scope one of a chain, but for its last? -/
def aruB (l : List Int) (s : Int) : Bool := (l.take (l.length - 1)).any fun y => y == s
def flB (g : Gr) (n : Int) : Bool := if (n == 0) = true then (ndAt g n).s == 0 else
  if ((chS g.p (ndAt g (n - 1)).s).any fun y => y == (ndAt g n).s) = true then true else
  if ((chS g.p (ndAt g (n - 1)).s).any fun y => y == getI g.p (ndAt g n).s) = false then false else !((g.n.take n.toNat).any fun x => x.s == (ndAt g n).s)
/-- What is wrong with an operator, with an edge. -/
def nd9 (g : Gr) (n : Int) (x : Nd) : Int :=
  if (decide (x.k < 1) || decide (15 < x.k)) = true then 1 else
  if (decide (x.s < 0) || decide ((g.p.length : Int) ≤ x.s)) = true then 6 else
  if (((x.s == 0 && decide (10 ≤ x.k)) && decide (x.k ≤ 12)) || (decide (0 < x.s) && (x.k == 1 || x.k == 15))) = true then 6 else
  if flB g n = false then 6 else
  if (if (x.k == 4) = true then decide (x.a < 1) else if (x.k == 3) = true then false else x.a != 0) = true then 1 else
  if ((x.k == 2 && !prgB x.pr) || (x.k != 2 && decide (0 < (x.pr.length : Int)))) = true then 13 else 0
theorem nd9_ok {g : Gr} {n : Int} {x : Nd} (h : nd9 g n x = 0) : 0 ≤ x.s ∧ x.s < g.p.length := by
  unfold nd9 at h
  split at h
  · cases h
  split at h
  · cases h
  next h2 =>
  rw [Bool.or_eq_true, not_or, decide_eq_true_iff, decide_eq_true_iff] at h2
  omega
def eg9 (g : Gr) (n : Int) (e : Eg) (x y : Nd) : Int :=
  if (((decide (e.f < 0) || decide ((g.n.length : Int) ≤ e.f)) || decide (e.t < 0)) || decide ((g.n.length : Int) ≤ e.t)) = true then 7 else
  if ((x.k == 15 || decide (e.p < 0)) || decide (portsI y.k ≤ e.p)) = true then 7 else
  if (plI g x true != plI g y false) = true then 6 else
  if (x.k != 12 && decide (e.t ≤ e.f)) = true then 8 else
  if (!e.x && ((((y.k == 6 || y.k == 7) || y.k == 8) || y.k == 9) || y.k == 14)) = true then 1 else
  if fedB (g.e.take n.toNat) e.t e.p = true then 7 else 0
def ed9 (g : Gr) (n : Int) : Int := eg9 g n (egAt g n) (ndAt g (egAt g n).f) (ndAt g (egAt g n).t)
theorem ed9_ok {g : Gr} {n : Int} (h : ed9 g n = 0) : (0 ≤ (egAt g n).f ∧ (egAt g n).f < g.n.length) ∧ (0 ≤ (egAt g n).t ∧ (egAt g n).t < g.n.length) := by
  unfold ed9 eg9 at h
  split at h
  · cases h
  next h2 =>
  simp only [Bool.or_eq_true, not_or, decide_eq_true_iff] at h2
  omega
/-- What has left a scope, edge by edge, round by round. -/
def ag1 (g : Gr) (s : Int) (e : Eg) (B : List Bool) : List Bool :=
  if (((ndAt g e.f).k == 11 && (ndAt g e.f).s == s) || ((B[e.f.toNat]?).getD false && ((ndAt g e.f).k != 12 || !aruB (chS g.p s) (ndAt g e.f).s))) = true then B.set e.t.toNat true else B
def agE (g : Gr) (s : Int) : List Eg → List Bool → List Bool
  | [], B => B
  | e :: l, B => agE g s l (ag1 g s e B)
def agR (g : Gr) (s : Int) : Nat → List Bool → List Bool
  | 0, B => B
  | k + 1, B => agR g s k (agE g s g.e B)
def ag9 (g : Gr) (s : Int) : List Bool := agR g s (g.n.length + 1) (List.replicate g.n.length false)
theorem ag1_len (g : Gr) (s : Int) (e : Eg) (B : List Bool) : (ag1 g s e B).length = B.length := by unfold ag1; split; exact List.length_set; rfl
theorem agE_len (g : Gr) (s : Int) : ∀ (l : List Eg) (B : List Bool), (agE g s l B).length = B.length
  | [], _ => rfl
  | e :: l, B => (agE_len g s l _).trans (ag1_len g s e B)
theorem agR_len (g : Gr) (s : Int) : ∀ (k : Nat) (B : List Bool), (agR g s k B).length = B.length
  | 0, _ => rfl
  | k + 1, B => (agR_len g s k _).trans (agE_len g s g.e B)
theorem ag9_len (g : Gr) (s : Int) : (ag9 g s).length = g.n.length := (agR_len g s _ _).trans List.length_replicate
theorem agE_at {g : Gr} {s : Int} {j : Nat} {e : Eg} {B : List Bool} (h : g.e[j]? = some e) : agE g s (g.e.drop j) B = agE g s (g.e.drop (j + 1)) (ag1 g s e B) := by
  obtain ⟨h1, h2⟩ := List.getElem?_eq_some_iff.1 h
  rw [List.drop_eq_getElem_cons h1, h2, agE]
def cntE (l : List Eg) (n : Int) : Int := (l.countP fun e => e.t == n : Nat)
def sc9 (g : Gr) (s : Int) : Bool :=
  if decide (0 < s) = true then (((decide (0 ≤ getI g.p s) && decide (getI g.p s < s)) && decide (1 ≤ getI g.b s)) && decide (getI g.b s ≤ 64)) && decide (((chS g.p s).length : Int) ≤ 4) else getI g.p s == -1 && getI g.b s == 0
def r1 (g : Gr) (s : Int) : Int := if sc9 g s = true then 0 else 6
def r2 (g : Gr) (n : Int) : Int := nd9 g n (ndAt g n)
def r4 (g : Gr) (n : Int) : Int := if decide (cntE g.e n < portsI (ndAt g n).k) = true then 7 else 0
def r5 (g : Gr) (n : Int) : Int := if ((ndAt g n).k == 10 && ((ag9 g (ndAt g n).s)[n.toNat]?).getD false) = true then 8 else 0
def ck5 (g : Gr) : Int × Int := orE (fstF (r5 g) g.n.length 0) (0, 0)
def ck4 (g : Gr) : Int × Int := orE (fstF (r4 g) g.n.length 0) (ck5 g)
def ck3 (g : Gr) : Int × Int := orE (fstF (ed9 g) g.e.length 0) (ck4 g)
def ck2 (g : Gr) : Int × Int := orE (fstF (r2 g) g.n.length 0) (ck3 g)
def ck1 (g : Gr) : Int × Int := orE (fstF (r1 g) g.p.length 0) (if (((g.n.length : Int) == 0 || decide (32 < (g.n.length : Int))) || decide (64 < (g.e.length : Int))) = true then (11, 0) else ck2 g)
/-- The reference's answer: what is wrong with a graph, and where. -/
def ck9 (g : Gr) : Int × Int := if (((g.p.length : Int) == 0 || decide (8 < (g.p.length : Int))) || (g.p.length : Int) != (g.b.length : Int)) = true then (6, 0) else ck1 g
end Go.Proofs.Ytkmgdejpdhlleaa.Va
