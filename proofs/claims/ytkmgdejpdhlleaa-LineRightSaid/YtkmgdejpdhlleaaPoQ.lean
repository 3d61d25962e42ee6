/- A graph that the reference lets run may run, plain. No program in sight. -/
import Derived.Test.YtkmgdejpdhlleaaVaP
import Derived.Test.YtkmgdejpdhlleaaTbG
namespace Go.Proofs.Ytkmgdejpdhlleaa.Va
set_option linter.unusedSimpArgs false
set_option linter.unusedVariables false
set_option maxRecDepth 100000
open Go.RowKit

open Pa

theorem orE_zero' {r s : Int × Int} (h : r.1 = 0) : (orE r s).1 = s.1 := by
  unfold orE
  rw [if_neg (by rw [h]; decide)]
theorem fst_zero {f : Int → Int} : ∀ {n : Nat} {i : Int}, (∀ j : Int, i ≤ j → j < i + n → f j = 0) → (fstF f n i).1 = 0
  | 0, _, _ => rfl
  | n + 1, i, h => by
    rw [fst_go (h i (by omega) (by omega))]
    exact fst_zero fun j h1 h2 => h j (by omega) (by omega)
/-- What holds of one of a scope and its parents. -/
def upA (P : List Int) (Q : Int → Bool) : Nat → Int → Bool
  | 0, _ => false
  | f + 1, s => if insB s P.length = true then Q s || upA P Q f (getI P s) else false
theorem chF_any {P : List Int} {Q : Int → Bool} : ∀ (f : Nat) (s : Int) (out : List Int), (chF P f s out).any Q = (upA P Q f s || out.any Q)
  | 0, _, _ => rfl
  | f + 1, s, out => by
    unfold chF upA
    by_cases h : insB s P.length = true
    · rw [if_pos h, if_pos h, chF_any f, List.any_cons]
      cases Q s <;> cases upA P Q f (getI P s) <;> rfl
    · rw [if_neg h, if_neg h]
      rfl
theorem upA_any {P : List Int} {Q : Int → Bool} (hP : Par P) : ∀ (n : Nat) (s : Int) (f f' : Nat), s < n → n ≤ f → n ≤ f' → upA P Q f s = upA P Q f' s
  | 0, s, f, f', hs, _, _ => by
    have hno : ∀ f, upA P Q f s = false := fun f => by
      cases f with
      | zero => rfl
      | succ f =>
        unfold upA
        rw [if_neg]
        unfold insB
        rw [decide_eq_false (show ¬ 0 ≤ s by omega)]
        simp
    rw [hno, hno]
  | n + 1, s, 0, f', hs, h1, _ => by omega
  | n + 1, s, f + 1, 0, hs, _, h2 => by omega
  | n + 1, s, f + 1, f' + 1, hs, h1, h2 => by
    unfold upA
    by_cases hi : insB s P.length = true
    · have hi' := insB_iff.1 hi
      have hp := hP s hi'.1 hi'.2
      rw [if_pos hi, if_pos hi, upA_any hP n (getI P s) f f' (by omega) (by omega) (by omega)]
    · rw [if_neg hi, if_neg hi]
theorem ch_any {P : List Int} (hP : Par P) : ∀ (n : Nat) (s : Int) (f f' : Nat) (out : List Int) (d : Int), s < n → n ≤ f → n ≤ f' → d + n ≤ 9 → ((chF P f s out).length : Int) = out.length + (dpF P f' s d - d)
  | 0, s, f, f', out, d, hs, _, _, _ => by
    have hi : insB s P.length = false := by unfold insB; rw [decide_eq_false (show ¬ 0 ≤ s by omega)]; rfl
    have e1 : chF P f s out = out := by
      cases f with
      | zero => rfl
      | succ f => unfold chF; rw [if_neg (by rw [hi]; decide)]
    have e2 : dpF P f' s d = d := by
      cases f' with
      | zero => rfl
      | succ f => unfold dpF; rw [if_neg (by rw [hi, Bool.false_and]; decide)]
    rw [e1, e2]
    omega
  | n + 1, s, 0, f', out, d, hs, h1, _, _ => by omega
  | n + 1, s, f + 1, 0, out, d, hs, _, h2, _ => by omega
  | n + 1, s, f + 1, f' + 1, out, d, hs, h1, h2, h3 => by
    unfold chF dpF
    by_cases hi : insB s P.length = true
    · have hi' := insB_iff.1 hi
      have hp := hP s hi'.1 hi'.2
      rw [if_pos hi, hi, decide_eq_true (show d ≤ 8 by omega)]
      have := ch_any hP n (getI P s) f f' (s :: out) (d + 1) (by omega) (by omega) (by omega) (by omega)
      rw [List.length_cons] at this
      show _ = _ + (dpF P f' (getI P s) (d + 1) - d)
      omega
    · have hi : insB s P.length = false := by simpa using hi
      rw [hi]
      simp
theorem chS_len {P : List Int} (hP : Par P) (hl : P.length ≤ 8) {s : Int} (hs : s < P.length) : ((chS P s).length : Int) = dpS P s := by
  unfold chS dpS
  have := ch_any hP (s.toNat + 1) s 10 9 [] 0 (by omega) (by omega) (by omega) (by omega)
  rw [this]
  simp
theorem chS_any {P : List Int} {Q : Int → Bool} (s : Int) : (chS P s).any Q = upA P Q 10 s := by
  unfold chS
  rw [chF_any]
  simp
/-- The search up the scopes. -/
theorem bh_up {P : List Int} {s o : Int} (hP : Par P) : ∀ (n : Nat) (p : Int) (f : Nat) (fr : Bool), p < n → n ≤ P.length → n ≤ f → (bhF P s o f p fr).1 = upA P (fun y => y == s) f p ∧ ((bhF P s o f p fr).1 = false → (bhF P s o f p fr).2 = (fr || upA P (fun y => y == o) f p))
  | 0, p, f, fr, hp, _, _ => by
    have e1 : bhF P s o f p fr = (false, fr) := by
      cases f with
      | zero => rfl
      | succ f => unfold bhF; rw [if_neg (by omega)]
    have hno : ∀ Q, upA P Q f p = false := fun Q => by
      cases f with
      | zero => rfl
      | succ f =>
        unfold upA
        rw [if_neg]
        unfold insB
        rw [decide_eq_false (show ¬ 0 ≤ p by omega)]
        simp
    rw [e1, hno, hno]
    exact ⟨rfl, fun _ => (Bool.or_false fr).symm⟩
  | n + 1, p, 0, fr, hp, _, h => by omega
  | n + 1, p, f + 1, fr, hp, hn, h => by
    unfold bhF upA
    by_cases h0 : 0 ≤ p
    · have hi : insB p P.length = true := insB_iff.2 ⟨h0, by omega⟩
      have hpar := hP p h0 (by omega)
      rw [if_pos h0, if_pos hi, if_pos hi]
      by_cases e : (p == s) = true
      · rw [if_pos e, e]
        exact ⟨rfl, fun h => by cases h⟩
      · have e' : (p == s) = false := by simpa using e
        obtain ⟨i1, i2⟩ := bh_up (s := s) (o := o) hP n (getI P p) f (fr || p == o) (by omega) (by omega) (by omega)
        rw [if_neg e, e', Bool.false_or]
        refine ⟨i1, fun h => ?_⟩
        rw [i2 h, Bool.or_assoc]
    · have hi : ¬ insB p P.length = true := fun h => h0 (insB_iff.1 h).1
      rw [if_neg h0, if_neg hi, if_neg hi]
      exact ⟨rfl, fun _ => (Bool.or_false fr).symm⟩
theorem fl_beh {g : Gr} (hP : Par g.p) (hl : g.p.length ≤ 8) {n : Int} (hw : n ≠ 0 → 0 ≤ (ndAt g (n - 1)).s ∧ (ndAt g (n - 1)).s < g.p.length) : flB g n = behB g n := by
  unfold flB behB
  have hs : scI g n = (ndAt g n).s := rfl
  by_cases h0 : n = 0
  · rw [h0]
    rfl
  have h0' : (n == 0) = false := by rw [beq_eq_false_iff_ne]; exact h0
  obtain ⟨w0, w1⟩ := hw h0
  have e1 : scI g (n - 1) = (ndAt g (n - 1)).s := rfl
  rw [h0', if_neg (show ¬ (false = true) by decide), if_neg (show ¬ (false = true) by decide), hs, e1]
  obtain ⟨w, hw⟩ : ∃ w, (ndAt g (n - 1)).s = w := ⟨_, rfl⟩
  obtain ⟨s, hs⟩ : ∃ s, (ndAt g n).s = s := ⟨_, rfl⟩
  rw [hw] at w0 w1 ⊢
  rw [hs]
  obtain ⟨i1, i2⟩ := bh_up (s := s) (o := getI g.p s) hP g.p.length w (g.p.length + 1) false (by omega) (Nat.le_refl _) (by omega)
  rw [chS_any, chS_any, upA_any (Q := fun y => y == s) hP g.p.length w 10 (g.p.length + 1) (by omega) (by omega) (by omega), upA_any (Q := fun y => y == getI g.p s) hP g.p.length w 10 (g.p.length + 1) (by omega) (by omega) (by omega), ← i1]
  by_cases hb : (bhF g.p s (getI g.p s) (g.p.length + 1) w false).1 = true
  · rw [if_pos hb, if_pos hb]
  · have hb' : (bhF g.p s (getI g.p s) (g.p.length + 1) w false).1 = false := by simpa using hb
    rw [if_neg hb, if_neg hb, i2 hb', Bool.false_or]
    cases upA g.p (fun y => y == getI g.p s) (g.p.length + 1) w
    · rfl
    · rw [if_neg (by decide), Bool.true_and]
theorem sc9_par {g : Gr} (h : ∀ j : Int, 0 ≤ j → j < g.p.length → sc9 g j = true) : Par g.p := by
  intro i h0 h1
  have hs := h i h0 h1
  unfold sc9 at hs
  split at hs
  · simp only [Bool.and_eq_true, decide_eq_true_eq] at hs
    omega
  · next hz =>
    rw [decide_eq_true_iff] at hz
    rw [Bool.and_eq_true, beq_iff_eq] at hs
    omega
theorem sc9_eq {g : Gr} (hP : Par g.p) (hl : g.p.length ≤ 8) {s : Int} (h0 : 0 ≤ s) (h1 : s < g.p.length) : sc9 g s = scoB g s := by
  unfold sc9 scoB
  by_cases e : s = 0
  · rw [e]
    rfl
  · have e' : (s == 0) = false := by rw [beq_eq_false_iff_ne]; exact e
    rw [if_pos (decide_eq_true (by omega)), e', if_neg (by decide), chS_len hP hl h1]
    rfl
theorem ar_eq (k s : Int) (h0 : 0 ≤ s) : (((s == 0 && decide (10 ≤ k)) && decide (k ≤ 12)) || (decide (0 < s) && (k == 1 || k == 15))) = ((arA k && s == 0) || (arB k && s != 0)) := by
  unfold arA arB
  by_cases e : s = 0
  · subst e
    by_cases h : k = 10 ∨ k = 11 ∨ k = 12
    · rcases h with rfl | rfl | rfl <;> decide
    · have a : (k == 10) = false := by rw [beq_eq_false_iff_ne]; omega
      have b : (k == 11) = false := by rw [beq_eq_false_iff_ne]; omega
      have c : (k == 12) = false := by rw [beq_eq_false_iff_ne]; omega
      rw [a, b, c]
      by_cases h1 : 10 ≤ k
      · rw [decide_eq_true h1, decide_eq_false (show ¬ k ≤ 12 by omega)]
        simp
      · rw [decide_eq_false h1]
        simp
  · have e' : (s == 0) = false := by rw [beq_eq_false_iff_ne]; exact e
    have e2 : (s != 0) = true := by rw [bne_iff_ne]; exact e
    rw [e', e2, decide_eq_true (show 0 < s by omega)]
    simp
theorem nd_eq {g : Gr} {n : Int} {x : Nd} (hf : flB g n = behB g n) : nd9 g n x = nodI g n x := by
  unfold nd9 nodI
  have e1 : (!insB x.s g.p.length) = (decide (x.s < 0) || decide ((g.p.length : Int) ≤ x.s)) := by
    unfold insB
    by_cases a : 0 ≤ x.s
    · by_cases b : x.s < g.p.length
      · rw [decide_eq_true a, decide_eq_true b, decide_eq_false (show ¬ x.s < 0 by omega), decide_eq_false (show ¬ (g.p.length : Int) ≤ x.s by omega)]; rfl
      · rw [decide_eq_true a, decide_eq_false b, decide_eq_false (show ¬ x.s < 0 by omega), decide_eq_true (show (g.p.length : Int) ≤ x.s by omega)]; rfl
    · rw [decide_eq_false a, decide_eq_true (show x.s < 0 by omega)]; rfl
  have e3 : (if (x.k == 4) = true then decide (x.a < 1) else if (x.k == 3) = true then false else x.a != 0) = ((x.k == 4 && decide (x.a < 1)) || ((x.k != 4 && x.k != 3) && x.a != 0)) := by
    by_cases a : x.k = 4
    · rw [a]; simp
    · by_cases b : x.k = 3
      · rw [b]; simp
      · have a1 : (x.k == 4) = false := by rw [beq_eq_false_iff_ne]; exact a
        have b1 : (x.k == 3) = false := by rw [beq_eq_false_iff_ne]; exact b
        have a2 : (x.k != 4) = true := by rw [bne_iff_ne]; exact a
        have b2 : (x.k != 3) = true := by rw [bne_iff_ne]; exact b
        rw [a1, b1, a2, b2]
        simp
  have e4 : ((x.k == 2 && !prgB x.pr) || (x.k != 2 && decide (0 < (x.pr.length : Int)))) = (!prgB x.pr || (x.k != 2 && decide (0 < (x.pr.length : Int)))) := by
    by_cases a : x.k = 2
    · rw [a]; simp
    · have a1 : (x.k == 2) = false := by rw [beq_eq_false_iff_ne]; exact a
      have a2 : (x.k != 2) = true := by rw [bne_iff_ne]; exact a
      rw [a1, a2, Bool.false_and, Bool.false_or, Bool.true_and]
      cases hp : x.pr with
      | nil => rfl
      | cons y l => rw [decide_eq_true (by rw [List.length_cons]; omega), Bool.or_true]
  rw [e3, e4, hf]
  by_cases h1 : (decide (x.k < 1) || decide (15 < x.k)) = true
  · rw [if_pos h1, if_pos h1]
  rw [if_neg h1, if_neg h1, e1]
  by_cases h2 : (decide (x.s < 0) || decide ((g.p.length : Int) ≤ x.s)) = true
  · rw [if_pos h2, h2]
    rfl
  have h2' : (decide (x.s < 0) || decide ((g.p.length : Int) ≤ x.s)) = false := by simpa using h2
  have h0 : 0 ≤ x.s := by
    rw [Bool.or_eq_false_iff, decide_eq_false_iff_not] at h2'
    omega
  rw [if_neg h2, h2', ar_eq x.k x.s h0, Bool.false_or]
  cases behB g n <;> cases ((arA x.k && x.s == 0) || (arB x.k && x.s != 0)) <;> rfl
theorem key_eq (k : Int) : ((((k == 6 || k == 7) || k == 8) || k == 9) || k == 14) = keyB k := by
  unfold keyB
  by_cases h : k = 6 ∨ k = 7 ∨ k = 8 ∨ k = 9
  · rcases h with rfl | rfl | rfl | rfl <;> rfl
  · have a : (k == 6) = false := by rw [beq_eq_false_iff_ne]; omega
    have b : (k == 7) = false := by rw [beq_eq_false_iff_ne]; omega
    have c : (k == 8) = false := by rw [beq_eq_false_iff_ne]; omega
    have d : (k == 9) = false := by rw [beq_eq_false_iff_ne]; omega
    rw [a, b, c, d]
    by_cases h1 : 6 ≤ k
    · rw [decide_eq_true h1, decide_eq_false (show ¬ k ≤ 9 by omega)]; rfl
    · rw [decide_eq_false h1]; rfl
theorem pl_giv (g : Gr) (x : Nd) : plI g x true = givI g x := by
  unfold plI givI
  simp
theorem pl_tak (g : Gr) (x : Nd) : plI g x false = takI g x := by
  unfold plI takI
  simp
theorem not_ins (a b : Int) : (!insB a b) = (decide (a < 0) || decide (b ≤ a)) := by
  unfold insB
  by_cases h : 0 ≤ a
  · by_cases k : a < b
    · rw [decide_eq_true h, decide_eq_true k, decide_eq_false (show ¬ a < 0 by omega), decide_eq_false (show ¬ b ≤ a by omega)]; rfl
    · rw [decide_eq_true h, decide_eq_false k, decide_eq_false (show ¬ a < 0 by omega), decide_eq_true (show b ≤ a by omega)]; rfl
  · rw [decide_eq_false h, decide_eq_true (show a < 0 by omega)]; rfl
theorem eg_eq (g : Gr) (n : Int) (e : Eg) (x y : Nd) : eg9 g n e x y = edgI g n e x y := by
  unfold eg9 edgI
  rw [not_ins, not_ins, not_ins, pl_giv, pl_tak, key_eq]
  have c1 : (((decide (e.f < 0) || decide ((g.n.length : Int) ≤ e.f)) || decide (e.t < 0)) || decide ((g.n.length : Int) ≤ e.t)) = ((decide (e.f < 0) || decide ((g.n.length : Int) ≤ e.f)) || (decide (e.t < 0) || decide ((g.n.length : Int) ≤ e.t))) := by rw [Bool.or_assoc]
  have c2 : ((x.k == 15 || decide (e.p < 0)) || decide (portsI y.k ≤ e.p)) = (x.k == 15 || (decide (e.p < 0) || decide (portsI y.k ≤ e.p))) := by rw [Bool.or_assoc]
  have c3 : (x.k != 12 && decide (e.t ≤ e.f)) = (decide (e.t ≤ e.f) && x.k != 12) := Bool.and_comm _ _
  have c4 : (!e.x && keyB y.k) = (keyB y.k && !e.x) := Bool.and_comm _ _
  rw [c1, c2, c3, c4]
theorem ed_eq (g : Gr) (n : Int) : ed9 g n = edS g n := eg_eq _ _ _ _ _
open Pa

theorem ful_all {l : List Eg} {n : Int} : ∀ (f : Nat) (p : Int), (∀ q : Int, p ≤ q → q < p + f → fedB l n q = true) → fulF l n f p = true
  | 0, _, _ => rfl
  | f + 1, p, h => by
    unfold fulF
    rw [if_pos (h p (by omega) (by omega))]
    exact ful_all f (p + 1) fun q h1 h2 => h q (by omega) (by omega)
theorem cnt_one {α : Type} {Q : α → Bool} : ∀ {l : List α}, (∀ (i j : Nat) x y, l[i]? = some x → l[j]? = some y → Q x = true → Q y = true → i = j) → l.countP Q ≤ 1
  | [], _ => Nat.zero_le _
  | a :: l, h => by
    rw [List.countP_cons]
    by_cases ha : Q a = true
    · have h0 : l.countP Q = 0 := by
        rw [List.countP_eq_zero]
        intro x hx hq
        obtain ⟨k, hk⟩ := List.getElem?_of_mem hx
        have := h 0 (k + 1) a x rfl (by simpa using hk) ha hq
        omega
      rw [h0, if_pos ha]
      omega
    · rw [if_neg ha]
      exact cnt_one fun i j x y hx hy qx qy => by
        have := h (i + 1) (j + 1) x y (by simpa using hx) (by simpa using hy) qx qy
        omega
theorem edge_port {g : Gr} {n : Int} {e : Eg} {x y : Nd} (h : edgI g n e x y = 0) : insB e.p (portsI y.k) = true ∧ fedB (g.e.take n.toNat) e.t e.p = false := by
  unfold edgI at h
  split at h
  · cases h
  split at h
  · cases h
  next h2 =>
  split at h
  · cases h
  split at h
  · cases h
  split at h
  · cases h
  split at h
  · cases h
  next h6 =>
  rw [Bool.or_eq_true, not_or] at h2
  exact ⟨by simpa using h2.2, by simpa using h6⟩
theorem fedB_of {l : List Eg} {e : Eg} (h : e ∈ l) {n p : Int} (ht : e.t = n) (hp : e.p = p) : fedB l n p = true := by
  unfold fedB
  refine List.any_eq_true.2 ⟨e, h, ?_⟩
  rw [ht, hp]
  simp
/-- As many edges as ports: each port has one. -/
theorem ful_of {g : Gr} {n : Int} (hed : ∀ i : Int, 0 ≤ i → i < g.e.length → edS g i = 0) (hc : ¬ cntE g.e n < portsI (ndAt g n).k) : fulB g n (ndAt g n) = true := by
  unfold fulB
  obtain ⟨b0, b2⟩ := portsI_bd (ndAt g n).k
  have hpt : ∀ (i : Nat) e, g.e[i]? = some e → e.t = n → (0 ≤ e.p ∧ e.p < portsI (ndAt g n).k) ∧ ∀ (j : Nat) e', j < i → g.e[j]? = some e' → e'.t = n → e'.p ≠ e.p := fun i e he ht => by
    obtain ⟨hi, -⟩ := List.getElem?_eq_some_iff.1 he
    have h := hed i (by omega) (by omega)
    have hat : egAt g i = e := by unfold egAt; rw [show ((i : Int)).toNat = i from rfl, he]; rfl
    unfold edS at h
    rw [hat, ht] at h
    obtain ⟨h1, h2⟩ := edge_port h
    refine ⟨insB_iff.1 h1, fun j e' hj he' ht' hp => ?_⟩
    have hm : e' ∈ g.e.take i := List.mem_of_getElem? (i := j) (by rw [List.getElem?_take, if_pos hj]; exact he')
    rw [show ((i : Int)).toNat = i from rfl, fedB_of hm (ht'.trans ht.symm) hp] at h2
    cases h2
  obtain ⟨P, hP⟩ : ∃ P, portsI (ndAt g n).k = P := ⟨_, rfl⟩
  rw [hP] at hc hpt b0 b2 ⊢
  refine ful_all _ _ fun q q0 q1 => ?_
  apply Classical.byContradiction
  intro hno
  have hne : ∀ (i : Nat) e, g.e[i]? = some e → e.t = n → e.p ≠ q := fun i e he ht hp => hno (fedB_of (List.mem_of_getElem? he) ht hp)
  have h1 : g.e.countP (fun e => e.t == n) ≤ 1 := cnt_one fun i j x y hx hy qx qy => by
    rw [beq_iff_eq] at qx qy
    obtain ⟨⟨x0, x1⟩, x2⟩ := hpt i x hx qx
    obtain ⟨⟨y0, y1⟩, y2⟩ := hpt j y hy qy
    have nx := hne i x hx qx
    have ny := hne j y hy qy
    have hp : x.p = y.p := by omega
    rcases Nat.lt_trichotomy i j with h | h | h
    · exact absurd hp (y2 i x h hx qx)
    · exact h
    · exact absurd hp.symm (x2 j y h hy qy)
  have h0 : P = 1 → g.e.countP (fun e => e.t == n) = 0 := fun h => by
    rw [List.countP_eq_zero]
    intro e he ht
    rw [beq_iff_eq] at ht
    obtain ⟨i, hi⟩ := List.getElem?_of_mem he
    obtain ⟨⟨x0, x1⟩, -⟩ := hpt i e hi ht
    have := hne i e hi ht
    omega
  unfold cntE at hc
  have : P = 1 ∨ P = 2 := by omega
  rcases this with rfl | rfl
  · rw [h0 rfl] at hc
    exact hc (by decide)
  · omega
/-- A place of a list of answers. -/
def atB (B : List Bool) (i : Nat) : Bool := (B[i]?).getD false
theorem atB_set {B : List Bool} {k i : Nat} (h : atB (B.set k true) i = true) : i = k ∨ atB B i = true := by
  unfold atB at h ⊢
  rw [List.getElem?_set] at h
  by_cases e : k = i
  · exact .inl e.symm
  · rw [if_neg e] at h
    exact .inr h
theorem set_same : ∀ {B : List Bool} {k : Nat}, ¬ B[k]? = some false → B.set k true = B
  | [], _, _ => rfl
  | b :: B, 0, h => by
    cases b
    · exact absurd rfl h
    · rfl
  | b :: B, k + 1, h => by rw [List.set_cons_succ, set_same (B := B) (k := k) (by simpa using h)]
/-- Which operators give further what has left a scope. -/
def Xp (g : Gr) (s : Int) (B : List Bool) (i : Int) : Bool := ((ndAt g i).k == 11 && (ndAt g i).s == s) || (atB B i.toNat && ((ndAt g i).k != 12 || !aruB (chS g.p s) (ndAt g i).s))
theorem ag1_eq (g : Gr) (s : Int) (e : Eg) (B : List Bool) : ag1 g s e B = if Xp g s B e.f = true then B.set e.t.toNat true else B := rfl
theorem ag1_or (g : Gr) (s : Int) (e : Eg) (B : List Bool) : ag1 g s e B = B ∨ uns (ag1 g s e B) < uns B := by
  rw [ag1_eq]
  split
  · by_cases h : B[e.t.toNat]? = some false
    · have := uns_set h
      exact .inr (by omega)
    · exact .inl (set_same h)
  · exact .inl rfl
theorem agE_or (g : Gr) (s : Int) : ∀ (l : List Eg) (B : List Bool), (agE g s l B = B ∧ ∀ e ∈ l, ag1 g s e B = B) ∨ uns (agE g s l B) < uns B
  | [], B => .inl ⟨rfl, nofun⟩
  | e :: l, B => by
    unfold agE
    rcases ag1_or g s e B with h | h
    · rw [h]
      rcases agE_or g s l B with ⟨k1, k2⟩ | k
      · refine .inl ⟨k1, fun e' he => ?_⟩
        rcases List.mem_cons.1 he with rfl | he
        · exact h
        · exact k2 e' he
      · exact .inr k
    · rcases agE_or g s l (ag1 g s e B) with ⟨k1, -⟩ | k
      · rw [k1]
        exact .inr h
      · exact .inr (by omega)
theorem agR_fix {g : Gr} {s : Int} {B : List Bool} (h : agE g s g.e B = B) : ∀ k, agR g s k B = B
  | 0 => rfl
  | k + 1 => by
    unfold agR
    rw [h]
    exact agR_fix h k
theorem agR_end {g : Gr} {s : Int} : ∀ (k : Nat) (B : List Bool), uns B < k → ∀ e ∈ g.e, ag1 g s e (agR g s k B) = agR g s k B
  | 0, B, h => by omega
  | k + 1, B, h => by
    unfold agR
    rcases agE_or g s g.e B with ⟨k1, k2⟩ | h2
    · rw [k1, agR_fix k1]
      exact k2
    · exact agR_end k _ (by omega)
/-- Closed under the edges. -/
def Clo (g : Gr) (s : Int) (C : List Bool) : Prop := ∀ e ∈ g.e, Xp g s C e.f = true → atB C e.t.toNat = true
theorem ag9_clo {g : Gr} {s : Int} (hed : ∀ e ∈ g.e, 0 ≤ e.t ∧ e.t < g.n.length) : Clo g s (ag9 g s) := by
  intro e he hx
  have hend := agR_end (g := g) (s := s) (g.n.length + 1) (List.replicate g.n.length false) (by
    have := uns_len (List.replicate g.n.length false)
    rw [List.length_replicate] at this
    omega) e he
  have hlen := ag9_len g s
  unfold ag9 at hx hlen ⊢
  obtain ⟨C, hC⟩ : ∃ C, agR g s (g.n.length + 1) (List.replicate g.n.length false) = C := ⟨_, rfl⟩
  rw [hC] at hend hx hlen ⊢
  rw [ag1_eq, if_pos hx] at hend
  obtain ⟨t0, t1⟩ := hed e he
  unfold atB
  rw [← hend, List.getElem?_set_self (by omega)]
  rfl
theorem chF_app {P : List Int} : ∀ (f : Nat) (s : Int) (out : List Int), chF P f s out = chF P f s [] ++ out
  | 0, _, _ => rfl
  | f + 1, s, out => by
    unfold chF
    by_cases h : insB s P.length = true
    · rw [if_pos h, if_pos h, chF_app f (getI P s) (s :: out), chF_app f (getI P s) [s], List.append_assoc]
      rfl
    · rw [if_neg h, if_neg h]
      rfl
theorem unF_up {P : List Int} {s : Int} (hP : Par P) : ∀ (n : Nat) (p : Int) (f : Nat), p < n → n ≤ P.length → n ≤ f → unF P s f p = upA P (fun y => y == s) f p
  | 0, p, f, hp, _, _ => by
    cases f with
    | zero => rfl
    | succ f =>
      unfold unF upA
      rw [if_neg (by omega), if_neg fun h => absurd (insB_iff.1 h).1 (by omega)]
  | n + 1, p, 0, _, _, h => by omega
  | n + 1, p, f + 1, hp, hn, h => by
    unfold unF upA
    by_cases h0 : 0 ≤ p
    · have hpar := hP p h0 (by omega)
      rw [if_pos h0, if_pos (insB_iff.2 ⟨h0, by omega⟩), unF_up hP n (getI P p) f (by omega) (by omega) (by omega)]
      cases (p == s) <;> rfl
    · rw [if_neg h0, if_neg fun h => absurd (insB_iff.1 h).1 h0]
theorem und_aru {P : List Int} (hP : Par P) (hl : P.length ≤ 8) {o : Int} (h0 : 0 ≤ o) (h1 : o < P.length) (s : Int) : undB P s o = aruB (chS P o) s := by
  have hpar := hP o h0 h1
  have e0 : chS P o = if insB o P.length = true then chF P 9 (getI P o) [o] else [] := rfl
  have e1 : chS P o = chF P 9 (getI P o) [] ++ [o] := by rw [e0, if_pos (insB_iff.2 ⟨h0, h1⟩), chF_app]
  unfold undB aruB
  rw [e1, List.length_append, List.length_singleton, Nat.add_sub_cancel, List.take_append_of_le_length (Nat.le_refl _), List.take_length, chF_any, List.any_nil, Bool.or_false, unF_up hP o.toNat _ _ (by omega) (by omega) (by omega)]
  exact upA_any hP o.toNat _ _ _ (by omega) (by omega) (by omega)
def Sub (B C : List Bool) : Prop := ∀ i, atB B i = true → atB C i = true
section
variable {g : Gr} {s : Int} {C : List Bool}
theorem goE_sub {rec : Int → List Bool → List Bool} {frm : Int} (hC : Clo g s C) (hu : ∀ x : Int, undB g.p x s = aruB (chS g.p s) x) (hx : Xp g s C frm = true) (hr : ∀ t sn, Sub sn C → Xp g s C t = true → Sub (rec t sn) C) : ∀ (l : List Eg) (sn : List Bool), (∀ e ∈ l, e ∈ g.e) → Sub sn C → Sub (goE rec g s frm l sn) C
  | [], _, _, h => h
  | e :: l, sn, hl, h => by
    unfold goE
    split
    · exact goE_sub hC hu hx hr l sn (fun e he => hl e (List.mem_cons_of_mem _ he)) h
    · next hc =>
      rw [Bool.or_eq_true, not_or] at hc
      have hf : e.f = frm := by simpa using hc.1
      have ht : atB C e.t.toNat = true := hC e (hl e List.mem_cons_self) (by rw [hf]; exact hx)
      have h2 : Sub (sn.set e.t.toNat true) C := fun i hi => by
        rcases atB_set hi with rfl | hi
        · exact ht
        · exact h i hi
      refine goE_sub hC hu hx hr l _ (fun e he => hl e (List.mem_cons_of_mem _ he)) ?_
      split
      · next hk =>
        refine hr _ _ h2 ?_
        rw [hu] at hk
        unfold Xp
        rw [ht, hk, Bool.and_self, Bool.or_true]
      · exact h2
theorem rch_sub (hC : Clo g s C) (hu : ∀ x : Int, undB g.p x s = aruB (chS g.p s) x) : ∀ (n : Nat) (frm : Int) (sn : List Bool), Sub sn C → Xp g s C frm = true → Sub (rch g s n frm sn) C
  | 0, _, _, h, _ => h
  | n + 1, frm, sn, h, hx => goE_sub hC hu hx (rch_sub hC hu n) g.e sn (fun _ h => h) h
theorem goN_sub (hC : Clo g s C) (hu : ∀ x : Int, undB g.p x s = aruB (chS g.p s) x) : ∀ (l : List Nd) (i : Nat) (sn : List Bool), (∀ (j : Nat) x, l[j]? = some x → ndAt g ((i + j : Nat) : Int) = x) → Sub sn C → Sub (goN g s l i sn) C
  | [], _, _, _, h => h
  | x :: l, i, sn, hl, h => by
    unfold goN
    refine goN_sub hC hu l (i + 1) _ (fun j y hy => ?_) ?_
    · have := hl (j + 1) y (by simpa using hy)
      rwa [show i + 1 + j = i + (j + 1) by omega]
    · split
      · next hk =>
        refine rch_sub hC hu _ _ _ h ?_
        have := hl 0 x rfl
        rw [Nat.add_zero] at this
        unfold Xp
        rw [this, hk, Bool.true_or]
      · exact h
end
theorem ag_of {g : Gr} (hP : Par g.p) (hl : g.p.length ≤ 8) (hed : ∀ e ∈ g.e, 0 ≤ e.t ∧ e.t < g.n.length) {n : Int} (n0 : 0 ≤ n) (n1 : n < g.n.length) (hs : 0 ≤ (ndAt g n).s ∧ (ndAt g n).s < g.p.length) (h : r5 g n = 0) : agS g n = false := by
  unfold agS
  split
  · rfl
  next hk =>
  have hk : (ndAt g n).k = 10 := by simpa using hk
  unfold r5 at h
  rw [hk] at h
  have h0 : ((ag9 g (ndAt g n).s)[n.toNat]?).getD false = false := by
    cases hb : ((ag9 g (ndAt g n).s)[n.toNat]?).getD false
    · rfl
    · rw [hb] at h
      cases h
  cases hb : ((goN g (ndAt g n).s g.n 0 (List.replicate g.n.length false))[n.toNat]?).getD false
  · rfl
  · have := goN_sub (g := g) (s := (ndAt g n).s) (C := ag9 g (ndAt g n).s) (ag9_clo hed) (und_aru hP hl hs.1 hs.2) g.n 0 (List.replicate g.n.length false) (fun j x hx => by unfold ndAt; rw [Nat.zero_add, show ((j : Int)).toNat = j from rfl, hx]; rfl) (fun i hi => by
      unfold atB at hi
      rw [List.getElem?_replicate] at hi
      split at hi <;> cases hi) n.toNat hb
    unfold atB at this
    rw [h0] at this
    cases this
/-- What the reference lets run, valid lets run. -/
theorem ck_chk {g : Gr} (h : (ck9 g).1 = 0) : (chkS g).1 = 0 := by
  unfold ck9 at h
  split at h
  · exact absurd h (by decide)
  next h1 =>
  unfold ck1 at h
  obtain ⟨a1, h⟩ := orE_zero h
  split at h
  · exact absurd h (by decide)
  next h2 =>
  unfold ck2 at h
  obtain ⟨a2, h⟩ := orE_zero h
  unfold ck3 at h
  obtain ⟨a3, h⟩ := orE_zero h
  unfold ck4 at h
  obtain ⟨a4, h⟩ := orE_zero h
  unfold ck5 at h
  obtain ⟨a5, -⟩ := orE_zero h
  simp only [Bool.or_eq_true, decide_eq_true_eq, not_or, bne_iff_ne, ne_eq, Classical.not_not, beq_iff_eq] at h1 h2
  have hsc : ∀ j : Int, 0 ≤ j → j < g.p.length → sc9 g j = true := fun j j0 j1 => by
    have := fstF_ok a1 j j0 (by omega)
    unfold r1 at this
    split at this
    · assumption
    · cases this
  have hP := sc9_par hsc
  have hl : g.p.length ≤ 8 := by omega
  have hnd : ∀ j : Int, 0 ≤ j → j < g.n.length → 0 ≤ (ndAt g j).s ∧ (ndAt g j).s < g.p.length := fun j j0 j1 => nd9_ok (fstF_ok a2 j j0 (by omega))
  have heS : ∀ j : Int, 0 ≤ j → j < g.e.length → edS g j = 0 := fun j j0 j1 => by rw [← ed_eq]; exact fstF_ok a3 j j0 (by omega)
  have hed : ∀ e ∈ g.e, 0 ≤ e.t ∧ e.t < g.n.length := fun e he => by
    obtain ⟨i, hi⟩ := List.getElem?_of_mem he
    obtain ⟨i1, -⟩ := List.getElem?_eq_some_iff.1 hi
    have := (edS_ok (heS i (by omega) (by omega))).2
    rwa [show egAt g i = e by unfold egAt; rw [show ((i : Int)).toNat = i from rfl, hi]; rfl] at this
  unfold chkS
  rw [if_neg (by simp only [Bool.or_eq_true, decide_eq_true_eq, not_or, bne_iff_ne, ne_eq, Classical.not_not]; omega)]
  unfold chk1
  rw [orE_zero' (fst_zero fun j j0 j1 => by unfold f1; rw [if_pos (by rw [← sc9_eq hP hl j0 (by omega)]; exact hsc j j0 (by omega))]), if_neg (by simp only [Bool.or_eq_true, decide_eq_true_eq, not_or]; omega)]
  unfold chk2
  rw [orE_zero' (fst_zero fun j j0 j1 => by
    unfold f2
    rw [← nd_eq (fl_beh hP hl fun hn => hnd (j - 1) (by omega) (by omega))]
    exact fstF_ok a2 j j0 j1)]
  unfold chk3
  rw [orE_zero' (fst_zero fun j j0 j1 => heS j j0 (by omega))]
  unfold chk4
  rw [orE_zero' (fst_zero fun j j0 j1 => by
    unfold f4
    rw [if_pos (ful_of heS fun hc => ?_)]
    have := fstF_ok a4 j j0 j1
    unfold r4 at this
    rw [decide_eq_true hc] at this
    cases this)]
  unfold chk5
  rw [orE_zero' (fst_zero fun j j0 j1 => by
    unfold f5
    rw [ag_of hP hl hed j0 (by omega) (hnd j j0 (by omega)) (fstF_ok a5 j j0 j1)]
    rfl)]
end Go.Proofs.Ytkmgdejpdhlleaa.Va
