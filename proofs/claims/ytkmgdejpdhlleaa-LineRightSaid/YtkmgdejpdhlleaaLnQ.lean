/- What a record hangs on, plain: what valid lets run the reference lets run; the reference's search. -/
import Derived.Test.YtkmgdejpdhlleaaPoQ
namespace Go.Proofs.Ytkmgdejpdhlleaa.Va
set_option linter.unusedSimpArgs false
set_option linter.unusedVariables false
set_option maxRecDepth 100000
open Go.RowKit

open Pa

theorem cnt_two {α : Type} {Q R : α → Bool} : ∀ {l : List α} {x y : α}, x ∈ l → y ∈ l → Q x = true → R x = true → Q y = true → R y = false → 2 ≤ l.countP Q
  | [], x, y, h, _, _, _, _, _ => by cases h
  | a :: l, x, y, hx, hy, qx, rx, qy, ry => by
    rw [List.countP_cons]
    have one : ∀ z, z ∈ l → Q z = true → 1 ≤ l.countP Q := fun z hz hq => List.countP_pos_iff.2 ⟨z, hz, hq⟩
    rcases List.mem_cons.1 hx with ex | hx
    · rcases List.mem_cons.1 hy with ey | hy
      · rw [ex] at rx
        rw [ey, rx] at ry
        cases ry
      · have := one y hy qy
        rw [← ex, if_pos qx]
        omega
    · rcases List.mem_cons.1 hy with ey | hy
      · have := one x hx qx
        rw [← ey, if_pos qy]
        omega
      · have := cnt_two (R := R) hx hy qx rx qy ry
        omega
theorem ful_get {l : List Eg} {n : Int} : ∀ (f : Nat) (p : Int), fulF l n f p = true → ∀ q : Int, p ≤ q → q < p + f → fedB l n q = true
  | 0, p, _, q, h1, h2 => by omega
  | f + 1, p, h, q, h1, h2 => by
    unfold fulF at h
    split at h
    · next h0 =>
      by_cases e : q = p
      · rw [e]; exact h0
      · exact ful_get f (p + 1) h q (by omega) (by omega)
    · cases h
theorem ful_cnt {g : Gr} {n : Int} (h : fulB g n (ndAt g n) = true) : ¬ cntE g.e n < portsI (ndAt g n).k := by
  unfold fulB at h
  obtain ⟨b0, b2⟩ := portsI_bd (ndAt g n).k
  obtain ⟨P, hP⟩ : ∃ P, portsI (ndAt g n).k = P := ⟨_, rfl⟩
  rw [hP] at h b0 b2 ⊢
  have hg := ful_get _ _ h
  have hex : ∀ q : Int, 0 ≤ q → q < P → ∃ e ∈ g.e, e.t = n ∧ e.p = q := fun q q0 q1 => by
    obtain ⟨e, he, hq⟩ := List.any_eq_true.1 (hg q (by omega) (by omega))
    rw [Bool.and_eq_true, beq_iff_eq, beq_iff_eq] at hq
    exact ⟨e, he, hq⟩
  unfold cntE
  have : P = 0 ∨ P = 1 ∨ P = 2 := by omega
  rcases this with rfl | rfl | rfl
  · omega
  · obtain ⟨e, he, ht, -⟩ := hex 0 (by decide) (by decide)
    have : 1 ≤ g.e.countP (fun e => e.t == n) := List.countP_pos_iff.2 ⟨e, he, by rw [ht]; simp⟩
    omega
  · obtain ⟨e, he, ht, hp⟩ := hex 0 (by decide) (by decide)
    obtain ⟨e', he', ht', hp'⟩ := hex 1 (by decide) (by decide)
    have := cnt_two (Q := fun e : Eg => e.t == n) (R := fun e : Eg => e.p == 0) he he' (by rw [ht]; simp) (by rw [hp]; rfl) (by rw [ht']; simp) (by rw [hp']; rfl)
    omega
theorem atB_up {B : List Bool} {k i : Nat} (h : atB B i = true) : atB (B.set k true) i = true := by
  unfold atB at h ⊢
  rw [List.getElem?_set]
  split
  · split
    · rfl
    · next e hk =>
      subst e
      rw [List.getElem?_eq_none (by omega)] at h
      cases h
  · exact h
theorem atB_self {B : List Bool} {k : Nat} (h : k < B.length) : atB (B.set k true) k = true := by
  unfold atB
  rw [List.getElem?_set_self h]
  rfl
/-- Does an operator that was come to give further? -/
def Ex (g : Gr) (s v : Int) : Bool := (ndAt g v).k != 12 || !undB g.p (ndAt g v).s s
/-- What a search from an operator makes of what was seen. -/
structure Srch (g : Gr) (s frm : Int) (sn sn' : List Bool) : Prop where
  len : sn'.length = sn.length
  le : uns sn' ≤ uns sn
  up : ∀ i, atB sn i = true → atB sn' i = true
  all : ∀ e ∈ g.e, e.f = frm → atB sn' e.t.toNat = true
  new : ∀ i : Nat, atB sn' i = true → atB sn i = false → Ex g s i = true → ∀ e ∈ g.e, e.f = (i : Int) → atB sn' e.t.toNat = true
section
variable {g : Gr} {s : Int}
theorem goE_srch {rec : Int → List Bool → List Bool} {frm : Int} {n : Nat} (hed : ∀ e ∈ g.e, 0 ≤ e.t ∧ e.t < g.n.length) (hr : ∀ t sn, sn.length = g.n.length → uns sn < n → Srch g s t sn (rec t sn)) : ∀ (l : List Eg) (sn : List Bool), (∀ e ∈ l, e ∈ g.e) → sn.length = g.n.length → uns sn ≤ n →
    (goE rec g s frm l sn).length = sn.length ∧ uns (goE rec g s frm l sn) ≤ uns sn ∧ (∀ i, atB sn i = true → atB (goE rec g s frm l sn) i = true) ∧ (∀ e ∈ l, e.f = frm → atB (goE rec g s frm l sn) e.t.toNat = true) ∧ (∀ i : Nat, atB (goE rec g s frm l sn) i = true → atB sn i = false → Ex g s i = true → ∀ e ∈ g.e, e.f = (i : Int) → atB (goE rec g s frm l sn) e.t.toNat = true)
  | [], sn, _, _, _ => ⟨rfl, Nat.le_refl _, fun _ h => h, nofun, fun i h1 h2 => by
    rw [show goE rec g s frm [] sn = sn from rfl, h2] at h1
    cases h1⟩
  | e :: l, sn, hl, hlen, hu => by
    have hle : ∀ e ∈ l, e ∈ g.e := fun x hx => hl x (List.mem_cons_of_mem _ hx)
    unfold goE
    split
    · next hc =>
      obtain ⟨a1, a2, a3, a4, a5⟩ := goE_srch hed hr l sn hle hlen hu
      refine ⟨a1, a2, a3, fun x hx hxf => ?_, a5⟩
      rcases List.mem_cons.1 hx with rfl | hx
      · rw [Bool.or_eq_true] at hc
        rcases hc with hc | hc
        · rw [bne_iff_ne] at hc
          exact absurd hxf hc
        · exact a3 _ hc
      · exact a4 x hx hxf
    · next hc =>
      rw [Bool.or_eq_true, not_or] at hc
      obtain ⟨t0, t1⟩ := hed e (hl e List.mem_cons_self)
      have htl : e.t.toNat < sn.length := by omega
      have hns : sn[e.t.toNat]? = some false := by
        have h2 := hc.2
        rw [List.getElem?_eq_getElem htl] at h2 ⊢
        cases hb : sn[e.t.toNat]
        · rfl
        · rw [hb] at h2
          exact absurd rfl h2
      have hus := uns_set hns
      have hsl : (sn.set e.t.toNat true).length = g.n.length := by rw [List.length_set]; exact hlen
      have hat := atB_self htl
      obtain ⟨S, hS⟩ : ∃ S, (if ((ndAt g e.t).k != 12 || !undB g.p (ndAt g e.t).s s) = true then rec e.t (sn.set e.t.toNat true) else sn.set e.t.toNat true) = S := ⟨_, rfl⟩
      rw [hS]
      have key : S.length = sn.length ∧ uns S ≤ uns (sn.set e.t.toNat true) ∧ (∀ i, atB (sn.set e.t.toNat true) i = true → atB S i = true) ∧ (∀ i : Nat, atB S i = true → atB sn i = false → Ex g s i = true → ∀ x ∈ g.e, x.f = (i : Int) → atB S x.t.toNat = true) := by
        split at hS
        · next hx =>
          obtain ⟨b1, b2, b3, b4, b5⟩ := hr e.t (sn.set e.t.toNat true) hsl (by omega)
          rw [hS] at b1 b2 b3 b4 b5
          refine ⟨b1.trans List.length_set, b2, b3, fun i h1 h2 h3 x hx hxf => ?_⟩
          by_cases e0 : i = e.t.toNat
          · exact b4 x hx (by omega)
          · refine b5 i h1 ?_ h3 x hx hxf
            cases hb : atB (sn.set e.t.toNat true) i
            · rfl
            · rcases atB_set hb with h | h
              · exact absurd h e0
              · rw [h] at h2
                cases h2
        · next hx =>
          subst hS
          refine ⟨List.length_set, Nat.le_refl _, fun _ h => h, fun i h1 h2 h3 x hx' hxf => ?_⟩
          rcases atB_set h1 with h | h
          · unfold Ex at h3
            rw [show ((i : Nat) : Int) = e.t by omega] at h3
            exact absurd h3 hx
          · rw [h] at h2
            cases h2
      obtain ⟨k1, k2, k3, k4⟩ := key
      obtain ⟨a1, a2, a3, a4, a5⟩ := goE_srch hed hr l S hle (k1.trans hlen) (by omega)
      refine ⟨a1.trans k1, by omega, fun i hi => a3 i (k3 i (atB_up hi)), fun x hx hxf => ?_, fun i h1 h2 h3 x hx hxf => ?_⟩
      · rcases List.mem_cons.1 hx with rfl | hx
        · exact a3 _ (k3 _ hat)
        · exact a4 x hx hxf
      · cases hb : atB S i
        · exact a5 i h1 hb h3 x hx hxf
        · exact a3 _ (k4 i hb h2 h3 x hx hxf)
theorem rch_srch (hed : ∀ e ∈ g.e, 0 ≤ e.t ∧ e.t < g.n.length) : ∀ (n : Nat) (frm : Int) (sn : List Bool), sn.length = g.n.length → uns sn < n → Srch g s frm sn (rch g s n frm sn)
  | 0, _, _, _, h => by omega
  | n + 1, frm, sn, hl, hu => by
    obtain ⟨a1, a2, a3, a4, a5⟩ := goE_srch (rec := rch g s n) (frm := frm) hed (rch_srch hed n) g.e sn (fun _ h => h) hl (by omega)
    exact ⟨a1, a2, a3, a4, a5⟩
theorem goN_srch (hed : ∀ e ∈ g.e, 0 ≤ e.t ∧ e.t < g.n.length) : ∀ (l : List Nd) (i : Nat) (sn : List Bool), (∀ (j : Nat) x, l[j]? = some x → ndAt g ((i + j : Nat) : Int) = x) → sn.length = g.n.length → uns sn ≤ g.n.length →
    (∀ k, atB sn k = true → atB (goN g s l i sn) k = true) ∧ (∀ (j : Nat) x, l[j]? = some x → (x.k == 11 && x.s == s) = true → ∀ e ∈ g.e, e.f = ((i + j : Nat) : Int) → atB (goN g s l i sn) e.t.toNat = true) ∧ (∀ k : Nat, atB (goN g s l i sn) k = true → atB sn k = false → Ex g s k = true → ∀ e ∈ g.e, e.f = (k : Int) → atB (goN g s l i sn) e.t.toNat = true)
  | [], i, sn, _, _, _ => ⟨fun _ h => h, fun j x h => by simp at h, fun k h1 h2 => by
    rw [show goN g s [] i sn = sn from rfl, h2] at h1
    cases h1⟩
  | x :: l, i, sn, hl, hlen, hu => by
    unfold goN
    obtain ⟨S, hS⟩ : ∃ S, (if (x.k == 11 && x.s == s) = true then rch g s (g.n.length + 1) i sn else sn) = S := ⟨_, rfl⟩
    rw [hS]
    have key : S.length = sn.length ∧ uns S ≤ uns sn ∧ (∀ k, atB sn k = true → atB S k = true) ∧ ((x.k == 11 && x.s == s) = true → ∀ e ∈ g.e, e.f = (i : Int) → atB S e.t.toNat = true) ∧ (∀ k : Nat, atB S k = true → atB sn k = false → Ex g s k = true → ∀ e ∈ g.e, e.f = (k : Int) → atB S e.t.toNat = true) := by
      split at hS
      · obtain ⟨b1, b2, b3, b4, b5⟩ := rch_srch (s := s) hed (g.n.length + 1) i sn hlen (by omega)
        rw [hS] at b1 b2 b3 b4 b5
        exact ⟨b1, b2, b3, fun _ => b4, b5⟩
      · next hx =>
        subst hS
        exact ⟨rfl, Nat.le_refl _, fun _ h => h, fun h => absurd h hx, fun k h1 h2 => by rw [h2] at h1; cases h1⟩
    obtain ⟨k1, k2, k3, k4, k5⟩ := key
    obtain ⟨a1, a2, a3⟩ := goN_srch hed l (i + 1) S (fun j y hy => by
      have := hl (j + 1) y (by simpa using hy)
      rwa [show i + 1 + j = i + (j + 1) by omega]) (k1.trans hlen) (by omega)
    refine ⟨fun k hk => a1 k (k3 k hk), fun j y hy hk e he hef => ?_, fun k h1 h2 h3 e he hef => ?_⟩
    · cases j with
      | zero =>
        obtain rfl : x = y := by simpa using hy
        exact a1 _ (k4 hk e he hef)
      | succ j => exact a2 j y (by simpa using hy) hk e he (by rw [hef]; congr 1; omega)
    · cases hb : atB S k
      · exact a3 k h1 hb h3 e he hef
      · exact a1 _ (k5 k hb h2 h3 e he hef)
theorem agR_sub {C : List Bool} (hC : Clo g s C) : ∀ (k : Nat) (B : List Bool), Sub B C → Sub (agR g s k B) C := by
  have hE : ∀ (l : List Eg) (B : List Bool), (∀ e ∈ l, e ∈ g.e) → Sub B C → Sub (agE g s l B) C := by
    intro l
    induction l with
    | nil => intro B _ h; exact h
    | cons e l ih =>
      intro B hl h
      unfold agE
      refine ih _ (fun x hx => hl x (List.mem_cons_of_mem _ hx)) ?_
      rw [ag1_eq]
      split
      · next hx =>
        intro i hi
        rcases atB_set hi with rfl | hi
        · refine hC e (hl e List.mem_cons_self) ?_
          unfold Xp at hx ⊢
          rw [Bool.or_eq_true, Bool.and_eq_true] at hx ⊢
          rcases hx with hx | hx
          · exact .inl (by simpa using hx)
          · rw [Bool.and_eq_true] at hx
            exact .inr (by rw [h _ hx.1, hx.2]; rfl)
        · exact h i hi
      · exact h
  intro k
  induction k with
  | zero => intro B h; exact h
  | succ k ih =>
    intro B h
    unfold agR
    exact ih _ (hE g.e B (fun _ h => h) h)
end
theorem ag_r5 {g : Gr} (hP : Par g.p) (hl : g.p.length ≤ 8) (hed : ∀ e ∈ g.e, (0 ≤ e.f ∧ e.f < g.n.length) ∧ (0 ≤ e.t ∧ e.t < g.n.length)) {n : Int} (hs : 0 ≤ (ndAt g n).s ∧ (ndAt g n).s < g.p.length) (h : agS g n = false) : r5 g n = 0 := by
  unfold r5
  by_cases hk : (ndAt g n).k = 10
  · unfold agS at h
    rw [hk, if_neg (by decide)] at h
    obtain ⟨s, hs'⟩ : ∃ s, (ndAt g n).s = s := ⟨_, rfl⟩
    rw [hs'] at h hs ⊢
    have hu := und_aru hP hl hs.1 hs.2
    have hz : ∀ i, atB (List.replicate g.n.length false) i = false := fun i => by
      unfold atB
      rw [List.getElem?_replicate]
      split <;> rfl
    obtain ⟨-, c2, c3⟩ := goN_srch (g := g) (s := s) (fun e he => (hed e he).2) g.n 0 (List.replicate g.n.length false) (fun j x hx => by unfold ndAt; rw [Nat.zero_add, show ((j : Int)).toNat = j from rfl, hx]; rfl) List.length_replicate (by
      have := uns_len (List.replicate g.n.length false)
      rwa [List.length_replicate] at this)
    obtain ⟨C, hC⟩ : ∃ C, goN g s g.n 0 (List.replicate g.n.length false) = C := ⟨_, rfl⟩
    rw [hC] at h c2 c3
    have hclo : Clo g s C := fun e he hx => by
      obtain ⟨⟨f0, f1⟩, -⟩ := hed e he
      have ef : ((e.f.toNat : Nat) : Int) = e.f := by omega
      unfold Xp at hx
      rw [Bool.or_eq_true] at hx
      rcases hx with hx | hx
      · exact c2 e.f.toNat (ndAt g e.f) (ndAt_of f0 f1) hx e he (by omega)
      · rw [Bool.and_eq_true] at hx
        refine c3 e.f.toNat hx.1 (hz _) ?_ e he (by omega)
        unfold Ex
        rw [ef, hu]
        exact hx.2
    have hsub := agR_sub hclo (g.n.length + 1) (List.replicate g.n.length false) (fun i hi => by rw [hz] at hi; cases hi)
    have : ((ag9 g s)[n.toNat]?).getD false = false := by
      cases hb : ((ag9 g s)[n.toNat]?).getD false
      · rfl
      · have := hsub n.toNat hb
        unfold atB at this
        rw [h] at this
        cases this
    rw [this, Bool.and_false]
    rfl
  · have : ((ndAt g n).k == 10) = false := by rw [beq_eq_false_iff_ne]; exact hk
    rw [this, Bool.false_and]
    rfl
/-- What valid lets run, the reference lets run. -/
theorem chk_ck {g : Gr} (h : (chkS g).1 = 0) : (ck9 g).1 = 0 := by
  have hk := chk_ok h
  have hP := hk.par
  have hl := hk.p8
  have h' := h
  unfold chkS at h
  split at h
  · exact absurd h (by decide)
  next h1 =>
  unfold chk1 at h
  obtain ⟨a1, h⟩ := orE_zero h
  split at h
  · exact absurd h (by decide)
  next h2 =>
  unfold chk2 at h
  obtain ⟨a2, h⟩ := orE_zero h
  unfold chk3 at h
  obtain ⟨a3, h⟩ := orE_zero h
  unfold chk4 at h
  obtain ⟨a4, h⟩ := orE_zero h
  unfold chk5 at h
  obtain ⟨a5, -⟩ := orE_zero h
  simp only [Bool.or_eq_true, decide_eq_true_eq, not_or, bne_iff_ne, ne_eq, Classical.not_not] at h1 h2
  have hnd : ∀ j : Int, 0 ≤ j → j < g.n.length → 0 ≤ (ndAt g j).s ∧ (ndAt g j).s < g.p.length := fun j j0 j1 => nod_sc (fstF_ok a2 j j0 (by omega))
  have hed : ∀ e ∈ g.e, (0 ≤ e.f ∧ e.f < g.n.length) ∧ (0 ≤ e.t ∧ e.t < g.n.length) := fun e he => by
    obtain ⟨i, hi⟩ := List.getElem?_of_mem he
    obtain ⟨i1, -⟩ := List.getElem?_eq_some_iff.1 hi
    have := edS_ok (hk.ed i (by omega) (by omega))
    rwa [show egAt g i = e by unfold egAt; rw [show ((i : Int)).toNat = i from rfl, hi]; rfl] at this
  unfold ck9
  rw [if_neg (by simp only [Bool.or_eq_true, decide_eq_true_eq, not_or, bne_iff_ne, ne_eq, Classical.not_not, beq_iff_eq]; omega)]
  unfold ck1
  rw [orE_zero' (fst_zero fun j j0 j1 => by unfold r1; rw [if_pos (by rw [sc9_eq hP hl j0 (by omega)]; exact hk.sc j j0 (by omega))]), if_neg (by simp only [Bool.or_eq_true, decide_eq_true_eq, not_or, beq_iff_eq]; omega)]
  unfold ck2
  rw [orE_zero' (fst_zero fun j j0 j1 => by
    unfold r2
    rw [nd_eq (fl_beh hP hl fun hn => hnd (j - 1) (by omega) (by omega))]
    exact hk.nd j j0 (by omega))]
  unfold ck3
  rw [orE_zero' (fst_zero fun j j0 j1 => by rw [ed_eq]; exact hk.ed j j0 (by omega))]
  unfold ck4
  rw [orE_zero' (fst_zero fun j j0 j1 => by
    have := fstF_ok a4 j j0 j1
    unfold f4 at this
    split at this
    · next hf =>
      unfold r4
      rw [decide_eq_false (ful_cnt hf)]
      rfl
    · cases this)]
  unfold ck5
  rw [orE_zero' (fst_zero fun j j0 j1 => by
    refine ag_r5 hP hl hed (hnd j j0 (by omega)) ?_
    have := fstF_ok a5 j j0 j1
    unfold f5 at this
    split at this
    · cases this
    · next hf => simpa using hf)]
open Pa

def ldE (rec : Int → List Bool → Bool × List Bool) (frm : Int) : List Eg → List Bool → Bool × List Bool
  | [], sn => (false, sn)
  | e :: l, sn => if (e.f == frm && !atB sn e.t.toNat) = true then (if (rec e.t sn).1 = true then (true, (rec e.t sn).2) else ldE rec frm l (rec e.t sn).2) else ldE rec frm l sn
def ldF (g : Gr) (to : Int) : Nat → Int → List Bool → Bool × List Bool
  | 0, _, sn => (false, sn)
  | n + 1, frm, sn => if (frm == to) = true then (true, sn) else ldE (ldF g to n) frm g.e (sn.set frm.toNat true)
/-- Do edges lead there? -/
def ldS (g : Gr) (frm to : Int) : Bool := (ldF g to (g.n.length + 1) frm (List.replicate g.n.length false)).1
theorem ldE_at {rec : Int → List Bool → Bool × List Bool} {g : Gr} {frm : Int} {j : Nat} {e : Eg} {sn : List Bool} (h : g.e[j]? = some e) : ldE rec frm (g.e.drop j) sn = if (e.f == frm && !atB sn e.t.toNat) = true then (if (rec e.t sn).1 = true then (true, (rec e.t sn).2) else ldE rec frm (g.e.drop (j + 1)) (rec e.t sn).2) else ldE rec frm (g.e.drop (j + 1)) sn := by
  obtain ⟨h1, h2⟩ := List.getElem?_eq_some_iff.1 h
  rw [List.drop_eq_getElem_cons h1, h2, ldE]
/-- Ways along so many edges. -/
inductive Pth (g : Gr) : Nat → Int → Int → Prop
  | nil (a : Int) : Pth g 0 a a
  | snoc {k : Nat} {a : Int} {e : Eg} (h : Pth g k a e.f) (he : e ∈ g.e) : Pth g (k + 1) a e.t
theorem Pth.cons {g : Gr} {e : Eg} (he : e ∈ g.e) {k : Nat} {a b : Int} (h : Pth g k a b) : a = e.t → Pth g (k + 1) e.f b := by
  induction h with
  | nil a => intro h; rw [h]; exact (Pth.nil e.f).snoc he
  | snoc h he' ih => intro hf; exact (ih hf).snoc he'
theorem ld_path {g : Gr} {to : Int} : ∀ (n : Nat) (frm : Int) (sn : List Bool), (ldF g to n frm sn).1 = true → ∃ k, k ≤ n ∧ Pth g k frm to
  | 0, _, _, h => by cases h
  | n + 1, frm, sn, h => by
    unfold ldF at h
    by_cases e : frm = to
    · rw [e]
      exact ⟨0, Nat.zero_le _, .nil _⟩
    · rw [if_neg (by rw [beq_iff_eq]; exact e)] at h
      have key : ∀ (l : List Eg) (sn : List Bool), (∀ e ∈ l, e ∈ g.e) → (ldE (ldF g to n) frm l sn).1 = true → ∃ k, k ≤ n + 1 ∧ Pth g k frm to := by
        intro l
        induction l with
        | nil => intro sn _ h; cases h
        | cons e l ih =>
          intro sn hl h
          unfold ldE at h
          split at h
          · next hc =>
            rw [Bool.and_eq_true, beq_iff_eq] at hc
            split at h
            · next hr =>
              obtain ⟨k, hk, hp⟩ := ld_path n e.t sn hr
              rw [← hc.1]
              exact ⟨k + 1, by omega, hp.cons (hl e List.mem_cons_self) rfl⟩
            · exact ih _ (fun x hx => hl x (List.mem_cons_of_mem _ hx)) h
          · exact ih _ (fun x hx => hl x (List.mem_cons_of_mem _ hx)) h
      exact key g.e _ (fun _ h => h) h
/-- What a search that finds nothing has seen. -/
structure Ldd (g : Gr) (to : Int) (sn sn' : List Bool) : Prop where
  len : sn'.length = sn.length
  le : uns sn' ≤ uns sn
  up : ∀ i, atB sn i = true → atB sn' i = true
  new : ∀ i : Nat, atB sn' i = true → atB sn i = false → (i : Int) ≠ to ∧ ∀ e ∈ g.e, e.f = (i : Int) → atB sn' e.t.toNat = true
theorem at_false {sn : List Bool} {k : Nat} (hk : k < sn.length) (h : atB sn k = false) : sn[k]? = some false := by
  unfold atB at h
  rw [List.getElem?_eq_getElem hk] at h ⊢
  rw [Option.getD_some] at h
  rw [h]
theorem ld_len {g : Gr} {to : Int} : ∀ (n : Nat) (frm : Int) (sn : List Bool), (ldF g to n frm sn).2.length = sn.length ∧ uns (ldF g to n frm sn).2 ≤ uns sn
  | 0, _, _ => ⟨rfl, Nat.le_refl _⟩
  | n + 1, frm, sn => by
    unfold ldF
    split
    · exact ⟨rfl, Nat.le_refl _⟩
    · have key : ∀ (l : List Eg) (sn : List Bool), (ldE (ldF g to n) frm l sn).2.length = sn.length ∧ uns (ldE (ldF g to n) frm l sn).2 ≤ uns sn := by
        intro l
        induction l with
        | nil => intro sn; exact ⟨rfl, Nat.le_refl _⟩
        | cons e l ih =>
          intro sn
          unfold ldE
          obtain ⟨h1, h2⟩ := ld_len (g := g) (to := to) n e.t sn
          split
          · split
            · exact ⟨h1, h2⟩
            · obtain ⟨i1, i2⟩ := ih (ldF g to n e.t sn).2
              exact ⟨i1.trans h1, Nat.le_trans i2 h2⟩
          · exact ih sn
      obtain ⟨k1, k2⟩ := key g.e (sn.set frm.toNat true)
      exact ⟨k1.trans List.length_set, Nat.le_trans k2 (uns_le _ _)⟩
theorem ld_no {g : Gr} {to : Int} (hed : ∀ e ∈ g.e, 0 ≤ e.t ∧ e.t < g.n.length) : ∀ (n : Nat) (frm : Int) (sn : List Bool), 0 ≤ frm → frm < g.n.length → sn.length = g.n.length → atB sn frm.toNat = false → uns sn ≤ n → (ldF g to n frm sn).1 = false → Ldd g to sn (ldF g to n frm sn).2 ∧ atB (ldF g to n frm sn).2 frm.toNat = true
  | 0, frm, sn, f0, f1, hl, hf, hu, _ => by
    have := uns_set (at_false (by omega) hf)
    omega
  | n + 1, frm, sn, f0, f1, hl, hf, hu, h => by
    have hus := uns_set (at_false (by omega) hf)
    unfold ldF at h ⊢
    by_cases e : frm = to
    · rw [if_pos (by rw [beq_iff_eq]; exact e)] at h
      cases h
    rw [if_neg (by rw [beq_iff_eq]; exact e)] at h ⊢
    have key : ∀ (l : List Eg) (sn : List Bool), (∀ e ∈ l, e ∈ g.e) → sn.length = g.n.length → uns sn ≤ n → (ldE (ldF g to n) frm l sn).1 = false → Ldd g to sn (ldE (ldF g to n) frm l sn).2 ∧ ∀ e ∈ l, e.f = frm → atB (ldE (ldF g to n) frm l sn).2 e.t.toNat = true := by
      intro l
      induction l with
      | nil =>
        intro sn _ _ _ _
        exact ⟨⟨rfl, Nat.le_refl _, fun _ h => h, fun i h1 h2 => by
          rw [show (ldE (ldF g to n) frm [] sn).2 = sn from rfl, h2] at h1
          cases h1⟩, nofun⟩
      | cons x l ih =>
        intro sn hle hlen hu h
        have hle' : ∀ e ∈ l, e ∈ g.e := fun y hy => hle y (List.mem_cons_of_mem _ hy)
        unfold ldE at h ⊢
        split at h
        · next hc =>
          rw [if_pos hc]
          rw [Bool.and_eq_true, Bool.not_eq_true'] at hc
          obtain ⟨t0, t1⟩ := hed x (hle x List.mem_cons_self)
          split at h
          · cases h
          · next hr =>
            rw [if_neg hr]
            obtain ⟨⟨a1, a2, a3, a4⟩, a5⟩ := ld_no hed n x.t sn t0 t1 hlen hc.2 hu (by simpa using hr)
            obtain ⟨⟨b1, b2, b3, b4⟩, b5⟩ := ih _ hle' (a1.trans hlen) (by omega) h
            refine ⟨⟨b1.trans a1, by omega, fun i hi => b3 i (a3 i hi), fun i h1 h2 => ?_⟩, fun y hy hyf => ?_⟩
            · cases hb : atB (ldF g to n x.t sn).2 i
              · exact b4 i h1 hb
              · obtain ⟨k1, k2⟩ := a4 i hb h2
                exact ⟨k1, fun e he hef => b3 _ (k2 e he hef)⟩
            · rcases List.mem_cons.1 hy with rfl | hy
              · exact b3 _ a5
              · exact b5 y hy hyf
        · next hc =>
          rw [if_neg hc]
          obtain ⟨b1, b5⟩ := ih sn hle' hlen hu h
          refine ⟨b1, fun y hy hyf => ?_⟩
          rcases List.mem_cons.1 hy with rfl | hy
          · rw [hyf] at hc
            refine b1.up _ ?_
            cases hb : atB sn y.t.toNat
            · rw [hb] at hc
              simp at hc
            · rfl
          · exact b5 y hy hyf
    obtain ⟨⟨a1, a2, a3, a4⟩, a5⟩ := key g.e (sn.set frm.toNat true) (fun _ h => h) (by rw [List.length_set]; exact hl) (by omega) h
    have hself := a3 frm.toNat (atB_self (by omega))
    refine ⟨⟨a1.trans List.length_set, by omega, fun i hi => a3 i (atB_up hi), fun i h1 h2 => ?_⟩, hself⟩
    by_cases ei : i = frm.toNat
    · subst ei
      have hi : ((frm.toNat : Nat) : Int) = frm := by omega
      rw [hi]
      exact ⟨e, a5⟩
    · refine a4 i h1 ?_
      cases hb : atB (sn.set frm.toNat true) i
      · rfl
      · rcases atB_set hb with h | h
        · exact absurd h ei
        · rw [h] at h2
          cases h2
/-- The search finds just where edges lead. -/
theorem ld_iff {g : Gr} {frm to : Int} (hed : ∀ e ∈ g.e, (0 ≤ e.f ∧ e.f < g.n.length) ∧ (0 ≤ e.t ∧ e.t < g.n.length)) (f0 : 0 ≤ frm) (f1 : frm < g.n.length) : (ldS g frm to = true → ∃ k, k ≤ g.n.length + 1 ∧ Pth g k frm to) ∧ ((∃ k, Pth g k frm to) → ldS g frm to = true) := by
  refine ⟨ld_path _ _ _, fun ⟨k, hp⟩ => ?_⟩
  cases hb : ldS g frm to
  · have hz : ∀ i, atB (List.replicate g.n.length false) i = false := fun i => by
      unfold atB
      rw [List.getElem?_replicate]
      split <;> rfl
    have hul : uns (List.replicate g.n.length false) ≤ g.n.length + 1 := by
      have := uns_len (List.replicate g.n.length false)
      rw [List.length_replicate] at this
      omega
    obtain ⟨⟨-, -, -, a4⟩, a5⟩ := ld_no (fun e he => (hed e he).2) (g.n.length + 1) frm (List.replicate g.n.length false) f0 f1 List.length_replicate (hz _) hul hb
    have key : ∀ k b, Pth g k frm b → (0 ≤ b ∧ b < g.n.length) ∧ atB (ldF g to (g.n.length + 1) frm (List.replicate g.n.length false)).2 b.toNat = true := by
      intro k b h
      generalize ha : frm = a at h
      induction h with
      | nil a =>
        subst ha
        exact ⟨⟨f0, f1⟩, a5⟩
      | @snoc k a e h he ih =>
        obtain ⟨⟨i0, i1⟩, i2⟩ := ih ha
        have ef : ((e.f.toNat : Nat) : Int) = e.f := by omega
        subst ha
        exact ⟨(hed e he).2, (a4 e.f.toNat i2 (hz _)).2 e he (by omega)⟩
    obtain ⟨⟨i0, i1⟩, i2⟩ := key k to hp
    exact absurd (show ((to.toNat : Nat) : Int) = to by omega) (a4 to.toNat i2 (hz _)).1
  · rfl
end Go.Proofs.Ytkmgdejpdhlleaa.Va
