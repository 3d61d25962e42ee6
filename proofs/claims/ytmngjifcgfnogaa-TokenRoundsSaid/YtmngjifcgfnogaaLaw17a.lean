/- law 17: a visit in one contract; awake. -/
import Derived.Test.YtmngjifcgfnogaaTk5
import Derived.Test.YtmngjifcgfnogaaChN
namespace Go.Proofs.Ytmngjifcgfnogaa
set_option linter.unusedSimpArgs false
set_option linter.unusedVariables false
set_option maxRecDepth 100000
open Go.RowKit

noncomputable def visS (t : Tk) (u : Un) (m : List (List Tm)) (nw : Int) : Tk × Bool × List (List Tm) × Bool :=
  if rightK t t.l.length nw = false ∨ m.length ≠ t.l.length ∨ u.r.length ≠ t.l.length then (t, false, [], false)
  else if t.p = 0 then ((if t.a + 1 < nw then ⟨t.p, t.a + 1, t.c, t.w, t.l⟩ else ⟨1, 0, t.c, 0, emp t.l.length⟩), true, [], false)
  else if t.a + 1 < nw then (⟨t.p, t.a + 1, t.c, whiteS t u, cntAt t.l m u.r t.l.length⟩, false, [], false)
  else if whiteS t u ≠ 0 then (⟨t.p, 0, t.c, 0, emp t.l.length⟩, false, [], false)
  else (⟨0, 0, 1 - t.c, 0, emp t.l.length⟩, false, cntAt t.l m u.r t.l.length, true)
theorem visit_any {A : Nat → Prop} {w : World} {t : Tk} {u : Un} {m : List (List Tm)} {a ar am : Option Addr} {n c nr cr nm cm : Nat} (H : VisIn A w t u m a ar am n c nr cr nm cm) (nw : Int) (hs : ∀ i : Nat, (t.l.getD i []).length + (m.getD i []).length + (u.r.getD i []).length ≤ 1073741823)
    (t' : Tk) (d : Bool) (tells : List (List Tm)) (o : Bool) (hv : visS t u m nw = (t', d, tells, o)) :
    Calls Try.prog 15 #[t.agg (.slice a n c), u.agg (.slice ar nr cr), .slice am nm cm, .int .i64 nw] w (VisPost A w t' d tells o) := by
  unfold visS at hv
  by_cases h1 : rightK t t.l.length nw = false ∨ m.length ≠ t.l.length ∨ u.r.length ≠ t.l.length
  · rw [if_pos h1] at hv
    obtain ⟨rfl, rfl, rfl, rfl⟩ : t = t' ∧ false = d ∧ [] = tells ∧ false = o := by simpa using hv
    refine visit_no H nw ?_
    rw [H.el, H.em, H.er]
    exact h1
  · rw [if_neg h1] at hv
    have hr : rightK t n nw = true := by rw [H.el]; cases h : rightK t t.l.length nw with | false => exact absurd (.inl h) h1 | true => rfl
    obtain rfl : nm = n := by rw [H.em, H.el]; exact Classical.byContradiction fun h => h1 (.inr (.inl h))
    obtain rfl : nr = nm := by rw [H.er, H.el]; exact Classical.byContradiction fun h => h1 (.inr (.inr h))
    rw [← H.el] at hv
    by_cases hp : t.p = 0
    · rw [if_pos hp] at hv
      obtain ⟨rfl, rfl, rfl, rfl⟩ : _ = t' ∧ true = d ∧ [] = tells ∧ false = o := by simpa using hv
      exact visit_turn H nw hr hp
    · rw [if_neg hp] at hv
      have hp1 : t.p = 1 := by have := (rightK_in hr).1; omega
      refine visit_count H nw hr hp1 hs t' tells o ?_ |>.mono fun e w' h => ?_
      · by_cases hl : t.a + 1 < nw
        · rw [if_pos hl] at hv
          obtain ⟨rfl, -, rfl, rfl⟩ : _ = t' ∧ false = d ∧ [] = tells ∧ false = o := by simpa using hv
          exact .inl ⟨hl, rfl, rfl, rfl⟩
        · rw [if_neg hl] at hv
          by_cases hw : whiteS t u = 0
          · rw [if_neg (not_not_intro hw)] at hv
            obtain ⟨rfl, -, rfl, rfl⟩ : _ = t' ∧ false = d ∧ _ = tells ∧ true = o := by simpa using hv
            exact .inr (.inr ⟨hl, hw, rfl, rfl, rfl⟩)
          · rw [if_pos hw] at hv
            obtain ⟨rfl, -, rfl, rfl⟩ : _ = t' ∧ false = d ∧ [] = tells ∧ false = o := by simpa using hv
            exact .inr (.inl ⟨hl, hw, rfl, rfl, rfl⟩)
      · have : d = false := by
          split at hv
          · exact (Prod.mk.inj (Prod.mk.inj hv).2).1.symm
          · split at hv
            · exact (Prod.mk.inj (Prod.mk.inj hv).2).1.symm
            · exact (Prod.mk.inj (Prod.mk.inj hv).2).1.symm
        rw [this]
        exact h
def Un.zero (r : List (List Tm)) : Un := ⟨0, .slice none 0 0, 0, 0, 0, 0, 0, r, 0, 0⟩
theorem vis_a1 : visS ⟨0, 0, 0, 0, []⟩ (Un.zero []) [] 1 = (⟨1, 0, 0, 0, []⟩, true, [], false) := by
  unfold visS rightK Tk.bad Un.zero
  simp [emp]
theorem vis_a2 : visS ⟨1, 0, 0, 0, []⟩ (Un.zero []) [] 1 = (⟨0, 0, 1, 0, []⟩, false, [], true) := by
  unfold visS rightK Tk.bad Un.zero
  simp [emp, whiteS, pick, cntAt, wrap64]
set_option maxHeartbeats 8000000 in
theorem awake17 (w : World) : Calls Try.prog 10 #[] w fun r w' => r = .returned (.bool true) ∧ Ext w w' := by
  have NW := Lib.hid (fun W => new_any (w := W) 0 0 rfl (by decide))
  have VI := Lib.hid (fun (W : World) (p c : Int) (a : Option Addr) (k : Nat) (t' : Tk) (d : Bool) (tells : List (List Tm)) (o : Bool) (hv : visS ⟨p, 0, c, 0, []⟩ (Un.zero []) [] 1 = (t', d, tells, o)) => visit_any (A := noB) (w := W) (t := ⟨p, 0, c, 0, []⟩) (u := Un.zero []) (m := []) (a := a) (ar := none) (am := none) (n := 0) (c := k) (nr := 0) (cr := 0) (nm := 0) (cm := 0)
    ⟨Rs.nil _ _ _ _, Rs.nil _ _ _ _, Rs.nil _ _ _ _, ⟨none, 0, 0, rfl⟩, fun _ h => h.elim, rfl, rfl, rfl, by decide, fun l h => by cases h⟩ 1 (fun i => by simp [Un.zero]) t' d tells o hv)
  unfold Tk.agg Un.agg Un.zero VisPost at VI
  dsimp only at VI
  have V1 := Lib.hid (fun W a k => VI.out W 0 0 a k _ _ _ _ vis_a1)
  have V2 := Lib.hid (fun W a k => VI.out W 1 0 a k _ _ _ _ vis_a2)
  unfold Tk.agg at V1 V2
  dsimp only at V1 V2
  clear VI
  go_enter Try.func10, Try.ntmps10
  go_wp2_with (first  | (go_at_call 12; (with_reducible refine (NW.out _).mono ?_); rintro e w' ⟨g, -, rfl, ⟨x, rfl⟩, -⟩)  | (go_at_call 15; (with_reducible refine (V1.out _ _ _).mono ?_); rintro e w' ⟨a1, c1, a1', c1', rfl, ⟨x1, rfl⟩, -, -⟩)  | (go_at_call 15; (with_reducible refine (V2.out _ _ _).mono ?_); rintro e w' ⟨a2, c2, a2', c2', rfl, ⟨x2, rfl⟩, -, -⟩))
  go_returns
  exact ⟨retb rfl rfl, by (repeat' (first | with_reducible exact Ext.refl _ | with_reducible refine Ext.ext ?_ _ | with_reducible refine Ext.alloc ?_ _ | with_reducible refine Ext.drew ?_ | with_reducible refine Ext.drewN ?_ _ | with_reducible assumption))⟩
end Go.Proofs.Ytmngjifcgfnogaa
