/- Credit: what the functions of a lane answer, each by one Lean function. -/
import Derived.Test.YtgjolablgcnlmaaCr4
namespace Go.Proofs.Ytgjolablgcnlmaa
set_option linter.unusedSimpArgs false
set_option linter.unusedVariables false
open Go.RowKit

def rightN (l : Ln) : Bool := rightL l.s l.m l.b l.way.length l.waits.length
def mayN (l : Ln) (n none' : Int) : Int := mayL (rightN l) n none'
def sendN (l : Ln) (x : Int) : Ln := if mayN l l.m 9 = 0 then { l with m := l.m - 1, way := l.way ++ [x] } else l
def arriveN (l : Ln) : Ln := if mayN l l.way.length 12 = 0 then { l with way := l.way.tail, waits := l.waits ++ [l.way.headD 0] } else l
def takeN (l : Ln) : Ln := if mayN l l.waits.length 12 = 0 then { l with waits := l.waits.tail, b := l.b + 1 } else l
def tookN (l : Ln) : Int := if mayN l l.waits.length 12 = 0 then l.waits.headD 0 else 0
def returnN (l : Ln) : Ln := if mayN l l.b 12 = 0 then { l with m := l.m + l.b, b := 0 } else l

/-- How a lane lies. -/
def LaneV (w : World) (a1 : Option Addr) (c1 : Nat) (a2 : Option Addr) (c2 : Nat) (l : Ln) : Prop :=
  Ri w .i64 (.slice a1 l.way.length c1) l.way ∧ Ri w .i64 (.slice a2 l.waits.length c2) l.waits
def laneAt (a1 : Option Addr) (c1 : Nat) (a2 : Option Addr) (c2 : Nat) (l : Ln) : Value := .agg #[.int .i64 l.s, .int .i64 l.m, .slice a1 l.way.length c1, .slice a2 l.waits.length c2, .int .i64 l.b]
theorem LaneV.of_ext {w w' : World} {a1 : Option Addr} {c1 : Nat} {a2 : Option Addr} {c2 : Nat} {l : Ln} (h : LaneV w a1 c1 a2 c2 l) (hx : Ext w w') : LaneV w' a1 c1 a2 c2 l := ⟨h.1.of_ext hx, h.2.of_ext hx⟩
def LaneN (B : Nat) (a1 : Option Addr) (c1 : Nat) (a2 : Option Addr) (c2 : Nat) (l : Ln) : Prop := New B (.slice a1 l.way.length c1) ∧ New B (.slice a2 l.waits.length c2)
theorem LaneV.swap {W1 W2 : World} {x z : Inc} {B : Nat} {a1 : Option Addr} {c1 : Nat} {a2 : Option Addr} {c2 : Nat} {l : Ln} (h : LaneV (ext W1 x) a1 c1 a2 c2 l) (hn : LaneN B a1 c1 a2 c2 l) (hs : W1.heap.size = W2.heap.size) (hb : W1.heap.size ≤ B) (hz : z = x ∨ ∃ y, z = x.add y) : LaneV (ext W2 z) a1 c1 a2 c2 l :=
  ⟨ri_swap h.1 hn.1 hs hb hz, ri_swap h.2 hn.2 hs hb hz⟩
/-- A lane is handed back. -/
def Gives (w w' : World) (l : Ln) (f : Value → Prop) : Prop := ∃ a1 c1 a2 c2, f (laneAt a1 c1 a2 c2 l) ∧ Ext w w' ∧ LaneV w' a1 c1 a2 c2 l ∧ LaneN w.heap.size a1 c1 a2 c2 l
theorem gives_of {w w' : World} {v : Value} {s m b : Int} {xs ys : List Int} {f : Value → Prop} (h : LaneR w w' v s m b xs ys) (hf : f v) : Gives w w' ⟨s, m, b, xs, ys⟩ f := by
  obtain ⟨a1, c1, a2, c2, rfl, hx, h1, h2⟩ := h
  exact ⟨a1, c1, a2, c2, hf, hx, ⟨h1.1, h2.1⟩, h1.2, h2.2⟩

theorem may_yes {l : Ln} {n e : Int} (he : 1 ≤ e) (h : mayN l n e = 0) : rightN l = true ∧ 1 ≤ n := by
  unfold mayN mayL at h
  split at h
  · rename_i hr
    split at h
    · omega
    · exact ⟨hr, by omega⟩
  · omega

section
variable (l : Ln) (a1 a2 : Option Addr) (c1 c2 : Nat) (w : World) (h : LaneV w a1 c1 a2 c2 l) (l1 : l.way.length ≤ 1073741823) (l2 : l.waits.length ≤ 1073741823)
include h l1 l2

theorem send_any (x : Int) : Calls Try.prog 13 #[laneAt a1 c1 a2 c2 l, .int .i64 x] w fun e w' => Gives w w' (sendN l x) fun v => e = .returned (.tuple #[v, .int .i64 (mayN l l.m 9)]) := by
  obtain ⟨s, m, b, xs, ys⟩ := l
  by_cases he : mayN ⟨s, m, b, xs, ys⟩ m 9 = 0
  · obtain ⟨hr, hm⟩ := may_yes (by omega) he
    simp only [sendN, he, if_true]
    exact (crSend_yes s m b a1 a2 c1 c2 xs ys w h.1 h.2 l1 l2 x hr hm).mono fun e w' ⟨v, he, hl⟩ => gives_of hl he
  · simp only [sendN, he, if_false]
    exact (crSend_no s m b a1 a2 c1 c2 xs ys w h.1 h.2 (Nat.le_trans l1 (by decide)) (Nat.le_trans l2 (by decide)) x _ rfl he).mono fun e w' ⟨v, he, hl⟩ => gives_of hl he
theorem arrive_any : Calls Try.prog 14 #[laneAt a1 c1 a2 c2 l] w fun e w' => Gives w w' (arriveN l) fun v => e = .returned (.tuple #[v, .int .i64 (mayN l l.way.length 12)]) := by
  obtain ⟨s, m, b, xs, ys⟩ := l
  by_cases he : mayN ⟨s, m, b, xs, ys⟩ xs.length 12 = 0
  · obtain ⟨hr, hm⟩ := may_yes (by omega) he
    simp only [arriveN, he, if_true]
    cases xs with
    | nil => simp at hm
    | cons x xs' => exact (crArrive_yes s m b a1 a2 c1 c2 (x :: xs') ys w h.1 h.2 l1 l2 x xs' hr rfl).mono fun e w' ⟨v, he, hl⟩ => gives_of hl he
  · simp only [arriveN, he, if_false]
    exact (crArrive_no s m b a1 a2 c1 c2 xs ys w h.1 h.2 (Nat.le_trans l1 (by decide)) (Nat.le_trans l2 (by decide)) _ rfl he).mono fun e w' ⟨v, he, hl⟩ => gives_of hl he
theorem take_any : Calls Try.prog 15 #[laneAt a1 c1 a2 c2 l] w fun e w' => Gives w w' (takeN l) fun v => e = .returned (.tuple #[v, .int .i64 (tookN l), .int .i64 (mayN l l.waits.length 12)]) := by
  obtain ⟨s, m, b, xs, ys⟩ := l
  by_cases he : mayN ⟨s, m, b, xs, ys⟩ ys.length 12 = 0
  · obtain ⟨hr, hm⟩ := may_yes (by omega) he
    simp only [takeN, tookN, he, if_true]
    cases ys with
    | nil => simp at hm
    | cons y ys' => exact (crTake_yes s m b a1 a2 c1 c2 xs (y :: ys') w h.1 h.2 l1 l2 y ys' hr rfl).mono fun e w' ⟨v, he, hl⟩ => gives_of hl he
  · simp only [takeN, tookN, he, if_false]
    exact (crTake_no s m b a1 a2 c1 c2 xs ys w h.1 h.2 (Nat.le_trans l1 (by decide)) (Nat.le_trans l2 (by decide)) _ rfl he).mono fun e w' ⟨v, he, hl⟩ => gives_of hl he
theorem return_any : Calls Try.prog 16 #[laneAt a1 c1 a2 c2 l] w fun e w' => Gives w w' (returnN l) fun v => e = .returned (.tuple #[v, .int .i64 (mayN l l.b 12)]) := by
  obtain ⟨s, m, b, xs, ys⟩ := l
  by_cases he : mayN ⟨s, m, b, xs, ys⟩ b 12 = 0
  · obtain ⟨hr, hm⟩ := may_yes (by omega) he
    simp only [returnN, he, if_true]
    exact (crReturn_yes s m b a1 a2 c1 c2 xs ys w h.1 h.2 l1 l2 hr hm).mono fun e w' ⟨v, he, hl⟩ => gives_of hl he
  · simp only [returnN, he, if_false]
    exact (crReturn_no s m b a1 a2 c1 c2 xs ys w h.1 h.2 (Nat.le_trans l1 (by decide)) (Nat.le_trans l2 (by decide)) _ rfl he).mono fun e w' ⟨v, he, hl⟩ => gives_of hl he
end
theorem laneV_empty (w : World) (s m b : Int) : LaneV w none 0 none 0 ⟨s, m, b, [], []⟩ := ⟨Rd.nil _ _ _ _, Rd.nil _ _ _ _⟩

theorem lane_as {f : FuncId} {args : Array Value} {w : World} {l l' : Ln} {F G : Value → Ending → Prop} (h : Calls Try.prog f args w fun e w' => Gives w w' l fun v => F v e) (hl : l = l') (hg : ∀ v e, F v e → G v e) :
    Calls Try.prog f args w fun e w' => ∃ a1 c1 a2 c2, G (.agg #[.int .i64 l'.s, .int .i64 l'.m, .slice a1 l'.way.length c1, .slice a2 l'.waits.length c2, .int .i64 l'.b]) e ∧ Ext w w' ∧ LaneV w' a1 c1 a2 c2 l' ∧ LaneN w.heap.size a1 c1 a2 c2 l' := by
  subst hl
  exact h.mono fun e w' ⟨a1, c1, a2, c2, hf, hx, hv, hn⟩ => ⟨a1, c1, a2, c2, hg _ _ hf, hx, hv, hn⟩

set_option maxHeartbeats 1000000 in
theorem awake35 (w : World) : Calls Try.prog 8 #[] w fun r w' => r = .returned (.bool true) ∧ Ext w w' := by
  go_enter Try.func8, Try.ntmps8
  go_wp2_with (first | (go_at_call 9; refine (crNew_any _ _).mono ?_; rintro e w' ⟨rfl, x0, rfl⟩) | (go_at_call 13; apply stop_here))
  unfold Stop
  refine (lane_as (l' := ⟨1, 0, 0, [7], []⟩) (G := fun v e => e = .returned (.tuple #[v, .int .i64 0])) (send_any ⟨1, 1, 0, [], []⟩ none none 0 0 _ (laneV_empty _ _ _ _) (by decide) (by decide) 7) rfl (fun _ _ h => h)).mono ?_
  rintro e w' ⟨a1, c1, a2, c2, rfl, ⟨x1, rfl⟩, hl1⟩
  (try simp only [ext_ext, add_assoc, ext_drew, ext_drewN, drew_ext, drewN_ext] at hl1)
  have HL1 := Lib.hid hl1
  clear hl1
  go_wp2_with (first | (go_at_call 13; apply stop_here))
  unfold Stop
  refine (lane_as (l' := ⟨1, 0, 0, [7], []⟩) (G := fun v e => e = .returned (.tuple #[v, .int .i64 9])) (send_any ⟨1, 0, 0, [7], []⟩ a1 a2 c1 c2 _ (by first | exact HL1.out.1.swap HL1.out.2 (by simp) (by simp) (by first | exact .inl rfl | exact .inr ⟨_, rfl⟩ | exact .inr ⟨_, (add_assoc _ _ _).symm⟩) | exact LaneV.of_ext (HL1.out.1.swap HL1.out.2 (by simp) (by simp) (by first | exact .inl rfl | exact .inr ⟨_, rfl⟩ | exact .inr ⟨_, (add_assoc _ _ _).symm⟩)) (Ext.alloc (Ext.refl _) _)) (by decide) (by decide) 8) rfl (fun _ _ h => h)).mono ?_
  rintro e w' ⟨a1', c1', a2', c2', rfl, ⟨x2, rfl⟩, hl2⟩
  clear hl2
  go_wp2_with (first | (go_at_call 14; apply stop_here))
  unfold Stop
  refine (lane_as (l' := ⟨1, 0, 0, [], [7]⟩) (G := fun v e => e = .returned (.tuple #[v, .int .i64 0])) (arrive_any ⟨1, 0, 0, [7], []⟩ a1 a2 c1 c2 _ (by first | exact HL1.out.1.swap HL1.out.2 (by simp) (by simp) (by first | exact .inl rfl | exact .inr ⟨_, rfl⟩ | exact .inr ⟨_, (add_assoc _ _ _).symm⟩) | exact LaneV.of_ext (HL1.out.1.swap HL1.out.2 (by simp) (by simp) (by first | exact .inl rfl | exact .inr ⟨_, rfl⟩ | exact .inr ⟨_, (add_assoc _ _ _).symm⟩)) (Ext.alloc (Ext.refl _) _)) (by decide) (by decide)) rfl (fun _ _ h => h)).mono ?_
  rintro e w' ⟨a3, c3, a4, c4, rfl, ⟨x3, rfl⟩, hl3⟩
  (try simp only [ext_ext, add_assoc, ext_drew, ext_drewN, drew_ext, drewN_ext] at hl3)
  have HL3 := Lib.hid hl3
  clear hl3
  go_wp2_with (first | (go_at_call 15; apply stop_here))
  unfold Stop
  refine (lane_as (l' := ⟨1, 0, 1, [], []⟩) (G := fun v e => e = .returned (.tuple #[v, .int .i64 7, .int .i64 0])) (take_any ⟨1, 0, 0, [], [7]⟩ a3 a4 c3 c4 _ (by first | exact HL3.out.1.swap HL3.out.2 (by simp) (by simp) (by first | exact .inl rfl | exact .inr ⟨_, rfl⟩ | exact .inr ⟨_, (add_assoc _ _ _).symm⟩) | exact LaneV.of_ext (HL3.out.1.swap HL3.out.2 (by simp) (by simp) (by first | exact .inl rfl | exact .inr ⟨_, rfl⟩ | exact .inr ⟨_, (add_assoc _ _ _).symm⟩)) (Ext.alloc (Ext.refl _) _)) (by decide) (by decide)) rfl (fun _ _ h => h)).mono ?_
  rintro e w' ⟨a5, c5, a6, c6, rfl, ⟨x4, rfl⟩, hl4⟩
  clear hl4
  go_wp2
  go_returns
  exact ⟨retb rfl rfl, by (repeat' (first | with_reducible exact Ext.refl _ | with_reducible refine Ext.ext ?_ _ | with_reducible refine Ext.alloc ?_ _ | with_reducible refine Ext.drew ?_ | with_reducible refine Ext.drewN ?_ _ | with_reducible assumption))⟩
end Go.Proofs.Ytgjolablgcnlmaa
