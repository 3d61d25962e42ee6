/- Prog: pop of one and of two; moves. -/
import Derived.Test.YtddckdlkopohhaaPr1
namespace Go.Proofs.Ytddckdlkopohhaa
set_option linter.unusedSimpArgs false
set_option linter.unusedVariables false
open Go.RowKit

section
variable (W : World) (S : List (Nat × Obj)) (k v p bad : Int) (t : List Int) (o : List (Int × Int)) (w : World)
theorem pop_one (a : Int) (h8 : t.length + 1 ≤ 8) (h : Mach W S ⟨k, v, a :: t, o, p, bad⟩ w) :
    Calls Try.prog 21 #[.pointer (some ⟨W.heap.size, 0, none⟩), .int .i64 1] w fun e w' => ∃ g f, e = .returned (.slice (some ⟨g, f, none⟩) 1 1) ∧ Mach W S ⟨k, v, t, o, p, bad⟩ w' ∧ (∀ u, (ext w' u).cell? ⟨g, f, none⟩ = some (.int .i64 a)) ∧ w'.cell? ⟨g, f, none⟩ = some (.int .i64 a) := by
  refine (pop_yes W S k v p bad t [a] o w 1 t.length (by decide) rfl rfl h8 h).mono ?_
  rintro e w' ⟨g, rfl, h1, h2⟩
  have h3 : w'.cell? ⟨g, t.length, none⟩ = some (.int .i64 a) := by simpa using h2 0 a rfl
  exact ⟨g, t.length, rfl, h1, fun u => by rw [cell_ext_a _ _ _ (World.block_lt_of_cell? _ _ h3), h3], h3⟩
theorem pop_two (a b : Int) (h8 : t.length + 2 ≤ 8) (h : Mach W S ⟨k, v, b :: a :: t, o, p, bad⟩ w) :
    Calls Try.prog 21 #[.pointer (some ⟨W.heap.size, 0, none⟩), .int .i64 2] w fun e w' => ∃ g f, e = .returned (.slice (some ⟨g, f, none⟩) 2 2) ∧ Mach W S ⟨k, v, t, o, p, bad⟩ w' ∧ (∀ u, (ext w' u).cell? ⟨g, f, none⟩ = some (.int .i64 a)) ∧ (∀ u, (ext w' u).cell? ⟨g, f + 1, none⟩ = some (.int .i64 b)) := by
  refine (pop_yes W S k v p bad t [b, a] o w 2 t.length (by decide) rfl rfl h8 h).mono ?_
  rintro e w' ⟨g, rfl, h1, h2⟩
  have h3 : w'.cell? ⟨g, t.length, none⟩ = some (.int .i64 a) := by simpa using h2 0 a rfl
  have h4 : w'.cell? ⟨g, t.length + 1, none⟩ = some (.int .i64 b) := by simpa using h2 1 b rfl
  exact ⟨g, t.length, rfl, h1, fun u => by rw [cell_ext_a _ _ _ (World.block_lt_of_cell? _ _ h3), h3], fun u => by rw [cell_ext_a _ _ _ (World.block_lt_of_cell? _ _ h4), h4]⟩
end

/-- What the instructions that move numbers make of a machine. -/
def movesS (op n : Int) (m : Mc) : Mc :=
  if op = 1 then pushS m n
  else if op = 2 then pushS m m.k
  else if op = 3 then pushS m m.v
  else if op = 11 then match m.s with
    | a :: t => pushS (pushS { m with s := t } a) a
    | [] => { m with bad := 1 }
  else if op = 12 then match m.s with
    | b :: a :: t => pushS (pushS { m with s := t } b) a
    | _ => { m with bad := 1 }
  else if op = 13 then match m.s with
    | _ :: t => { m with s := t }
    | [] => { m with bad := 1 }
  else m
def isMove (op : Int) : Bool := decide (op = 1 ∨ op = 2 ∨ op = 3 ∨ op = 11 ∨ op = 12 ∨ op = 13)
theorem pushS_len {m : Mc} (h : m.s.length ≤ 8) (n : Int) : (pushS m n).s.length ≤ 8 := by
  unfold pushS
  split
  · exact h
  · simp; omega

theorem moves_push (W : World) (S : List (Nat × Obj)) (m : Mc) (w : World) (h : Mach W S m w) (hl : m.s.length ≤ 8) (op n : Int) (ho : op = 1 ∨ op = 2 ∨ op = 3) :
    Calls Try.prog 20 #[.pointer (some ⟨W.heap.size, 0, none⟩), .agg #[.int .i64 op, .int .i64 n]] w fun e w' => e = .returned (.bool (isMove op)) ∧ Mach W S (movesS op n m) w' := by
  obtain ⟨k, v, s, o, p, bad⟩ := m
  have H := Lib.hid h
  have HL := Lib.hid hl
  obtain ⟨vs, vo, x, rfl, -, -, -, -⟩ := h
  dsimp only [mbox] at H ⊢
  clear hl
  rcases ho with rfl | rfl | rfl
  all_goals
    go_enter Try.func20, Try.ntmps20
    go_wp2_with (go_at_call 23; refine (push_any W S ⟨k, v, s, o, p, bad⟩ _ (H.out.of_ext (by (repeat' (first | with_reducible exact Ext.refl _ | with_reducible refine Ext.ext ?_ _ | with_reducible refine Ext.alloc ?_ _ | with_reducible refine Ext.drew ?_ | with_reducible refine Ext.drewN ?_ _ | with_reducible assumption)))) HL.out _).mono ?_; rintro r w' ⟨⟨u, rfl⟩, hm⟩; have HM := Lib.hid hm; clear hm)
    go_returns
    exact ⟨retb rfl rfl, HM.out⟩
theorem moves_no (W : World) (S : List (Nat × Obj)) (m : Mc) (w : World) (h : Mach W S m w) (hl : m.s.length ≤ 8) (op n : Int) (ho : isMove op = false) :
    Calls Try.prog 20 #[.pointer (some ⟨W.heap.size, 0, none⟩), .agg #[.int .i64 op, .int .i64 n]] w fun e w' => e = .returned (.bool (isMove op)) ∧ Mach W S (movesS op n m) w' := by
  have hm : movesS op n m = m := by
    unfold movesS
    simp only [isMove, decide_eq_false_iff_not] at ho
    repeat (rw [if_neg (by omega)])
  rw [hm, ho]
  simp only [isMove, decide_eq_false_iff_not, not_or] at ho
  obtain ⟨o1, o2, o3, o4, o5, o6⟩ := ho
  have p1 : (op == 1) = false := by simp [o1]
  have p2 : (op == 2) = false := by simp [o2]
  have p3 : (op == 3) = false := by simp [o3]
  have p4 : (op == 11) = false := by simp [o4]
  have p5 : (op == 12) = false := by simp [o5]
  have p6 : (op == 13) = false := by simp [o6]
  have H := Lib.hid h
  clear h hl hm o1 o2 o3 o4 o5 o6
  go_enter Try.func20, Try.ntmps20
  go_wp2
  go_returns
  exact ⟨retb rfl rfl, H.out.of_ext (by (repeat' (first | with_reducible exact Ext.refl _ | with_reducible refine Ext.ext ?_ _ | with_reducible refine Ext.alloc ?_ _ | with_reducible refine Ext.drew ?_ | with_reducible refine Ext.drewN ?_ _ | with_reducible assumption)))⟩
theorem moves_drop (W : World) (S : List (Nat × Obj)) (m : Mc) (w : World) (h : Mach W S m w) (hl : m.s.length ≤ 8) (n : Int) :
    Calls Try.prog 20 #[.pointer (some ⟨W.heap.size, 0, none⟩), .agg #[.int .i64 13, .int .i64 n]] w fun e w' => e = .returned (.bool true) ∧ Mach W S (movesS 13 n m) w' := by
  obtain ⟨k, v, s, o, p, bad⟩ := m
  have H := Lib.hid h
  have HL := Lib.hid hl
  clear hl h
  cases s with
  | nil =>
    go_enter Try.func20, Try.ntmps20
    go_wp2_with (go_at_call 21; refine (pop_no W S ⟨k, v, [], o, p, bad⟩ _ (H.out.of_ext (by (repeat' (first | with_reducible exact Ext.refl _ | with_reducible refine Ext.ext ?_ _ | with_reducible refine Ext.alloc ?_ _ | with_reducible refine Ext.drew ?_ | with_reducible refine Ext.drewN ?_ _ | with_reducible assumption)))) 1 (by decide) (by simp)).mono ?_; rintro r w' ⟨rfl, hm⟩; have HM := Lib.hid hm; clear hm)
    go_returns
    exact ⟨retb rfl rfl, HM.out⟩
  | cons a t =>
    go_enter Try.func20, Try.ntmps20
    go_wp2_with (go_at_call 21; refine (pop_one W S k v p bad t o _ a HL.out (H.out.of_ext (by (repeat' (first | with_reducible exact Ext.refl _ | with_reducible refine Ext.ext ?_ _ | with_reducible refine Ext.alloc ?_ _ | with_reducible refine Ext.drew ?_ | with_reducible refine Ext.drewN ?_ _ | with_reducible assumption))))).mono ?_; rintro r w' ⟨g, f, rfl, hm, -, -⟩; have HM := Lib.hid hm; clear hm)
    go_returns
    exact ⟨retb rfl rfl, HM.out⟩
theorem moves_dup (W : World) (S : List (Nat × Obj)) (m : Mc) (w : World) (h : Mach W S m w) (hl : m.s.length ≤ 8) (n : Int) :
    Calls Try.prog 20 #[.pointer (some ⟨W.heap.size, 0, none⟩), .agg #[.int .i64 11, .int .i64 n]] w fun e w' => e = .returned (.bool true) ∧ Mach W S (movesS 11 n m) w' := by
  obtain ⟨k, v, s, o, p, bad⟩ := m
  have H := Lib.hid h
  have HL := Lib.hid hl
  clear hl h
  cases s with
  | nil =>
    go_enter Try.func20, Try.ntmps20
    go_wp2_with (go_at_call 21; refine (pop_no W S ⟨k, v, [], o, p, bad⟩ _ (H.out.of_ext (by (repeat' (first | with_reducible exact Ext.refl _ | with_reducible refine Ext.ext ?_ _ | with_reducible refine Ext.alloc ?_ _ | with_reducible refine Ext.drew ?_ | with_reducible refine Ext.drewN ?_ _ | with_reducible assumption)))) 1 (by decide) (by simp)).mono ?_; rintro r w' ⟨rfl, hm⟩; have HM := Lib.hid hm; clear hm)
    go_returns
    exact ⟨retb rfl rfl, HM.out⟩
  | cons a t =>
    have h1 : t.length ≤ 8 := by have := HL.out; simp at this; omega
    have HL1 := Lib.hid h1
    clear h1
    go_enter Try.func20, Try.ntmps20
    go_wp2_with (first | (go_at_call 21; refine (pop_one W S k v p bad t o _ a HL.out (H.out.of_ext (by (repeat' (first | with_reducible exact Ext.refl _ | with_reducible refine Ext.ext ?_ _ | with_reducible refine Ext.alloc ?_ _ | with_reducible refine Ext.drew ?_ | with_reducible refine Ext.drewN ?_ _ | with_reducible assumption))))).mono ?_; rintro r w' ⟨g, f, rfl, hm, -, hc⟩; have HM := Lib.hid hm; clear hm) | (go_at_call 23; refine (push_any W S ⟨k, v, t, o, p, bad⟩ _ (HM.out.of_ext (by (repeat' (first | with_reducible exact Ext.refl _ | with_reducible refine Ext.ext ?_ _ | with_reducible refine Ext.alloc ?_ _ | with_reducible refine Ext.drew ?_ | with_reducible refine Ext.drewN ?_ _ | with_reducible assumption)))) HL1.out a).mono ?_; rintro r w' ⟨⟨u, rfl⟩, hm⟩; have HM1 := Lib.hid hm; clear hm HM) | (go_at_call 23; refine (push_any W S _ _ (HM1.out.of_ext (by (repeat' (first | with_reducible exact Ext.refl _ | with_reducible refine Ext.ext ?_ _ | with_reducible refine Ext.alloc ?_ _ | with_reducible refine Ext.drew ?_ | with_reducible refine Ext.drewN ?_ _ | with_reducible assumption)))) (pushS_len HL1.out a) a).mono ?_; rintro r w' ⟨⟨u, rfl⟩, hm⟩; have HM2 := Lib.hid hm; clear hm HM1))
    go_returns
    exact ⟨retb rfl rfl, HM2.out⟩
theorem moves_swap (W : World) (S : List (Nat × Obj)) (m : Mc) (w : World) (h : Mach W S m w) (hl : m.s.length ≤ 8) (n : Int) :
    Calls Try.prog 20 #[.pointer (some ⟨W.heap.size, 0, none⟩), .agg #[.int .i64 12, .int .i64 n]] w fun e w' => e = .returned (.bool true) ∧ Mach W S (movesS 12 n m) w' := by
  obtain ⟨k, v, s, o, p, bad⟩ := m
  have H := Lib.hid h
  have HL := Lib.hid hl
  clear hl h
  have no : s.length < 2 → Calls Try.prog 20 #[.pointer (some ⟨W.heap.size, 0, none⟩), .agg #[.int .i64 12, .int .i64 n]] w fun e w' => e = .returned (.bool true) ∧ Mach W S ⟨k, v, s, o, p, 1⟩ w' := by
    intro h2
    have H2 := Lib.hid h2
    clear h2
    go_enter Try.func20, Try.ntmps20
    go_wp2_with (go_at_call 21; refine (pop_no W S ⟨k, v, s, o, p, bad⟩ _ (H.out.of_ext (by (repeat' (first | with_reducible exact Ext.refl _ | with_reducible refine Ext.ext ?_ _ | with_reducible refine Ext.alloc ?_ _ | with_reducible refine Ext.drew ?_ | with_reducible refine Ext.drewN ?_ _ | with_reducible assumption)))) 2 (by decide) H2.out).mono ?_; rintro r w' ⟨rfl, hm⟩; have HM := Lib.hid hm; clear hm)
    go_returns
    exact ⟨retb rfl rfl, HM.out⟩
  cases s with
  | nil => exact no (by simp)
  | cons b s =>
  cases s with
  | nil => exact no (by simp)
  | cons a t =>
    clear no
    have h1 : t.length ≤ 8 := by have := HL.out; simp at this; omega
    have HL1 := Lib.hid h1
    clear h1
    go_enter Try.func20, Try.ntmps20
    go_wp2_with (go_at_call 21; refine (pop_two W S k v p bad t o _ a b HL.out (H.out.of_ext (by (repeat' (first | with_reducible exact Ext.refl _ | with_reducible refine Ext.ext ?_ _ | with_reducible refine Ext.alloc ?_ _ | with_reducible refine Ext.drew ?_ | with_reducible refine Ext.drewN ?_ _ | with_reducible assumption))))).mono ?_; rintro r w' ⟨g, f, rfl, hm, hc1, hc2⟩; have HM := Lib.hid hm; clear hm)
    refine wp_region_ext (by kernel_rfl) (by kernel_rfl) ?_
    repeat (go_big_quiet_step (fail))
    refine wpQuiet_nil ?_
    intro xK
    go_wp2_with (first | (go_at_call 23; refine (push_any W S ⟨k, v, t, o, p, bad⟩ _ (HM.out.of_ext (by (repeat' (first | with_reducible exact Ext.refl _ | with_reducible refine Ext.ext ?_ _ | with_reducible refine Ext.alloc ?_ _ | with_reducible refine Ext.drew ?_ | with_reducible refine Ext.drewN ?_ _ | with_reducible assumption)))) HL1.out b).mono ?_; rintro r w' ⟨⟨u, rfl⟩, hm⟩; have HM1 := Lib.hid hm; clear hm HM) | (go_at_call 23; refine (push_any W S _ _ (HM1.out.of_ext (by (repeat' (first | with_reducible exact Ext.refl _ | with_reducible refine Ext.ext ?_ _ | with_reducible refine Ext.alloc ?_ _ | with_reducible refine Ext.drew ?_ | with_reducible refine Ext.drewN ?_ _ | with_reducible assumption)))) (pushS_len HL1.out b) a).mono ?_; rintro r w' ⟨⟨u, rfl⟩, hm⟩; have HM2 := Lib.hid hm; clear hm HM1))
    go_returns
    exact ⟨retb rfl rfl, HM2.out⟩
theorem moves_any (W : World) (S : List (Nat × Obj)) (m : Mc) (w : World) (h : Mach W S m w) (hl : m.s.length ≤ 8) (op n : Int) :
    Calls Try.prog 20 #[.pointer (some ⟨W.heap.size, 0, none⟩), .agg #[.int .i64 op, .int .i64 n]] w fun e w' => e = .returned (.bool (isMove op)) ∧ Mach W S (movesS op n m) w' := by
  by_cases h1 : op = 1 ∨ op = 2 ∨ op = 3
  · exact moves_push W S m w h hl op n h1
  by_cases h2 : op = 11
  · subst h2; exact moves_dup W S m w h hl n
  by_cases h3 : op = 12
  · subst h3; exact moves_swap W S m w h hl n
  by_cases h4 : op = 13
  · subst h4; exact moves_drop W S m w h hl n
  exact moves_no W S m w h hl op n (by simp only [isMove, decide_eq_false_iff_not]; omega)
end Go.Proofs.Ytddckdlkopohhaa
