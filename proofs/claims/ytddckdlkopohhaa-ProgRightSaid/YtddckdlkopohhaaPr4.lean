/- Prog: step, of two numbers; step of any instruction. -/
import Derived.Test.YtddckdlkopohhaaPr3
namespace Go.Proofs.Ytddckdlkopohhaa
set_option linter.unusedSimpArgs false
set_option linter.unusedVariables false
open Go.RowKit

section
variable (W : World) (S : List (Nat × Obj)) (k v p bad : Int) (s : List Int) (o : List (Int × Int)) (w : World) (h : Mach W S ⟨k, v, s, o, p, bad⟩ w) (hl : s.length ≤ 8) (hp : 0 ≤ p ∧ p ≤ 1000) (op n : Int) (hop : 4 ≤ op ∧ op ≤ 10)
include h hl hp hop
theorem step_two_no (h2 : s.length < 2) :
    Calls Try.prog 15 #[.pointer (some ⟨W.heap.size, 0, none⟩), .agg #[.int .i64 op, .int .i64 n]] w fun e w' => (∃ u, e = .returned u) ∧ Mach W S ⟨k, v, s, o, p + 1, 1⟩ w' := by
  obtain ⟨o1, o2⟩ := hop
  have hm : isMove op = false := by simp only [isMove, decide_eq_false_iff_not]; omega
  obtain ⟨vs, vo, x, rfl, hs, ho, hne, hk⟩ := h
  have h1 := (Mach.put (S := S) ⟨k, v, _, o, p + 1, bad⟩ hs ho hne hk).cons (insB op n)
  dsimp only [mbox, insB] at h1 ⊢
  simp only [size_ext, World.size_alloc] at h1
  have e1 : wrap64 (p + 1) = p + 1 := IntWalk.wrap64_in _ ⟨by omega, by omega⟩
  have p1 : (op == 14) = false := by simp; omega
  have p2 : (op == 15) = false := by simp; omega
  have p3 : (op == 16) = false := by simp; omega
  have H1 := Lib.hid h1
  have HL := Lib.hid hl
  have MV := Lib.hid (fun S' w' h' => moves_any W S' ⟨k, v, _, o, p + 1, bad⟩ w' h' hl op n)
  rw [movesS_no (op := op) hm, hm] at MV
  clear h1 hs ho hne hk hl hp hm o1 o2
  have H2 := Lib.hid h2
  clear h2
  go_enter Try.func15, Try.ntmps15
  go_wp2_with (first | (go_at_call 20; refine (MV.out _ _ H1.out).mono ?_; rintro r w' ⟨rfl, hm⟩; have hc0 := (hm.head 0 _ rfl).2; have hc1 := (hm.head 1 _ rfl).2; have HM := Lib.hid hm; clear hm H1) | (go_at_call 21; refine (pop_no W _ ⟨k, v, s, o, p + 1, bad⟩ _ HM.out 2 (by decide) H2.out).mono ?_; rintro r w' ⟨rfl, hm⟩; have HM1 := Lib.hid hm; clear hm HM hc0 hc1))
  go_returns
  exact ⟨⟨_, rfl⟩, HM1.out.drop (fun q hq => List.mem_cons_of_mem _ hq)⟩
end
section
variable (W : World) (S : List (Nat × Obj)) (k v p bad : Int) (s : List Int) (o : List (Int × Int)) (w : World) (a b : Int) (h : Mach W S ⟨k, v, b :: a :: s, o, p, bad⟩ w) (hl : (b :: a :: s).length ≤ 8) (hp : 0 ≤ p ∧ p ≤ 1000) (op n y e : Int) (hop : 4 ≤ op ∧ op ≤ 10)
  (ht : ∀ w, Calls Try.prog 22 #[.int .i64 op, .int .i64 a, .int .i64 b] w fun r w' => r = .returned (.tuple #[.int .i64 y, .int .i64 e]) ∧ Ext w w')
include h hl hp hop ht
theorem step_two_yes :
    Calls Try.prog 15 #[.pointer (some ⟨W.heap.size, 0, none⟩), .agg #[.int .i64 op, .int .i64 n]] w fun r w' => (∃ u, r = .returned u) ∧ Mach W S (pushS ⟨k, v, s, o, p + 1, e⟩ y) w' := by
  obtain ⟨o1, o2⟩ := hop
  have hm : isMove op = false := by simp only [isMove, decide_eq_false_iff_not]; omega
  have TW := Lib.hid ht
  clear ht
  obtain ⟨vs, vo, x, rfl, hs, ho, hne, hk⟩ := h
  have h1 := (Mach.put (S := S) ⟨k, v, _, o, p + 1, bad⟩ hs ho hne hk).cons (insB op n)
  dsimp only [mbox, insB] at h1 ⊢
  simp only [size_ext, World.size_alloc] at h1
  have e1 : wrap64 (p + 1) = p + 1 := IntWalk.wrap64_in _ ⟨by omega, by omega⟩
  have p1 : (op == 14) = false := by simp; omega
  have p2 : (op == 15) = false := by simp; omega
  have p3 : (op == 16) = false := by simp; omega
  have H1 := Lib.hid h1
  have HL := Lib.hid hl
  have MV := Lib.hid (fun S' w' h' => moves_any W S' ⟨k, v, _, o, p + 1, bad⟩ w' h' hl op n)
  rw [movesS_no (op := op) hm, hm] at MV
  clear h1 hs ho hne hk hl hp hm o1 o2
  have HLs := Lib.hid (show s.length ≤ 8 by have := HL.out; simp at this; omega)
  go_enter Try.func15, Try.ntmps15
  go_wp2_with (first | (go_at_call 20; refine (MV.out _ _ H1.out).mono ?_; rintro r w' ⟨rfl, hm⟩; have hc0 := (hm.head 0 _ rfl).2; have hc1 := (hm.head 1 _ rfl).2; have HM := Lib.hid hm; clear hm H1) | (go_at_call 21; refine (pop_two W _ k v (p + 1) bad s o _ a b HL.out HM.out).mono ?_; rintro r w' ⟨g, f, rfl, hm, hd0, hd1⟩; clear hc0 hc1; have hc0 := (hm.head 0 _ rfl).1; obtain ⟨vs', vo', x', rfl, h1, h2, h3, h4⟩ := hm; have HH := Lib.hid (Mach.put (S := S) ⟨k, v, s, o, p + 1, e⟩ h1 h2 h3 (fun q hq => h4 q (List.mem_cons_of_mem _ hq))); dsimp only [mbox] at HH hd0 hd1 hc0 ⊢; simp only [ext_ext] at hd0 hd1 hc0; clear h1 h2 h3 h4 HM))
  refine wp_region_ext (by kernel_rfl) (by kernel_rfl) ?_
  repeat (go_big_quiet_step (first | (go_at_call 22; (apply quiet_of; (with_reducible exact TW.out _); (intro w' hx; obtain ⟨z, rfl⟩ := hx; (try simp only [ext_ext, add_assoc]); exact ⟨_, rfl⟩)))))
  refine wpQuiet_nil ?_
  intro xK
  go_wp2_with (go_at_call 23; refine (push_any W S ⟨k, v, s, o, p + 1, e⟩ _ (HH.out.of_ext (by (first | (with_reducible exact ext_more _ _ _) | (repeat' (first | with_reducible exact Ext.refl _ | with_reducible refine Ext.ext ?_ _ | with_reducible refine Ext.alloc ?_ _ | with_reducible refine Ext.drew ?_ | with_reducible refine Ext.drewN ?_ _ | with_reducible assumption))))) HLs.out y).mono ?_; rintro r w' ⟨⟨u, rfl⟩, hm⟩; have HM2 := Lib.hid hm; clear hm)
  go_returns
  exact ⟨⟨_, rfl⟩, HM2.out⟩
end

/-- An instruction that may stand in a program of 'len' instructions. -/
def okIns (len op n : Int) : Prop := 1 ≤ op ∧ op ≤ 16 ∧ ((op = 14 ∨ op = 15) → 0 ≤ n ∧ n ≤ len)
theorem step_any (tw : Int → Int → Int → Int × Int) (W : World) (S : List (Nat × Obj)) (m : Mc) (w : World) (h : Mach W S m w) (hl : m.s.length ≤ 8) (hol : m.o.length ≤ 8) (hp : 0 ≤ m.p ∧ m.p ≤ 1000) (op n : Int) (hop : okIns 1000 op n)
    (ht : 4 ≤ op → op ≤ 10 → ∀ b a t, m.s = b :: a :: t → ∀ w, Calls Try.prog 22 #[.int .i64 op, .int .i64 a, .int .i64 b] w fun r w' => r = .returned (.tuple #[.int .i64 (tw op a b).1, .int .i64 (tw op a b).2]) ∧ Ext w w') :
    Calls Try.prog 15 #[.pointer (some ⟨W.heap.size, 0, none⟩), .agg #[.int .i64 op, .int .i64 n]] w fun r w' => (∃ u, r = .returned u) ∧ Mach W S (stepS tw op n m) w' := by
  obtain ⟨k, v, s, o, p, bad⟩ := m
  obtain ⟨o1, o2, o3⟩ := hop
  dsimp only at hl hol hp ht
  cases hm : isMove op with
  | true => exact step_move W S k v p bad s o w h hl hp tw op n hm
  | false =>
  by_cases h14 : op = 14
  · subst h14
    exact step_jump W S k v p bad s o w h hl hp tw n (o3 (.inl rfl))
  by_cases h15 : op = 15
  · subst h15
    exact step_zero W S k v p bad s o w h hl hp tw n (o3 (.inr rfl))
  by_cases h16 : op = 16
  · subst h16
    cases s with
    | nil => exact step_emit_no W S k v p bad [] o w h hl hp n (by simp)
    | cons b s =>
    cases s with
    | nil => exact step_emit_no W S k v p bad [b] o w h hl hp n (by simp)
    | cons a t =>
    by_cases h8 : o.length = 8
    · have e : stepS tw 16 n ⟨k, v, b :: a :: t, o, p, bad⟩ = ⟨k, v, t, o, p + 1, 5⟩ := by
        unfold stepS
        rw [if_neg (by decide), if_neg (by decide), if_neg (by decide), if_pos rfl]
        dsimp only
        rw [if_pos h8]
      rw [e]
      exact step_emit_full W S k v p bad t o w a b h hl hp n h8
    · have e : stepS tw 16 n ⟨k, v, b :: a :: t, o, p, bad⟩ = ⟨k, v, t, o ++ [(a, b)], p + 1, bad⟩ := by
        unfold stepS
        rw [if_neg (by decide), if_neg (by decide), if_neg (by decide), if_pos rfl]
        dsimp only
        rw [if_neg h8]
      rw [e]
      exact step_emit_yes W S k v p bad t o w a b h hl hp n (by omega)
  have hop : 4 ≤ op ∧ op ≤ 10 := by
    simp only [isMove, decide_eq_false_iff_not] at hm
    omega
  have hs : ∀ s, stepS tw op n ⟨k, v, s, o, p, bad⟩ = (match s with
      | b :: a :: t => pushS ⟨k, v, t, o, p + 1, (tw op a b).2⟩ (tw op a b).1
      | _ => ⟨k, v, s, o, p + 1, 1⟩) := fun s => by
    unfold stepS
    rw [if_neg (by rw [hm]; decide), if_neg h14, if_neg h15, if_neg h16]
    rcases s with _ | ⟨b, _ | ⟨a, t⟩⟩ <;> rfl
  rw [hs]
  cases s with
  | nil => exact step_two_no W S k v p bad [] o w h hl hp op n hop (by simp)
  | cons b s =>
  cases s with
  | nil => exact step_two_no W S k v p bad [b] o w h hl hp op n hop (by simp)
  | cons a t => exact step_two_yes W S k v p bad t o w a b h hl hp op n _ _ hop (ht hop.1 hop.2 b a t rfl)
end Go.Proofs.Ytddckdlkopohhaa
