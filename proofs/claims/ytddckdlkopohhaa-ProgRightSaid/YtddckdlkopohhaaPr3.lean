/- Prog: step. -/
import Derived.Test.YtddckdlkopohhaaPr2
import Derived.Deep.RegionHeld3
import Derived.Deep.RegionLaw
namespace Go.Proofs.Ytddckdlkopohhaa
set_option linter.unusedSimpArgs false
set_option linter.unusedVariables false
open Go.RowKit

/-- What an instruction makes of a machine; 'tw' is what two numbers make. -/
def stepS (tw : Int → Int → Int → Int × Int) (op n : Int) (m : Mc) : Mc :=
  if isMove op then movesS op n { m with p := m.p + 1 }
  else if op = 14 then { m with p := n }
  else if op = 15 then match m.s with
    | a :: t => { m with s := t, p := if a = 0 then n else m.p + 1 }
    | [] => { m with p := m.p + 1, bad := 1 }
  else if op = 16 then match m.s with
    | b :: a :: t => if m.o.length = 8 then { m with s := t, p := m.p + 1, bad := 5 } else { m with s := t, p := m.p + 1, o := m.o ++ [(a, b)] }
    | _ => { m with p := m.p + 1, bad := 1 }
  else match m.s with
    | b :: a :: t => pushS { m with s := t, p := m.p + 1, bad := (tw op a b).2 } (tw op a b).1
    | _ => { m with p := m.p + 1, bad := 1 }
theorem Mach.head {W : World} {S : List (Nat × Obj)} {m : Mc} {w : World} {b : Nat} {cs : Array Value} {t : TypeId} (h : Mach W ((b, .cells cs t) :: S) m w) (i : Nat) (u : Value) (hu : cs[i]? = some u) : (∀ z, (ext w z).cell? ⟨b, i, none⟩ = some u) ∧ w.cell? ⟨b, i, none⟩ = some u := by
  obtain ⟨vs, vo, x, rfl, -, -, -, h4⟩ := h
  obtain ⟨-, h5, -, -⟩ := h4 _ List.mem_cons_self
  have h6 : (ext (W.alloc (mbox m vs vo)) x).cell? ⟨b, i, none⟩ = some u := by rw [cell_of_row _ b i cs t (0, 0) h5, hu]
  exact ⟨fun z => by rw [cell_ext_a _ _ _ (World.block_lt_of_cell? _ _ h6), h6], h6⟩
theorem movesS_no {op : Int} (h : isMove op = false) (n : Int) (m : Mc) : movesS op n m = m := by
  unfold movesS
  simp only [isMove, decide_eq_false_iff_not] at h
  repeat (rw [if_neg (by omega)])

section
variable (W : World) (S : List (Nat × Obj)) (k v p bad : Int) (s : List Int) (o : List (Int × Int)) (w : World) (h : Mach W S ⟨k, v, s, o, p, bad⟩ w) (hl : s.length ≤ 8) (hp : 0 ≤ p ∧ p ≤ 1000) (tw : Int → Int → Int → Int × Int) (op n : Int)
include h hl hp

/-- The beginning of a step, for instructions that 'moves' does not know. -/
def insB (op n : Int) : Obj := .cells #[.int .i64 op, .int .i64 n] 33

theorem step_move (hm : isMove op = true) :
    Calls Try.prog 15 #[.pointer (some ⟨W.heap.size, 0, none⟩), .agg #[.int .i64 op, .int .i64 n]] w fun e w' => (∃ u, e = .returned u) ∧ Mach W S (stepS tw op n ⟨k, v, s, o, p, bad⟩) w' := by
  obtain ⟨vs, vo, x, rfl, hs, ho, hne, hk⟩ := h
  have h1 := (Mach.put (S := S) ⟨k, v, s, o, p + 1, bad⟩ hs ho hne hk).of_ext ((Ext.refl _).alloc (insB op n))
  dsimp only [mbox, insB] at h1 ⊢
  have e1 : wrap64 (p + 1) = p + 1 := IntWalk.wrap64_in _ ⟨by omega, by omega⟩
  have H1 := Lib.hid h1
  have MV := Lib.hid (fun w' h' => moves_any W S ⟨k, v, s, o, p + 1, bad⟩ w' h' hl op n)
  rw [hm] at MV
  unfold stepS
  rw [if_pos hm]
  clear h1 hs ho hne hk hl hp hm
  go_enter Try.func15, Try.ntmps15
  go_wp2_with (go_at_call 20; refine (MV.out _ H1.out).mono ?_; rintro r w' ⟨rfl, hm⟩; have HM := Lib.hid hm; clear hm)
  go_returns
  exact ⟨⟨_, rfl⟩, HM.out⟩

theorem step_jump (hn : 0 ≤ n ∧ n ≤ 1000) :
    Calls Try.prog 15 #[.pointer (some ⟨W.heap.size, 0, none⟩), .agg #[.int .i64 14, .int .i64 n]] w fun e w' => (∃ u, e = .returned u) ∧ Mach W S (stepS tw 14 n ⟨k, v, s, o, p, bad⟩) w' := by
  obtain ⟨vs, vo, x, rfl, hs, ho, hne, hk⟩ := h
  have h1 := (Mach.put (S := S) ⟨k, v, _, o, p + 1, bad⟩ hs ho hne hk).cons (insB 14 n)
  dsimp only [mbox, insB] at h1 ⊢
  simp only [size_ext, World.size_alloc] at h1
  have e1 : wrap64 (p + 1) = p + 1 := IntWalk.wrap64_in _ ⟨by omega, by omega⟩
  have H1 := Lib.hid h1
  have HL := Lib.hid hl
  have MV := Lib.hid (fun S' w' h' => moves_any W S' ⟨k, v, _, o, p + 1, bad⟩ w' h' hl 14 n)
  rw [movesS_no (op := 14) rfl, show isMove 14 = false from rfl] at MV
  clear h1 hs ho hne hk hl hp
  unfold stepS
  rw [if_neg (by decide), if_pos rfl]
  go_enter Try.func15, Try.ntmps15
  go_wp2_with (go_at_call 20; refine (MV.out _ _ H1.out).mono ?_; rintro r w' ⟨rfl, hm⟩; have hc0 := (hm.head 0 _ rfl).2; have hc1 := (hm.head 1 _ rfl).2; obtain ⟨vs', vo', x', rfl, h1, h2, h3, h4⟩ := hm; have HH := Lib.hid (Mach.put (S := S) ⟨k, v, s, o, n, bad⟩ h1 h2 h3 (fun q hq => h4 q (List.mem_cons_of_mem _ hq))); clear h1 h2 h3 h4 H1; dsimp only [mbox] at HH hc0 hc1 ⊢)
  go_returns
  exact ⟨⟨_, rfl⟩, HH.out.of_ext (by (repeat' (first | with_reducible exact Ext.refl _ | with_reducible refine Ext.ext ?_ _ | with_reducible refine Ext.alloc ?_ _ | with_reducible refine Ext.drew ?_ | with_reducible refine Ext.drewN ?_ _ | with_reducible assumption)))⟩

theorem step_zero (hn : 0 ≤ n ∧ n ≤ 1000) :
    Calls Try.prog 15 #[.pointer (some ⟨W.heap.size, 0, none⟩), .agg #[.int .i64 15, .int .i64 n]] w fun e w' => (∃ u, e = .returned u) ∧ Mach W S (stepS tw 15 n ⟨k, v, s, o, p, bad⟩) w' := by
  obtain ⟨vs, vo, x, rfl, hs, ho, hne, hk⟩ := h
  have h1 := (Mach.put (S := S) ⟨k, v, _, o, p + 1, bad⟩ hs ho hne hk).cons (insB 15 n)
  dsimp only [mbox, insB] at h1 ⊢
  simp only [size_ext, World.size_alloc] at h1
  have e1 : wrap64 (p + 1) = p + 1 := IntWalk.wrap64_in _ ⟨by omega, by omega⟩
  have H1 := Lib.hid h1
  have HL := Lib.hid hl
  have MV := Lib.hid (fun S' w' h' => moves_any W S' ⟨k, v, _, o, p + 1, bad⟩ w' h' hl 15 n)
  rw [movesS_no (op := 15) rfl, show isMove 15 = false from rfl] at MV
  clear h1 hs ho hne hk hl hp
  unfold stepS
  rw [if_neg (by decide), if_neg (by decide), if_pos rfl]
  cases s with
  | nil =>
    dsimp only
    go_enter Try.func15, Try.ntmps15
    go_wp2_with (first | (go_at_call 20; refine (MV.out _ _ H1.out).mono ?_; rintro r w' ⟨rfl, hm⟩; have hc0 := (hm.head 0 _ rfl).2; have hc1 := (hm.head 1 _ rfl).2; have HM := Lib.hid hm; clear hm H1) | (go_at_call 21; refine (pop_no W _ ⟨k, v, [], o, p + 1, bad⟩ _ HM.out 1 (by decide) (by simp)).mono ?_; rintro r w' ⟨rfl, hm⟩; have HM1 := Lib.hid hm; clear hm HM hc0 hc1))
    go_returns
    exact ⟨⟨_, rfl⟩, HM1.out.drop (fun q hq => List.mem_cons_of_mem _ hq)⟩
  | cons a t =>
    dsimp only
    by_cases ha : a = 0
    · subst ha
      rw [if_pos rfl]
      go_enter Try.func15, Try.ntmps15
      go_wp2_with (first | (go_at_call 20; refine (MV.out _ _ H1.out).mono ?_; rintro r w' ⟨rfl, hm⟩; have hc0 := (hm.head 0 _ rfl).2; have hc1 := (hm.head 1 _ rfl).2; have HM := Lib.hid hm; clear hm H1) | (go_at_call 21; refine (pop_one W _ k v (p + 1) bad t o _ 0 HL.out HM.out).mono ?_; rintro r w' ⟨g, f, rfl, hm, -, hc⟩; clear hc0 hc1; have hc1 := (hm.head 1 _ rfl).2; obtain ⟨vs', vo', x', rfl, h1, h2, h3, h4⟩ := hm; have HH := Lib.hid (Mach.put (S := S) ⟨k, v, t, o, n, bad⟩ h1 h2 h3 (fun q hq => h4 q (List.mem_cons_of_mem _ hq))); clear h1 h2 h3 h4 HM; dsimp only [mbox] at HH hc hc1 ⊢))
      go_returns
      exact ⟨⟨_, rfl⟩, HH.out.of_ext (by (repeat' (first | with_reducible exact Ext.refl _ | with_reducible refine Ext.ext ?_ _ | with_reducible refine Ext.alloc ?_ _ | with_reducible refine Ext.drew ?_ | with_reducible refine Ext.drewN ?_ _ | with_reducible assumption)))⟩
    · rw [if_neg ha]
      have ha' : (a == 0) = false := by simp [ha]
      clear ha
      go_enter Try.func15, Try.ntmps15
      go_wp2_with (first | (go_at_call 20; refine (MV.out _ _ H1.out).mono ?_; rintro r w' ⟨rfl, hm⟩; have hc0 := (hm.head 0 _ rfl).2; have hc1 := (hm.head 1 _ rfl).2; have HM := Lib.hid hm; clear hm H1) | (go_at_call 21; refine (pop_one W _ k v (p + 1) bad t o _ a HL.out HM.out).mono ?_; rintro r w' ⟨g, f, rfl, hm, -, hc⟩; clear hc0 hc1; have HM1 := Lib.hid hm; clear hm HM))
      go_returns
      exact ⟨⟨_, rfl⟩, HM1.out.drop (fun q hq => List.mem_cons_of_mem _ hq)⟩

theorem step_emit_no (h2 : s.length < 2) :
    Calls Try.prog 15 #[.pointer (some ⟨W.heap.size, 0, none⟩), .agg #[.int .i64 16, .int .i64 n]] w fun e w' => (∃ u, e = .returned u) ∧ Mach W S ⟨k, v, s, o, p + 1, 1⟩ w' := by
  obtain ⟨vs, vo, x, rfl, hs, ho, hne, hk⟩ := h
  have h1 := (Mach.put (S := S) ⟨k, v, _, o, p + 1, bad⟩ hs ho hne hk).cons (insB 16 n)
  dsimp only [mbox, insB] at h1 ⊢
  simp only [size_ext, World.size_alloc] at h1
  have e1 : wrap64 (p + 1) = p + 1 := IntWalk.wrap64_in _ ⟨by omega, by omega⟩
  have H1 := Lib.hid h1
  have HL := Lib.hid hl
  have MV := Lib.hid (fun S' w' h' => moves_any W S' ⟨k, v, _, o, p + 1, bad⟩ w' h' hl 16 n)
  rw [movesS_no (op := 16) rfl, show isMove 16 = false from rfl] at MV
  clear h1 hs ho hne hk hl hp
  have q : ∀ (w : World) (a : Option Addr) (n c : Nat), (binOp .eql 40 (.slice a n c) (.slice none 0 0)).run Try.prog w = .ok (.bool a.isNone) w := fun w a n c => Lib.run_eql_slice_nil w _ _ a n c 0 0 Try.underlying40
  have q' : ∀ (w : World), (binOp .eql 40 (.slice none 0 0) (.slice none 0 0)).run Try.prog w = .ok (.bool true) w := fun w => q w none 0 0
  have q'' : ∀ (w : World) (a : Addr) (n c : Nat), (binOp .eql 40 (.slice (some a) n c) (.slice none 0 0)).run Try.prog w = .ok (.bool false) w := fun w a n c => q w (some a) n c
  clear q
  have H2 := Lib.hid h2
  clear h2
  go_enter Try.func15, Try.ntmps15
  go_wp2_with (first | (go_at_call 20; refine (MV.out _ _ H1.out).mono ?_; rintro r w' ⟨rfl, hm⟩; have hc0 := (hm.head 0 _ rfl).2; have hc1 := (hm.head 1 _ rfl).2; have HM := Lib.hid hm; clear hm H1) | (go_at_call 21; refine (pop_no W _ ⟨k, v, s, o, p + 1, bad⟩ _ HM.out 2 (by decide) H2.out).mono ?_; rintro r w' ⟨rfl, hm⟩; have HM1 := Lib.hid hm; clear hm HM hc0 hc1))
  go_returns
  exact ⟨⟨_, rfl⟩, HM1.out.drop (fun q hq => List.mem_cons_of_mem _ hq)⟩
end
section
variable (W : World) (S : List (Nat × Obj)) (k v p bad : Int) (s : List Int) (o : List (Int × Int)) (w : World) (a b : Int) (h : Mach W S ⟨k, v, b :: a :: s, o, p, bad⟩ w) (hl : (b :: a :: s).length ≤ 8) (hp : 0 ≤ p ∧ p ≤ 1000) (tw : Int → Int → Int → Int × Int) (op n : Int)
include h hl hp
theorem step_emit_full (h8 : o.length = 8) :
    Calls Try.prog 15 #[.pointer (some ⟨W.heap.size, 0, none⟩), .agg #[.int .i64 16, .int .i64 n]] w fun e w' => (∃ u, e = .returned u) ∧ Mach W S ⟨k, v, s, o, p + 1, 5⟩ w' := by
  obtain ⟨vs, vo, x, rfl, hs, ho, hne, hk⟩ := h
  have h1 := (Mach.put (S := S) ⟨k, v, _, o, p + 1, bad⟩ hs ho hne hk).cons (insB 16 n)
  dsimp only [mbox, insB] at h1 ⊢
  simp only [size_ext, World.size_alloc] at h1
  have e1 : wrap64 (p + 1) = p + 1 := IntWalk.wrap64_in _ ⟨by omega, by omega⟩
  have H1 := Lib.hid h1
  have HL := Lib.hid hl
  have MV := Lib.hid (fun S' w' h' => moves_any W S' ⟨k, v, _, o, p + 1, bad⟩ w' h' hl 16 n)
  rw [movesS_no (op := 16) rfl, show isMove 16 = false from rfl] at MV
  clear h1 hs ho hne hk hl hp
  have q : ∀ (w : World) (a : Option Addr) (n c : Nat), (binOp .eql 40 (.slice a n c) (.slice none 0 0)).run Try.prog w = .ok (.bool a.isNone) w := fun w a n c => Lib.run_eql_slice_nil w _ _ a n c 0 0 Try.underlying40
  have q' : ∀ (w : World), (binOp .eql 40 (.slice none 0 0) (.slice none 0 0)).run Try.prog w = .ok (.bool true) w := fun w => q w none 0 0
  have q'' : ∀ (w : World) (a : Addr) (n c : Nat), (binOp .eql 40 (.slice (some a) n c) (.slice none 0 0)).run Try.prog w = .ok (.bool false) w := fun w a n c => q w (some a) n c
  clear q
  have H8 := Lib.hid h8
  clear h8
  go_enter Try.func15, Try.ntmps15
  go_wp2_with (first | (go_at_call 20; refine (MV.out _ _ H1.out).mono ?_; rintro r w' ⟨rfl, hm⟩; have hc0 := (hm.head 0 _ rfl).2; have hc1 := (hm.head 1 _ rfl).2; have HM := Lib.hid hm; clear hm H1) | (go_at_call 21; refine (pop_two W _ k v (p + 1) bad s o _ a b HL.out HM.out).mono ?_; rintro r w' ⟨g, f, rfl, hm, -, -⟩; clear hc0 hc1; obtain ⟨vs', vo', x', rfl, h1, h2, h3, h4⟩ := hm; have HH := Lib.hid (Mach.put (S := S) ⟨k, v, s, o, p + 1, 5⟩ h1 h2 h3 (fun q hq => h4 q (List.mem_cons_of_mem _ hq))); obtain ⟨oa, oc, rfl⟩ := (own_rd h2).form; rw [H8.out] at HH; have e8 : (((8 : Nat) : Int) == 8) = true := rfl; clear h1 h2 h3 h4 HM; dsimp only [mbox] at HH ⊢; rw [H8.out]))
  go_returns
  exact ⟨⟨_, rfl⟩, HH.out.of_ext (by (repeat' (first | with_reducible exact Ext.refl _ | with_reducible refine Ext.ext ?_ _ | with_reducible refine Ext.alloc ?_ _ | with_reducible refine Ext.drew ?_ | with_reducible refine Ext.drewN ?_ _ | with_reducible assumption)))⟩
set_option maxHeartbeats 4000000 in
theorem step_emit_yes (h8 : o.length < 8) :
    Calls Try.prog 15 #[.pointer (some ⟨W.heap.size, 0, none⟩), .agg #[.int .i64 16, .int .i64 n]] w fun e w' => (∃ u, e = .returned u) ∧ Mach W S ⟨k, v, s, o ++ [(a, b)], p + 1, bad⟩ w' := by
  obtain ⟨vs, vo, x, rfl, hs, ho, hne, hk⟩ := h
  have h1 := (Mach.put (S := S) ⟨k, v, _, o, p + 1, bad⟩ hs ho hne hk).cons (insB 16 n)
  dsimp only [mbox, insB] at h1 ⊢
  simp only [size_ext, World.size_alloc] at h1
  have e1 : wrap64 (p + 1) = p + 1 := IntWalk.wrap64_in _ ⟨by omega, by omega⟩
  have H1 := Lib.hid h1
  have HL := Lib.hid hl
  have MV := Lib.hid (fun S' w' h' => moves_any W S' ⟨k, v, _, o, p + 1, bad⟩ w' h' hl 16 n)
  rw [movesS_no (op := 16) rfl, show isMove 16 = false from rfl] at MV
  clear h1 hs ho hne hk hl hp
  have q : ∀ (w : World) (a : Option Addr) (n c : Nat), (binOp .eql 40 (.slice a n c) (.slice none 0 0)).run Try.prog w = .ok (.bool a.isNone) w := fun w a n c => Lib.run_eql_slice_nil w _ _ a n c 0 0 Try.underlying40
  have q' : ∀ (w : World), (binOp .eql 40 (.slice none 0 0) (.slice none 0 0)).run Try.prog w = .ok (.bool true) w := fun w => q w none 0 0
  have q'' : ∀ (w : World) (a : Addr) (n c : Nat), (binOp .eql 40 (.slice (some a) n c) (.slice none 0 0)).run Try.prog w = .ok (.bool false) w := fun w a n c => q w (some a) n c
  clear q
  have H8 := Lib.hid h8
  have e8 : ((o.length : Int) == 8) = false := by simp; omega
  clear h8
  go_enter Try.func15, Try.ntmps15
  go_wp2_with (first | (go_at_call 20; refine (MV.out _ _ H1.out).mono ?_; rintro r w' ⟨rfl, hm⟩; have hc0 := (hm.head 0 _ rfl).2; have hc1 := (hm.head 1 _ rfl).2; have HM := Lib.hid hm; clear hm H1) | (go_at_call 21; refine (pop_two W _ k v (p + 1) bad s o _ a b HL.out HM.out).mono ?_; rintro r w' ⟨g, f, rfl, hm, hd0, hd1⟩; clear hc0 hc1; obtain ⟨vs', vo', x', rfl, h1, h2, h3, h4⟩ := hm; have h4' := show Kept W S _ _ _ from fun q hq => h4 q (List.mem_cons_of_mem _ hq); obtain ⟨oa, oc, rfl⟩ := (own_rd h2).form; dsimp only [mbox] at *; simp only [ext_ext] at hd0 hd1; have HS := Lib.hid h1; have HO := Lib.hid h2; have HN := Lib.hid h3; have HK := Lib.hid h4'; clear h1 h2 h3 h4 h4' HM))
  go_region_law (refine step_pushF (by rfl) _ _ 26 (by rfl) 24 (.agg #[.int .i64 0, .int .i64 0]) 2 16 Try.underlying26 info_recq rfl (by decide) (W.alloc (.cells #[.int .i64 k, .int .i64 v, vs', .slice oa o.length oc, .int .i64 (p + 1), .int .i64 bad] 42)) _ (W.heap.size + 1) _ o.length _ (own_swap HO.out (by simp) (by simp) (Nat.le_refl _) (by first | exact .inl rfl | exact .inr ⟨_, rfl⟩ | exact .inr ⟨_, (add_assoc _ _ _).symm⟩)) _ 1 _ #[.int .i64 a, .int .i64 b] (by rfl) (by rfl) rfl (by simp [Value.oneCell']) (by omega) (by simp) (by unfold maxLen; have := H8.out; omega) (by have := H8.out; omega) (by (first | (simp; done) | (simp; omega) | omega)) (by (first | (simp; done) | (simp; omega) | omega)) ?_; intro g1 cap y hown hgr hat; clear hd0 hd1)
  all_goals
    have hx : Ext (ext (W.alloc (.cells #[.int .i64 k, .int .i64 v, vs', .slice oa o.length oc, .int .i64 (p + 1), .int .i64 bad] 42)) x') (ext (W.alloc (.cells #[.int .i64 k, .int .i64 v, vs', .slice oa o.length oc, .int .i64 (p + 1), .int .i64 bad] 42)) (x'.add { hs := [], n := x'.n + 1 })) := ⟨_, (ext_ext _ _ _).symm⟩
    have e1 := Kept.grownO (n := o.length + 1) (c := cap) (Kept.of_ext HK.out hx) hgr hat
    have e2 := apartO (n := o.length + 1) (c := cap) HN.out (own_of_ext' HS.out hx) hat
    have e3 := (own_of_ext' HS.out hx).kept hgr HN.out
    have E1 := Lib.hid e1
    have E2 := Lib.hid e2
    have E3 := Lib.hid e3
    have HW := Lib.hid hown
    clear e1 e2 e3 hown hgr hat hx
    go_wp2
    go_returns
    exact ⟨⟨_, rfl⟩, Mach.put ⟨k, v, s, o ++ [(a, b)], p + 1, bad⟩ E3.out (by simpa [recs_append, recs] using HW.out) E2.out E1.out⟩
end
end Go.Proofs.Ytddckdlkopohhaa
