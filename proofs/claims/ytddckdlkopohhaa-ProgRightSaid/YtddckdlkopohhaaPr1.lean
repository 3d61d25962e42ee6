/- Prog: how a machine lies: its box, its two rows, and what else is kept; push. -/
import Derived.Test.YtddckdlkopohhaaOwnG
import Derived.Test.YtddckdlkopohhaaNew
import Derived.Test.YtddckdlkopohhaaStop
import Derived.Test.YtddckdlkopohhaaRows
namespace Go.Proofs.Ytddckdlkopohhaa
set_option linter.unusedSimpArgs false
set_option linter.unusedVariables false
open Go.RowKit

theorem ext_more (w : World) (x y : Inc) : Ext (ext w x) (ext w (x.add y)) := ⟨y, (ext_ext _ _ _).symm⟩
/-- A machine. -/
structure Mc where
  k : Int
  v : Int
  s : List Int
  o : List (Int × Int)
  p : Int
  bad : Int
/-- A stack's cells; the topmost number is the list's first. -/
def ints (s : List Int) : List Value := s.reverse.map (Value.int .i64)
def recs : List (Int × Int) → List Value
  | [] => []
  | r :: l => .int .i64 r.1 :: .int .i64 r.2 :: recs l
theorem recs_append (l m : List (Int × Int)) : recs (l ++ m) = recs l ++ recs m := by
  induction l with
  | nil => rfl
  | cons a l ih => simp only [List.cons_append, recs, ih]
theorem recs_length (l : List (Int × Int)) : (recs l).length = l.length * 2 := by
  induction l with
  | nil => rfl
  | cons a l ih => simp only [recs, List.length_cons, ih]; omega
def mbox (m : Mc) (vs vo : Value) : Obj := .cells #[.int .i64 m.k, .int .i64 m.v, vs, vo, .int .i64 m.p, .int .i64 m.bad] 42
def Kept (W : World) (S : List (Nat × Obj)) (vs vo : Value) (w : World) : Prop := ∀ q ∈ S, W.heap.size < q.1 ∧ w.heap[q.1]? = some q.2 ∧ vs.ownBlock ≠ some q.1 ∧ vo.ownBlock ≠ some q.1
/-- A machine lies in the first block behind 'W', its two rows behind it; the blocks of 'S' hold what they hold. -/
def Mach (W : World) (S : List (Nat × Obj)) (m : Mc) (w : World) : Prop :=
  ∃ vs vo x, w = ext (W.alloc (mbox m vs vo)) x ∧ w.ownsRow (W.heap.size + 1) 2 1 vs m.s.length (ints m.s) ∧ w.ownsRow (W.heap.size + 1) 24 2 vo m.o.length (recs m.o) ∧ (vs.ownBlock = none ∨ vs.ownBlock ≠ vo.ownBlock) ∧ Kept W S vs vo w

theorem get_box (W : World) (b1 b2 : Obj) (y : Inc) (k : Nat) (h : W.heap.size < k) : (ext (W.alloc b1) y).heap[k]? = (ext (W.alloc b2) y).heap[k]? := by
  rw [ext_get_new _ _ _ (by rw [World.size_alloc]; omega), ext_get_new _ _ _ (by rw [World.size_alloc]; omega), World.size_alloc, World.size_alloc]
theorem get_ext_some {w : World} {x : Inc} {k : Nat} {o : Obj} (h : w.heap[k]? = some o) : (ext w x).heap[k]? = some o := by
  rw [ext_get _ _ _ (Array.getElem?_eq_some_iff.1 h).1, h]
theorem Kept.of_ext {W : World} {S : List (Nat × Obj)} {vs vo : Value} {w w' : World} (h : Kept W S vs vo w) (hx : Ext w w') : Kept W S vs vo w' := by
  obtain ⟨x, rfl⟩ := hx
  intro q hq
  obtain ⟨h1, h2, h3⟩ := h q hq
  exact ⟨h1, get_ext_some h2, h3⟩
theorem Kept.box {W : World} {S : List (Nat × Obj)} {vs vo : Value} {b1 b2 : Obj} {y : Inc} (h : Kept W S vs vo (ext (W.alloc b1) y)) : Kept W S vs vo (ext (W.alloc b2) y) := by
  intro q hq
  obtain ⟨h1, h2, h3⟩ := h q hq
  exact ⟨h1, by rw [get_box W b2 b1 y _ h1, h2], h3⟩
theorem Kept.cons {W : World} {S : List (Nat × Obj)} {vs vo : Value} {w : World} {n1 n2 b1 b2 : Nat} {e1 e2 : TypeId} {k1 k2 : Nat} {xs ys : List Value} (h : Kept W S vs vo w) (h1 : w.ownsRow b1 e1 k1 vs n1 xs) (h2 : w.ownsRow b2 e2 k2 vo n2 ys) (hw : W.heap.size < w.heap.size) (o : Obj) : Kept W ((w.heap.size, o) :: S) vs vo (w.alloc o) := by
  intro q hq
  rcases List.mem_cons.1 hq with rfl | hq
  · exact ⟨hw, heap_alloc_new w o, fun e => absurd (h1.lt _ e).2 (Nat.lt_irrefl _), fun e => absurd (h2.lt _ e).2 (Nat.lt_irrefl _)⟩
  · obtain ⟨a, b, c⟩ := h q hq
    exact ⟨a, by rw [Below.heap_alloc _ _ _ (Array.getElem?_eq_some_iff.1 b).1, b], c⟩
theorem own_box {W : World} {b1 b2 : Obj} {y : Inc} {e : TypeId} {k n : Nat} {v : Value} {xs : List Value} (h : (ext (W.alloc b1) y).ownsRow (W.heap.size + 1) e k v n xs) : (ext (W.alloc b2) y).ownsRow (W.heap.size + 1) e k v n xs :=
  own_swap h (by rw [World.size_alloc, World.size_alloc]) (by rw [World.size_alloc]; omega) (Nat.le_refl _) (.inl rfl)
/-- A machine whose box was written. -/
theorem Mach.put {W : World} {S : List (Nat × Obj)} {b1 : Obj} {y : Inc} {vs vo : Value} (m : Mc) (hs : (ext (W.alloc b1) y).ownsRow (W.heap.size + 1) 2 1 vs m.s.length (ints m.s)) (ho : (ext (W.alloc b1) y).ownsRow (W.heap.size + 1) 24 2 vo m.o.length (recs m.o))
    (hne : vs.ownBlock = none ∨ vs.ownBlock ≠ vo.ownBlock) (hk : Kept W S vs vo (ext (W.alloc b1) y)) : Mach W S m (ext (W.alloc (mbox m vs vo)) y) :=
  ⟨vs, vo, y, rfl, own_box hs, own_box ho, hne, hk.box⟩
theorem own_of_ext' {w w' : World} {b : Nat} {e : TypeId} {size n : Nat} {v : Value} {xs : List Value} (h : w.ownsRow b e size v n xs) (hx : Ext w w') : w'.ownsRow b e size v n xs := by
  obtain ⟨z, rfl⟩ := hx
  exact own_ext h z
theorem Mach.of_ext {W : World} {S : List (Nat × Obj)} {m : Mc} {w w' : World} (h : Mach W S m w) (hx : Ext w w') : Mach W S m w' := by
  obtain ⟨vs, vo, x, rfl, h1, h2, h3, h4⟩ := h
  obtain ⟨z, rfl⟩ := hx
  exact ⟨vs, vo, x.add z, ext_ext _ _ _, own_ext h1 _, own_ext h2 _, h3, h4.of_ext ⟨z, rfl⟩⟩
theorem Mach.cons {W : World} {S : List (Nat × Obj)} {m : Mc} {w : World} (h : Mach W S m w) (o : Obj) : Mach W ((w.heap.size, o) :: S) m (w.alloc o) := by
  obtain ⟨vs, vo, x, rfl, h1, h2, h3, h4⟩ := h
  have hx : Ext (ext (W.alloc (mbox m vs vo)) x) ((ext (W.alloc (mbox m vs vo)) x).alloc o) := (Ext.refl _).alloc o
  obtain ⟨z, hz⟩ := id hx
  refine ⟨vs, vo, x.add z, by rw [hz, ext_ext], own_of_ext' h1 hx, own_of_ext' h2 hx, h3, h4.cons h1 h2 (by simp; omega) o⟩
theorem Mach.drop {W : World} {S S' : List (Nat × Obj)} {m : Mc} {w : World} (h : Mach W S m w) (hS : ∀ q ∈ S', q ∈ S) : Mach W S' m w := by
  obtain ⟨vs, vo, x, h0, h1, h2, h3, h4⟩ := h
  exact ⟨vs, vo, x, h0, h1, h2, h3, fun q hq => h4 q (hS q hq)⟩
/-- Onto the stack something was laid. -/
theorem Kept.grownS {W : World} {S : List (Nat × Obj)} {vs vo : Value} {w w' : World} {g n c : Nat} (h : Kept W S vs vo w) (hg : w.grownBy w' vs.ownBlock) (hat : vs.ownBlock = some g ∨ w.heap.size ≤ g) : Kept W S (.slice (some ⟨g, 0, none⟩) n c) vo w' := by
  intro q hq
  obtain ⟨h1, h2, h3, h4⟩ := h q hq
  have hl := (Array.getElem?_eq_some_iff.1 h2).1
  refine ⟨h1, by rw [hg.block _ hl (fun e => h3 e.symm), h2], fun e => ?_, h4⟩
  obtain rfl : g = q.1 := by simpa [Value.ownBlock] using e
  rcases hat with hat | hat
  · exact h3 hat
  · omega
theorem Kept.grownO {W : World} {S : List (Nat × Obj)} {vs vo : Value} {w w' : World} {g n c : Nat} (h : Kept W S vs vo w) (hg : w.grownBy w' vo.ownBlock) (hat : vo.ownBlock = some g ∨ w.heap.size ≤ g) : Kept W S vs (.slice (some ⟨g, 0, none⟩) n c) w' := by
  intro q hq
  obtain ⟨h1, h2, h3, h4⟩ := h q hq
  have hl := (Array.getElem?_eq_some_iff.1 h2).1
  refine ⟨h1, by rw [hg.block _ hl (fun e => h4 e.symm), h2], h3, fun e => ?_⟩
  obtain rfl : g = q.1 := by simpa [Value.ownBlock] using e
  rcases hat with hat | hat
  · exact h4 hat
  · omega
theorem apartS {vs vo : Value} {w : World} {g n c b e k m : Nat} {xs : List Value} (hne : vs.ownBlock = none ∨ vs.ownBlock ≠ vo.ownBlock) (ho : w.ownsRow b e k vo m xs) (hat : vs.ownBlock = some g ∨ w.heap.size ≤ g) : (Value.slice (some ⟨g, 0, none⟩) n c).ownBlock = none ∨ (Value.slice (some ⟨g, 0, none⟩) n c).ownBlock ≠ vo.ownBlock := by
  refine .inr fun e => ?_
  have hv : vo.ownBlock = some g := e.symm
  rcases hat with hat | hat
  · rcases hne with h | h
    · rw [h] at hat; cases hat
    · exact h (hat.trans hv.symm)
  · have := (ho.lt _ hv).2
    omega
theorem apartO {vs vo : Value} {w : World} {g n c b e k m : Nat} {xs : List Value} (hne : vs.ownBlock = none ∨ vs.ownBlock ≠ vo.ownBlock) (hs : w.ownsRow b e k vs m xs) (hat : vo.ownBlock = some g ∨ w.heap.size ≤ g) : vs.ownBlock = none ∨ vs.ownBlock ≠ (Value.slice (some ⟨g, 0, none⟩) n c).ownBlock := by
  rcases hne with h | h
  · exact .inl h
  refine .inr fun e => ?_
  have hv : vs.ownBlock = some g := e
  rcases hat with hat | hat
  · exact h (hv.trans hat.symm)
  · have := (hs.lt _ hv).2
    omega
theorem apart_sym {vs vo : Value} (h : vs.ownBlock = none ∨ vs.ownBlock ≠ vo.ownBlock) : vo.ownBlock = none ∨ vo.ownBlock ≠ vs.ownBlock := by
  cases hv : vo.ownBlock with
  | none => exact .inl rfl
  | some g =>
    refine .inr fun e => ?_
    rcases h with h | h
    · rw [h] at e; cases e
    · exact h (by rw [hv, e])

def pushS (m : Mc) (n : Int) : Mc := if m.s.length = 8 then { m with bad := 1 } else { m with s := n :: m.s }
theorem info_i64q : (Try.prog.info? 2).map (fun i => (i.zero, i.size, i.bytes)) = some (some (.int .i64 0), 1, 8) := by kernel_rfl
theorem info_recq : (Try.prog.info? 24).map (fun i => (i.zero, i.size, i.bytes)) = some (some (.agg #[.int .i64 0, .int .i64 0]), 2, 16) := by kernel_rfl

theorem push_any (W : World) (S : List (Nat × Obj)) (m : Mc) (w : World) (h : Mach W S m w) (hl : m.s.length ≤ 8) (n : Int) :
    Calls Try.prog 23 #[.pointer (some ⟨W.heap.size, 0, none⟩), .int .i64 n] w fun e w' => (∃ u, e = .returned u) ∧ Mach W S (pushS m n) w' := by
  obtain ⟨k, v, s, o, p, bad⟩ := m
  obtain ⟨vs, vo, x, rfl, hs, ho, hne, hk⟩ := h
  obtain ⟨a, c, rfl⟩ := (own_rd hs).form
  dsimp only [mbox] at hl hs ho hk ⊢
  have HS := Lib.hid hs
  have HO := Lib.hid ho
  have HN := Lib.hid hne
  have HK := Lib.hid hk
  have HL := Lib.hid hl
  clear hs ho hne hk hl
  by_cases h8 : s.length = 8
  · have e8 : ((s.length : Int) == 8) = true := by simp; omega
    have H8 := Lib.hid h8
    clear h8
    go_enter Try.func23, Try.ntmps23
    go_wp2
    go_returns
    refine ⟨⟨_, rfl⟩, ?_⟩
    unfold pushS
    rw [if_pos H8.out]
    exact Mach.put ⟨k, v, s, o, p, 1⟩ HS.out HO.out HN.out HK.out
  · have e8 : ((s.length : Int) == 8) = false := by simp; omega
    have H8 := Lib.hid h8
    clear h8
    go_enter Try.func23, Try.ntmps23
    go_wp2_with (at_builtin; apply stop_here)
    all_goals
      unfold Stop
      refine wpList_pushF rfl _ _ 40 rfl 2 (.int .i64 0) 1 8 Try.underlying40 info_i64q rfl (by decide) (W.alloc (.cells #[.int .i64 k, .int .i64 v, .slice a s.length c, vo, .int .i64 p, .int .i64 bad] 42)) _ (W.heap.size + 1) _ s.length _ HS.out _ 1 _ _ rfl rfl rfl (by simp [Value.oneCell']) (by decide) ?_ ?_ ?_ ?_ ?_ ?_
    · simp
    · have := HL.out; unfold maxLen; omega
    · have := HL.out; omega
    · simp
    · simp
    intro g cap y hown hgr hat
    have e1 := Kept.grownS (n := s.length + 1) (c := cap) HK.out hgr hat
    have e2 := apartS (n := s.length + 1) (c := cap) HN.out HO.out hat
    have e3 := HO.out.kept hgr (apart_sym HN.out)
    have E1 := Lib.hid e1
    have E2 := Lib.hid e2
    have E3 := Lib.hid e3
    have HW := Lib.hid hown
    clear hown hgr hat e1 e2 e3
    go_wp2
    go_returns
    refine ⟨⟨_, rfl⟩, ?_⟩
    unfold pushS
    rw [if_neg H8.out]
    refine Mach.put ⟨k, v, n :: s, o, p, bad⟩ ?_ E3.out E2.out E1.out
    simpa [ints] using HW.out
theorem pop_no (W : World) (S : List (Nat × Obj)) (m : Mc) (w : World) (h : Mach W S m w) (n : Nat) (hn : n ≤ 8) (hl : m.s.length < n) :
    Calls Try.prog 21 #[.pointer (some ⟨W.heap.size, 0, none⟩), .int .i64 n] w fun e w' => e = .returned (.slice none 0 0) ∧ Mach W S { m with bad := 1 } w' := by
  obtain ⟨k, v, s, o, p, bad⟩ := m
  obtain ⟨vs, vo, x, rfl, hs, ho, hne, hk⟩ := h
  obtain ⟨a, c, rfl⟩ := (own_rd hs).form
  dsimp only [mbox] at hl hs ho hk ⊢
  have HS := Lib.hid hs
  have HO := Lib.hid ho
  have HN := Lib.hid hne
  have HK := Lib.hid hk
  have e8 : wrap64 ((s.length : Int) - n) = (s.length : Int) - n := IntWalk.wrap64_in _ ⟨by omega, by omega⟩
  have e9 : decide ((s.length : Int) - n < 0) = true := by simp; omega
  clear hs ho hne hk hl hn
  go_enter Try.func21, Try.ntmps21
  go_wp2
  go_returns
  refine ⟨?_, ?_⟩
  · rfl
  · exact Mach.put ⟨k, v, s, o, p, 1⟩ HS.out HO.out HN.out HK.out
/-- A row's first elements are a row. -/
theorem own_take {w : World} {b : Nat} {e : TypeId} {k n c g m : Nat} {xs ys : List Value} (h : w.ownsRow b e k (.slice (some ⟨g, 0, none⟩) n c) n (xs ++ ys)) (hm : m ≤ n) (hx : xs.length = m * k) : w.ownsRow b e k (.slice (some ⟨g, 0, none⟩) m c) m xs := by
  obtain ⟨h1, h2⟩ := h
  refine ⟨hx, ?_⟩
  rcases h2 with ⟨h2, _⟩ | ⟨g', cap, cur, hv, hg, hh, hnc, hcm, hcs, htake⟩
  · cases h2
  · obtain ⟨hg', _, rfl⟩ := Value.slice.inj hv
    obtain rfl : g = g' := by simpa using hg'
    refine .inr ⟨g, c, cur, rfl, hg, hh, by omega, hcm, hcs, ?_⟩
    have := congrArg (List.take (m * k)) htake
    rw [List.take_take, Nat.min_eq_left (Nat.mul_le_mul_right k hm)] at this
    rw [this, ← hx, List.take_left]
theorem own_cap {w : World} {b : Nat} {e : TypeId} {k n m c : Nat} {a : Option Addr} {xs : List Value} (h : w.ownsRow b e k (.slice a m c) n xs) : m ≤ c := by
  rcases h.2 with ⟨h2, _⟩ | ⟨g', cap, cur, hv, hg, hh, hnc, _⟩
  · cases h2; exact Nat.le_refl _
  · obtain ⟨_, rfl, rfl⟩ := Value.slice.inj hv
    exact hnc
theorem pop_yes (W : World) (S : List (Nat × Obj)) (k v p bad : Int) (t l : List Int) (o : List (Int × Int)) (w : World) (n f : Nat) (hn : 1 ≤ n) (hl : l.length = n) (hf : t.length = f) (h8 : f + n ≤ 8) (h : Mach W S ⟨k, v, l ++ t, o, p, bad⟩ w) :
    Calls Try.prog 21 #[.pointer (some ⟨W.heap.size, 0, none⟩), .int .i64 n] w fun e w' => ∃ g, e = .returned (.slice (some ⟨g, f, none⟩) n n) ∧ Mach W S ⟨k, v, t, o, p, bad⟩ w' ∧ ∀ i x, l.reverse[i]? = some x → w'.cell? ⟨g, f + i, none⟩ = some (.int .i64 x) := by
  obtain ⟨vs, vo, x, rfl, hs, ho, hne, hk⟩ := h
  obtain ⟨g, c, rfl, hb1, hb2⟩ := hs.form (by simp; omega)
  have hc := own_cap hs
  dsimp only [mbox] at hc hs ho hk ⊢
  have hlen : (l ++ t).length = f + n := by simp; omega
  rw [hlen] at hs ho hk hc hne ⊢
  have hcell : ∀ i x', l.reverse[i]? = some x' → (ext (W.alloc (.cells #[.int .i64 k, .int .i64 v, .slice (some ⟨g, 0, none⟩) (f + n) c, vo, .int .i64 p, .int .i64 bad] 42)) x).cell? ⟨g, f + i, none⟩ = some (.int .i64 x') := by
    intro i x' hx'
    have := hs.cells (g := g) rfl (f + i) (.int .i64 x') (by
      simp only [ints, List.reverse_append, List.map_append]
      rw [List.getElem?_append_right (by simp; omega)]
      simp [hf, ← List.map_reverse, hx'])
    rwa [show (⟨g, 0, none⟩ : Addr).add (f + i) = ⟨g, 0 + (f + i), none⟩ by unfold Addr.add; split <;> simp_all, Nat.zero_add] at this
  have hs' : (ext (W.alloc (.cells #[.int .i64 k, .int .i64 v, .slice (some ⟨g, 0, none⟩) (f + n) c, vo, .int .i64 p, .int .i64 bad] 42)) x).ownsRow (W.heap.size + 1) 2 1 (.slice (some ⟨g, 0, none⟩) f c) t.length (ints t) := by
    rw [hf]
    exact own_take (ys := l.reverse.map (Value.int .i64)) (by simpa [ints] using hs) (by omega) (by simp [ints, hf])
  have hm := Mach.put (S := S) ⟨k, v, t, o, p, bad⟩ hs' ho (by simpa [Value.ownBlock] using hne) (fun q hq => by
    obtain ⟨q1, q2, q3, q4⟩ := hk q hq
    exact ⟨q1, q2, by simpa [Value.ownBlock] using q3, q4⟩)
  have hcell' : ∀ i x', l.reverse[i]? = some x' → (ext (W.alloc (.cells #[.int .i64 k, .int .i64 v, .slice (some ⟨g, 0, none⟩) f c, vo, .int .i64 p, .int .i64 bad] 42)) x).cell? ⟨g, f + i, none⟩ = some (.int .i64 x') := fun i x' hx' => by
    rw [← hcell i x' hx']
    exact World.cell?_of_block (get_box W _ _ x g (by omega))
  dsimp only [mbox] at hm
  have HM := Lib.hid hm
  have HC := Lib.hid hcell'
  clear hs' hm hcell'
  have e8 : wrap64 (((f + n : Nat) : Int) - n) = (f : Int) := (IntWalk.wrap64_in _ ⟨by omega, by omega⟩).trans (by omega)
  have e9 : decide ((f : Int) < 0) = false := by simp
  have b1 : (0 : Int) ≤ (f : Int) := by omega
  have b2 : (f : Int) ≤ ((f + n : Nat) : Int) := by omega
  have b3 : ((f + n : Nat) : Int) ≤ (c : Int) := by omega
  have b4 : (f : Int) ≤ (c : Int) := by omega
  clear hs ho hne hk hlen hcell hl hf
  go_enter Try.func21, Try.ntmps21
  go_wp2
  refine wp_region_ext (by kernel_rfl) (by kernel_rfl) ?_
  repeat (go_big_quiet_step (fail))
  refine wpQuiet_nil ?_
  intro xK
  go_wp2
  go_returns
  have hw : ∀ y, Ext (ext (W.alloc (.cells #[.int .i64 k, .int .i64 v, .slice (some ⟨g, 0, none⟩) f c, vo, .int .i64 p, .int .i64 bad] 42)) x) (ext (W.alloc (.cells #[.int .i64 k, .int .i64 v, .slice (some ⟨g, 0, none⟩) f c, vo, .int .i64 p, .int .i64 bad] 42)) (x.add y)) := fun y => ⟨y, (ext_ext _ _ _).symm⟩
  refine ⟨g, ?_, HM.out.of_ext (hw _), fun i x' hx' => ?_⟩
  · simp
  · have h1 := HC.out i x' hx'
    have h2 := hw xK
    obtain ⟨z, hz⟩ := h2
    rw [hz, cell_ext_a _ _ _ (World.block_lt_of_cell? _ _ h1), h1]
end Go.Proofs.Ytddckdlkopohhaa
