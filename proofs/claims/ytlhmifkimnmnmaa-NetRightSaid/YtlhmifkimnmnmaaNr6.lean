/- law 14: the program's contracts by deep values. -/
import Derived.Test.YtlhmifkimnmnmaaNr5
namespace Go.Proofs.Ytlhmifkimnmnmaa.Dp
set_option linter.unusedSimpArgs false
set_option linter.unusedVariables false
open Go.RowKit

theorem D1L.cons_inv {G : Gh} {w : World} {x : S1} {l : List S1} {us : List Value} (h : D1L G w (x :: l) us) : ∃ u us', us = u :: us' ∧ D1 G w x u ∧ D1L G w l us' := by
  cases us with
  | nil => have := h.1; simp at this
  | cons u us' => exact ⟨u, us', rfl, h.2 0 x u rfl rfl, by simpa using h.1, fun j y v h1 h2 => h.2 (j + 1) y v (by simpa using h1) (by simpa using h2)⟩
theorem D1L.nil_inv {G : Gh} {w : World} {us : List Value} (h : D1L G w [] us) : us = [] := List.eq_nil_of_length_eq_zero h.1.symm
theorem mgs_plain : ∀ l : List Mg, plainV (encL mgC l).flatten = some (mgs l)
  | [] => rfl
  | x :: l => by
    rw [encL_cons, List.flatten_cons, mgE]
    simp only [List.cons_append, List.nil_append, plainV, mgs_plain l, Option.map_some]
    rfl
theorem den_mgs {A : Pr} {w : World} {l : List Mg} {v : Value} (h : Den A w (.sl (encL mgC l)) v) : RbG 10 mgs w l v := by
  obtain ⟨a, c, us, rfl, hr, hd, -, -⟩ := cells_of_den h (encL_all (C := mgC) l)
  rw [encL_len] at hr ⊢
  rw [flatL hd (mgs_plain l)] at hr
  exact ⟨a, c, rfl, hr⟩
theorem rows_of {A : Pr} {w : World} : ∀ {l : List Bx} {cs : List Value}, DenL A w (encL bxC l).flatten cs → ∃ us, us.length = l.length ∧ cs = rowC shB l us ∧ ∀ (i : Nat) x u, l[i]? = some x → us[i]? = some u → RbG 10 mgs w x.l u
  | [], cs, h => ⟨[], rfl, List.eq_nil_of_length_eq_zero h.1.symm, fun i x u hx => by simp at hx⟩
  | x :: l, cs, h => by
    rw [encL_cons, List.flatten_cons, bxE] at h
    obtain ⟨c0, cs1, rfl, d0, h⟩ := h.cons_inv
    obtain ⟨c1, cs2, rfl, d1, h⟩ := h.cons_inv
    obtain ⟨c2, cs3, rfl, d2, h⟩ := h.cons_inv
    obtain ⟨c3, cs4, rfl, d3, h⟩ := h.cons_inv
    obtain ⟨us, h1, rfl, h3⟩ := rows_of h
    obtain rfl := D1_int (G := gh A) d0
    obtain rfl := D1_int (G := gh A) d1
    obtain rfl := D1_int (G := gh A) d2
    refine ⟨c3 :: us, by simp [h1], rfl, fun i y u hy hu => ?_⟩
    cases i with
    | zero =>
      obtain rfl : x = y := by simpa using hy
      obtain rfl : c3 = u := by simpa using hu
      exact den_mgs d3
    | succ i => exact h3 i y u (by simpa using hy) (by simpa using hu)
theorem den_rds {A : Pr} {w : World} {l : List Bx} {v : Value} (h : Den A w (.sl (encL bxC l)) v) : ∃ a c, v = .slice a l.length c ∧ RdsG shB w l (.slice a l.length c) := by
  obtain ⟨a, c, cs, rfl, hr, hd, -, -⟩ := cells_of_den h (encL_all (C := bxC) l)
  obtain ⟨us, h1, rfl, h3⟩ := rows_of hd
  rw [encL_len] at hr ⊢
  exact ⟨a, c, rfl, a, c, us, rfl, h1, hr, h3⟩
/-- What lies in new blocks. -/
def newA (A : Pr) (w w' : World) : Pr := fun b i => A b i ∨ (w.heap.size ≤ b ∧ b < w'.heap.size ∧ i = i)
theorem newA_ok {A : Pr} {w w' : World} (hA : ∀ b i, A b i → b < w.heap.size) (hx : Ext w w') : (∀ b i, A b i → newA A w w' b i) ∧ ∀ b i, newA A w w' b i → b < w'.heap.size ∧ (b < w.heap.size → A b i) := by
  refine ⟨fun b i h => .inl h, fun b i h => ?_⟩
  rcases h with h | ⟨h1, h2, -⟩
  · exact ⟨Nat.lt_of_lt_of_le (hA b i h) hx.below.size, fun _ => h⟩
  · exact ⟨h2, fun h => by omega⟩
theorem el_den {A : Pr} {w w' : World} {l : List Mg} {v : Value} (h : ElG 29 10 mgs w' w.heap.size l v) : Den (newA A w w') w' (.sl (encL mgC l)) v := by
  obtain ⟨a, c, rfl, ho⟩ := h
  have hcap : l.length ≤ c := by
    rcases ho.2 with ⟨h, h'⟩ | ⟨g, cap, cur, h, -, -, h', -⟩
    · omega
    · obtain ⟨-, -, rfl⟩ := Value.slice.inj h
      exact h'
  have hd : DenL (newA A w w') w' (encL mgC l).flatten (mgs l) := by
    clear ho hcap
    induction l with
    | nil => exact DenL.nil
    | cons x l ih =>
      rw [encL_cons, List.flatten_cons, mgE]
      exact (((((((((((DenL.single (.int _ _)).append (DenL.single (.int _ _))).append (DenL.single (.int _ _))).append (DenL.single (.int _ _))).append (DenL.single (.int _ _))).append (DenL.single (.int _ _))).append (DenL.single (.int _ _))).append (DenL.single (.int _ _))).append (DenL.single (.int _ _))).append (DenL.single (.int _ _))).append ih)
  have := den_of_cells (c := c) (a := a) (encL_all (C := mgC) l) (by rw [encL_len]; exact hcap) hd (fun hne => by
    rcases ho.2 with ⟨h, h'⟩ | ⟨g, cap, cur, h, hb, hg, -⟩
    · exact absurd (List.eq_nil_of_length_eq_zero (by rw [encL_len]; exact h')) hne
    · obtain ⟨rfl, -, -⟩ := Value.slice.inj h
      refine ⟨g, 0, rfl, fun i u hu => ⟨.inr ⟨hb, (Array.getElem?_eq_some_iff.1 hg).1, rfl⟩, ?_⟩⟩
      have := ho.cells (g := g) rfl i u hu
      rwa [addr_add'] at this)
  rwa [encL_len] at this
theorem pts_den {A : Pr} {w w' : World} {l : List Bx} {v : Value} (h : PtsG shB w l v w') : Den (newA A w w') w' (.sl (encL bxC l)) v := by
  obtain ⟨hx, a, c, us, rfl, hl, ho, hel, -⟩ := h
  have hcap : l.length ≤ c := by
    rcases ho.2 with ⟨h, h'⟩ | ⟨g, cap, cur, h, -, -, h', -⟩
    · omega
    · obtain ⟨-, -, rfl⟩ := Value.slice.inj h
      exact h'
  have hd : ∀ (l : List Bx) (us : List Value), us.length = l.length → (∀ (i : Nat) x u, l[i]? = some x → us[i]? = some u → ElG 29 10 mgs w' w.heap.size x.l u) → DenL (newA A w w') w' (encL bxC l).flatten (rowC shB l us) := by
    intro l
    induction l with
    | nil => intro us h1 _; obtain rfl := List.eq_nil_of_length_eq_zero h1; exact DenL.nil
    | cons x l ih =>
      intro us h1 h2
      cases us with
      | nil => simp at h1
      | cons u us =>
        rw [encL_cons, List.flatten_cons, bxE]
        exact ((((DenL.single (.int _ _)).append (DenL.single (.int _ _))).append (DenL.single (.int _ _))).append (DenL.single (el_den (h2 0 x u rfl rfl)))).append (ih us (by simpa using h1) (fun i y v k k' => h2 (i + 1) y v (by simpa using k) (by simpa using k')))
  have := den_of_cells (c := c) (a := a) (encL_all (C := bxC) l) (by rw [encL_len]; exact hcap) (hd l us hl hel) (fun hne => by
    rcases ho.2 with ⟨h, h'⟩ | ⟨g, cap, cur, h, hb, hg, -⟩
    · exact absurd (List.eq_nil_of_length_eq_zero (by rw [encL_len]; exact h')) hne
    · obtain ⟨rfl, -, -⟩ := Value.slice.inj h
      refine ⟨g, 0, rfl, fun i u hu => ⟨.inr ⟨hb, (Array.getElem?_eq_some_iff.1 hg).1, rfl⟩, ?_⟩⟩
      have := ho.cells (g := g) rfl i u hu
      rwa [addr_add'] at this)
  rwa [encL_len] at this
theorem agg_mg {A : Pr} {w : World} {m : Mg} {v : Value} (h : D1 (gh A) w (.agg (mgC.enc m)) v) : v = .agg #[.int .i64 m.e, .int .i64 m.d, .int .i64 m.a, .int .i64 m.b, .int .i64 m.c, .int .i64 m.f, .int .i64 m.k, .int .i64 m.v, .int .i64 m.n, .int .i64 m.q] := by
  obtain ⟨us, rfl, hd⟩ := h
  rw [flatU hd]
theorem mg_agg (A : Pr) (w : World) (m : Mg) : ∃ us, (Value.agg #[.int .i64 m.e, .int .i64 m.d, .int .i64 m.a, .int .i64 m.b, .int .i64 m.c, .int .i64 m.f, .int .i64 m.k, .int .i64 m.v, .int .i64 m.n, .int .i64 m.q]) = .agg us ∧ DenL A w (mgC.enc m) us.toList := by
  refine ⟨_, rfl, ?_⟩
  exact ((((((((((DenL.single (.int _ _)).append (DenL.single (.int _ _))).append (DenL.single (.int _ _))).append (DenL.single (.int _ _))).append (DenL.single (.int _ _))).append (DenL.single (.int _ _))).append (DenL.single (.int _ _))).append (DenL.single (.int _ _))).append (DenL.single (.int _ _))).append (DenL.single (.int _ _)))
theorem pput_cal (args : List S1) (h : (putD args).2) : Cal Try.prog 8 args (putD args).1 := by
  unfold putD at h ⊢
  split at h
  · next l0 f t room m0 =>
    obtain ⟨hl, hf, hm⟩ := h
    obtain ⟨l, rfl⟩ : ∃ l, l0 = encL bxC l := ⟨_, hl.symm⟩
    obtain ⟨m, rfl⟩ : ∃ m, m0 = mgC.enc m := ⟨_, hm.symm⟩
    simp only [decL_encL, mgC.de] at hf ⊢
    intro A w vs hA hd
    obtain ⟨v0, vs, rfl, h0, hd⟩ := hd.cons_inv
    obtain ⟨v1, vs, rfl, h1, hd⟩ := hd.cons_inv
    obtain ⟨v2, vs, rfl, h2, hd⟩ := hd.cons_inv
    obtain ⟨v3, vs, rfl, h3, hd⟩ := hd.cons_inv
    obtain ⟨v4, vs, rfl, h4, hd⟩ := hd.cons_inv
    obtain rfl := hd.nil_inv
    obtain ⟨a, c, rfl, hr⟩ := den_rds h0
    obtain rfl := D1_int h1
    obtain rfl := D1_int h2
    obtain rfl := D1_int h3
    obtain rfl := agg_mg h4
    refine (put_any l a l.length c w hr (by have := hf.1; omega) (fun x hx => by have := hf.2 x hx; omega) f t room m).mono ?_
    rintro e w' ⟨v', rfl, hp⟩
    obtain ⟨k1, k2⟩ := newA_ok hA hp.1
    refine ⟨_, newA A w w', rfl, hp.1, k1, k2, _, rfl, rfl, fun j x u hj hu => ?_⟩
    match j with
    | 0 =>
      obtain rfl : R1.c (.sl (encL bxC (putS l f t room m))) = x := by simpa using hj
      obtain rfl : v' = u := by simpa using hu
      exact pts_den hp
    | 1 =>
      obtain rfl : R1.c (.bool (putOk l f t room m)) = x := by simpa using hj
      obtain rfl : Value.bool (putOk l f t room m) = u := by simpa using hu
      exact Den.bool _
    | j + 2 => simp at hj
  · exact h.elim
def tkpD : List S1 → CR × Prop
  | [.c (.sl l), .c (.int .i64 e), .c (.int .i64 f), .c (.int .i64 t), .c (.int .i64 i)] => (.tup [.c (.sl (encL bxC (takeS (decL bxC l) e f t i))), .agg (mgC.enc (tookM (decL bxC l) e f t i)), .c (.bool (takeOk (decL bxC l) e f t i))], isL bxC l ∧ Fw (decL bxC l) ∧ -9223372036854775808 ≤ i ∧ i ≤ 9223372036854775807)
  | _ => (.one (.c (.bool false)), False)
theorem ptk_cal (args : List S1) (h : (tkpD args).2) : Cal Try.prog 13 args (tkpD args).1 := by
  unfold tkpD at h ⊢
  split at h
  · next l0 e f t i =>
    obtain ⟨hl, hf, hi⟩ := h
    obtain ⟨l, rfl⟩ : ∃ l, l0 = encL bxC l := ⟨_, hl.symm⟩
    simp only [decL_encL] at hf ⊢
    intro A w vs hA hd
    obtain ⟨v0, vs, rfl, h0, hd⟩ := hd.cons_inv
    obtain ⟨v1, vs, rfl, h1, hd⟩ := hd.cons_inv
    obtain ⟨v2, vs, rfl, h2, hd⟩ := hd.cons_inv
    obtain ⟨v3, vs, rfl, h3, hd⟩ := hd.cons_inv
    obtain ⟨v4, vs, rfl, h4, hd⟩ := hd.cons_inv
    obtain rfl := hd.nil_inv
    obtain ⟨a, c, rfl, hr⟩ := den_rds h0
    obtain rfl := D1_int h1
    obtain rfl := D1_int h2
    obtain rfl := D1_int h3
    obtain rfl := D1_int h4
    refine (take_any l a l.length c w hr (by have := hf.1; omega) (fun x hx => by have := hf.2 x hx; omega) e f t i hi).mono ?_
    rintro r w' ⟨v', rfl, hp⟩
    obtain ⟨k1, k2⟩ := newA_ok hA hp.1
    refine ⟨_, newA A w w', rfl, hp.1, k1, k2, _, rfl, rfl, fun j x u hj hu => ?_⟩
    match j with
    | 0 =>
      obtain rfl : R1.c (.sl (encL bxC (takeS l e f t i))) = x := by simpa using hj
      obtain rfl : v' = u := by simpa using hu
      exact pts_den hp
    | 1 =>
      obtain rfl : R1.agg (mgC.enc (tookM l e f t i)) = x := by simpa using hj
      obtain rfl := (by simpa using hu : _ = u)
      exact mg_agg _ _ _
    | 2 =>
      obtain rfl : R1.c (.bool (takeOk l e f t i)) = x := by simpa using hj
      obtain rfl : Value.bool (takeOk l e f t i) = u := by simpa using hu
      exact Den.bool _
    | j + 3 => simp at hj
  · exact h.elim
theorem prt_cal (args : List S1) (h : (rtD args).2) : Cal Try.prog 10 args (rtD args).1 := by
  unfold rtD at h ⊢
  split at h
  · next l0 =>
    obtain ⟨hl, hf⟩ := h
    obtain ⟨l, rfl⟩ : ∃ l, l0 = encL bxC l := ⟨_, hl.symm⟩
    rw [decL_encL] at hf ⊢
    intro A w vs hA hd
    obtain ⟨v0, vs, rfl, h0, hd⟩ := hd.cons_inv
    obtain rfl := hd.nil_inv
    obtain ⟨a, c, rfl, hr⟩ := den_rds h0
    refine (right_any l a l.length c w hr (by have := hf.1; omega) (fun x hx => by have := hf.2 x hx; omega)).mono ?_
    rintro r w' ⟨rfl, hx⟩
    obtain ⟨k1, k2⟩ := newA_ok hA hx
    exact ⟨_, newA A w w', rfl, hx, k1, k2, Den.bool _⟩
  · exact h.elim
theorem pln_cal (args : List S1) (h : (lnD args).2) : Cal Try.prog 15 args (lnD args).1 := by
  unfold lnD at h ⊢
  split at h
  · next l0 e f t =>
    obtain ⟨hl, hf⟩ := h
    obtain ⟨l, rfl⟩ : ∃ l, l0 = encL bxC l := ⟨_, hl.symm⟩
    rw [decL_encL] at hf ⊢
    intro A w vs hA hd
    obtain ⟨v0, vs, rfl, h0, hd⟩ := hd.cons_inv
    obtain ⟨v1, vs, rfl, h1, hd⟩ := hd.cons_inv
    obtain ⟨v2, vs, rfl, h2, hd⟩ := hd.cons_inv
    obtain ⟨v3, vs, rfl, h3, hd⟩ := hd.cons_inv
    obtain rfl := hd.nil_inv
    obtain ⟨a, c, rfl, hr⟩ := den_rds h0
    obtain rfl := D1_int h1
    obtain rfl := D1_int h2
    obtain rfl := D1_int h3
    refine (len_any l a l.length c w hr (by have := hf.1; omega) (fun x hx => by have := hf.2 x hx; omega) e f t).mono ?_
    rintro r w' ⟨rfl, hx⟩
    obtain ⟨k1, k2⟩ := newA_ok hA hx
    exact ⟨_, newA A w w', rfl, hx, k1, k2, Den.int _ _⟩
  · exact h.elim
def allD : List S1 → CR × Prop
  | [.c (.sl l)] => (.one (.c (.sl (encL mgC (allS (decL bxC l))))), isL bxC l ∧ (decL bxC l).length ≤ 1000 ∧ ∀ x ∈ decL bxC l, x.l.length ≤ 1000000)
  | _ => (.one (.c (.bool false)), False)
theorem all_cal (args : List S1) (h : (allD args).2) : Cal Try.prog 18 args (allD args).1 := by
  unfold allD at h ⊢
  split at h
  · next l0 =>
    obtain ⟨hl, hf⟩ := h
    obtain ⟨l, rfl⟩ : ∃ l, l0 = encL bxC l := ⟨_, hl.symm⟩
    rw [decL_encL] at hf ⊢
    intro A w vs hA hd
    obtain ⟨v0, vs, rfl, h0, hd⟩ := hd.cons_inv
    obtain rfl := hd.nil_inv
    obtain ⟨a, c, rfl, hr⟩ := den_rds h0
    refine (all_own l a l.length c w hr hf.1 (fun x hx => by have := hf.2 x hx; omega)).mono ?_
    rintro r w' ⟨v, rfl, hx, he⟩
    obtain ⟨k1, k2⟩ := newA_ok hA hx
    exact ⟨_, newA A w w', rfl, hx, k1, k2, el_den he⟩
  · exact h.elim
def awD : List S1 → CR × Prop
  | [] => (.one (.c (.bool true)), True)
  | _ => (.one (.c (.bool false)), False)
theorem aw_cal (args : List S1) (h : (awD args).2) : Cal Try.prog 6 args (awD args).1 := by
  unfold awD at h ⊢
  split at h
  · intro A w vs hA hd
    obtain rfl := hd.nil_inv
    refine (awake14 w).mono ?_
    rintro r w' ⟨rfl, hx⟩
    obtain ⟨k1, k2⟩ := newA_ok hA hx
    exact ⟨_, newA A w w', rfl, hx, k1, k2, Den.bool _⟩
  · exact h.elim
end Go.Proofs.Ytlhmifkimnmnmaa.Dp
