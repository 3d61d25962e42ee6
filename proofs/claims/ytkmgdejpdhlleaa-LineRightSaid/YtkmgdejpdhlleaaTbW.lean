/- Paths by deep values: an edge's step, of any graph that may run. -/
import Derived.Test.YtkmgdejpdhlleaaTbG
import Derived.Test.YtkmgdejpdhlleaaPaC
namespace Go.Proofs.Ytkmgdejpdhlleaa.Dq
set_option linter.unusedSimpArgs false
set_option linter.unusedVariables false
set_option maxRecDepth 100000
open Go.RowKit
open Pa Va

theorem made_r {h : Hp} (hh : hopB h = true) : madeR h = (h, true) := by unfold madeR; rw [if_pos hh]
theorem same_r {d : Int} (h : 1 ≤ d ∧ d ≤ 4) : hopB ⟨d, d, 0, 0, 0, 0, 0, 0, 0, 0, 0⟩ = true := by
  have : d = 1 ∨ d = 2 ∨ d = 3 ∨ d = 4 := by omega
  rcases this with rfl | rfl | rfl | rfl <;> decide
theorem enter_r {d : Int} (h : 1 ≤ d ∧ d ≤ 3) : hopB ⟨d, d, 1, 0, 0, 0, 0, 0, 0, 0, 0⟩ = true := by
  have : d = 1 ∨ d = 2 ∨ d = 3 := by omega
  rcases this with rfl | rfl | rfl <;> decide
theorem leave_r {d : Int} (h : 2 ≤ d ∧ d ≤ 4) : hopB ⟨d, d - 1, 0, 0, 0, 0, 0, 0, 0, 0, 0⟩ = true := by
  have : d = 2 ∨ d = 3 ∨ d = 4 := by omega
  rcases this with rfl | rfl | rfl <;> decide
theorem ent_r {d : Int} (h : 1 ≤ d ∧ d ≤ 3) (w : World) : Calls Try.prog 132 #[.int .i64 d] w fun r' w' => r' = .returned (.tuple #[hv ⟨d, d, 1, 0, 0, 0, 0, 0, 0, 0, 0⟩, .bool true]) ∧ Ext w w' := by
  have := hopEnter_any d w
  rw [made_r (enter_r h)] at this
  exact this
theorem lev_r {d : Int} (h : 2 ≤ d ∧ d ≤ 4) (w : World) : Calls Try.prog 133 #[.int .i64 d] w fun r' w' => r' = .returned (.tuple #[hv ⟨d, d - 1, 0, 0, 0, 0, 0, 0, 0, 0, 0⟩, .bool true]) ∧ Ext w w' := by
  have := hopLeave_yes d w h.1 (by omega)
  rw [made_r (leave_r h)] at this
  exact this
def entD : List S1 → CR × Prop
  | [.c (.int .i64 d)] => (.tup [.agg (hpC.enc ⟨d, d, 1, 0, 0, 0, 0, 0, 0, 0, 0⟩), .c (.bool true)], 1 ≤ d ∧ d ≤ 3)
  | _ => (.one (.c (.bool false)), False)
theorem ent_cal (args : List S1) (h : (entD args).2) : Cal Try.prog 132 args (entD args).1 := by
  unfold entD at h ⊢
  split at h
  · next d =>
    intro A w vs hA hd
    obtain ⟨v0, vs, rfl, e0, hd⟩ := D1L.cons_inv hd
    obtain rfl := D1L.nil_inv hd
    obtain rfl := D1_int e0
    refine (ent_r h w).mono ?_
    rintro r w' ⟨rfl, hx⟩
    obtain ⟨k1, k2⟩ := newA_ok hA hx
    exact ⟨_, newA A w w', rfl, hx, k1, k2, tup_ab _ (hp_den _)⟩
  · exact h.elim
def levD : List S1 → CR × Prop
  | [.c (.int .i64 d)] => (.tup [.agg (hpC.enc ⟨d, d - 1, 0, 0, 0, 0, 0, 0, 0, 0, 0⟩), .c (.bool true)], 2 ≤ d ∧ d ≤ 4)
  | _ => (.one (.c (.bool false)), False)
theorem lev_cal (args : List S1) (h : (levD args).2) : Cal Try.prog 133 args (levD args).1 := by
  unfold levD at h ⊢
  split at h
  · next d =>
    intro A w vs hA hd
    obtain ⟨v0, vs, rfl, e0, hd⟩ := D1L.cons_inv hd
    obtain rfl := D1L.nil_inv hd
    obtain rfl := D1_int e0
    refine (lev_r h w).mono ?_
    rintro r w' ⟨rfl, hx⟩
    obtain ⟨k1, k2⟩ := newA_ok hA hx
    exact ⟨_, newA A w w', rfl, hx, k1, k2, tup_ab _ (hp_den _)⟩
  · exact h.elim
def nxtD : List S1 → CR × Prop
  | [.c (.int .i64 d)] => (.tup [.agg (hpC.enc (nextH d)), .c (.bool true)], 1 ≤ d ∧ d ≤ 4)
  | _ => (.one (.c (.bool false)), False)
theorem nxt_cal (args : List S1) (h : (nxtD args).2) : Cal Try.prog 134 args (nxtD args).1 := by
  unfold nxtD at h ⊢
  split at h
  · next d =>
    intro A w vs hA hd
    obtain ⟨v0, vs, rfl, e0, hd⟩ := D1L.cons_inv hd
    obtain rfl := D1L.nil_inv hd
    obtain rfl := D1_int e0
    refine (hopNext_yes d w (by omega)).mono ?_
    rintro r w' ⟨rfl, hx⟩
    obtain ⟨k1, k2⟩ := newA_ok hA hx
    exact ⟨_, newA A w w', rfl, hx, k1, k2, tup_ab _ (hp_den _)⟩
  · exact h.elim
def stgD : List S1 → CR × Prop
  | [.agg g, .agg e] => (.one (.agg (hpC.enc (stN (depN (grC.dec g) (egC.dec e).f) (ndAt (grC.dec g) (egC.dec e).f).k))), grC.enc (grC.dec g) = g ∧ egC.enc (egC.dec e) = e ∧ Chkd (grC.dec g) ∧ 0 ≤ (egC.dec e).f ∧ (egC.dec e).f < ((grC.dec g).n.length : Int))
  | _ => (.one (.c (.bool false)), False)
set_option maxHeartbeats 8000000 in
theorem stg_cal (args : List S1) (h : (stgD args).2) : Cal Try.prog 81 args (stgD args).1 := by
  unfold stgD at h ⊢
  split at h
  · next g0 e0 =>
    have CT := An5 @tksD.eq_1 @samD.eq_1 @entD.eq_1 @levD.eq_1 @nxtD.eq_1; refine DV.of (Γ := ⟨[(83, tksD), (82, samD), (132, entD), (133, levD), (134, nxtD)], [], []⟩) (rs := [ResultVar.cell 4 82]) [0, 1, 2, 3, 4, 5, 6, 17, 23, 30, 37] ⟨by intro p hp; simp only [List.mem_cons, List.not_mem_nil, or_false] at hp; rcases hp with rfl | rfl | rfl | rfl | rfl; exact tks_cal; exact sam_cal; exact ent_cal; exact lev_cal; exact nxt_cal, nofun⟩ (by kernel_rfl) Try.func81 rfl rfl (by kernel_rfl) rfl ?_; (repeat (with_reducible first | apply qa | apply qb | apply qc | apply qd | apply qe))
    obtain ⟨hg, he, hc, f0, f1⟩ := h
    obtain ⟨e, rfl⟩ : ∃ v, e0 = egC.enc v := ⟨_, he.symm⟩
    rw [egC.de] at f0 f1 ⊢
    clear he
    obtain ⟨g, rfl⟩ : ∃ v, g0 = grC.enc v := ⟨_, hg.symm⟩
    rw [grC.de] at hc f1 ⊢
    clear hg
    have hgd : grC.dec [D.sl (encL inC g.p), D.sl (encL inC g.b), D.sl (encL ndC g.n), D.sl (encL egC g.e)] = g := grC.de g
    have hs : Sm g := ⟨by have := hc.p8; omega, by have := hc.b8; omega, by have := hc.n32; omega, by have := hc.e64; omega⟩
    obtain ⟨⟨d1, d4⟩, d10, d11⟩ := hc.dep f0 f1
    have hob : (insB e.f g.n.length = true → (ndAt g e.f).k = 10 → 0 ≤ (ndAt g e.f).s ∧ (ndAt g e.f).s < (g.p.length : Int)) = True := eq_true fun _ h => (d10 h).2
    have hin : insB e.f g.n.length = true := insB_iff.2 ⟨f0, f1⟩
    have hval : (if insB e.f g.n.length = true then dpS g.p (takI g (ndAt g e.f)) else 0) = depN g e.f := by rw [if_pos hin]; rfl
    have c3 := encL_get (C := ndC) (ndAt_of f0 f1)
    obtain ⟨d, hd⟩ : ∃ d, depN g e.f = d := ⟨_, rfl⟩
    rw [hd] at d1 d4 d10 d11 hval ⊢
    obtain ⟨x, hx⟩ : ∃ x, ndAt g e.f = x := ⟨_, rfl⟩
    rw [hx] at c3 d10 d11 ⊢
    rw [hx] at hob hval
    obtain ⟨S, hS⟩ : ∃ S, stN d x.k = S := ⟨_, rfl⟩
    rw [hS]
    unfold stN at hS
    obtain ⟨b1, y1⟩ : ∃ b, (x.k == 10) = b := ⟨_, rfl⟩
    obtain ⟨b2, y2⟩ : ∃ b, (x.k == 11) = b := ⟨_, rfl⟩
    obtain ⟨b3, y3⟩ : ∃ b, (x.k == 12) = b := ⟨_, rfl⟩
    rw [y1, y2, y3] at hS
    (have F := An2 @grE @egE; refine Rg3 ?_; clear F; (repeat (with_reducible first | apply qa | apply qb | apply qc | apply qd | apply qe)))
    (have F := An7 @grE @egE @hgd @hs @hx @hob @hval; refine Rg3 ?_; clear F; (repeat (with_reducible first | apply qa | apply qb | apply qc | apply qd | apply qe)))
    (refine Rg2 ?_; (repeat (with_reducible first | apply qa | apply qb | apply qc | apply qd | apply qe)))
    (have F := An5 @encL_len @f0 @f1 @c3 @ndE; refine Rg3 ?_; clear F; (repeat (with_reducible first | apply qa | apply qb | apply qc | apply qd | apply qe)))
    (have F := @y1; refine Rg3 ?_; clear F; (repeat (with_reducible first | apply qa | apply qb | apply qc | apply qd | apply qe)))
    cases b1
    rotate_left 1
    · rw [if_pos rfl] at hS
      have q1 := (d10 (beq_iff_eq.1 y1)).1
      (refine DV.condT rfl (fun _ => rfl) ?_; (repeat (with_reducible first | apply qa | apply qb | apply qc | apply qd | apply qe)))
      (have F := An4 @d1 @q1 @hS @hpE; refine Re3 ?_; clear F; (repeat with_reducible refine qn ?_); (try with_reducible refine qm ?_); (repeat (with_reducible first | apply qa | apply qb | apply qc | apply qd | apply qe)))
      (have F := @hpE; refine Rg3 ?_; clear F; (repeat (with_reducible first | apply qa | apply qb | apply qc | apply qd | apply qe)))
      (refine DV.ret ?_; (repeat (first | (with_reducible refine thenD_ret' ?_) | (with_reducible refine blockD_ret' ?_))); (with_reducible refine retD_ret' ?_); try (have F := @hpE; refine Rt1 ?_; clear F; try with_reducible exact True.intro))
    rw [if_neg (by decide)] at hS
    (refine DV.condF rfl (fun _ => rfl) ?_; (repeat (with_reducible first | apply qa | apply qb | apply qc | apply qd | apply qe)))
    (have F := @y2; refine Rg3 ?_; clear F; (repeat (with_reducible first | apply qa | apply qb | apply qc | apply qd | apply qe)))
    cases b2
    rotate_left 1
    · rw [if_pos rfl] at hS
      have q1 := d11 (.inl (beq_iff_eq.1 y2))
      (refine DV.condT rfl (fun _ => rfl) ?_; (repeat (with_reducible first | apply qa | apply qb | apply qc | apply qd | apply qe)))
      (have F := An4 @q1 @d4 @hS @hpE; refine Re3 ?_; clear F; (repeat with_reducible refine qn ?_); (try with_reducible refine qm ?_); (repeat (with_reducible first | apply qa | apply qb | apply qc | apply qd | apply qe)))
      (have F := @hpE; refine Rg3 ?_; clear F; (repeat (with_reducible first | apply qa | apply qb | apply qc | apply qd | apply qe)))
      (refine DV.ret ?_; (repeat (first | (with_reducible refine thenD_ret' ?_) | (with_reducible refine blockD_ret' ?_))); (with_reducible refine retD_ret' ?_); try (have F := @hpE; refine Rt1 ?_; clear F; try with_reducible exact True.intro))
    rw [if_neg (by decide)] at hS
    (refine DV.condF rfl (fun _ => rfl) ?_; (repeat (with_reducible first | apply qa | apply qb | apply qc | apply qd | apply qe)))
    (have F := @y3; refine Rg3 ?_; clear F; (repeat (with_reducible first | apply qa | apply qb | apply qc | apply qd | apply qe)))
    cases b3
    rotate_left 1
    · rw [if_pos rfl] at hS
      (refine DV.condT rfl (fun _ => rfl) ?_; (repeat (with_reducible first | apply qa | apply qb | apply qc | apply qd | apply qe)))
      (have F := An4 @d1 @d4 @hS @hpE; refine Re3 ?_; clear F; (repeat with_reducible refine qn ?_); (try with_reducible refine qm ?_); (repeat (with_reducible first | apply qa | apply qb | apply qc | apply qd | apply qe)))
      (have F := @hpE; refine Rg3 ?_; clear F; (repeat (with_reducible first | apply qa | apply qb | apply qc | apply qd | apply qe)))
      (refine DV.ret ?_; (repeat (first | (with_reducible refine thenD_ret' ?_) | (with_reducible refine blockD_ret' ?_))); (with_reducible refine retD_ret' ?_); try (have F := @hpE; refine Rt1 ?_; clear F; try with_reducible exact True.intro))
    rw [if_neg (by decide)] at hS
    have hm := made_r (same_r ⟨d1, d4⟩)
    rw [show (⟨d, d, 0, 0, 0, 0, 0, 0, 0, 0, 0⟩ : Hp) = S from hS] at hm
    (refine DV.condF rfl (fun _ => rfl) ?_; (repeat (with_reducible first | apply qa | apply qb | apply qc | apply qd | apply qe)))
    (have F := An3 @hm @hS @hpE; refine Re3 ?_; clear F; (repeat with_reducible refine qn ?_); (try with_reducible refine qm ?_); (repeat (with_reducible first | apply qa | apply qb | apply qc | apply qd | apply qe)))
    (have F := @hpE; refine Rg3 ?_; clear F; (repeat (with_reducible first | apply qa | apply qb | apply qc | apply qd | apply qe)))
    (refine DV.ret ?_; (repeat (first | (with_reducible refine thenD_ret' ?_) | (with_reducible refine blockD_ret' ?_))); (with_reducible refine retD_ret' ?_); try (have F := @hpE; refine Rt1 ?_; clear F; try with_reducible exact True.intro))
  · exact h.elim
end Go.Proofs.Ytkmgdejpdhlleaa.Dq
