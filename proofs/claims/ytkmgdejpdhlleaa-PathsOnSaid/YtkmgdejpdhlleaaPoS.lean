/- Paths by deep values: the reference's step; along each edge what comes may come. -/
import Derived.Test.YtkmgdejpdhlleaaR9d
import Derived.Test.YtkmgdejpdhlleaaAwk
import Derived.Test.YtkmgdejpdhlleaaPoR
namespace Go.Proofs.Ytkmgdejpdhlleaa.Dq
set_option linter.unusedSimpArgs false
set_option linter.unusedVariables false
set_option maxRecDepth 100000
open Go.RowKit
open Pa Va

def trgD : List S1 → CR × Prop
  | [.agg x] => (.one (.c (.bool (rightB (tiC.dec x)))), tiC.enc (tiC.dec x) = x)
  | _ => (.one (.c (.bool false)), False)
theorem trg_cal (args : List S1) (h : (trgD args).2) : Cal Try.prog 33 args (trgD args).1 := by
  unfold trgD at h ⊢
  split at h
  · next x0 =>
    obtain ⟨x, rfl⟩ : ∃ x, x0 = tiC.enc x := ⟨_, h.symm⟩
    rw [tiC.de]
    intro A w vs hA hd
    obtain ⟨v0, vs, rfl, e0, hd⟩ := D1L.cons_inv hd
    obtain rfl := D1L.nil_inv hd
    obtain rfl := ti_val e0
    refine (right_any x.d x.a x.b x.c x.e w).mono ?_
    rintro r w' ⟨rfl, hx⟩
    obtain ⟨k1, k2⟩ := newA_ok hA hx
    exact ⟨_, newA A w w', rfl, hx, k1, k2, Den.bool _⟩
  · exact h.elim
theorem lev_dep {g : Gr} (h : Chkd g) {n : Int} (n0 : 0 ≤ n) (n1 : n < g.n.length) : ((chS g.p (plI g (ndAt g n) false)).length : Int) = depN g n := by
  rw [pl_tak]
  unfold depN
  refine chS_len h.par h.p8 ?_
  obtain ⟨s0, s1, -⟩ := nodI_ok (h.nd n n0 n1)
  have := h.par _ s0 s1
  unfold takI
  split <;> omega
theorem chkd_sm {g : Gr} (h : Chkd g) : Sm g := ⟨by have := h.p8; omega, by have := h.b8; omega, by have := h.n32; omega, by have := h.e64; omega⟩
def strD : List S1 → CR × Prop
  | [.agg g, .agg e] => (.one (.agg (hpC.enc (stN (depN (grC.dec g) (egC.dec e).f) (ndAt (grC.dec g) (egC.dec e).f).k))), grC.enc (grC.dec g) = g ∧ egC.enc (egC.dec e) = e ∧ Chkd (grC.dec g) ∧ 0 ≤ (egC.dec e).f ∧ (egC.dec e).f < ((grC.dec g).n.length : Int))
  | _ => (.one (.c (.bool false)), False)
set_option maxHeartbeats 8000000 in
theorem str_cal (args : List S1) (h : (strD args).2) : Cal Try.prog 37 args (strD args).1 := by
  unfold strD at h ⊢
  split at h
  · next g0 e0 =>
    have CT := @r9vD.eq_1; refine DV.of (Γ := ⟨[(34, r9vD)], [], []⟩) (rs := [ResultVar.cell 4 82]) [0, 1, 2, 3, 4, 5, 6, 20, 21, 24, 29] ⟨by intro p hp; simp only [List.mem_singleton] at hp; subst hp; exact r9v_cal, nofun⟩ (by kernel_rfl) Try.func37 rfl rfl (by kernel_rfl) rfl ?_; (repeat (with_reducible first | apply qa | apply qb | apply qc | apply qd | apply qe))
    obtain ⟨hg, he, hc, f0, f1⟩ := h
    obtain ⟨e, rfl⟩ : ∃ v, e0 = egC.enc v := ⟨_, he.symm⟩
    rw [egC.de] at f0 f1 ⊢
    clear he
    obtain ⟨g, rfl⟩ : ∃ v, g0 = grC.enc v := ⟨_, hg.symm⟩
    rw [grC.de] at hc f1 ⊢
    clear hg
    have hgd : grC.dec [D.sl (encL inC g.p), D.sl (encL inC g.b), D.sl (encL ndC g.n), D.sl (encL egC g.e)] = g := grC.de g
    have hs := chkd_sm hc
    obtain ⟨⟨d1, d4⟩, d10, d11⟩ := hc.dep f0 f1
    have hin : insB e.f g.n.length = true := insB_iff.2 ⟨f0, f1⟩
    have hlv : (if insB e.f g.n.length = true then ((chS g.p (plI g (ndAt g e.f) false)).length : Int) else 0) = depN g e.f := by rw [if_pos hin]; exact lev_dep hc f0 f1
    have hob : (insB e.f g.n.length = true → 0 ≤ (ndAt g e.f).s ∧ (ndAt g e.f).s < (g.p.length : Int)) = True := eq_true fun _ => (nodI_ok (hc.nd e.f f0 f1)).elim fun a b => ⟨a, b.1⟩
    have c3 := encL_get (C := ndC) (ndAt_of f0 f1)
    obtain ⟨d, hd⟩ : ∃ d, depN g e.f = d := ⟨_, rfl⟩
    rw [hd] at d1 d4 d11 hlv ⊢
    obtain ⟨x, hx⟩ : ∃ x, ndAt g e.f = x := ⟨_, rfl⟩
    rw [hx] at c3 d11 ⊢
    rw [hx] at hob hlv
    obtain ⟨S, hS⟩ : ∃ S, stN d x.k = S := ⟨_, rfl⟩
    rw [hS]
    unfold stN at hS
    obtain ⟨b1, y1⟩ : ∃ b, (x.k == 10) = b := ⟨_, rfl⟩
    obtain ⟨b2, y2⟩ : ∃ b, (x.k == 11) = b := ⟨_, rfl⟩
    obtain ⟨b3, y3⟩ : ∃ b, (x.k == 12) = b := ⟨_, rfl⟩
    rw [y1, y2, y3] at hS
    have w1 : IntKind.wrap .i64 1 = 1 := rfl
    have w2 : IntKind.wrap .i64 2 = 2 := rfl
    have w3 : IntKind.wrap .i64 3 = 3 := rfl
    have z4 : ((4 : Nat) : Int) = 4 := rfl
    have ew : IntKind.wrap .i64 (d - 1) = d - 1 := by rw [IntKind.wrap_i64]; omega
    (have F := An2 @grE @egE; refine Rg3 ?_; clear F; (repeat (with_reducible first | apply qa | apply qb | apply qc | apply qd | apply qe)))
    (have F := An7 @grE @egE @hgd @hs @hx @hob @hlv; refine Rg3 ?_; clear F; (repeat (with_reducible first | apply qa | apply qb | apply qc | apply qd | apply qe)))
    (refine Rg2 ?_; (repeat (with_reducible first | apply qa | apply qb | apply qc | apply qd | apply qe)))
    (have F := An5 @encL_len @f0 @f1 @c3 @ndE; refine Rg3 ?_; clear F; (repeat (with_reducible first | apply qa | apply qb | apply qc | apply qd | apply qe)))
    (have F := @y1; refine Rg3 ?_; clear F; (repeat (with_reducible first | apply qa | apply qb | apply qc | apply qd | apply qe)))
    cases b1
    rotate_left 1
    · rw [if_pos rfl] at hS
      subst hS
      (refine DV.condT rfl (fun _ => rfl) ?_; (repeat (with_reducible first | apply qa | apply qb | apply qc | apply qd | apply qe)))
      (refine Re2 ?_; (repeat with_reducible refine qn ?_); (try with_reducible refine qm ?_); (repeat (with_reducible first | apply qa | apply qb | apply qc | apply qd | apply qe)))
      (refine Rg2 ?_; (repeat (with_reducible first | apply qa | apply qb | apply qc | apply qd | apply qe)))
      (refine DV.ret ?_; (repeat (first | (with_reducible refine thenD_ret' ?_) | (with_reducible refine blockD_ret' ?_))); (with_reducible refine retD_ret' ?_); try (have F := @hpE; refine Rt1 ?_; clear F; try with_reducible exact True.intro))
    rw [if_neg (by decide)] at hS
    (refine DV.condF rfl (fun _ => rfl) ?_; (repeat (with_reducible first | apply qa | apply qb | apply qc | apply qd | apply qe)))
    (have F := @y2; refine Rg3 ?_; clear F; (repeat (with_reducible first | apply qa | apply qb | apply qc | apply qd | apply qe)))
    cases b2
    rotate_left 1
    · rw [if_pos rfl] at hS
      subst hS
      (refine DV.condT rfl (fun _ => rfl) ?_; (repeat (with_reducible first | apply qa | apply qb | apply qc | apply qd | apply qe)))
      (have F := @ew; refine Re3 ?_; clear F; (repeat with_reducible refine qn ?_); (try with_reducible refine qm ?_); (repeat (with_reducible first | apply qa | apply qb | apply qc | apply qd | apply qe)))
      (refine Rg2 ?_; (repeat (with_reducible first | apply qa | apply qb | apply qc | apply qd | apply qe)))
      (refine DV.ret ?_; (repeat (first | (with_reducible refine thenD_ret' ?_) | (with_reducible refine blockD_ret' ?_))); (with_reducible refine retD_ret' ?_); try (have F := @hpE; refine Rt1 ?_; clear F; try with_reducible exact True.intro))
    rw [if_neg (by decide)] at hS
    (refine DV.condF rfl (fun _ => rfl) ?_; (repeat (with_reducible first | apply qa | apply qb | apply qc | apply qd | apply qe)))
    (have F := @y3; refine Rg3 ?_; clear F; (repeat (with_reducible first | apply qa | apply qb | apply qc | apply qd | apply qe)))
    cases b3
    rotate_left 1
    · rw [if_pos rfl] at hS
      have q1 := d11 (.inr (beq_iff_eq.1 y3))
      have hm : d = 2 ∨ d = 3 ∨ d = 4 := by omega
      (refine DV.condT rfl (fun _ => rfl) ?_; (repeat (with_reducible first | apply qa | apply qb | apply qc | apply qd | apply qe)))
      clear hlv hob hd d1 d4 d11
      rcases hm with rfl | rfl | rfl
      all_goals
        subst hS
        (have F := An4 @w1 @w2 @w3 @z4; refine Re3 ?_; clear F; (repeat with_reducible refine qn ?_); (try with_reducible refine qm ?_); (repeat (with_reducible first | apply qa | apply qb | apply qc | apply qd | apply qe)))
        (refine Rg2 ?_; (repeat (with_reducible first | apply qa | apply qb | apply qc | apply qd | apply qe)))
        (refine DV.ret ?_; (repeat (first | (with_reducible refine thenD_ret' ?_) | (with_reducible refine blockD_ret' ?_))); (with_reducible refine retD_ret' ?_); try (have F := @hpE; refine Rt1 ?_; clear F; try with_reducible exact True.intro))
        decide
    rw [if_neg (by decide)] at hS
    subst hS
    (refine DV.condF rfl (fun _ => rfl) ?_; (repeat (with_reducible first | apply qa | apply qb | apply qc | apply qd | apply qe)))
    (refine DV.skip ?_; (repeat with_reducible refine qn ?_); (with_reducible refine qm ?_); (repeat (with_reducible first | apply qa | apply qb | apply qc | apply qd | apply qe)))
    (refine Rg2 ?_; (repeat (with_reducible first | apply qa | apply qb | apply qc | apply qd | apply qe)))
    (refine DV.ret ?_; (repeat (first | (with_reducible refine thenD_ret' ?_) | (with_reducible refine blockD_ret' ?_))); (with_reducible refine retD_ret' ?_); try (have F := @hpE; refine Rt1 ?_; clear F; try with_reducible exact True.intro))
  · exact h.elim
set_option maxHeartbeats 32000000 in
theorem walk_PathsOn (g : Gr) (_ : True) (n : Int) (bn : -9223372036854775808 ≤ n ∧ n ≤ 9223372036854775807) (t : Tm) (_ : True) (m : Int) (bm : -9223372036854775808 ≤ m ∧ m ≤ 9223372036854775807) (u : Tm) (_ : True) (k : Int) (bk : -9223372036854775808 ≤ k ∧ k ≤ 9223372036854775807) : Cal Try.prog 8 [.agg (grC.enc g), .c (.int .i64 n), .agg (tiC.enc t), .c (.int .i64 m), .agg (tiC.enc u), .c (.int .i64 k)] (.one (.c (.bool true))) := by
  have hgd : grC.dec [D.sl (encL inC g.p), D.sl (encL inC g.b), D.sl (encL ndC g.n), D.sl (encL egC g.e)] = g := grC.de g
  have htd := tiC.de t
  have hud := tiC.de u
  rw [tiE] at htd hud
  have CT := An8 @awkD10.eq_1 @rnsD.eq_1 @tabD.eq_1 @trgD.eq_1 @r9vD.eq_1 @reaD.eq_1 @strD.eq_1 @appD.eq_1; refine DV.of (Γ := ⟨[(27, awkD10), (30, rnsD), (29, tabD), (33, trgD), (34, r9vD), (35, reaD), (37, strD), (36, appD)], [], []⟩) (rs := [ResultVar.tmp 12]) [0, 1, 2, 3, 4, 5, 6, 8, 10, 12, 13, 14, 15, 17, 42, 63, 70, 89] ⟨by intro p hp; simp only [List.mem_cons, List.not_mem_nil, or_false] at hp; rcases hp with rfl | rfl | rfl | rfl | rfl | rfl | rfl | rfl; exact awk10_cal; exact rns_cal; exact tab_cal; exact trg_cal; exact r9v_cal; exact rea_cal; exact str_cal; exact app_cal, nofun⟩ (by kernel_rfl) Try.func8 rfl rfl (by kernel_rfl) rfl ?_; (repeat (with_reducible first | apply qa | apply qb | apply qc | apply qd | apply qe))
  (have F := An2 @grE @tiE; refine Rg3 ?_; clear F; (repeat (with_reducible first | apply qa | apply qb | apply qc | apply qd | apply qe)))
  (refine Rg2 ?_; (repeat (with_reducible first | apply qa | apply qb | apply qc | apply qd | apply qe)))
  (refine DV.condF rfl (fun _ => rfl) ?_; (repeat (with_reducible first | apply qa | apply qb | apply qc | apply qd | apply qe)))
  (refine DV.skip ?_; (repeat with_reducible refine qn ?_); (with_reducible refine qm ?_); (repeat (with_reducible first | apply qa | apply qb | apply qc | apply qd | apply qe)))
  obtain ⟨q0, hq0⟩ : ∃ q, runB g = q := ⟨_, rfl⟩
  obtain ⟨q, hq⟩ : ∃ q, ((((!q0 || decide (n < 0)) || decide ((g.n.length : Int) ≤ n)) || decide (m < 0)) || decide ((g.n.length : Int) ≤ m)) = q := ⟨_, rfl⟩
  (have F := An5 @encL_len @grE @hgd @hq0 @hq; refine Rg3 ?_; clear F; (repeat (with_reducible first | apply qa | apply qb | apply qc | apply qd | apply qe)))
  cases q
  rotate_left 1
  · (refine DV.condT rfl (fun _ => rfl) ?_; (repeat (with_reducible first | apply qa | apply qb | apply qc | apply qd | apply qe)))
    (refine Rg2 ?_; (repeat (with_reducible first | apply qa | apply qb | apply qc | apply qd | apply qe)))
    (refine DV.ret ?_; (repeat (first | (with_reducible refine thenD_ret' ?_) | (with_reducible refine blockD_ret' ?_))); (with_reducible refine retD_ret' ?_); try (refine Rt0 ?_; try with_reducible exact True.intro))
  simp only [Bool.or_eq_false_iff, decide_eq_false_iff_not, Bool.not_eq_false'] at hq
  obtain ⟨⟨⟨⟨rfl, n0⟩, n1⟩, m0⟩, m1⟩ := hq
  have n0 : 0 ≤ n := by omega
  have n1 : n < (g.n.length : Int) := by omega
  have m0 : 0 ≤ m := by omega
  have m1 : m < (g.n.length : Int) := by omega
  have hck : (chkS g).1 = 0 := by
    unfold runB at hq0
    split at hq0
    · cases hq0
    · exact ck_chk (by simpa using hq0)
  have hc := chk_ok hck
  have hsm := chkd_sm hc
  have hin : insB n g.n.length = true := insB_iff.2 ⟨n0, n1⟩
  have hlv : (if insB n g.n.length = true then ((chS g.p (plI g (ndAt g n) false)).length : Int) else 0) = depN g n := by rw [if_pos hin]; exact lev_dep hc n0 n1
  have hob : (insB n g.n.length = true → 0 ≤ (ndAt g n).s ∧ (ndAt g n).s < (g.p.length : Int)) = True := eq_true fun _ => (nodI_ok (hc.nd n n0 n1)).elim fun a b => ⟨a, b.1⟩
  have hself : rightB t = true → t.d = depN g n → reS (tbS g) n t n t = true := fun a b => re_self hck n0 n1 a b
  have hedge : ∀ e ∈ g.e, reS (tbS g) n t e.f u = true → apOk (stN (depN g e.f) (ndAt g e.f).k) u = true → reS (tbS g) n t e.t (apR (stN (depN g e.f) (ndAt g e.f).k) u) = true := fun e he => re_edge hck n0 n1 he
  have hso : ∀ a b : Int, (soS (tbS g) a b).length ≤ 1000000000 := so_len (tb_ok g)
  obtain ⟨T, hT⟩ : ∃ T, tbS g = T := ⟨_, rfl⟩
  rw [hT] at hself hedge hso
  obtain ⟨d, hd⟩ : ∃ d, depN g n = d := ⟨_, rfl⟩
  rw [hd] at hlv hself
  have so1 := hso n n
  have so2 := hso n m
  (refine DV.condF rfl (fun _ => rfl) ?_; (repeat (with_reducible first | apply qa | apply qb | apply qc | apply qd | apply qe)))
  (refine DV.skip ?_; (repeat with_reducible refine qn ?_); (with_reducible refine qm ?_); (repeat (with_reducible first | apply qa | apply qb | apply qc | apply qd | apply qe)))
  (have F := An4 @grE @hgd @hsm @hT; refine Rg3 ?_; clear F; (repeat (with_reducible first | apply qa | apply qb | apply qc | apply qd | apply qe)))
  obtain ⟨p1, hp1⟩ : ∃ q, rightB t = q := ⟨_, rfl⟩
  obtain ⟨p2, hp2⟩ : ∃ q, reS T n t n t = q := ⟨_, rfl⟩
  have hz : ((p1 && t.d == d) && !p2) = false := by
    rw [← hp1, ← hp2]
    cases h1 : rightB t
    · rfl
    · by_cases h2 : t.d = d
      · rw [hself h1 h2]
        simp
      · have : (t.d == d) = false := by rw [beq_eq_false_iff_ne]; exact h2
        rw [this]
        simp
  (have F := An14 @grE @hgd @hsm @tiE @tiD @htd @hlv @hob @hp1 @hp2 @hz @decL_encL @isL_enc @so1; refine Rd3 ?_; clear F; (repeat (with_reducible first | apply qa | apply qb | apply qc | apply qd | apply qe)))
  (refine DV.condF rfl (fun _ => rfl) ?_; (repeat (with_reducible first | apply qa | apply qb | apply qc | apply qd | apply qe)))
  (refine DV.skip ?_; (repeat with_reducible refine qn ?_); (with_reducible refine qm ?_); (repeat (with_reducible first | apply qa | apply qb | apply qc | apply qd | apply qe)))
  obtain ⟨p3, hp3⟩ : ∃ q, reS T n t m u = q := ⟨_, rfl⟩
  (have F := An8 @tiE @tiD @htd @hud @hp3 @decL_encL @isL_enc @so2; refine Rg3 ?_; clear F; (repeat (with_reducible first | apply qa | apply qb | apply qc | apply qd | apply qe)))
  cases p3
  · (refine DV.condT rfl (fun _ => rfl) ?_; (repeat (with_reducible first | apply qa | apply qb | apply qc | apply qd | apply qe)))
    (refine Rg2 ?_; (repeat (with_reducible first | apply qa | apply qb | apply qc | apply qd | apply qe)))
    (refine DV.ret ?_; (repeat (first | (with_reducible refine thenD_ret' ?_) | (with_reducible refine blockD_ret' ?_))); (with_reducible refine retD_ret' ?_); try (refine Rt0 ?_; try with_reducible exact True.intro))
  (refine DV.condF rfl (fun _ => rfl) ?_; (repeat (with_reducible first | apply qa | apply qb | apply qc | apply qd | apply qe)))
  (refine DV.skip ?_; (repeat with_reducible refine qn ?_); (with_reducible refine qm ?_); (repeat (with_reducible first | apply qa | apply qb | apply qc | apply qd | apply qe)))
  obtain ⟨v, hv⟩ : ∃ u, g.e[k.toNat]? = u := ⟨_, rfl⟩
  have ce : (encL egC g.e)[k.toNat]? = v.map egC.enc := by rw [← hv]; unfold encL; rw [List.getElem?_map]
  by_cases hk : 0 ≤ k ∧ k < (g.e.length : Int)
  rotate_left 1
  · have hq4 : (decide (k < 0) || decide ((g.e.length : Int) ≤ k)) = true := by
      rw [Bool.or_eq_true, decide_eq_true_iff, decide_eq_true_iff]
      omega
    clear hv
    cases v
    all_goals
      (apply DV.seqreg; kernel_rfl; (simp only [wpS, wpT, go1, evS, ev, Qc, Qd, Qe, Qg, Qh, Qk, Qo, Qr, Qs, Qt, Qu, Qv, QB, QE, QF, nilB, gdS, put1, sv, gs, gb, opd, cst, XW, QK, okS, QL, setAt, bad, dem, QP, QR, QS, QT, QU, QV, QW, QY, stC, QZ, Q2, Q3, Q4, Q5, Q6, Q7, Q8, Q9, Xc, lf, lfs, Xd, Xe, Xg, Xh, Xj, Xk, asP, pOk, Xp, Xt, Nat.reduceBEq, cv, cvL, wrL, Xw, Xy, XA, XB, keep, kp, cand, cor, List.map, List.append, Option.bind, ↓reduceIte, Nat.reduceEqDiff, Nat.reduceAdd, Nat.reduceMul, Nat.reduceLT, Nat.reduceLeDiff, reduceCtorEq, Int.reduceLT, Int.reduceLE, Int.reduceBEq, Int.reduceBNe, Int.reduceAdd, Int.reduceSub, Int.reduceToNat, dq, tya, awkD10, rnsD, tabD, trgD, r9vD, reaD, strD, appD, encL_len, hq4, ce, Option.map_none, Option.map_some, Option.getD_none, Option.getD_some, undef, egE]; exact rfl); (repeat (with_reducible first | apply qa | apply qb | apply qc | apply qd | apply qe)))
      (refine DV.condT rfl (fun _ => rfl) ?_; (repeat (with_reducible first | apply qa | apply qb | apply qc | apply qd | apply qe)))
      (refine Rg2 ?_; (repeat (with_reducible first | apply qa | apply qb | apply qc | apply qd | apply qe)))
      (refine DV.ret ?_; (repeat (first | (with_reducible refine thenD_ret' ?_) | (with_reducible refine blockD_ret' ?_))); (with_reducible refine retD_ret' ?_); try (refine Rt0 ?_; try with_reducible exact True.intro))
  obtain ⟨k0, k1⟩ := hk
  have k2 : k.toNat < g.e.length := by omega
  clear ce hv v
  have hq4 : (decide (k < 0) || decide ((g.e.length : Int) ≤ k)) = false := by rw [decide_eq_false (by omega), decide_eq_false (by omega)]; rfl
  have c3 := encL_get (C := egC) (egAt_of k0 k1)
  have hmem := List.mem_of_getElem? (egAt_of k0 k1)
  obtain ⟨e, he⟩ : ∃ e, egAt g k = e := ⟨_, rfl⟩
  rw [he] at c3 hmem
  have hed := hedge e hmem
  obtain ⟨q5, hq5⟩ : ∃ q, (e.f != m) = q := ⟨_, rfl⟩
  (have F := An8 @encL_len @hq4 @k0 @k1 @k2 @c3 @egE @hq5; refine Rg3 ?_; clear F; (repeat (with_reducible first | apply qa | apply qb | apply qc | apply qd | apply qe)))
  cases q5
  rotate_left 1
  · (refine DV.condT rfl (fun _ => rfl) ?_; (repeat (with_reducible first | apply qa | apply qb | apply qc | apply qd | apply qe)))
    (refine Rg2 ?_; (repeat (with_reducible first | apply qa | apply qb | apply qc | apply qd | apply qe)))
    (refine DV.ret ?_; (repeat (first | (with_reducible refine thenD_ret' ?_) | (with_reducible refine blockD_ret' ?_))); (with_reducible refine retD_ret' ?_); try (refine Rt0 ?_; try with_reducible exact True.intro))
  have hfm : e.f = m := by simpa using hq5
  subst hfm
  have hed' := egC.de e
  rw [egE] at hed'
  obtain ⟨S, hS⟩ : ∃ S, stN (depN g e.f) (ndAt g e.f).k = S := ⟨_, rfl⟩
  rw [hS] at hed
  have hSd := hpC.de S
  rw [hpE] at hSd
  obtain ⟨x, hx⟩ : ∃ x, apR S u = x := ⟨_, rfl⟩
  obtain ⟨p4, hp4⟩ : ∃ x, apOk S u = x := ⟨_, rfl⟩
  obtain ⟨p5, hp5⟩ : ∃ z, reS T n t e.t x = z := ⟨_, rfl⟩
  rw [hx, hp4, hp5] at hed
  have hfin : (!p4 || p5) = true := by
    cases p4
    · rfl
    · exact hed hp3 rfl
  have hxd := tiC.de x
  rw [tiE] at hxd
  have so3 := hso n e.t
  (refine DV.condF rfl (fun _ => rfl) ?_; (repeat (with_reducible first | apply qa | apply qb | apply qc | apply qd | apply qe)))
  (refine DV.skip ?_; (repeat with_reducible refine qn ?_); (with_reducible refine qm ?_); (repeat (with_reducible first | apply qa | apply qb | apply qc | apply qd | apply qe)))
  (have F := An20 @grE @hgd @hc @encL_len @k0 @k1 @k2 @c3 @egE @hed' @m0 @m1 @hS @hpE @hSd @tiE @tiD @hud @hx @hp4; refine Rd3 ?_; clear F; (repeat (with_reducible first | apply qa | apply qb | apply qc | apply qd | apply qe)))
  (have F := An15 @encL_len @k0 @k1 @k2 @c3 @egE @tiE @tiD @htd @hxd @hp5 @hfin @decL_encL @isL_enc @so3; refine Rd3 ?_; clear F; (repeat (with_reducible first | apply qa | apply qb | apply qc | apply qd | apply qe)))
  (refine DV.ret ?_; (repeat (first | (with_reducible refine thenD_ret' ?_) | (with_reducible refine blockD_ret' ?_))); (with_reducible refine retD_ret' ?_); try (refine Rt0 ?_; try with_reducible exact True.intro))

end Go.Proofs.Ytkmgdejpdhlleaa.Dq
