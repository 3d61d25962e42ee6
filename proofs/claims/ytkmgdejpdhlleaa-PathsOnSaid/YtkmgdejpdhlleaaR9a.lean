/- The reference's graphs that may run by deep values: chains, ports, places. -/
import Derived.Test.YtkmgdejpdhlleaaVa2
import Derived.Test.YtkmgdejpdhlleaaVaP
namespace Go.Proofs.Ytkmgdejpdhlleaa.Dq
set_option linter.unusedSimpArgs false
set_option linter.unusedVariables false
set_option maxRecDepth 100000
open Go.RowKit
open Va

def r9cD : List S1 → CR × Prop
  | [.agg g, .c (.int .i64 s)] => (.one (.c (.sl (encL inC (chS (grC.dec g).p s)))), grC.enc (grC.dec g) = g ∧ Sm (grC.dec g))
  | _ => (.one (.c (.bool false)), False)
set_option maxHeartbeats 8000000 in
theorem r9c_cal (args : List S1) (h : (r9cD args).2) : Cal Try.prog 90 args (r9cD args).1 := by
  unfold r9cD at h ⊢
  split at h
  · next g0 s =>
    refine DV.of (Γ := ⟨[], [], []⟩) (rs := [ResultVar.tmp 4]) [0, 1, 2, 4, 5, 19] ⟨nofun, nofun⟩ (by kernel_rfl) Try.func90 rfl rfl (by kernel_rfl) rfl ?_; (repeat (with_reducible first | apply qa | apply qb | apply qc | apply qd | apply qe))
    obtain ⟨hg, hsm⟩ := h
    obtain ⟨g, rfl⟩ : ∃ v, g0 = grC.enc v := ⟨_, hg.symm⟩
    rw [grC.de] at hsm ⊢
    clear hg
    obtain ⟨F, hF⟩ : ∃ F, chS g.p s = F := ⟨_, rfl⟩
    rw [hF]
    unfold chS at hF
    (have F := @grE; refine Rg1 ?_; clear F; (repeat (with_reducible first | apply qa | apply qb | apply qc | apply qd | apply qe)))
    (refine Rg0 ?_; (repeat (with_reducible first | apply qa | apply qb | apply qc | apply qd | apply qe)))
    refine DV.loop (fun x : Int × List Int => ⟨[(1, .v true (.c (.int .i64 x.1))), (2, .v true (.box 2 0)), (5, .v true (.c (.sl (encL inC x.2))))], [(2, some ⟨0, 0, [[.sl (encL inC g.p), .sl (encL inC g.b), .sl (encL ndC g.n), .sl (encL egC g.e)]]⟩)], []⟩) (fun x => x.2.length ≤ 10 ∧ chF g.p (10 - x.2.length) x.1 x.2 = F) (fun x => 10 - x.2.length) (s, []) ⟨Nat.zero_le _, hF⟩ (by exact Wk0) (fun x hx => ?_)
    obtain ⟨t, l⟩ := x
    dsimp only at hx ⊢
    obtain ⟨hl, hR⟩ := hx
    (repeat (with_reducible first | apply qa | apply qb | apply qc | apply qd | apply qe))
    obtain ⟨b, hb⟩ : ∃ b, insB t g.p.length = b := ⟨_, rfl⟩
    obtain ⟨c, hc⟩ : ∃ c, decide ((l.length : Int) < 10) = c := ⟨_, rfl⟩
    obtain ⟨q, hq⟩ : ∃ q, (b && c) = q := ⟨_, rfl⟩
    have hb' : (decide (0 ≤ t) && decide (t < (g.p.length : Int))) = b := hb
    (have F := An4 @encL_len @hb' @hc @hq; refine Rg1 ?_; clear F; (repeat (with_reducible first | apply qa | apply qb | apply qc | apply qd | apply qe)))
    cases q
    · have hR : l = F := by
        rw [Bool.and_eq_false_iff] at hq
        rcases hq with hq | hq
        · subst hq
          cases e : 10 - l.length with
          | zero => rw [e] at hR; exact hR
          | succ f =>
            rw [e, chF, hb, if_neg (by decide)] at hR
            exact hR
        · subst hq
          have := of_decide_eq_false hc
          rw [show 10 - l.length = 0 by omega] at hR
          exact hR
      subst hR
      (refine DV.condF rfl (fun _ => rfl) ?_; (repeat (with_reducible first | apply qa | apply qb | apply qc | apply qd | apply qe)))
      (refine DV.exit ?_; (repeat (first | (with_reducible refine thenD_exit' ?_) | (with_reducible refine blockD_other (by decide) ?_))); (with_reducible refine blockD_same ?_); (repeat with_reducible refine qn ?_); (with_reducible refine qm ?_); (repeat (with_reducible first | apply qa | apply qb | apply qc | apply qd | apply qe)))
      (refine Rg0 ?_; (repeat (with_reducible first | apply qa | apply qb | apply qc | apply qd | apply qe)))
      (refine DV.ret ?_; (repeat (first | (with_reducible refine thenD_ret' ?_) | (with_reducible refine blockD_ret' ?_))); (with_reducible refine retD_ret' ?_); try (refine Rt0 ?_; try with_reducible exact True.intro))
    rw [Bool.and_eq_true] at hq
    obtain ⟨rfl, rfl⟩ := hq
    have hlt : l.length < 10 := by have := of_decide_eq_true hc; omega
    have hi := insB_iff.1 hb
    obtain ⟨t0, t1⟩ := hi
    have c3 := encL_get (C := inC) (getI_of t0 t1)
    have t2 : t.toNat < g.p.length := by omega
    rw [show 10 - l.length = (10 - (t :: l).length) + 1 by rw [List.length_cons]; omega, chF, hb, if_pos rfl] at hR
    have hrow : [D.int .i64 t] :: encL inC l = encL inC (t :: l) := rfl
    have q1 := Lib.hid (capOk_of (n := 1 + l.length) (by omega))
    have q2 := Lib.hid (capB (n := 1 + l.length) (k := 8) (by omega) (by decide))
    have a1 := in_all l
    obtain ⟨l2, hl2⟩ : ∃ z, t :: l = z := ⟨_, rfl⟩
    have hl2l : l2.length = l.length + 1 := by rw [← hl2]; rfl
    rw [hl2] at hR hrow
    (refine DV.condT rfl (fun _ => rfl) ?_; (repeat (with_reducible first | apply qa | apply qb | apply qc | apply qd | apply qe)))
    (refine DV.skip ?_; (repeat with_reducible refine qn ?_); (with_reducible refine qm ?_); (repeat (with_reducible first | apply qa | apply qb | apply qc | apply qd | apply qe)))
    (have F := An6 @encL_len q1.out q2.out @a1 @range1 @hrow; refine Rg1 ?_; clear F; (repeat (with_reducible first | apply qa | apply qb | apply qc | apply qd | apply qe)))
    (have F := An7 @i2n @encL_len @t0 @t1 @t2 @c3 @inE; refine Re1 ?_; clear F; (repeat with_reducible refine qn ?_); (try with_reducible refine qm ?_); (repeat (with_reducible first | apply qa | apply qb | apply qc | apply qd | apply qe)))
    exact ⟨(getI g.p t, l2), ⟨⟨by dsimp only; omega, hR⟩, by dsimp only; omega⟩, by exact Wk0⟩
  · exact h.elim
def r9lD : List S1 → CR × Prop
  | [.agg g, .c (.int .i64 n), .c (.bool gv)] => (.one (.c (.int .i64 (plI (grC.dec g) (ndAt (grC.dec g) n) gv))), grC.enc (grC.dec g) = g ∧ Sm (grC.dec g) ∧ 0 ≤ n ∧ n < ((grC.dec g).n.length : Int) ∧ 0 ≤ (ndAt (grC.dec g) n).s ∧ (ndAt (grC.dec g) n).s < ((grC.dec g).p.length : Int))
  | _ => (.one (.c (.bool false)), False)
set_option maxHeartbeats 4000000 in
theorem r9l_cal (args : List S1) (h : (r9lD args).2) : Cal Try.prog 91 args (r9lD args).1 := by
  unfold r9lD at h ⊢
  split at h
  · next g0 n gv =>
    refine DV.of (Γ := ⟨[], [], []⟩) (rs := [ResultVar.tmp 6]) [0, 1, 2, 3, 6, 7, 27] ⟨nofun, nofun⟩ (by kernel_rfl) Try.func91 rfl rfl (by kernel_rfl) rfl ?_; (repeat (with_reducible first | apply qa | apply qb | apply qc | apply qd | apply qe))
    obtain ⟨hg, hsm, n0', n1', s0, s1⟩ := h
    obtain ⟨g, rfl⟩ : ∃ v, g0 = grC.enc v := ⟨_, hg.symm⟩
    rw [grC.de] at hsm n1' s0 s1 ⊢
    clear hg
    have c3 := encL_get (C := ndC) (ndAt_of n0' n1')
    obtain ⟨x, hx⟩ : ∃ x, ndAt g n = x := ⟨_, rfl⟩
    rw [hx] at c3 s0 s1 ⊢
    have c4 := encL_get (C := inC) (getI_of s0 s1)
    obtain ⟨F, hF⟩ : ∃ F, plI g x gv = F := ⟨_, rfl⟩
    rw [hF]
    unfold plI at hF
    obtain ⟨b1, h1⟩ : ∃ b, (x.k == 10) = b := ⟨_, rfl⟩
    obtain ⟨b2, h2⟩ : ∃ b, (x.k == 11) = b := ⟨_, rfl⟩
    obtain ⟨q, hq⟩ : ∃ q, ((b1 && !gv) || (b2 && gv)) = q := ⟨_, rfl⟩
    rw [h1, h2, hq] at hF
    (have F := @grE; refine Rg1 ?_; clear F; (repeat (with_reducible first | apply qa | apply qb | apply qc | apply qd | apply qe)))
    (have F := An6 @i2n @encL_len @n0' @n1' @c3 @ndE; refine Rg1 ?_; clear F; (repeat (with_reducible first | apply qa | apply qb | apply qc | apply qd | apply qe)))
    (have F := An4 @ndE @h1 @h2 @hq; refine Rg1 ?_; clear F; (repeat (with_reducible first | apply qa | apply qb | apply qc | apply qd | apply qe)))
    cases q
    · rw [if_neg (by decide)] at hF
      (refine DV.condF rfl (fun _ => rfl) ?_; (repeat (with_reducible first | apply qa | apply qb | apply qc | apply qd | apply qe)))
      (refine DV.skip ?_; (repeat with_reducible refine qn ?_); (with_reducible refine qm ?_); (repeat (with_reducible first | apply qa | apply qb | apply qc | apply qd | apply qe)))
      (have F := @ndE; refine Rg1 ?_; clear F; (repeat (with_reducible first | apply qa | apply qb | apply qc | apply qd | apply qe)))
      (refine DV.ret ?_; (repeat (first | (with_reducible refine thenD_ret' ?_) | (with_reducible refine blockD_ret' ?_))); (with_reducible refine retD_ret' ?_); try (refine Rt0 ?_; try with_reducible exact True.intro))
      exact hF
    · rw [if_pos rfl] at hF
      (refine DV.condT rfl (fun _ => rfl) ?_; (repeat (with_reducible first | apply qa | apply qb | apply qc | apply qd | apply qe)))
      (have F := An7 @i2n @encL_len @ndE @s0 @s1 @c4 @inE; refine Rg1 ?_; clear F; (repeat (with_reducible first | apply qa | apply qb | apply qc | apply qd | apply qe)))
      (refine DV.ret ?_; (repeat (first | (with_reducible refine thenD_ret' ?_) | (with_reducible refine blockD_ret' ?_))); (with_reducible refine retD_ret' ?_); try (refine Rt0 ?_; try with_reducible exact True.intro))
      exact hF
  · exact h.elim
def r9vD : List S1 → CR × Prop
  | [.agg g, .c (.int .i64 n), .c (.bool gv)] => (.one (.c (.int .i64 (if insB n (grC.dec g).n.length = true then (chS (grC.dec g).p (plI (grC.dec g) (ndAt (grC.dec g) n) gv)).length else 0))), grC.enc (grC.dec g) = g ∧ Sm (grC.dec g) ∧ (insB n (grC.dec g).n.length = true → 0 ≤ (ndAt (grC.dec g) n).s ∧ (ndAt (grC.dec g) n).s < ((grC.dec g).p.length : Int)))
  | _ => (.one (.c (.bool false)), False)
set_option maxHeartbeats 8000000 in
theorem r9v_cal (args : List S1) (h : (r9vD args).2) : Cal Try.prog 34 args (r9vD args).1 := by
  unfold r9vD at h ⊢
  split at h
  · next g0 n gv =>
    have CT := An2 @r9cD.eq_1 @r9lD.eq_1; refine DV.of (Γ := ⟨[(90, r9cD), (91, r9lD)], [], []⟩) (rs := [ResultVar.tmp 6]) [0, 1, 2, 3, 6, 15] ⟨by intro p hp; simp only [List.mem_cons, List.not_mem_nil, or_false] at hp; rcases hp with rfl | rfl; exact r9c_cal; exact r9l_cal, nofun⟩ (by kernel_rfl) Try.func34 rfl rfl (by kernel_rfl) rfl ?_; (repeat (with_reducible first | apply qa | apply qb | apply qc | apply qd | apply qe))
    obtain ⟨hg, hsm, hs⟩ := h
    obtain ⟨g, rfl⟩ : ∃ v, g0 = grC.enc v := ⟨_, hg.symm⟩
    rw [grC.de] at hsm hs ⊢
    clear hg
    have hgd : grC.dec [D.sl (encL inC g.p), D.sl (encL inC g.b), D.sl (encL ndC g.n), D.sl (encL egC g.e)] = g := grC.de g
    obtain ⟨F, hF⟩ : ∃ F : Int, (if insB n g.n.length = true then ((chS g.p (plI g (ndAt g n) gv)).length : Int) else 0) = F := ⟨_, rfl⟩
    rw [hF]
    obtain ⟨b, hb⟩ : ∃ b, insB n g.n.length = b := ⟨_, rfl⟩
    rw [hb] at hF hs
    have hb' : (decide (n < 0) || decide ((g.n.length : Int) ≤ n)) = !b := by
      rw [← hb]
      unfold insB
      by_cases h1 : 0 ≤ n <;> by_cases h2 : n < (g.n.length : Int)
      · rw [decide_eq_true h1, decide_eq_true h2, decide_eq_false (by omega), decide_eq_false (by omega)]; rfl
      · rw [decide_eq_true h1, decide_eq_false h2, decide_eq_false (by omega), decide_eq_true (by omega)]; rfl
      · rw [decide_eq_false h1, decide_eq_true h2, decide_eq_true (by omega), decide_eq_false (by omega)]; rfl
      · rw [decide_eq_false h1, decide_eq_false h2, decide_eq_true (by omega), decide_eq_true (by omega)]; rfl
    (have F := @grE; refine Rg3 ?_; clear F; (repeat (with_reducible first | apply qa | apply qb | apply qc | apply qd | apply qe)))
    (have F := An2 @encL_len @hb'; refine Rg3 ?_; clear F; (repeat (with_reducible first | apply qa | apply qb | apply qc | apply qd | apply qe)))
    cases b
    · rw [if_neg (by decide)] at hF
      (refine DV.condT rfl (fun _ => rfl) ?_; (repeat (with_reducible first | apply qa | apply qb | apply qc | apply qd | apply qe)))
      (refine Rg2 ?_; (repeat (with_reducible first | apply qa | apply qb | apply qc | apply qd | apply qe)))
      (refine DV.ret ?_; (repeat (first | (with_reducible refine thenD_ret' ?_) | (with_reducible refine blockD_ret' ?_))); (with_reducible refine retD_ret' ?_); try (refine Rt0 ?_; try with_reducible exact True.intro))
      exact hF
    · rw [if_pos rfl] at hF
      obtain ⟨s0, s1⟩ := hs rfl
      obtain ⟨n0', n1'⟩ := insB_iff.1 hb
      obtain ⟨x, hx⟩ : ∃ x, ndAt g n = x := ⟨_, rfl⟩
      rw [hx] at s0 s1 hF
      obtain ⟨p, hp⟩ : ∃ p, plI g x gv = p := ⟨_, rfl⟩
      rw [hp] at hF
      (refine DV.condF rfl (fun _ => rfl) ?_; (repeat (with_reducible first | apply qa | apply qb | apply qc | apply qd | apply qe)))
      (refine DV.skip ?_; (repeat with_reducible refine qn ?_); (with_reducible refine qm ?_); (repeat (with_reducible first | apply qa | apply qb | apply qc | apply qd | apply qe)))
      (have F := An10 @grE @hgd @hsm @n0' @n1' @hx @s0 @s1 @hp @encL_len; refine Rd3 ?_; clear F; (repeat (with_reducible first | apply qa | apply qb | apply qc | apply qd | apply qe)))
      (refine DV.ret ?_; (repeat (first | (with_reducible refine thenD_ret' ?_) | (with_reducible refine blockD_ret' ?_))); (with_reducible refine retD_ret' ?_); try (refine Rt0 ?_; try with_reducible exact True.intro))
      exact hF
  · exact h.elim
def r9rD : List S1 → CR × Prop
  | [.agg g, .c (.int .i64 s), .c (.int .i64 f)] => (.one (.c (.bool (aruB (chS (grC.dec g).p f) s))), grC.enc (grC.dec g) = g ∧ Sm (grC.dec g))
  | _ => (.one (.c (.bool false)), False)
set_option maxHeartbeats 8000000 in
theorem r9r_cal (args : List S1) (h : (r9rD args).2) : Cal Try.prog 173 args (r9rD args).1 := by
  unfold r9rD at h ⊢
  split at h
  · next g0 s f =>
    have CT := @r9cD.eq_1; refine DV.of (Γ := ⟨[(90, r9cD)], [], []⟩) (rs := [ResultVar.tmp 6]) [0, 1, 2, 3, 6, 7, 8, 16, 24] ⟨by intro p hp; simp only [List.mem_singleton] at hp; subst hp; exact r9c_cal, nofun⟩ (by kernel_rfl) Try.func173 rfl rfl (by kernel_rfl) rfl ?_; (repeat (with_reducible first | apply qa | apply qb | apply qc | apply qd | apply qe))
    obtain ⟨hg, hsm⟩ := h
    obtain ⟨g, rfl⟩ : ∃ v, g0 = grC.enc v := ⟨_, hg.symm⟩
    rw [grC.de] at hsm ⊢
    clear hg
    have hgd : grC.dec [D.sl (encL inC g.p), D.sl (encL inC g.b), D.sl (encL ndC g.n), D.sl (encL egC g.e)] = g := grC.de g
    have hl10 := chF_len g.p 10 f []
    obtain ⟨l, hl⟩ : ∃ l, chS g.p f = l := ⟨_, rfl⟩
    have hl10 : l.length ≤ 10 := by rw [← hl]; unfold chS; simpa using hl10
    rw [hl]
    obtain ⟨F, hF⟩ : ∃ F, aruB l s = F := ⟨_, rfl⟩
    rw [hF]
    unfold aruB at hF
    (have F := @grE; refine Rg3 ?_; clear F; (repeat (with_reducible first | apply qa | apply qb | apply qc | apply qd | apply qe)))
    (have F := An4 @grE @hgd @hsm @hl; refine Rg3 ?_; clear F; (repeat (with_reducible first | apply qa | apply qb | apply qc | apply qd | apply qe)))
    (refine Rg2 ?_; (repeat (with_reducible first | apply qa | apply qb | apply qc | apply qd | apply qe)))
    refine DV.loop (fun j : Nat => ⟨[(1, .v true (.c (.int .i64 s))), (7, .v true (.c (.sl (encL inC l)))), (8, .v true (.c (.int .i64 j)))], [], []⟩) (fun j => j ≤ l.length ∧ ∀ (k : Nat) y, k < j → l[k]? = some y → (y == s) = false) (fun j => l.length - j) 0 ⟨Nat.zero_le _, fun k y hk => absurd hk (Nat.not_lt_zero k)⟩ (by (have F := @n0; exact Wk1)) (fun j hj => ?_)
    obtain ⟨hj, hall⟩ := hj
    (repeat (with_reducible first | apply qa | apply qb | apply qc | apply qd | apply qe))
    have ew := wr1 j (by omega)
    by_cases hlt : j + 1 < l.length
    · obtain ⟨y, hy⟩ : ∃ y, l[j]? = some y := ⟨_, List.getElem?_eq_getElem (by omega)⟩
      have d1 : decide (((j + 1 : Nat) : Int) < (l.length : Int)) = true := decide_eq_true (by omega)
      have c1 : (0 : Int) ≤ j := by omega
      have c2 : (j : Int) < (l.length : Int) := by omega
      have c3 := encL_get (C := inC) hy
      obtain ⟨b, hb⟩ : ∃ b, (y == s) = b := ⟨_, rfl⟩
      (have F := An3 @ew @encL_len @d1; refine Rg3 ?_; clear F; (repeat (with_reducible first | apply qa | apply qb | apply qc | apply qd | apply qe)))
      (refine DV.condT rfl (fun _ => rfl) ?_; (repeat (with_reducible first | apply qa | apply qb | apply qc | apply qd | apply qe)))
      (refine DV.skip ?_; (repeat with_reducible refine qn ?_); (with_reducible refine qm ?_); (repeat (with_reducible first | apply qa | apply qb | apply qc | apply qd | apply qe)))
      (have F := An7 @i2n @encL_len @c1 @c2 @c3 @inE @hb; refine Rg3 ?_; clear F; (repeat (with_reducible first | apply qa | apply qb | apply qc | apply qd | apply qe)))
      cases b
      · (refine DV.condF rfl (fun _ => rfl) ?_; (repeat (with_reducible first | apply qa | apply qb | apply qc | apply qd | apply qe)))
        (refine DV.skip ?_; (repeat with_reducible refine qn ?_); (with_reducible refine qm ?_); (repeat (with_reducible first | apply qa | apply qb | apply qc | apply qd | apply qe)))
        (have F := @ew; refine Re3 ?_; clear F; (repeat with_reducible refine qn ?_); (try with_reducible refine qm ?_); (repeat (with_reducible first | apply qa | apply qb | apply qc | apply qd | apply qe)))
        refine ⟨j + 1, ⟨⟨by omega, fun k z hk hz => ?_⟩, by omega⟩, by exact Wk0⟩
        rcases Nat.lt_or_ge k j with h | h
        · exact hall k z h hz
        · obtain rfl : k = j := by omega
          rw [hy] at hz
          obtain rfl := Option.some.inj hz
          exact hb
      · have hany : ((l.take (l.length - 1)).any fun y => y == s) = true := List.any_eq_true.2 ⟨y, List.mem_of_getElem? (i := j) (by rw [List.getElem?_take, if_pos (by omega)]; exact hy), hb⟩
        rw [hany] at hF
        (refine DV.condT rfl (fun _ => rfl) ?_; (repeat (with_reducible first | apply qa | apply qb | apply qc | apply qd | apply qe)))
        (refine Rg2 ?_; (repeat (with_reducible first | apply qa | apply qb | apply qc | apply qd | apply qe)))
        (refine DV.ret ?_; (repeat (first | (with_reducible refine thenD_ret' ?_) | (with_reducible refine blockD_ret' ?_))); (with_reducible refine retD_ret' ?_); try (refine Rt0 ?_; try with_reducible exact True.intro))
        exact hF
    · have d1 : decide (((j + 1 : Nat) : Int) < (l.length : Int)) = false := decide_eq_false (by omega)
      have hno : ((l.take (l.length - 1)).any fun y => y == s) = false := List.any_eq_false.2 fun y hy => by
        obtain ⟨k, hk⟩ := List.getElem?_of_mem hy
        rw [List.getElem?_take] at hk
        split at hk
        · rw [hall k y (by omega) hk]
          decide
        · cases hk
      rw [hno] at hF
      (have F := An3 @ew @encL_len @d1; refine Rg3 ?_; clear F; (repeat (with_reducible first | apply qa | apply qb | apply qc | apply qd | apply qe)))
      (refine DV.condF rfl (fun _ => rfl) ?_; (repeat (with_reducible first | apply qa | apply qb | apply qc | apply qd | apply qe)))
      (refine DV.exit ?_; (repeat (first | (with_reducible refine thenD_exit' ?_) | (with_reducible refine blockD_other (by decide) ?_))); (with_reducible refine blockD_same ?_); (repeat with_reducible refine qn ?_); (with_reducible refine qm ?_); (repeat (with_reducible first | apply qa | apply qb | apply qc | apply qd | apply qe)))
      (refine Rg2 ?_; (repeat (with_reducible first | apply qa | apply qb | apply qc | apply qd | apply qe)))
      (refine DV.ret ?_; (repeat (first | (with_reducible refine thenD_ret' ?_) | (with_reducible refine blockD_ret' ?_))); (with_reducible refine retD_ret' ?_); try (refine Rt0 ?_; try with_reducible exact True.intro))
      exact hF
  · exact h.elim
end Go.Proofs.Ytkmgdejpdhlleaa.Dq
