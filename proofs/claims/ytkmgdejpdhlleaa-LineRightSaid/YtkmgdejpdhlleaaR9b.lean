/- The reference's chains, places, levels, programs, ports, scopes, operators. -/
import Derived.Test.YtkmgdejpdhlleaaVa2
import Derived.Test.YtkmgdejpdhlleaaVaP
namespace Go.Proofs.Ytkmgdejpdhlleaa.Dq
set_option linter.unusedSimpArgs false
set_option linter.unusedVariables false
set_option maxRecDepth 100000
open Go.RowKit

open Va

def r9cD : List S1 → CR × Prop
  | [.agg g, .c (.int .i64 s)] => (.one (.c (.sl (encL inC (chS (grC.dec g).p s)))), grC.enc (grC.dec g) = g ∧ Sm (grC.dec g))
  | _ => (.one (.c (.bool false)), False)
set_option maxHeartbeats 8000000 in
theorem r9c_cal (args : List S1) (h : (r9cD args).2) : Cal Try.prog 90 args (r9cD args).1 := by
  unfold r9cD at h ⊢
  split at h
  · next g0 s =>
    refine DV.of (Γ := ⟨[], [], []⟩) (rs := [ResultVar.tmp 4]) [0, 1, 2, 4, 5, 19] ⟨nofun, nofun⟩ (by kernel_rfl) Try.func90 rfl rfl (by kernel_rfl) rfl ?_; (repeat (with_reducible first | apply qa | apply qb | apply qc | apply qd | apply qe))
    obtain ⟨hg, hsm⟩ := h
    obtain ⟨g, rfl⟩ : ∃ v, g0 = grC.enc v := ⟨_, hg.symm⟩
    rw [grC.de] at hsm ⊢
    clear hg
    obtain ⟨F, hF⟩ : ∃ F, chS g.p s = F := ⟨_, rfl⟩
    rw [hF]
    unfold chS at hF
    (have F := @grE; refine Rg1 ?_; clear F; (repeat (with_reducible first | apply qa | apply qb | apply qc | apply qd | apply qe)))
    (refine Rg0 ?_; (repeat (with_reducible first | apply qa | apply qb | apply qc | apply qd | apply qe)))
    refine DV.loop (fun x : Int × List Int => ⟨[(1, .v true (.c (.int .i64 x.1))), (2, .v true (.box 2 0)), (5, .v true (.c (.sl (encL inC x.2))))], [(2, some ⟨0, 0, [[.sl (encL inC g.p), .sl (encL inC g.b), .sl (encL ndC g.n), .sl (encL egC g.e)]]⟩)], []⟩) (fun x => x.2.length ≤ 10 ∧ chF g.p (10 - x.2.length) x.1 x.2 = F) (fun x => 10 - x.2.length) (s, []) ⟨Nat.zero_le _, hF⟩ (by exact Wk0) (fun x hx => ?_)
    obtain ⟨t, l⟩ := x
    dsimp only at hx ⊢
    obtain ⟨hl, hR⟩ := hx
    (repeat (with_reducible first | apply qa | apply qb | apply qc | apply qd | apply qe))
    obtain ⟨b, hb⟩ : ∃ b, insB t g.p.length = b := ⟨_, rfl⟩
    obtain ⟨c, hc⟩ : ∃ c, decide ((l.length : Int) < 10) = c := ⟨_, rfl⟩
    obtain ⟨q, hq⟩ : ∃ q, (b && c) = q := ⟨_, rfl⟩
    have hb' : (decide (0 ≤ t) && decide (t < (g.p.length : Int))) = b := hb
    (have F := An4 @encL_len @hb' @hc @hq; refine Rg1 ?_; clear F; (repeat (with_reducible first | apply qa | apply qb | apply qc | apply qd | apply qe)))
    cases q
    · have hR : l = F := by
        rw [Bool.and_eq_false_iff] at hq
        rcases hq with hq | hq
        · subst hq
          cases e : 10 - l.length with
          | zero => rw [e] at hR; exact hR
          | succ f =>
            rw [e, chF, hb, if_neg (by decide)] at hR
            exact hR
        · subst hq
          have := of_decide_eq_false hc
          rw [show 10 - l.length = 0 by omega] at hR
          exact hR
      subst hR
      (refine DV.condF rfl (fun _ => rfl) ?_; (repeat (with_reducible first | apply qa | apply qb | apply qc | apply qd | apply qe)))
      (refine DV.exit ?_; (repeat (first | (with_reducible refine thenD_exit' ?_) | (with_reducible refine blockD_other (by decide) ?_))); (with_reducible refine blockD_same ?_); (repeat with_reducible refine qn ?_); (with_reducible refine qm ?_); (repeat (with_reducible first | apply qa | apply qb | apply qc | apply qd | apply qe)))
      (refine Rg0 ?_; (repeat (with_reducible first | apply qa | apply qb | apply qc | apply qd | apply qe)))
      (refine DV.ret ?_; (repeat (first | (with_reducible refine thenD_ret' ?_) | (with_reducible refine blockD_ret' ?_))); (with_reducible refine retD_ret' ?_); try (refine Rt0 ?_; try with_reducible exact True.intro))
    rw [Bool.and_eq_true] at hq
    obtain ⟨rfl, rfl⟩ := hq
    have hlt : l.length < 10 := by have := of_decide_eq_true hc; omega
    have hi := insB_iff.1 hb
    obtain ⟨t0, t1⟩ := hi
    have c3 := encL_get (C := inC) (getI_of t0 t1)
    have t2 : t.toNat < g.p.length := by omega
    rw [show 10 - l.length = (10 - (t :: l).length) + 1 by rw [List.length_cons]; omega, chF, hb, if_pos rfl] at hR
    have hrow : [D.int .i64 t] :: encL inC l = encL inC (t :: l) := rfl
    have q1 := Lib.hid (capOk_of (n := 1 + l.length) (by omega))
    have q2 := Lib.hid (capB (n := 1 + l.length) (k := 8) (by omega) (by decide))
    have a1 := in_all l
    obtain ⟨l2, hl2⟩ : ∃ z, t :: l = z := ⟨_, rfl⟩
    have hl2l : l2.length = l.length + 1 := by rw [← hl2]; rfl
    rw [hl2] at hR hrow
    (refine DV.condT rfl (fun _ => rfl) ?_; (repeat (with_reducible first | apply qa | apply qb | apply qc | apply qd | apply qe)))
    (refine DV.skip ?_; (repeat with_reducible refine qn ?_); (with_reducible refine qm ?_); (repeat (with_reducible first | apply qa | apply qb | apply qc | apply qd | apply qe)))
    (have F := An6 @encL_len q1.out q2.out @a1 @range1 @hrow; refine Rg1 ?_; clear F; (repeat (with_reducible first | apply qa | apply qb | apply qc | apply qd | apply qe)))
    (have F := An7 @i2n @encL_len @t0 @t1 @t2 @c3 @inE; refine Re1 ?_; clear F; (repeat with_reducible refine qn ?_); (try with_reducible refine qm ?_); (repeat (with_reducible first | apply qa | apply qb | apply qc | apply qd | apply qe)))
    exact ⟨(getI g.p t, l2), ⟨⟨by dsimp only; omega, hR⟩, by dsimp only; omega⟩, by exact Wk0⟩
  · exact h.elim
def r9lD : List S1 → CR × Prop
  | [.agg g, .c (.int .i64 n), .c (.bool gv)] => (.one (.c (.int .i64 (plI (grC.dec g) (ndAt (grC.dec g) n) gv))), grC.enc (grC.dec g) = g ∧ Sm (grC.dec g) ∧ 0 ≤ n ∧ n < ((grC.dec g).n.length : Int) ∧ 0 ≤ (ndAt (grC.dec g) n).s ∧ (ndAt (grC.dec g) n).s < ((grC.dec g).p.length : Int))
  | _ => (.one (.c (.bool false)), False)
set_option maxHeartbeats 4000000 in
theorem r9l_cal (args : List S1) (h : (r9lD args).2) : Cal Try.prog 91 args (r9lD args).1 := by
  unfold r9lD at h ⊢
  split at h
  · next g0 n gv =>
    refine DV.of (Γ := ⟨[], [], []⟩) (rs := [ResultVar.tmp 6]) [0, 1, 2, 3, 6, 7, 27] ⟨nofun, nofun⟩ (by kernel_rfl) Try.func91 rfl rfl (by kernel_rfl) rfl ?_; (repeat (with_reducible first | apply qa | apply qb | apply qc | apply qd | apply qe))
    obtain ⟨hg, hsm, n0', n1', s0, s1⟩ := h
    obtain ⟨g, rfl⟩ : ∃ v, g0 = grC.enc v := ⟨_, hg.symm⟩
    rw [grC.de] at hsm n1' s0 s1 ⊢
    clear hg
    have c3 := encL_get (C := ndC) (ndAt_of n0' n1')
    obtain ⟨x, hx⟩ : ∃ x, ndAt g n = x := ⟨_, rfl⟩
    rw [hx] at c3 s0 s1 ⊢
    have c4 := encL_get (C := inC) (getI_of s0 s1)
    obtain ⟨F, hF⟩ : ∃ F, plI g x gv = F := ⟨_, rfl⟩
    rw [hF]
    unfold plI at hF
    obtain ⟨b1, h1⟩ : ∃ b, (x.k == 10) = b := ⟨_, rfl⟩
    obtain ⟨b2, h2⟩ : ∃ b, (x.k == 11) = b := ⟨_, rfl⟩
    obtain ⟨q, hq⟩ : ∃ q, ((b1 && !gv) || (b2 && gv)) = q := ⟨_, rfl⟩
    rw [h1, h2, hq] at hF
    (have F := @grE; refine Rg1 ?_; clear F; (repeat (with_reducible first | apply qa | apply qb | apply qc | apply qd | apply qe)))
    (have F := An6 @i2n @encL_len @n0' @n1' @c3 @ndE; refine Rg1 ?_; clear F; (repeat (with_reducible first | apply qa | apply qb | apply qc | apply qd | apply qe)))
    (have F := An4 @ndE @h1 @h2 @hq; refine Rg1 ?_; clear F; (repeat (with_reducible first | apply qa | apply qb | apply qc | apply qd | apply qe)))
    cases q
    · rw [if_neg (by decide)] at hF
      (refine DV.condF rfl (fun _ => rfl) ?_; (repeat (with_reducible first | apply qa | apply qb | apply qc | apply qd | apply qe)))
      (refine DV.skip ?_; (repeat with_reducible refine qn ?_); (with_reducible refine qm ?_); (repeat (with_reducible first | apply qa | apply qb | apply qc | apply qd | apply qe)))
      (have F := @ndE; refine Rg1 ?_; clear F; (repeat (with_reducible first | apply qa | apply qb | apply qc | apply qd | apply qe)))
      (refine DV.ret ?_; (repeat (first | (with_reducible refine thenD_ret' ?_) | (with_reducible refine blockD_ret' ?_))); (with_reducible refine retD_ret' ?_); try (refine Rt0 ?_; try with_reducible exact True.intro))
      exact hF
    · rw [if_pos rfl] at hF
      (refine DV.condT rfl (fun _ => rfl) ?_; (repeat (with_reducible first | apply qa | apply qb | apply qc | apply qd | apply qe)))
      (have F := An7 @i2n @encL_len @ndE @s0 @s1 @c4 @inE; refine Rg1 ?_; clear F; (repeat (with_reducible first | apply qa | apply qb | apply qc | apply qd | apply qe)))
      (refine DV.ret ?_; (repeat (first | (with_reducible refine thenD_ret' ?_) | (with_reducible refine blockD_ret' ?_))); (with_reducible refine retD_ret' ?_); try (refine Rt0 ?_; try with_reducible exact True.intro))
      exact hF
  · exact h.elim
def r9rD : List S1 → CR × Prop
  | [.agg g, .c (.int .i64 s), .c (.int .i64 f)] => (.one (.c (.bool (aruB (chS (grC.dec g).p f) s))), grC.enc (grC.dec g) = g ∧ Sm (grC.dec g))
  | _ => (.one (.c (.bool false)), False)
set_option maxHeartbeats 8000000 in
theorem r9r_cal (args : List S1) (h : (r9rD args).2) : Cal Try.prog 173 args (r9rD args).1 := by
  unfold r9rD at h ⊢
  split at h
  · next g0 s f =>
    have CT := @r9cD.eq_1; refine DV.of (Γ := ⟨[(90, r9cD)], [], []⟩) (rs := [ResultVar.tmp 6]) [0, 1, 2, 3, 6, 7, 8, 16, 24] ⟨by intro p hp; simp only [List.mem_singleton] at hp; subst hp; exact r9c_cal, nofun⟩ (by kernel_rfl) Try.func173 rfl rfl (by kernel_rfl) rfl ?_; (repeat (with_reducible first | apply qa | apply qb | apply qc | apply qd | apply qe))
    obtain ⟨hg, hsm⟩ := h
    obtain ⟨g, rfl⟩ : ∃ v, g0 = grC.enc v := ⟨_, hg.symm⟩
    rw [grC.de] at hsm ⊢
    clear hg
    have hgd : grC.dec [D.sl (encL inC g.p), D.sl (encL inC g.b), D.sl (encL ndC g.n), D.sl (encL egC g.e)] = g := grC.de g
    have hl10 := chF_len g.p 10 f []
    obtain ⟨l, hl⟩ : ∃ l, chS g.p f = l := ⟨_, rfl⟩
    have hl10 : l.length ≤ 10 := by rw [← hl]; unfold chS; simpa using hl10
    rw [hl]
    obtain ⟨F, hF⟩ : ∃ F, aruB l s = F := ⟨_, rfl⟩
    rw [hF]
    unfold aruB at hF
    (have F := @grE; refine Rg3 ?_; clear F; (repeat (with_reducible first | apply qa | apply qb | apply qc | apply qd | apply qe)))
    (have F := An4 @grE @hgd @hsm @hl; refine Rg3 ?_; clear F; (repeat (with_reducible first | apply qa | apply qb | apply qc | apply qd | apply qe)))
    (refine Rg2 ?_; (repeat (with_reducible first | apply qa | apply qb | apply qc | apply qd | apply qe)))
    refine DV.loop (fun j : Nat => ⟨[(1, .v true (.c (.int .i64 s))), (7, .v true (.c (.sl (encL inC l)))), (8, .v true (.c (.int .i64 j)))], [], []⟩) (fun j => j ≤ l.length ∧ ∀ (k : Nat) y, k < j → l[k]? = some y → (y == s) = false) (fun j => l.length - j) 0 ⟨Nat.zero_le _, fun k y hk => absurd hk (Nat.not_lt_zero k)⟩ (by (have F := @n0; exact Wk1)) (fun j hj => ?_)
    obtain ⟨hj, hall⟩ := hj
    (repeat (with_reducible first | apply qa | apply qb | apply qc | apply qd | apply qe))
    have ew := wr1 j (by omega)
    by_cases hlt : j + 1 < l.length
    · obtain ⟨y, hy⟩ : ∃ y, l[j]? = some y := ⟨_, List.getElem?_eq_getElem (by omega)⟩
      have d1 : decide (((j + 1 : Nat) : Int) < (l.length : Int)) = true := decide_eq_true (by omega)
      have c1 : (0 : Int) ≤ j := by omega
      have c2 : (j : Int) < (l.length : Int) := by omega
      have c3 := encL_get (C := inC) hy
      obtain ⟨b, hb⟩ : ∃ b, (y == s) = b := ⟨_, rfl⟩
      (have F := An3 @ew @encL_len @d1; refine Rg3 ?_; clear F; (repeat (with_reducible first | apply qa | apply qb | apply qc | apply qd | apply qe)))
      (refine DV.condT rfl (fun _ => rfl) ?_; (repeat (with_reducible first | apply qa | apply qb | apply qc | apply qd | apply qe)))
      (refine DV.skip ?_; (repeat with_reducible refine qn ?_); (with_reducible refine qm ?_); (repeat (with_reducible first | apply qa | apply qb | apply qc | apply qd | apply qe)))
      (have F := An7 @i2n @encL_len @c1 @c2 @c3 @inE @hb; refine Rg3 ?_; clear F; (repeat (with_reducible first | apply qa | apply qb | apply qc | apply qd | apply qe)))
      cases b
      · (refine DV.condF rfl (fun _ => rfl) ?_; (repeat (with_reducible first | apply qa | apply qb | apply qc | apply qd | apply qe)))
        (refine DV.skip ?_; (repeat with_reducible refine qn ?_); (with_reducible refine qm ?_); (repeat (with_reducible first | apply qa | apply qb | apply qc | apply qd | apply qe)))
        (have F := @ew; refine Re3 ?_; clear F; (repeat with_reducible refine qn ?_); (try with_reducible refine qm ?_); (repeat (with_reducible first | apply qa | apply qb | apply qc | apply qd | apply qe)))
        refine ⟨j + 1, ⟨⟨by omega, fun k z hk hz => ?_⟩, by omega⟩, by exact Wk0⟩
        rcases Nat.lt_or_ge k j with h | h
        · exact hall k z h hz
        · obtain rfl : k = j := by omega
          rw [hy] at hz
          obtain rfl := Option.some.inj hz
          exact hb
      · have hany : ((l.take (l.length - 1)).any fun y => y == s) = true := List.any_eq_true.2 ⟨y, List.mem_of_getElem? (i := j) (by rw [List.getElem?_take, if_pos (by omega)]; exact hy), hb⟩
        rw [hany] at hF
        (refine DV.condT rfl (fun _ => rfl) ?_; (repeat (with_reducible first | apply qa | apply qb | apply qc | apply qd | apply qe)))
        (refine Rg2 ?_; (repeat (with_reducible first | apply qa | apply qb | apply qc | apply qd | apply qe)))
        (refine DV.ret ?_; (repeat (first | (with_reducible refine thenD_ret' ?_) | (with_reducible refine blockD_ret' ?_))); (with_reducible refine retD_ret' ?_); try (refine Rt0 ?_; try with_reducible exact True.intro))
        exact hF
    · have d1 : decide (((j + 1 : Nat) : Int) < (l.length : Int)) = false := decide_eq_false (by omega)
      have hno : ((l.take (l.length - 1)).any fun y => y == s) = false := List.any_eq_false.2 fun y hy => by
        obtain ⟨k, hk⟩ := List.getElem?_of_mem hy
        rw [List.getElem?_take] at hk
        split at hk
        · rw [hall k y (by omega) hk]
          decide
        · cases hk
      rw [hno] at hF
      (have F := An3 @ew @encL_len @d1; refine Rg3 ?_; clear F; (repeat (with_reducible first | apply qa | apply qb | apply qc | apply qd | apply qe)))
      (refine DV.condF rfl (fun _ => rfl) ?_; (repeat (with_reducible first | apply qa | apply qb | apply qc | apply qd | apply qe)))
      (refine DV.exit ?_; (repeat (first | (with_reducible refine thenD_exit' ?_) | (with_reducible refine blockD_other (by decide) ?_))); (with_reducible refine blockD_same ?_); (repeat with_reducible refine qn ?_); (with_reducible refine qm ?_); (repeat (with_reducible first | apply qa | apply qb | apply qc | apply qd | apply qe)))
      (refine Rg2 ?_; (repeat (with_reducible first | apply qa | apply qb | apply qc | apply qd | apply qe)))
      (refine DV.ret ?_; (repeat (first | (with_reducible refine thenD_ret' ?_) | (with_reducible refine blockD_ret' ?_))); (with_reducible refine retD_ret' ?_); try (refine Rt0 ?_; try with_reducible exact True.intro))
      exact hF
  · exact h.elim
open Va

def r7rD : List S1 → CR × Prop
  | [.c (.sl p)] => (.one (.c (.bool (prgB (decL isC p)))), isL isC p ∧ (decL isC p).length ≤ 1073741823)
  | _ => (.one (.c (.bool false)), False)
set_option maxHeartbeats 8000000 in
theorem r7r_cal (args : List S1) (h : (r7rD args).2) : Cal Try.prog 172 args (r7rD args).1 := by
  unfold r7rD at h ⊢
  split at h
  · next p0 =>
    refine DV.of (Γ := ⟨[], [], []⟩) (rs := [ResultVar.tmp 2]) [0, 2, 3, 4, 5, 9, 61] ⟨nofun, nofun⟩ (by kernel_rfl) Try.func172 rfl rfl (by kernel_rfl) rfl ?_; (repeat (with_reducible first | apply qa | apply qb | apply qc | apply qd | apply qe))
    obtain ⟨h, hlen⟩ := h
    obtain ⟨p, rfl⟩ : ∃ v, p0 = encL isC v := ⟨_, h.symm⟩
    rw [decL_encL] at hlen ⊢
    clear h
    obtain ⟨F, hF⟩ : ∃ F, prgB p = F := ⟨_, rfl⟩
    rw [hF]
    unfold prgB at hF
    (refine Rg0 ?_; (repeat (with_reducible first | apply qa | apply qb | apply qc | apply qd | apply qe)))
    (refine Rg0 ?_; (repeat (with_reducible first | apply qa | apply qb | apply qc | apply qd | apply qe)))
    refine DV.loop (fun j : Nat => ⟨[(0, .v true (.c (.sl (encL isC p)))), (3, .v true (.c (.int .i64 j)))], [], []⟩) (fun j => j ≤ p.length ∧ ∀ (k : Nat) y, k < j → p[k]? = some y → insBad p.length y = false) (fun j => p.length - j) 0 ⟨Nat.zero_le _, fun k y hk => absurd hk (Nat.not_lt_zero k)⟩ (by (have F := @n0; exact Wk1)) (fun j hj => ?_)
    obtain ⟨hj, hall⟩ := hj
    (repeat (with_reducible first | apply qa | apply qb | apply qc | apply qd | apply qe))
    by_cases hlt : j < p.length
    · obtain ⟨x, hx⟩ : ∃ x, p[j]? = some x := ⟨p[j], List.getElem?_eq_getElem _⟩
      have d1 : decide ((j : Int) < (p.length : Int)) = true := decide_eq_true (by omega)
      have c1 : (0 : Int) ≤ j := by omega
      have c2 : (j : Int) < (p.length : Int) := by omega
      have c3 := encL_get (C := isC) hx
      have ew := wr1 j (by omega)
      obtain ⟨q, hq⟩ : ∃ q, insBad p.length x = q := ⟨_, rfl⟩
      have hq2 : ((((decide (x.o < 1) || decide (16 < x.o)) || ((x.o == 14 || x.o == 15) && (decide (x.n < 0) || decide ((p.length : Int) < x.n)))) || (((x.o != 1 && x.o != 14) && x.o != 15) && x.n != 0)) : Bool) = q := by
        rw [← hq]
        unfold insBad jmpB
        by_cases a1 : (decide (x.o < 1) || decide (16 < x.o)) = true
        · rw [if_pos a1, a1, Bool.true_or, Bool.true_or]
        rw [if_neg a1, Bool.eq_false_iff.2 a1, Bool.false_or]
        by_cases a2 : x.o = 14
        · rw [a2]; simp
        by_cases a3 : x.o = 15
        · rw [a3]; simp
        have a2' : (x.o == 14) = false := by simpa using a2
        have a3' : (x.o == 15) = false := by simpa using a3
        have a2'' : (x.o != 14) = true := by simpa using a2
        have a3'' : (x.o != 15) = true := by simpa using a3
        rw [a2', a3', a2'', a3'', if_neg (by decide), Bool.or_self, Bool.false_and, Bool.false_or, Bool.and_true, Bool.and_true]
      (have F := An2 @encL_len @d1; refine Rg1 ?_; clear F; (repeat (with_reducible first | apply qa | apply qb | apply qc | apply qd | apply qe)))
      (refine DV.condT rfl (fun _ => rfl) ?_; (repeat (with_reducible first | apply qa | apply qb | apply qc | apply qd | apply qe)))
      (refine DV.skip ?_; (repeat with_reducible refine qn ?_); (with_reducible refine qm ?_); (repeat (with_reducible first | apply qa | apply qb | apply qc | apply qd | apply qe)))
      (have F := An6 @i2n @encL_len @c1 @c2 @c3 @isE; refine Rd1 ?_; clear F; (repeat (with_reducible first | apply qa | apply qb | apply qc | apply qd | apply qe)))
      (have F := An2 @encL_len @hq2; refine Rg1 ?_; clear F; (repeat (with_reducible first | apply qa | apply qb | apply qc | apply qd | apply qe)))
      cases q
      · (refine DV.condF rfl (fun _ => rfl) ?_; (repeat (with_reducible first | apply qa | apply qb | apply qc | apply qd | apply qe)))
        (refine DV.skip ?_; (repeat with_reducible refine qn ?_); (with_reducible refine qm ?_); (repeat (with_reducible first | apply qa | apply qb | apply qc | apply qd | apply qe)))
        (have F := @ew; refine Re1 ?_; clear F; (repeat with_reducible refine qn ?_); (try with_reducible refine qm ?_); (repeat (with_reducible first | apply qa | apply qb | apply qc | apply qd | apply qe)))
        refine ⟨j + 1, ⟨⟨hlt, fun k y hk hy => ?_⟩, by omega⟩, by exact Wk0⟩
        rcases Nat.lt_or_ge k j with g | g
        · exact hall k y g hy
        · obtain rfl : k = j := by omega
          rw [hx] at hy
          obtain rfl := Option.some.inj hy
          exact hq
      · have hany : p.any (insBad p.length) = true := List.any_eq_true.2 ⟨x, List.mem_of_getElem? hx, hq⟩
        have hF : false = F := by
          rw [← hF, hany]
          split <;> rfl
        (refine DV.condT rfl (fun _ => rfl) ?_; (repeat (with_reducible first | apply qa | apply qb | apply qc | apply qd | apply qe)))
        (refine Rg0 ?_; (repeat (with_reducible first | apply qa | apply qb | apply qc | apply qd | apply qe)))
        (refine DV.ret ?_; (repeat (first | (with_reducible refine thenD_ret' ?_) | (with_reducible refine blockD_ret' ?_))); (with_reducible refine retD_ret' ?_); try (refine Rt0 ?_; try with_reducible exact True.intro))
        exact hF
    · obtain rfl : j = p.length := by omega
      have d1 : decide ((p.length : Int) < (p.length : Int)) = false := decide_eq_false (by omega)
      have hno : p.any (insBad p.length) = false := List.any_eq_false.2 fun y hy => by
        obtain ⟨k, hk⟩ := List.getElem?_of_mem hy
        rw [hall k y (List.getElem?_eq_some_iff.1 hk).1 hk]
        decide
      have hF : decide ((p.length : Int) ≤ 64) = F := by
        rw [hno] at hF
        rw [← hF]
        by_cases h64 : 64 < p.length
        · rw [if_pos h64, decide_eq_false (by omega)]
        · rw [if_neg h64, decide_eq_true (by omega)]
          rfl
      (have F := An2 @encL_len @d1; refine Rg1 ?_; clear F; (repeat (with_reducible first | apply qa | apply qb | apply qc | apply qd | apply qe)))
      (refine DV.condF rfl (fun _ => rfl) ?_; (repeat (with_reducible first | apply qa | apply qb | apply qc | apply qd | apply qe)))
      (refine DV.exit ?_; (repeat (first | (with_reducible refine thenD_exit' ?_) | (with_reducible refine blockD_other (by decide) ?_))); (with_reducible refine blockD_same ?_); (repeat with_reducible refine qn ?_); (with_reducible refine qm ?_); (repeat (with_reducible first | apply qa | apply qb | apply qc | apply qd | apply qe)))
      (have F := An2 @encL_len @hF; refine Rg1 ?_; clear F; (repeat (with_reducible first | apply qa | apply qb | apply qc | apply qd | apply qe)))
      (refine DV.ret ?_; (repeat (first | (with_reducible refine thenD_ret' ?_) | (with_reducible refine blockD_ret' ?_))); (with_reducible refine retD_ret' ?_); try (refine Rt0 ?_; try with_reducible exact True.intro))
      try exact hF
  · exact h.elim
def r9pD : List S1 → CR × Prop
  | [.c (.int .i64 k)] => (.one (.c (.int .i64 (portsI k))), True)
  | _ => (.one (.c (.bool false)), False)
set_option maxHeartbeats 8000000 in
theorem r9p_cal (args : List S1) (h : (r9pD args).2) : Cal Try.prog 138 args (r9pD args).1 := by
  unfold r9pD at h ⊢
  split at h
  · next k =>
    refine DV.of (Γ := ⟨[], [], []⟩) (rs := [ResultVar.tmp 2]) [0, 2, 8] ⟨nofun, nofun⟩ (by kernel_rfl) Try.func138 rfl rfl (by kernel_rfl) rfl ?_; (repeat (with_reducible first | apply qa | apply qb | apply qc | apply qd | apply qe))
    obtain ⟨F, hF⟩ : ∃ F, portsI k = F := ⟨_, rfl⟩
    rw [hF]
    obtain ⟨b, hb⟩ : ∃ b, (decide (k < 1) || decide (15 < k)) = b := ⟨_, rfl⟩
    (refine Rg0 ?_; (repeat (with_reducible first | apply qa | apply qb | apply qc | apply qd | apply qe)))
    (have F := @hb; refine Rg1 ?_; clear F; (repeat (with_reducible first | apply qa | apply qb | apply qc | apply qd | apply qe)))
    cases b
    rotate_left 1
    · have hF : 0 = F := by
        rw [Bool.or_eq_true, decide_eq_true_iff, decide_eq_true_iff] at hb
        rw [← hF]
        unfold portsI
        rw [if_neg (by simp; omega), if_neg (by simp; omega)]
      (refine DV.condT rfl (fun _ => rfl) ?_; (repeat (with_reducible first | apply qa | apply qb | apply qc | apply qd | apply qe)))
      (refine Rg0 ?_; (repeat (with_reducible first | apply qa | apply qb | apply qc | apply qd | apply qe)))
      (refine DV.ret ?_; (repeat (first | (with_reducible refine thenD_ret' ?_) | (with_reducible refine blockD_ret' ?_))); (with_reducible refine retD_ret' ?_); try (refine Rt0 ?_; try with_reducible exact True.intro))
      exact hF
    simp only [Bool.or_eq_false_iff, decide_eq_false_iff_not] at hb
    (refine DV.condF rfl (fun _ => rfl) ?_; (repeat (with_reducible first | apply qa | apply qb | apply qc | apply qd | apply qe)))
    (refine DV.skip ?_; (repeat with_reducible refine qn ?_); (with_reducible refine qm ?_); (repeat (with_reducible first | apply qa | apply qb | apply qc | apply qd | apply qe)))
    have hm : k = 1 ∨ k = 2 ∨ k = 3 ∨ k = 4 ∨ k = 5 ∨ k = 6 ∨ k = 7 ∨ k = 8 ∨ k = 9 ∨ k = 10 ∨ k = 11 ∨ k = 12 ∨ k = 13 ∨ k = 14 ∨ k = 15 := by omega
    clear hb
    rcases hm with rfl | rfl | rfl | rfl | rfl | rfl | rfl | rfl | rfl | rfl | rfl | rfl | rfl | rfl | rfl
    all_goals
      subst hF
      (apply DV.seqreg; kernel_rfl; (simp only [wpS, wpT, go1, evS, cutE_t, cutE_f, cutE_0, ev, Qd, Qe, Qg, Qp, Qw, nilB, gdS, put1, sv, gs, gb, opd, cst, XW, QK, okS, QL, setAt, QO, bad, dem, QP, QR, QS, QT, QU, QV, QW, QY, QZ, Q2, Q3, Q4, Q5, Q6, lf, lfs, asP, pOk, Xp, Nat.reduceBEq, XA, XB, keep, kp, cand, cor, List.map, List.append, Option.bind, ↓reduceIte, Nat.reduceEqDiff, Nat.reduceAdd, Nat.reduceMul, Nat.reduceLT, Nat.reduceLeDiff, reduceCtorEq, Int.reduceLT, Int.reduceLE, Int.reduceBEq, Int.reduceBNe, Int.reduceAdd, Int.reduceSub, Int.reduceToNat, dq, tya]; exact ⟨by decide, rfl⟩); (repeat (with_reducible first | apply qa | apply qb | apply qc | apply qd | apply qe)))
      (refine DV.ret ?_; (repeat (first | (with_reducible refine thenD_ret' ?_) | (with_reducible refine blockD_ret' ?_))); (with_reducible refine retD_ret' ?_); try (refine Rt0 ?_; try with_reducible exact True.intro))
      try decide
  · exact h.elim
structure FoOk (g : Gr) (n : Int) : Prop where
  sm : Sm g
  n0 : 0 ≤ n
  n1 : n < g.n.length
  s0 : 0 ≤ (ndAt g n).s
  s1 : (ndAt g n).s < g.p.length
structure NnOk (g : Gr) (n : Int) : Prop where
  sm : Sm g
  n0 : 0 ≤ n
  n1 : n < g.n.length
def r9fD : List S1 → CR × Prop
  | [.agg g, .c (.int .i64 n)] => (.one (.c (.bool (flB (grC.dec g) n))), grC.enc (grC.dec g) = g ∧ FoOk (grC.dec g) n)
  | _ => (.one (.c (.bool false)), False)
set_option maxHeartbeats 16000000 in
theorem r9f_cal (args : List S1) (h : (r9fD args).2) : Cal Try.prog 171 args (r9fD args).1 := by
  unfold r9fD at h ⊢
  split at h
  · next g0 n =>
    have CT := @r9cD.eq_1; refine DV.of (Γ := ⟨[(90, r9cD)], [], []⟩) (rs := [ResultVar.tmp 4]) [0, 1, 2, 4, 5, 6, 7, 8, 9, 17, 32, 40, 55, 58, 68] ⟨by intro p hp; simp only [List.mem_singleton] at hp; subst hp; exact r9c_cal, nofun⟩ (by kernel_rfl) Try.func171 rfl rfl (by kernel_rfl) rfl ?_; (repeat (with_reducible first | apply qa | apply qb | apply qc | apply qd | apply qe))
    obtain ⟨hg, ho⟩ := h
    obtain ⟨g, rfl⟩ : ∃ v, g0 = grC.enc v := ⟨_, hg.symm⟩
    rw [grC.de] at ho ⊢
    clear hg
    have hgd : grC.dec [D.sl (encL inC g.p), D.sl (encL inC g.b), D.sl (encL ndC g.n), D.sl (encL egC g.e)] = g := grC.de g
    obtain ⟨hsm, n0', n1', s0, s1⟩ := ho
    have c3 := encL_get (C := ndC) (ndAt_of n0' n1')
    obtain ⟨F, hF⟩ : ∃ F, flB g n = F := ⟨_, rfl⟩
    rw [hF]
    unfold flB at hF
    obtain ⟨x, hx⟩ : ∃ x, ndAt g n = x := ⟨_, rfl⟩
    rw [hx] at c3 s0 s1 hF
    obtain ⟨s, hs⟩ : ∃ s, x.s = s := ⟨_, rfl⟩
    rw [hs] at s0 s1 hF
    (have F := @grE; refine Rg3 ?_; clear F; (repeat (with_reducible first | apply qa | apply qb | apply qc | apply qd | apply qe)))
    (have F := An7 @i2n @encL_len @n0' @n1' @c3 @ndE @hs; refine Rg3 ?_; clear F; (repeat (with_reducible first | apply qa | apply qb | apply qc | apply qd | apply qe)))
    obtain ⟨b, hb⟩ : ∃ b, (n == 0) = b := ⟨_, rfl⟩
    rw [hb] at hF
    (have F := @hb; refine Rg3 ?_; clear F; (repeat (with_reducible first | apply qa | apply qb | apply qc | apply qd | apply qe)))
    cases b
    rotate_left 1
    · rw [if_pos rfl] at hF
      (refine DV.condT rfl (fun _ => rfl) ?_; (repeat (with_reducible first | apply qa | apply qb | apply qc | apply qd | apply qe)))
      (have F := @hF; refine Rg3 ?_; clear F; (repeat (with_reducible first | apply qa | apply qb | apply qc | apply qd | apply qe)))
      (refine DV.ret ?_; (repeat (first | (with_reducible refine thenD_ret' ?_) | (with_reducible refine blockD_ret' ?_))); (with_reducible refine retD_ret' ?_); try (refine Rt0 ?_; try with_reducible exact True.intro))
      try exact hF
    rw [if_neg (by decide)] at hF
    have hn0 : n ≠ 0 := by rw [beq_eq_false_iff_ne] at hb; exact hb
    have n2 : 0 ≤ n - 1 := by omega
    have n3 : n - 1 < (g.n.length : Int) := by omega
    have n4 : (n - 1).toNat < g.n.length := by omega
    have c4 := encL_get (C := ndC) (ndAt_of n2 n3)
    have ew : IntKind.wrap .i64 (n - 1) = n - 1 := by rw [IntKind.wrap_i64]; have := hsm.n; omega
    obtain ⟨y, hy⟩ : ∃ y, ndAt g (n - 1) = y := ⟨_, rfl⟩
    rw [hy] at c4 hF
    have hl10 := chF_len g.p 10 y.s []
    obtain ⟨l, hl⟩ : ∃ l, chS g.p y.s = l := ⟨_, rfl⟩
    have hl10 : l.length ≤ 10 := by rw [← hl]; unfold chS; simpa using hl10
    rw [hl] at hF
    have c5 := encL_get (C := inC) (getI_of s0 s1)
    have s2 : s.toNat < g.p.length := by omega
    obtain ⟨O, hO⟩ : ∃ O, getI g.p s = O := ⟨_, rfl⟩
    rw [hO] at c5 hF
    (refine DV.condF rfl (fun _ => rfl) ?_; (repeat (with_reducible first | apply qa | apply qb | apply qc | apply qd | apply qe)))
    (refine DV.skip ?_; (repeat with_reducible refine qn ?_); (with_reducible refine qm ?_); (repeat (with_reducible first | apply qa | apply qb | apply qc | apply qd | apply qe)))
    (have F := An12 @i2n @encL_len @n2 @n3 @n4 @ew @c4 @ndE @grE @hgd @hsm @hl; refine Rd3 ?_; clear F; (repeat (with_reducible first | apply qa | apply qb | apply qc | apply qd | apply qe)))
    (refine Rg2 ?_; (repeat (with_reducible first | apply qa | apply qb | apply qc | apply qd | apply qe)))
    (refine Rg2 ?_; (repeat (with_reducible first | apply qa | apply qb | apply qc | apply qd | apply qe)))
    clear c3 c4
    refine DV.loop (fun p : Nat × Bool => ⟨[(1, .v true (.c (.int .i64 n))), (2, .v true (.box 2 0)), (5, .v true (.c (.int .i64 s))), (6, .v true (.c (.sl (encL inC l)))), (7, .v true (.c (.bool p.2))), (8, .v true (.c (.int .i64 p.1)))], [(2, some ⟨0, 0, [[.sl (encL inC g.p), .sl (encL inC g.b), .sl (encL ndC g.n), .sl (encL egC g.e)]]⟩)], []⟩) (fun p => p.1 ≤ l.length ∧ (∀ (k : Nat) y, k < p.1 → l[k]? = some y → (y == s) = false) ∧ p.2 = (l.take p.1).any fun y => y == O) (fun p => l.length - p.1) (0, false) ⟨Nat.zero_le _, fun k y hk => absurd hk (Nat.not_lt_zero k), rfl⟩ (by (have F := @n0; exact Wk1)) (fun p hp => ?_)
    obtain ⟨j, un⟩ := p
    dsimp only at hp ⊢
    obtain ⟨hj, hall, hun⟩ := hp
    (repeat (with_reducible first | apply qa | apply qb | apply qc | apply qd | apply qe))
    by_cases hlt : j < l.length
    · obtain ⟨y, hy⟩ : ∃ y, l[j]? = some y := ⟨_, List.getElem?_eq_getElem (by omega)⟩
      have d1 : decide ((j : Int) < (l.length : Int)) = true := decide_eq_true (by omega)
      have c1 : (0 : Int) ≤ j := by omega
      have c2 : (j : Int) < (l.length : Int) := by omega
      have c3 := encL_get (C := inC) hy
      have ew := wr1 j (by omega)
      obtain ⟨b, hb⟩ : ∃ b, (y == s) = b := ⟨_, rfl⟩
      obtain ⟨b2, hb2⟩ : ∃ b, (un || y == O) = b := ⟨_, rfl⟩
      (have F := An2 @encL_len @d1; refine Rg3 ?_; clear F; (repeat (with_reducible first | apply qa | apply qb | apply qc | apply qd | apply qe)))
      (refine DV.condT rfl (fun _ => rfl) ?_; (repeat (with_reducible first | apply qa | apply qb | apply qc | apply qd | apply qe)))
      (refine DV.skip ?_; (repeat with_reducible refine qn ?_); (with_reducible refine qm ?_); (repeat (with_reducible first | apply qa | apply qb | apply qc | apply qd | apply qe)))
      (have F := An7 @i2n @encL_len @c1 @c2 @c3 @inE @hb; refine Rg3 ?_; clear F; (repeat (with_reducible first | apply qa | apply qb | apply qc | apply qd | apply qe)))
      cases b
      · (refine DV.condF rfl (fun _ => rfl) ?_; (repeat (with_reducible first | apply qa | apply qb | apply qc | apply qd | apply qe)))
        (refine DV.skip ?_; (repeat with_reducible refine qn ?_); (with_reducible refine qm ?_); (repeat (with_reducible first | apply qa | apply qb | apply qc | apply qd | apply qe)))
        (have F := An12 @i2n @encL_len @c1 @c2 @c3 @hlt @inE @s0 @s1 @s2 @c5 @hb2; refine Rf3 ?_; clear F; (repeat with_reducible refine qn ?_); (try with_reducible refine qm ?_); (repeat (with_reducible first | apply qa | apply qb | apply qc | apply qd | apply qe)))
        (have F := @ew; refine Re3 ?_; clear F; (repeat with_reducible refine qn ?_); (try with_reducible refine qm ?_); (repeat (with_reducible first | apply qa | apply qb | apply qc | apply qd | apply qe)))
        refine ⟨(j + 1, b2), ⟨⟨hlt, fun k z hk hz => ?_, ?_⟩, by dsimp only; omega⟩, by exact Wk0⟩
        · dsimp only at hk
          rcases Nat.lt_or_ge k j with h | h
          · exact hall k z h hz
          · obtain rfl : k = j := by omega
            rw [hy] at hz
            obtain rfl := Option.some.inj hz
            exact hb
        · dsimp only
          rw [List.take_add_one, hy, List.any_append, ← hun, ← hb2]
          simp
      · have hany : (l.any fun y => y == s) = true := List.any_eq_true.2 ⟨y, List.mem_of_getElem? hy, hb⟩
        rw [hany, if_pos rfl] at hF
        (refine DV.condT rfl (fun _ => rfl) ?_; (repeat (with_reducible first | apply qa | apply qb | apply qc | apply qd | apply qe)))
        (refine Rg2 ?_; (repeat (with_reducible first | apply qa | apply qb | apply qc | apply qd | apply qe)))
        (refine DV.ret ?_; (repeat (first | (with_reducible refine thenD_ret' ?_) | (with_reducible refine blockD_ret' ?_))); (with_reducible refine retD_ret' ?_); try (refine Rt0 ?_; try with_reducible exact True.intro))
        exact hF
    · obtain rfl : j = l.length := by omega
      have d1 : decide ((l.length : Int) < (l.length : Int)) = false := decide_eq_false (by omega)
      have hno : (l.any fun y => y == s) = false := List.any_eq_false.2 fun y hy => by
        obtain ⟨k, hk⟩ := List.getElem?_of_mem hy
        rw [hall k y (List.getElem?_eq_some_iff.1 hk).1 hk]
        decide
      rw [List.take_length] at hun
      rw [hno, if_neg (by decide), ← hun] at hF
      (have F := An2 @encL_len @d1; refine Rg3 ?_; clear F; (repeat (with_reducible first | apply qa | apply qb | apply qc | apply qd | apply qe)))
      (refine DV.condF rfl (fun _ => rfl) ?_; (repeat (with_reducible first | apply qa | apply qb | apply qc | apply qd | apply qe)))
      (refine DV.exit ?_; (repeat (first | (with_reducible refine thenD_exit' ?_) | (with_reducible refine blockD_other (by decide) ?_))); (with_reducible refine blockD_same ?_); (repeat with_reducible refine qn ?_); (with_reducible refine qm ?_); (repeat (with_reducible first | apply qa | apply qb | apply qc | apply qd | apply qe)))
      cases un
      · rw [if_pos rfl] at hF
        (refine Rg2 ?_; (repeat (with_reducible first | apply qa | apply qb | apply qc | apply qd | apply qe)))
        (refine DV.condT rfl (fun _ => rfl) ?_; (repeat (with_reducible first | apply qa | apply qb | apply qc | apply qd | apply qe)))
        (refine Rg2 ?_; (repeat (with_reducible first | apply qa | apply qb | apply qc | apply qd | apply qe)))
        (refine DV.ret ?_; (repeat (first | (with_reducible refine thenD_ret' ?_) | (with_reducible refine blockD_ret' ?_))); (with_reducible refine retD_ret' ?_); try (refine Rt0 ?_; try with_reducible exact True.intro))
        exact hF
      rw [if_neg (by decide)] at hF
      (refine Rg2 ?_; (repeat (with_reducible first | apply qa | apply qb | apply qc | apply qd | apply qe)))
      (refine DV.condF rfl (fun _ => rfl) ?_; (repeat (with_reducible first | apply qa | apply qb | apply qc | apply qd | apply qe)))
      (refine DV.skip ?_; (repeat with_reducible refine qn ?_); (with_reducible refine qm ?_); (repeat (with_reducible first | apply qa | apply qb | apply qc | apply qd | apply qe)))
      (refine Rg2 ?_; (repeat (with_reducible first | apply qa | apply qb | apply qc | apply qd | apply qe)))
      refine DV.loop (fun j : Nat => ⟨[(1, .v true (.c (.int .i64 n))), (2, .v true (.box 2 0)), (5, .v true (.c (.int .i64 s))), (9, .v true (.c (.int .i64 j)))], [(2, some ⟨0, 0, [[.sl (encL inC g.p), .sl (encL inC g.b), .sl (encL ndC g.n), .sl (encL egC g.e)]]⟩)], []⟩) (fun j => j ≤ n.toNat ∧ ∀ (k : Nat) y, k < j → g.n[k]? = some y → (y.s == s) = false) (fun j => n.toNat - j) 0 ⟨Nat.zero_le _, fun k y hk => absurd hk (Nat.not_lt_zero k)⟩ (by (have F := @n0; exact Wk1)) (fun j hj => ?_)
      obtain ⟨hj, hall⟩ := hj
      (repeat (with_reducible first | apply qa | apply qb | apply qc | apply qd | apply qe))
      by_cases hlt : j < n.toNat
      · obtain ⟨y, hy⟩ : ∃ y, g.n[j]? = some y := ⟨_, List.getElem?_eq_getElem (by omega)⟩
        have d1 : decide ((j : Int) < n) = true := decide_eq_true (by omega)
        have c1 : (0 : Int) ≤ j := by omega
        have c2 : (j : Int) < (g.n.length : Int) := by omega
        have c3 := encL_get (C := ndC) hy
        have ew := wr1 j (by have := hsm.n; omega)
        obtain ⟨b, hb⟩ : ∃ b, (y.s == s) = b := ⟨_, rfl⟩
        (have F := @d1; refine Rg3 ?_; clear F; (repeat (with_reducible first | apply qa | apply qb | apply qc | apply qd | apply qe)))
        (refine DV.condT rfl (fun _ => rfl) ?_; (repeat (with_reducible first | apply qa | apply qb | apply qc | apply qd | apply qe)))
        (refine DV.skip ?_; (repeat with_reducible refine qn ?_); (with_reducible refine qm ?_); (repeat (with_reducible first | apply qa | apply qb | apply qc | apply qd | apply qe)))
        (have F := An7 @i2n @encL_len @c1 @c2 @c3 @ndE @hb; refine Rg3 ?_; clear F; (repeat (with_reducible first | apply qa | apply qb | apply qc | apply qd | apply qe)))
        cases b
        · (refine DV.condF rfl (fun _ => rfl) ?_; (repeat (with_reducible first | apply qa | apply qb | apply qc | apply qd | apply qe)))
          (refine DV.skip ?_; (repeat with_reducible refine qn ?_); (with_reducible refine qm ?_); (repeat (with_reducible first | apply qa | apply qb | apply qc | apply qd | apply qe)))
          (have F := @ew; refine Re3 ?_; clear F; (repeat with_reducible refine qn ?_); (try with_reducible refine qm ?_); (repeat (with_reducible first | apply qa | apply qb | apply qc | apply qd | apply qe)))
          refine ⟨j + 1, ⟨⟨hlt, fun k z hk hz => ?_⟩, by omega⟩, by exact Wk0⟩
          rcases Nat.lt_or_ge k j with h | h
          · exact hall k z h hz
          · obtain rfl : k = j := by omega
            rw [hy] at hz
            obtain rfl := Option.some.inj hz
            exact hb
        · have hany : ((g.n.take n.toNat).any fun x => x.s == s) = true := List.any_eq_true.2 ⟨y, List.mem_of_getElem? (i := j) (by rw [List.getElem?_take, if_pos hlt]; exact hy), hb⟩
          rw [hany] at hF
          (refine DV.condT rfl (fun _ => rfl) ?_; (repeat (with_reducible first | apply qa | apply qb | apply qc | apply qd | apply qe)))
          (refine Rg2 ?_; (repeat (with_reducible first | apply qa | apply qb | apply qc | apply qd | apply qe)))
          (refine DV.ret ?_; (repeat (first | (with_reducible refine thenD_ret' ?_) | (with_reducible refine blockD_ret' ?_))); (with_reducible refine retD_ret' ?_); try (refine Rt0 ?_; try with_reducible exact True.intro))
          exact hF
      · have d1 : decide ((j : Int) < n) = false := decide_eq_false (by omega)
        have hno : ((g.n.take n.toNat).any fun x => x.s == s) = false := List.any_eq_false.2 fun y hy => by
          obtain ⟨k, hk⟩ := List.getElem?_of_mem hy
          rw [List.getElem?_take] at hk
          split at hk
          · rw [hall k y (by omega) hk]
            decide
          · cases hk
        rw [hno] at hF
        (have F := @d1; refine Rg3 ?_; clear F; (repeat (with_reducible first | apply qa | apply qb | apply qc | apply qd | apply qe)))
        (refine DV.condF rfl (fun _ => rfl) ?_; (repeat (with_reducible first | apply qa | apply qb | apply qc | apply qd | apply qe)))
        (refine DV.exit ?_; (repeat (first | (with_reducible refine thenD_exit' ?_) | (with_reducible refine blockD_other (by decide) ?_))); (with_reducible refine blockD_same ?_); (repeat with_reducible refine qn ?_); (with_reducible refine qm ?_); (repeat (with_reducible first | apply qa | apply qb | apply qc | apply qd | apply qe)))
        (refine Rg2 ?_; (repeat (with_reducible first | apply qa | apply qb | apply qc | apply qd | apply qe)))
        (refine DV.ret ?_; (repeat (first | (with_reducible refine thenD_ret' ?_) | (with_reducible refine blockD_ret' ?_))); (with_reducible refine retD_ret' ?_); try (refine Rt0 ?_; try with_reducible exact True.intro))
        exact hF
  · exact h.elim
def r9nD : List S1 → CR × Prop
  | [.agg g, .c (.int .i64 n)] => (.one (.c (.int .i64 (nd9 (grC.dec g) n (ndAt (grC.dec g) n)))), grC.enc (grC.dec g) = g ∧ NnOk (grC.dec g) n ∧ (ndAt (grC.dec g) n).pr.length ≤ 1073741823)
  | _ => (.one (.c (.bool false)), False)
set_option maxHeartbeats 16000000 in
theorem r9n_cal (args : List S1) (h : (r9nD args).2) : Cal Try.prog 136 args (r9nD args).1 := by
  unfold r9nD at h ⊢
  split at h
  · next g0 n =>
    have CT := An2 @r9fD.eq_1 @r7rD.eq_1; refine DV.of (Γ := ⟨[(171, r9fD), (172, r7rD)], [], []⟩) (rs := [ResultVar.tmp 4]) [0, 1, 2, 4, 5, 18, 29, 57, 61, 63, 66, 67, 71, 72, 93] ⟨by intro p hp; simp only [List.mem_cons, List.not_mem_nil, or_false] at hp; rcases hp with rfl | rfl; exact r9f_cal; exact r7r_cal, nofun⟩ (by kernel_rfl) Try.func136 rfl rfl (by kernel_rfl) rfl ?_; (repeat (with_reducible first | apply qa | apply qb | apply qc | apply qd | apply qe))
    obtain ⟨hg, ho, hpl⟩ := h
    obtain ⟨g, rfl⟩ : ∃ v, g0 = grC.enc v := ⟨_, hg.symm⟩
    rw [grC.de] at ho hpl ⊢
    clear hg
    have hgd : grC.dec [D.sl (encL inC g.p), D.sl (encL inC g.b), D.sl (encL ndC g.n), D.sl (encL egC g.e)] = g := grC.de g
    obtain ⟨hsm, n0', n1'⟩ := ho
    have c3 := encL_get (C := ndC) (ndAt_of n0' n1')
    have hfo : 0 ≤ (ndAt g n).s → (ndAt g n).s < g.p.length → FoOk g n := fun a b => ⟨hsm, n0', n1', a, b⟩
    obtain ⟨x, hx⟩ : ∃ x, ndAt g n = x := ⟨_, rfl⟩
    rw [hx] at c3 hfo hpl ⊢
    obtain ⟨F, hF⟩ : ∃ F, nd9 g n x = F := ⟨_, rfl⟩
    rw [hF]
    unfold nd9 at hF
    obtain ⟨q1, hq1⟩ : ∃ q, (decide (x.k < 1) || decide (15 < x.k)) = q := ⟨_, rfl⟩
    obtain ⟨q2, hq2⟩ : ∃ q, (decide (x.s < 0) || decide ((g.p.length : Int) ≤ x.s)) = q := ⟨_, rfl⟩
    obtain ⟨q3, hq3⟩ : ∃ q, (((x.s == 0 && decide (10 ≤ x.k)) && decide (x.k ≤ 12)) || (decide (0 < x.s) && (x.k == 1 || x.k == 15))) = q := ⟨_, rfl⟩
    obtain ⟨q4, hq4⟩ : ∃ q, flB g n = q := ⟨_, rfl⟩
    obtain ⟨k4, hk4⟩ : ∃ q, (x.k == 4) = q := ⟨_, rfl⟩
    obtain ⟨k3, hk3⟩ : ∃ q, (x.k == 3) = q := ⟨_, rfl⟩
    obtain ⟨a1, ha1⟩ : ∃ q, decide (x.a < 1) = q := ⟨_, rfl⟩
    obtain ⟨a0, ha0⟩ : ∃ q, (x.a != 0) = q := ⟨_, rfl⟩
    obtain ⟨p1, hp1⟩ : ∃ q, prgB x.pr = q := ⟨_, rfl⟩
    obtain ⟨q5, hq5⟩ : ∃ q, ((x.k == 2 && !p1) || (x.k != 2 && decide (0 < (x.pr.length : Int)))) = q := ⟨_, rfl⟩
    rw [hq1, hq2, hq3, hq4, hk4, hk3, ha1, ha0, hp1, hq5] at hF
    (have F := @grE; refine Rg3 ?_; clear F; (repeat (with_reducible first | apply qa | apply qb | apply qc | apply qd | apply qe)))
    (have F := An6 @i2n @encL_len @n0' @n1' @c3 @ndE; refine Rg3 ?_; clear F; (repeat (with_reducible first | apply qa | apply qb | apply qc | apply qd | apply qe)))
    (have F := An2 @ndE @hq1; refine Rg3 ?_; clear F; (repeat (with_reducible first | apply qa | apply qb | apply qc | apply qd | apply qe)))
    cases q1
    rotate_left 1
    · rw [if_pos rfl] at hF
      (refine DV.condT rfl (fun _ => rfl) ?_; (repeat (with_reducible first | apply qa | apply qb | apply qc | apply qd | apply qe)))
      (refine Rg2 ?_; (repeat (with_reducible first | apply qa | apply qb | apply qc | apply qd | apply qe)))
      (refine DV.ret ?_; (repeat (first | (with_reducible refine thenD_ret' ?_) | (with_reducible refine blockD_ret' ?_))); (with_reducible refine retD_ret' ?_); try (refine Rt0 ?_; try with_reducible exact True.intro))
      exact hF
    rw [if_neg (by decide)] at hF
    (refine DV.condF rfl (fun _ => rfl) ?_; (repeat (with_reducible first | apply qa | apply qb | apply qc | apply qd | apply qe)))
    (refine DV.skip ?_; (repeat with_reducible refine qn ?_); (with_reducible refine qm ?_); (repeat (with_reducible first | apply qa | apply qb | apply qc | apply qd | apply qe)))
    (have F := An3 @ndE @encL_len @hq2; refine Rg3 ?_; clear F; (repeat (with_reducible first | apply qa | apply qb | apply qc | apply qd | apply qe)))
    cases q2
    rotate_left 1
    · rw [if_pos rfl] at hF
      (refine DV.condT rfl (fun _ => rfl) ?_; (repeat (with_reducible first | apply qa | apply qb | apply qc | apply qd | apply qe)))
      (refine Rg2 ?_; (repeat (with_reducible first | apply qa | apply qb | apply qc | apply qd | apply qe)))
      (refine DV.ret ?_; (repeat (first | (with_reducible refine thenD_ret' ?_) | (with_reducible refine blockD_ret' ?_))); (with_reducible refine retD_ret' ?_); try (refine Rt0 ?_; try with_reducible exact True.intro))
      exact hF
    rw [if_neg (by decide)] at hF
    rw [Bool.or_eq_false_iff, decide_eq_false_iff_not, decide_eq_false_iff_not] at hq2
    have hfo := hfo (by omega) (by omega)
    (refine DV.condF rfl (fun _ => rfl) ?_; (repeat (with_reducible first | apply qa | apply qb | apply qc | apply qd | apply qe)))
    (refine DV.skip ?_; (repeat with_reducible refine qn ?_); (with_reducible refine qm ?_); (repeat (with_reducible first | apply qa | apply qb | apply qc | apply qd | apply qe)))
    (have F := An2 @ndE @hq3; refine Rg3 ?_; clear F; (repeat (with_reducible first | apply qa | apply qb | apply qc | apply qd | apply qe)))
    cases q3
    rotate_left 1
    · rw [if_pos rfl] at hF
      (refine DV.condT rfl (fun _ => rfl) ?_; (repeat (with_reducible first | apply qa | apply qb | apply qc | apply qd | apply qe)))
      (refine Rg2 ?_; (repeat (with_reducible first | apply qa | apply qb | apply qc | apply qd | apply qe)))
      (refine DV.ret ?_; (repeat (first | (with_reducible refine thenD_ret' ?_) | (with_reducible refine blockD_ret' ?_))); (with_reducible refine retD_ret' ?_); try (refine Rt0 ?_; try with_reducible exact True.intro))
      exact hF
    rw [if_neg (by decide)] at hF
    (refine DV.condF rfl (fun _ => rfl) ?_; (repeat (with_reducible first | apply qa | apply qb | apply qc | apply qd | apply qe)))
    (refine DV.skip ?_; (repeat with_reducible refine qn ?_); (with_reducible refine qm ?_); (repeat (with_reducible first | apply qa | apply qb | apply qc | apply qd | apply qe)))
    (have F := An4 @grE @hgd @hfo @hq4; refine Rg3 ?_; clear F; (repeat (with_reducible first | apply qa | apply qb | apply qc | apply qd | apply qe)))
    cases q4
    · rw [if_pos rfl] at hF
      (refine DV.condT rfl (fun _ => rfl) ?_; (repeat (with_reducible first | apply qa | apply qb | apply qc | apply qd | apply qe)))
      (refine Rg2 ?_; (repeat (with_reducible first | apply qa | apply qb | apply qc | apply qd | apply qe)))
      (refine DV.ret ?_; (repeat (first | (with_reducible refine thenD_ret' ?_) | (with_reducible refine blockD_ret' ?_))); (with_reducible refine retD_ret' ?_); try (refine Rt0 ?_; try with_reducible exact True.intro))
      exact hF
    rw [if_neg (by decide)] at hF
    (refine DV.condF rfl (fun _ => rfl) ?_; (repeat (with_reducible first | apply qa | apply qb | apply qc | apply qd | apply qe)))
    (refine DV.skip ?_; (repeat with_reducible refine qn ?_); (with_reducible refine qm ?_); (repeat (with_reducible first | apply qa | apply qb | apply qc | apply qd | apply qe)))
    have hsw : (∃ v : Int, (if (if k4 = true then a1 else if k3 = true then false else a0) = true then 1 else v) = F) := ⟨_, hF⟩
    clear hsw
    (have F := @ndE; refine Rg3 ?_; clear F; (repeat (with_reducible first | apply qa | apply qb | apply qc | apply qd | apply qe)))
    (have F := @hk4; refine Rg3 ?_; clear F; (repeat (with_reducible first | apply qa | apply qb | apply qc | apply qd | apply qe)))
    cases k4
    rotate_left 1
    · rw [if_pos (c := (true = true)) rfl] at hF
      (refine DV.condT rfl (fun _ => rfl) ?_; (repeat (with_reducible first | apply qa | apply qb | apply qc | apply qd | apply qe)))
      (have F := An2 @ndE @ha1; refine Rg3 ?_; clear F; (repeat (with_reducible first | apply qa | apply qb | apply qc | apply qd | apply qe)))
      cases a1
      rotate_left 1
      · rw [if_pos rfl] at hF
        (refine DV.condT rfl (fun _ => rfl) ?_; (repeat (with_reducible first | apply qa | apply qb | apply qc | apply qd | apply qe)))
        (refine Rg2 ?_; (repeat (with_reducible first | apply qa | apply qb | apply qc | apply qd | apply qe)))
        (refine DV.ret ?_; (repeat (first | (with_reducible refine thenD_ret' ?_) | (with_reducible refine blockD_ret' ?_))); (with_reducible refine retD_ret' ?_); try (refine Rt0 ?_; try with_reducible exact True.intro))
        exact hF
      rw [if_neg (by decide)] at hF
      (refine DV.condF rfl (fun _ => rfl) ?_; (repeat (with_reducible first | apply qa | apply qb | apply qc | apply qd | apply qe)))
      (refine DV.skip ?_; (repeat with_reducible refine qn ?_); (with_reducible refine qm ?_); (repeat (with_reducible first | apply qa | apply qb | apply qc | apply qd | apply qe)))
      (have F := An7 @ndE @decL_encL @isL_enc @encL_len @hpl @hp1 @hq5; refine Rg3 ?_; clear F; (repeat (with_reducible first | apply qa | apply qb | apply qc | apply qd | apply qe)))
      cases q5
      · rw [if_neg (by decide)] at hF
        (refine DV.condF rfl (fun _ => rfl) ?_; (repeat (with_reducible first | apply qa | apply qb | apply qc | apply qd | apply qe)))
        (refine DV.skip ?_; (repeat with_reducible refine qn ?_); (with_reducible refine qm ?_); (repeat (with_reducible first | apply qa | apply qb | apply qc | apply qd | apply qe)))
        (refine Rg2 ?_; (repeat (with_reducible first | apply qa | apply qb | apply qc | apply qd | apply qe)))
        (refine DV.ret ?_; (repeat (first | (with_reducible refine thenD_ret' ?_) | (with_reducible refine blockD_ret' ?_))); (with_reducible refine retD_ret' ?_); try (refine Rt0 ?_; try with_reducible exact True.intro))
        exact hF
      · rw [if_pos rfl] at hF
        (refine DV.condT rfl (fun _ => rfl) ?_; (repeat (with_reducible first | apply qa | apply qb | apply qc | apply qd | apply qe)))
        (refine Rg2 ?_; (repeat (with_reducible first | apply qa | apply qb | apply qc | apply qd | apply qe)))
        (refine DV.ret ?_; (repeat (first | (with_reducible refine thenD_ret' ?_) | (with_reducible refine blockD_ret' ?_))); (with_reducible refine retD_ret' ?_); try (refine Rt0 ?_; try with_reducible exact True.intro))
        exact hF
    rw [if_neg (c := (false = true)) (by decide)] at hF
    (refine DV.condF rfl (fun _ => rfl) ?_; (repeat (with_reducible first | apply qa | apply qb | apply qc | apply qd | apply qe)))
    (have F := @hk3; refine Rg3 ?_; clear F; (repeat (with_reducible first | apply qa | apply qb | apply qc | apply qd | apply qe)))
    cases k3
    rotate_left 1
    · rw [if_pos (c := (true = true)) rfl, if_neg (by decide)] at hF
      (refine DV.condT rfl (fun _ => rfl) ?_; (repeat (with_reducible first | apply qa | apply qb | apply qc | apply qd | apply qe)))
      (refine DV.skip ?_; (repeat with_reducible refine qn ?_); (with_reducible refine qm ?_); (repeat (with_reducible first | apply qa | apply qb | apply qc | apply qd | apply qe)))
      (have F := An7 @ndE @decL_encL @isL_enc @encL_len @hpl @hp1 @hq5; refine Rg3 ?_; clear F; (repeat (with_reducible first | apply qa | apply qb | apply qc | apply qd | apply qe)))
      cases q5
      · rw [if_neg (by decide)] at hF
        (refine DV.condF rfl (fun _ => rfl) ?_; (repeat (with_reducible first | apply qa | apply qb | apply qc | apply qd | apply qe)))
        (refine DV.skip ?_; (repeat with_reducible refine qn ?_); (with_reducible refine qm ?_); (repeat (with_reducible first | apply qa | apply qb | apply qc | apply qd | apply qe)))
        (refine Rg2 ?_; (repeat (with_reducible first | apply qa | apply qb | apply qc | apply qd | apply qe)))
        (refine DV.ret ?_; (repeat (first | (with_reducible refine thenD_ret' ?_) | (with_reducible refine blockD_ret' ?_))); (with_reducible refine retD_ret' ?_); try (refine Rt0 ?_; try with_reducible exact True.intro))
        exact hF
      · rw [if_pos rfl] at hF
        (refine DV.condT rfl (fun _ => rfl) ?_; (repeat (with_reducible first | apply qa | apply qb | apply qc | apply qd | apply qe)))
        (refine Rg2 ?_; (repeat (with_reducible first | apply qa | apply qb | apply qc | apply qd | apply qe)))
        (refine DV.ret ?_; (repeat (first | (with_reducible refine thenD_ret' ?_) | (with_reducible refine blockD_ret' ?_))); (with_reducible refine retD_ret' ?_); try (refine Rt0 ?_; try with_reducible exact True.intro))
        exact hF
    rw [if_neg (c := (false = true)) (by decide)] at hF
    (refine DV.condF rfl (fun _ => rfl) ?_; (repeat (with_reducible first | apply qa | apply qb | apply qc | apply qd | apply qe)))
    (have F := An2 @ndE @ha0; refine Rg3 ?_; clear F; (repeat (with_reducible first | apply qa | apply qb | apply qc | apply qd | apply qe)))
    cases a0
    rotate_left 1
    · rw [if_pos rfl] at hF
      (refine DV.condT rfl (fun _ => rfl) ?_; (repeat (with_reducible first | apply qa | apply qb | apply qc | apply qd | apply qe)))
      (refine Rg2 ?_; (repeat (with_reducible first | apply qa | apply qb | apply qc | apply qd | apply qe)))
      (refine DV.ret ?_; (repeat (first | (with_reducible refine thenD_ret' ?_) | (with_reducible refine blockD_ret' ?_))); (with_reducible refine retD_ret' ?_); try (refine Rt0 ?_; try with_reducible exact True.intro))
      exact hF
    rw [if_neg (by decide)] at hF
    (refine DV.condF rfl (fun _ => rfl) ?_; (repeat (with_reducible first | apply qa | apply qb | apply qc | apply qd | apply qe)))
    (refine DV.skip ?_; (repeat with_reducible refine qn ?_); (with_reducible refine qm ?_); (repeat (with_reducible first | apply qa | apply qb | apply qc | apply qd | apply qe)))
    (have F := An7 @ndE @decL_encL @isL_enc @encL_len @hpl @hp1 @hq5; refine Rg3 ?_; clear F; (repeat (with_reducible first | apply qa | apply qb | apply qc | apply qd | apply qe)))
    cases q5
    · rw [if_neg (by decide)] at hF
      (refine DV.condF rfl (fun _ => rfl) ?_; (repeat (with_reducible first | apply qa | apply qb | apply qc | apply qd | apply qe)))
      (refine DV.skip ?_; (repeat with_reducible refine qn ?_); (with_reducible refine qm ?_); (repeat (with_reducible first | apply qa | apply qb | apply qc | apply qd | apply qe)))
      (refine Rg2 ?_; (repeat (with_reducible first | apply qa | apply qb | apply qc | apply qd | apply qe)))
      (refine DV.ret ?_; (repeat (first | (with_reducible refine thenD_ret' ?_) | (with_reducible refine blockD_ret' ?_))); (with_reducible refine retD_ret' ?_); try (refine Rt0 ?_; try with_reducible exact True.intro))
      exact hF
    · rw [if_pos rfl] at hF
      (refine DV.condT rfl (fun _ => rfl) ?_; (repeat (with_reducible first | apply qa | apply qb | apply qc | apply qd | apply qe)))
      (refine Rg2 ?_; (repeat (with_reducible first | apply qa | apply qb | apply qc | apply qd | apply qe)))
      (refine DV.ret ?_; (repeat (first | (with_reducible refine thenD_ret' ?_) | (with_reducible refine blockD_ret' ?_))); (with_reducible refine retD_ret' ?_); try (refine Rt0 ?_; try with_reducible exact True.intro))
      exact hF
  · exact h.elim
end Go.Proofs.Ytkmgdejpdhlleaa.Dq
