/- Paths by deep values: PathsReach. -/
import Derived.Test.YtkmgdejpdhlleaaRz3
import Derived.Test.YtkmgdejpdhlleaaR9d
import Derived.Test.YtkmgdejpdhlleaaAwk
namespace Go.Proofs.Ytkmgdejpdhlleaa.Dq
set_option linter.unusedSimpArgs false
set_option linter.unusedVariables false
set_option maxRecDepth 100000
open Go.RowKit
open Pa Va

theorem tk_ok (g : Gr) : TkOk (tbS g) := ⟨(tb_ok g).sz, (tb_ok g).row, (tb_ok g).ls⟩
theorem fm_len {α β : Type} (F : α → List β) (b : Nat) : ∀ {l : List α}, (∀ x ∈ l, (F x).length ≤ b) → (l.flatMap F).length ≤ l.length * b
  | [], _ => by simp
  | x :: l, h => by
    rw [List.flatMap_cons, List.length_append, List.length_cons, Nat.succ_mul]
    have h1 := h x List.mem_cons_self
    have h2 := fm_len F b (l := l) fun y hy => h y (List.mem_cons_of_mem _ hy)
    omega
theorem ah_len {p : List (List (List Hp))} {pts : List (List Tm)} (h : PtOk p pts) (m : Int) : (ahP p pts m).length ≤ 1073741823 := by
  unfold ahP
  have h1 := fm_len (ahF p pts m) 217800 (l := List.range pts.length) fun n _ => by
    unfold ahF ahG
    have hts : ((pts[n]?).getD []).length ≤ 40 := by
      cases hr : pts[n]? with
      | none => exact Nat.zero_le _
      | some ts => exact h.ls ts (List.mem_of_getElem? hr)
    have h2 := fm_len (fun h => ((pts[n]?).getD []).filterMap fun t => ap1 h t) 40 (l := soS p n m) fun x _ => Nat.le_trans (List.length_filterMap_le _ _) hts
    have h3 := so_short h.tb n m
    exact Nat.le_trans h2 (Nat.le_trans (Nat.mul_le_mul_right 40 h3) (by decide))
  rw [List.length_range] at h1
  exact Nat.le_trans h1 (Nat.le_trans (Nat.mul_le_mul_right 217800 h.n) (by decide))
set_option maxHeartbeats 32000000 in
theorem walk_PathsReach (g : Gr) (_ : True) (n : Int) (bn : -9223372036854775808 ≤ n ∧ n ≤ 9223372036854775807) (t : Tm) (_ : True) (m : Int) (bm : -9223372036854775808 ≤ m ∧ m ≤ 9223372036854775807) (u : Tm) (_ : True) (pts : List (List Tm)) (_ : ∀ x ∈ pts, True) (hlm : pts.length ≤ maxLen) : Cal Try.prog 10 [.agg (grC.enc g), .c (.int .i64 n), .agg (tiC.enc t), .c (.int .i64 m), .agg (tiC.enc u), .c (.sl (encL tlC pts))] (.one (.c (.bool true))) := by
  have hgd : grC.dec [D.sl (encL inC g.p), D.sl (encL inC g.b), D.sl (encL ndC g.n), D.sl (encL egC g.e)] = g := grC.de g
  have htd := tiC.de t
  have hud := tiC.de u
  rw [tiE] at htd hud
  have CT := An8 @awkD10.eq_1 @rnsD.eq_1 @tabD.eq_1 @reaD.eq_1 @rreD.eq_1 @pahD.eq_1 @rahD.eq_1 @rsmD.eq_1; refine DV.of (Γ := ⟨[(27, awkD10), (30, rnsD), (29, tabD), (35, reaD), (42, rreD), (44, pahD), (45, rahD), (43, rsmD)], [], []⟩) (rs := [ResultVar.tmp 12]) [0, 1, 2, 3, 4, 5, 6, 8, 10, 12, 13, 14, 16, 24, 28, 36] ⟨by intro p hp; simp only [List.mem_cons, List.not_mem_nil, or_false] at hp; rcases hp with rfl | rfl | rfl | rfl | rfl | rfl | rfl | rfl; exact awk10_cal; exact rns_cal; exact tab_cal; exact rea_cal; exact rre_cal; exact pah_cal; exact rah_cal; exact rsm_cal, nofun⟩ (by kernel_rfl) Try.func10 rfl rfl (by kernel_rfl) rfl ?_; (repeat (with_reducible first | apply qa | apply qb | apply qc | apply qd | apply qe))
  (have F := An2 @grE @tiE; refine Rg3 ?_; clear F; (repeat (with_reducible first | apply qa | apply qb | apply qc | apply qd | apply qe)))
  (refine Rg2 ?_; (repeat (with_reducible first | apply qa | apply qb | apply qc | apply qd | apply qe)))
  (refine DV.condF rfl (fun _ => rfl) ?_; (repeat (with_reducible first | apply qa | apply qb | apply qc | apply qd | apply qe)))
  (refine DV.skip ?_; (repeat with_reducible refine qn ?_); (with_reducible refine qm ?_); (repeat (with_reducible first | apply qa | apply qb | apply qc | apply qd | apply qe)))
  obtain ⟨q0, hq0⟩ : ∃ q, runB g = q := ⟨_, rfl⟩
  obtain ⟨q, hq⟩ : ∃ q, (!q0 || decide (40 < (pts.length : Int))) = q := ⟨_, rfl⟩
  (have F := An5 @encL_len @grE @hgd @hq0 @hq; refine Rg3 ?_; clear F; (repeat (with_reducible first | apply qa | apply qb | apply qc | apply qd | apply qe)))
  cases q
  rotate_left 1
  · (refine DV.condT rfl (fun _ => rfl) ?_; (repeat (with_reducible first | apply qa | apply qb | apply qc | apply qd | apply qe)))
    (refine Rg2 ?_; (repeat (with_reducible first | apply qa | apply qb | apply qc | apply qd | apply qe)))
    (refine DV.ret ?_; (repeat (first | (with_reducible refine thenD_ret' ?_) | (with_reducible refine blockD_ret' ?_))); (with_reducible refine retD_ret' ?_); try (refine Rt0 ?_; try with_reducible exact True.intro))
  simp only [Bool.or_eq_false_iff, decide_eq_false_iff_not, Bool.not_eq_false'] at hq
  obtain ⟨rfl, hp40⟩ := hq
  have hsm : Sm g := by
    unfold runB at hq0
    split at hq0
    · cases hq0
    · next hs => exact (sho_sm (by simpa using hs)).1
  have hso : ∀ a b : Int, (soS (tbS g) a b).length ≤ 1000000000 := so_len (tb_ok g)
  have htk := tk_ok g
  obtain ⟨T, hT⟩ : ∃ T, tbS g = T := ⟨_, rfl⟩
  rw [hT] at hso htk
  have so2 := hso n m
  (refine DV.condF rfl (fun _ => rfl) ?_; (repeat (with_reducible first | apply qa | apply qb | apply qc | apply qd | apply qe)))
  (refine DV.skip ?_; (repeat with_reducible refine qn ?_); (with_reducible refine qm ?_); (repeat (with_reducible first | apply qa | apply qb | apply qc | apply qd | apply qe)))
  (refine Rg2 ?_; (repeat (with_reducible first | apply qa | apply qb | apply qc | apply qd | apply qe)))
  refine DV.loop (fun j : Nat => ⟨[(1, .v true (.c (.int .i64 n))), (3, .v true (.c (.int .i64 m))), (5, .v true (.c (.sl (encL tlC pts)))), (6, .v true (.box 6 0)), (8, .v true (.box 8 0)), (10, .v true (.box 10 0)), (13, .v true (.c (.int .i64 j)))], [(6, some ⟨0, 0, [[.sl (encL inC g.p), .sl (encL inC g.b), .sl (encL ndC g.n), .sl (encL egC g.e)]]⟩), (8, some ⟨0, 0, [[.int .i64 t.d, .int .i64 t.a, .int .i64 t.b, .int .i64 t.c, .int .i64 t.e]]⟩), (10, some ⟨0, 0, [[.int .i64 u.d, .int .i64 u.a, .int .i64 u.b, .int .i64 u.c, .int .i64 u.e]]⟩)], []⟩) (fun j => j ≤ pts.length ∧ ∀ (k : Nat) y, k < j → pts[k]? = some y → y.length ≤ 40) (fun j => pts.length - j) 0 ⟨Nat.zero_le _, fun k y hk => absurd hk (Nat.not_lt_zero k)⟩ (by (have F := @n0; exact Wk1)) (fun j hj => ?_)
  obtain ⟨hj, hall⟩ := hj
  (repeat (with_reducible first | apply qa | apply qb | apply qc | apply qd | apply qe))
  have ew := wr1 j (by omega)
  by_cases hlt : j < pts.length
  · obtain ⟨y, hy⟩ : ∃ y, pts[j]? = some y := ⟨_, List.getElem?_eq_getElem hlt⟩
    have d1 : decide ((j : Int) < (pts.length : Int)) = true := decide_eq_true (by omega)
    have c1 : (0 : Int) ≤ j := by omega
    have c2 : (j : Int) < (pts.length : Int) := by omega
    have c3 := encL_get (C := tlC) hy
    obtain ⟨b, hb⟩ : ∃ b, decide (40 < (y.length : Int)) = b := ⟨_, rfl⟩
    (have F := An2 @encL_len @d1; refine Rg3 ?_; clear F; (repeat (with_reducible first | apply qa | apply qb | apply qc | apply qd | apply qe)))
    (refine DV.condT rfl (fun _ => rfl) ?_; (repeat (with_reducible first | apply qa | apply qb | apply qc | apply qd | apply qe)))
    (refine DV.skip ?_; (repeat with_reducible refine qn ?_); (with_reducible refine qm ?_); (repeat (with_reducible first | apply qa | apply qb | apply qc | apply qd | apply qe)))
    (have F := An8 @i2n @encL_len @c1 @c2 @hlt @c3 @tlE @hb; refine Rg3 ?_; clear F; (repeat (with_reducible first | apply qa | apply qb | apply qc | apply qd | apply qe)))
    cases b
    · (refine DV.condF rfl (fun _ => rfl) ?_; (repeat (with_reducible first | apply qa | apply qb | apply qc | apply qd | apply qe)))
      (refine DV.skip ?_; (repeat with_reducible refine qn ?_); (with_reducible refine qm ?_); (repeat (with_reducible first | apply qa | apply qb | apply qc | apply qd | apply qe)))
      (have F := @ew; refine Re3 ?_; clear F; (repeat with_reducible refine qn ?_); (try with_reducible refine qm ?_); (repeat (with_reducible first | apply qa | apply qb | apply qc | apply qd | apply qe)))
      refine ⟨j + 1, ⟨⟨hlt, fun k z hk hz => ?_⟩, by omega⟩, by exact Wk0⟩
      rcases Nat.lt_or_ge k j with h | h
      · exact hall k z h hz
      · obtain rfl : k = j := by omega
        rw [hy] at hz
        obtain rfl := Option.some.inj hz
        have := of_decide_eq_false hb
        omega
    · (refine DV.condT rfl (fun _ => rfl) ?_; (repeat (with_reducible first | apply qa | apply qb | apply qc | apply qd | apply qe)))
      (refine Rg2 ?_; (repeat (with_reducible first | apply qa | apply qb | apply qc | apply qd | apply qe)))
      (refine DV.ret ?_; (repeat (first | (with_reducible refine thenD_ret' ?_) | (with_reducible refine blockD_ret' ?_))); (with_reducible refine retD_ret' ?_); try (refine Rt0 ?_; try with_reducible exact True.intro))
  obtain rfl : j = pts.length := by omega
  have d1 : decide ((pts.length : Int) < (pts.length : Int)) = false := decide_eq_false (by omega)
  have hpt : PtOk T pts := ⟨htk, by omega, fun ts hts => by
    obtain ⟨k, hk⟩ := List.getElem?_of_mem hts
    exact hall k ts (List.getElem?_eq_some_iff.1 hk).1 hk⟩
  have hXl : (Rc.chT (ahP T pts m)).length ≤ 1073741823 := Nat.le_trans (Rc.chT_len _) (ah_len hpt m)
  obtain ⟨X, hX⟩ : ∃ X, Rc.chT (ahP T pts m) = X := ⟨_, rfl⟩
  rw [hX] at hXl
  have hss : Rc.sameB X X = true := Rc.sameB_yes rfl
  obtain ⟨R, hR⟩ : ∃ R, reS T n t m u = R := ⟨_, rfl⟩
  have hrr : (R == R) = true := by simp
  (have F := An2 @encL_len @d1; refine Rg3 ?_; clear F; (repeat (with_reducible first | apply qa | apply qb | apply qc | apply qd | apply qe)))
  (refine DV.condF rfl (fun _ => rfl) ?_; (repeat (with_reducible first | apply qa | apply qb | apply qc | apply qd | apply qe)))
  (refine DV.exit ?_; (repeat (first | (with_reducible refine thenD_exit' ?_) | (with_reducible refine blockD_other (by decide) ?_))); (with_reducible refine blockD_same ?_); (repeat with_reducible refine qn ?_); (with_reducible refine qm ?_); (repeat (with_reducible first | apply qa | apply qb | apply qc | apply qd | apply qe)))
  (have F := An4 @grE @hgd @hsm @hT; refine Rg3 ?_; clear F; (repeat (with_reducible first | apply qa | apply qb | apply qc | apply qd | apply qe)))
  (have F := An15 @tiE @tiD @htd @hud @decL_encL @isL_enc @so2 @htk @hpt @hR @hrr @hX @hXl @hss @isfG; refine Rd3 ?_; clear F; (repeat (with_reducible first | apply qa | apply qb | apply qc | apply qd | apply qe)))
  (refine DV.ret ?_; (repeat (first | (with_reducible refine thenD_ret' ?_) | (with_reducible refine blockD_ret' ?_))); (with_reducible refine retD_ret' ?_); try (refine Rt0 ?_; try with_reducible exact True.intro))

end Go.Proofs.Ytkmgdejpdhlleaa.Dq
