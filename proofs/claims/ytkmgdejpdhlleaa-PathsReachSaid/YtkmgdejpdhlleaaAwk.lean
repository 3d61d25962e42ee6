/- The table of least steps: how long its rows and lists are; awake by it. -/
import Derived.Test.YtkmgdejpdhlleaaTbX
namespace Go.Proofs.Ytkmgdejpdhlleaa.Dq
set_option linter.unusedSimpArgs false
set_option linter.unusedVariables false
set_option maxRecDepth 100000
open Go.RowKit

open Pa Va

theorem itF_ok {G : Sg} {d0 : Int} (hG : SgOk G) : ∀ (f : Nat) (R : List (List Hp)), Pa.Ri G d0 R → Pa.Ri G d0 (itF G f R)
  | 0, _, h => h
  | f + 1, R, h => by
    unfold itF
    split
    · exact itF_ok hG f _ (swF_ok _ R false hG h).1
    · exact (swF_ok _ R false hG h).1
theorem beg_ri {g : Gr} (h : Chkd g) {fr : Nat} (hf : fr < g.n.length) : Pa.Ri (sgOf g) (depN g fr) (beg0 (sgOf g) fr (smH (depN g fr))) := by
  obtain ⟨⟨d1, d4⟩, -, -⟩ := h.dep (m := (fr : Int)) (by omega) (by omega)
  obtain ⟨d, hd⟩ : ∃ d, depN g fr = d := ⟨_, rfl⟩
  rw [hd] at d1 d4 ⊢
  refine beg_ok (G := sgOf g) (fr := fr) (x := smH d) hf (same_r ⟨d1, d4⟩) ?_ d1 ?_ fun p hp _ => ?_
  · show d + 0 = depN g fr
    omega
  · have : d = 1 ∨ d = 2 ∨ d = 3 ∨ d = 4 := by omega
    rcases this with rfl | rfl | rfl | rfl <;> decide
  · have : d = 1 ∨ d = 2 ∨ d = 3 ∨ d = 4 := by omega
    rcases this with rfl | rfl | rfl | rfl <;> rcases hp with rfl | rfl <;> decide
theorem row_ok {g : Gr} (h : Chkd g) {fr : Nat} (hf : fr < g.n.length) : Pa.Ri (sgOf g) (depN g fr) (rowS g fr) := itF_ok (sg_ok h) _ _ (beg_ri h hf)
/-- As many rows as operators, as many lists in each; none is too long. -/
structure TbOk (p : List (List (List Hp))) : Prop where
  sz : p.length ≤ 32
  row : ∀ r ∈ p, r.length = p.length
  ls : ∀ r ∈ p, ∀ l ∈ r, l.length ≤ 5445
theorem tb_ok (g : Gr) : TbOk (tbS g) := by
  unfold tbS
  split
  · exact ⟨Nat.zero_le _, nofun, nofun⟩
  next hc =>
  have hk := chk_ok (g := g) (by simpa using hc)
  have key : ∀ r ∈ (List.range g.n.length).map (rowS g), ∃ fr : Nat, fr < g.n.length ∧ r = rowS g fr := fun r hr => by
    obtain ⟨fr, h1, rfl⟩ := List.mem_map.1 hr
    exact ⟨fr, List.mem_range.1 h1, rfl⟩
  have hl : ((List.range g.n.length).map (rowS g)).length = g.n.length := by rw [List.length_map, List.length_range]
  refine ⟨by rw [hl]; exact hk.n32, fun r hr => ?_, fun r hr l hm => ?_⟩
  · obtain ⟨fr, hf, rfl⟩ := key r hr
    rw [hl]
    exact (row_ok hk hf).ok.len
  · obtain ⟨fr, hf, rfl⟩ := key r hr
    have hR := row_ok hk hf
    obtain ⟨m, hm⟩ := List.getElem?_of_mem hm
    have e : rg (rowS g fr) m = l := by unfold rg; rw [hm]; rfl
    have := rw_len hR.ok hk.n32 m (hR.nd m)
    rwa [e] at this
theorem so_len {p : List (List (List Hp))} (h : TbOk p) (n m : Int) : (soS p n m).length ≤ 1000000000 := by
  unfold soS
  split
  · exact Nat.zero_le _
  cases hr : p[n.toNat]? with
  | none => exact Nat.zero_le _
  | some r =>
    rw [Option.getD_some]
    cases hl : r[m.toNat]? with
    | none => exact Nat.zero_le _
    | some l => exact Nat.le_trans (h.ls r (List.mem_of_getElem? hr) l (List.mem_of_getElem? hl)) (by decide)
open Pa Va

def awkD10 : List S1 → CR × Prop
  | [] => (.one (.c (.bool true)), True)
  | _ => (.one (.c (.bool false)), False)
def gr0 : Gr := ⟨[-1], [0], [⟨1, 0, 0, []⟩, ⟨15, 0, 0, []⟩], [⟨0, 1, 0, false⟩]⟩
def hp0 : Hp := ⟨1, 1, 0, 0, 0, 0, 0, 0, 0, 0, 0⟩
def tab0 : List (List (List Hp)) := [[[hp0], [hp0]], [[], [hp0]]]
theorem gr0_sm : Sm gr0 := ⟨by decide, by decide, by decide, by decide⟩
theorem gr0_ck : Chkd gr0 := chk_ok (by decide +kernel)
theorem row0_0 : rowS gr0 0 = [[hp0], [hp0]] := by
  have hR := beg_ri gr0_ck (fr := 0) (by decide)
  have e1 : swF (sgOf gr0).st (sgOf gr0).ed (beg0 (sgOf gr0) 0 (smH (depN gr0 ((0 : Nat) : Int))), false) = ([[hp0], [hp0]], true) := by decide +kernel
  have e2 : swF (sgOf gr0).st (sgOf gr0).ed ([[hp0], [hp0]], false) = ([[hp0], [hp0]], false) := by decide +kernel
  have hs := (swF_ok (sgOf gr0).ed _ false (sg_ok gr0_ck) hR).2.2.2
  unfold rowS
  obtain ⟨B, hB⟩ : ∃ B, beg0 (sgOf gr0) 0 (smH (depN gr0 ((0 : Nat) : Int))) = B := ⟨_, rfl⟩
  rw [hB] at e1 hs ⊢
  rw [e1] at hs
  rcases hs rfl with h | h
  · cases h
  dsimp only at h
  obtain ⟨k, hk⟩ : ∃ k, osum B = k + 1 := ⟨osum B - 1, by omega⟩
  rw [hk, itF, e1, if_pos rfl, itF, e2, if_neg (by decide)]
theorem row0_1 : rowS gr0 1 = [[], [hp0]] := by
  have e1 : swF (sgOf gr0).st (sgOf gr0).ed (beg0 (sgOf gr0) 1 (smH (depN gr0 ((1 : Nat) : Int))), false) = ([[], [hp0]], false) := by decide +kernel
  unfold rowS
  rw [itF, e1, if_neg (by decide)]
theorem tbS_0 : tbS gr0 = tab0 := by
  have hc : (chkS gr0).1 = 0 := by decide +kernel
  unfold tbS
  rw [hc, if_neg (by decide)]
  show [rowS gr0 0, rowS gr0 1] = _
  rw [row0_0, row0_1]
  rfl
set_option maxHeartbeats 16000000 in
theorem awk10_cal (args : List S1) (h : (awkD10 args).2) : Cal Try.prog 27 args (awkD10 args).1 := by
  unfold awkD10 at h ⊢
  split at h
  · clear h
    have y1 : tiC.dec [D.int .i64 1, D.int .i64 1, D.int .i64 0, D.int .i64 0, D.int .i64 0] = ⟨1, 1, 0, 0, 0⟩ := rfl
    have y2 : tiC.dec [D.int .i64 1, D.int .i64 2, D.int .i64 0, D.int .i64 0, D.int .i64 0] = ⟨1, 2, 0, 0, 0⟩ := rfl
    have e1 : tiC.enc ⟨1, 1, 0, 0, 0⟩ = [D.int .i64 1, D.int .i64 1, D.int .i64 0, D.int .i64 0, D.int .i64 0] := rfl
    have e2 : tiC.enc ⟨1, 2, 0, 0, 0⟩ = [D.int .i64 1, D.int .i64 2, D.int .i64 0, D.int .i64 0, D.int .i64 0] := rfl
    have r1 : reS tab0 0 ⟨1, 1, 0, 0, 0⟩ 1 ⟨1, 2, 0, 0, 0⟩ = true := by decide +kernel
    have r2 : reS tab0 0 ⟨1, 2, 0, 0, 0⟩ 1 ⟨1, 1, 0, 0, 0⟩ = false := by decide +kernel
    have r3 : reS tab0 1 ⟨1, 1, 0, 0, 0⟩ 0 ⟨1, 2, 0, 0, 0⟩ = false := by decide +kernel
    have l1 : (soS tab0 0 1).length ≤ 1000000000 := by decide +kernel
    have l2 : (soS tab0 1 0).length ≤ 1000000000 := by decide +kernel
    have hl : (tab0.length : Int) = 2 := rfl
    have gD : grC.dec [D.sl [[D.int .i64 (-1)]], D.sl [[D.int .i64 0]], D.sl [[D.int .i64 1, D.int .i64 0, D.int .i64 0, D.sl []], [D.int .i64 15, D.int .i64 0, D.int .i64 0, D.sl []]], D.sl [[D.int .i64 0, D.int .i64 1, D.int .i64 0, D.bool false]]] = gr0 := rfl
    have gE : grC.enc gr0 = [D.sl [[D.int .i64 (-1)]], D.sl [[D.int .i64 0]], D.sl [[D.int .i64 1, D.int .i64 0, D.int .i64 0, D.sl []], [D.int .i64 15, D.int .i64 0, D.int .i64 0, D.sl []]], D.sl [[D.int .i64 0, D.int .i64 1, D.int .i64 0, D.bool false]]] := rfl
    have z2 : ((2 : Int) == 2) = true := by decide
    have hsm := gr0_sm
    have htb := tbS_0
    obtain ⟨tb, htb'⟩ : ∃ t, tab0 = t := ⟨_, rfl⟩
    rw [htb'] at r1 r2 r3 l1 l2 hl htb
    have CT := An2 @tabD.eq_1 @reaD.eq_1; refine DV.of (Γ := ⟨[(29, tabD), (35, reaD)], [], [5, 6, 9, 11]⟩) (rs := [ResultVar.tmp 0]) [0, 1, 2, 3, 4] ⟨by intro p hp; simp only [List.mem_cons, List.not_mem_nil, or_false] at hp; rcases hp with rfl | rfl; exact tab_cal; exact rea_cal, nofun⟩ (by kernel_rfl) Try.func27 rfl rfl (by kernel_rfl) rfl ?_; (repeat (with_reducible first | apply qa | apply qb | apply qc | apply qd | apply qe))
    (refine Rg2 ?_; (repeat (with_reducible first | apply qa | apply qb | apply qc | apply qd | apply qe)))
    (refine Rg2 ?_; (repeat (with_reducible first | apply qa | apply qb | apply qc | apply qd | apply qe)))
    refine DV.weak (σ' := ⟨[(0, .v true (.c (.bool false))), (1, .v true (.box 1 0))], [(1, some ⟨0, 0, [[.sl [[.int .i64 (-1)]], .sl [[.int .i64 0]], .sl [[.int .i64 1, .int .i64 0, .int .i64 0, .sl []], [.int .i64 15, .int .i64 0, .int .i64 0, .sl []]], .sl [[.int .i64 0, .int .i64 1, .int .i64 0, .bool false]]]]⟩)], []⟩) (by exact Wk0) ?_
    (have F := An4 @htb @gD @gE @hsm; refine Rg3 ?_; clear F; (repeat (with_reducible first | apply qa | apply qb | apply qc | apply qd | apply qe)))
    (refine Rg2 ?_; (repeat (with_reducible first | apply qa | apply qb | apply qc | apply qd | apply qe)))
    (have F := An14 @encL_len @decL_encL @isL_enc @hl @z2 @y1 @y2 @e1 @e2 @r1 @r2 @r3 @l1 @l2; refine Rg3 ?_; clear F; (repeat (with_reducible first | apply qa | apply qb | apply qc | apply qd | apply qe)))
    (refine DV.ret ?_; (repeat (first | (with_reducible refine thenD_ret' ?_) | (with_reducible refine blockD_ret' ?_))); (with_reducible refine retD_ret' ?_); try (refine Rt0 ?_; try with_reducible exact True.intro))
  · exact h.elim
end Go.Proofs.Ytkmgdejpdhlleaa.Dq
