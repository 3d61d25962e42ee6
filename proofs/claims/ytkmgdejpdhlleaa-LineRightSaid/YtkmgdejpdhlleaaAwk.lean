/- The table of least steps: how long its rows and lists are; awake by it. -/
import Derived.Test.YtkmgdejpdhlleaaTbX
namespace Go.Proofs.Ytkmgdejpdhlleaa.Dq
set_option linter.unusedSimpArgs false
set_option linter.unusedVariables false
set_option maxRecDepth 100000
open Go.RowKit

open Pa Va

theorem itF_ok {G : Sg} {d0 : Int} (hG : SgOk G) : ∀ (f : Nat) (R : List (List Hp)), Pa.Ri G d0 R → Pa.Ri G d0 (itF G f R)
  | 0, _, h => h
  | f + 1, R, h => by
    unfold itF
    split
    · exact itF_ok hG f _ (swF_ok _ R false hG h).1
    · exact (swF_ok _ R false hG h).1
theorem beg_ri {g : Gr} (h : Chkd g) {fr : Nat} (hf : fr < g.n.length) : Pa.Ri (sgOf g) (depN g fr) (beg0 (sgOf g) fr (smH (depN g fr))) := by
  obtain ⟨⟨d1, d4⟩, -, -⟩ := h.dep (m := (fr : Int)) (by omega) (by omega)
  obtain ⟨d, hd⟩ : ∃ d, depN g fr = d := ⟨_, rfl⟩
  rw [hd] at d1 d4 ⊢
  refine beg_ok (G := sgOf g) (fr := fr) (x := smH d) hf (same_r ⟨d1, d4⟩) ?_ d1 ?_ fun p hp _ => ?_
  · show d + 0 = depN g fr
    omega
  · have : d = 1 ∨ d = 2 ∨ d = 3 ∨ d = 4 := by omega
    rcases this with rfl | rfl | rfl | rfl <;> decide
  · have : d = 1 ∨ d = 2 ∨ d = 3 ∨ d = 4 := by omega
    rcases this with rfl | rfl | rfl | rfl <;> rcases hp with rfl | rfl <;> decide
theorem row_ok {g : Gr} (h : Chkd g) {fr : Nat} (hf : fr < g.n.length) : Pa.Ri (sgOf g) (depN g fr) (rowS g fr) := itF_ok (sg_ok h) _ _ (beg_ri h hf)
/-- As many rows as operators, as many lists in each; none is too long. -/
structure TbOk (p : List (List (List Hp))) : Prop where
  sz : p.length ≤ 32
  row : ∀ r ∈ p, r.length = p.length
  ls : ∀ r ∈ p, ∀ l ∈ r, l.length ≤ 5445
theorem tb_ok (g : Gr) : TbOk (tbS g) := by
  unfold tbS
  split
  · exact ⟨Nat.zero_le _, nofun, nofun⟩
  next hc =>
  have hk := chk_ok (g := g) (by simpa using hc)
  have key : ∀ r ∈ (List.range g.n.length).map (rowS g), ∃ fr : Nat, fr < g.n.length ∧ r = rowS g fr := fun r hr => by
    obtain ⟨fr, h1, rfl⟩ := List.mem_map.1 hr
    exact ⟨fr, List.mem_range.1 h1, rfl⟩
  have hl : ((List.range g.n.length).map (rowS g)).length = g.n.length := by rw [List.length_map, List.length_range]
  refine ⟨by rw [hl]; exact hk.n32, fun r hr => ?_, fun r hr l hm => ?_⟩
  · obtain ⟨fr, hf, rfl⟩ := key r hr
    rw [hl]
    exact (row_ok hk hf).ok.len
  · obtain ⟨fr, hf, rfl⟩ := key r hr
    have hR := row_ok hk hf
    obtain ⟨m, hm⟩ := List.getElem?_of_mem hm
    have e : rg (rowS g fr) m = l := by unfold rg; rw [hm]; rfl
    have := rw_len hR.ok hk.n32 m (hR.nd m)
    rwa [e] at this
theorem so_len {p : List (List (List Hp))} (h : TbOk p) (n m : Int) : (soS p n m).length ≤ 1000000000 := by
  unfold soS
  split
  · exact Nat.zero_le _
  cases hr : p[n.toNat]? with
  | none => exact Nat.zero_le _
  | some r =>
    rw [Option.getD_some]
    cases hl : r[m.toNat]? with
    | none => exact Nat.zero_le _
    | some l => exact Nat.le_trans (h.ls r (List.mem_of_getElem? hr) l (List.mem_of_getElem? hl)) (by decide)
open Pa Va

def hp0 : Hp := ⟨1, 1, 0, 0, 0, 0, 0, 0, 0, 0, 0⟩
end Go.Proofs.Ytkmgdejpdhlleaa.Dq
