/- BagLess: the ways there are. -/
import Derived.Test.YtbglfaomebokhaaLaw05b
import Derived.Test.YtbglfaomebokhaaOpenBg
namespace Go.Proofs.Ytbglfaomebokhaa
set_option linter.unusedSimpArgs false
set_option linter.unusedVariables false
open Go.RowKit

theorem walk_BagLess (w : World) (K V : Int) (bK : In64 K) (bV : In64 V) (K' V' : Int) (bK' : In64 K') (bV' : In64 V') (K'' V'' : Int) (bK'' : In64 K'') (bV'' : In64 V'') (a : Option Addr) (c : Nat) (l : List It) (hr : Rd w 3 l.length (.slice a l.length c) (its l)) (hc : l.length ≤ c) :
    Calls Try.prog 8 #[.agg #[.int .i64 K, .int .i64 V], .agg #[.int .i64 K', .int .i64 V'], .agg #[.int .i64 K'', .int .i64 V''], .slice a l.length c] w fun r w' => r = .returned (.bool true) ∧ Ext w w' := by
  refine less_walk K V K' V' K'' V'' a c l w hr hc _ _ _ _ _ rfl rfl rfl rfl rfl ?_
  have z : (K == K' && V == V') = decide (ordR (K, V) (K', V') = 0) := by
    rw [Bool.eq_iff_iff]
    simp only [Bool.and_eq_true, beq_iff_eq, decide_eq_true_eq, ordR_zero, Prod.mk.injEq]
  rw [z]
  by_cases h1 : ordR (K, V) (K', V') < 0
  · have l1 := (ordR_lt _ _).1 h1
    refine .inl ⟨decide_eq_true h1, decide_eq_false (fun h => ltR_irrefl _ (ltR_trans l1 ((ordR_lt _ _).1 h))), decide_eq_false (by omega), ?_⟩
    by_cases h3 : ordR (K', V') (K'', V'') < 0
    · exact .inr (decide_eq_true ((ordR_lt _ _).2 (ltR_trans l1 ((ordR_lt _ _).1 h3))))
    · exact .inl (decide_eq_false h3)
  · by_cases h0 : ordR (K, V) (K', V') = 0
    · refine .inr (.inr ⟨decide_eq_false h1, decide_eq_false ?_, decide_eq_true h0⟩)
      have e := (ordR_zero _ _).1 h0
      rw [← e, (ordR_zero _ _).2 rfl]
      decide
    · exact .inr (.inl ⟨decide_eq_false h1, decide_eq_true ((ordR_lt _ _).2 (ordR_gt _ _ h1 h0)), decide_eq_false h0⟩)
end Go.Proofs.Ytbglfaomebokhaa
