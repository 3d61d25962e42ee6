/- Chain: the lowest of lists together, plainly. -/
import Derived.Test.YtmngjifcgfnogaaChK
namespace Go.Proofs.Ytmngjifcgfnogaa
set_option linter.unusedSimpArgs false
set_option linter.unusedVariables false
set_option maxRecDepth 100000

theorem chT_mem {l m : List Tm} (h : ∀ x, x ∈ l ↔ x ∈ m) : chT l = chT m := chT_same (fun x => ⟨fun ⟨a, b, c⟩ => ⟨(h x).1 a, b, fun y hy => c y ((h y).2 hy)⟩, fun ⟨a, b, c⟩ => ⟨(h x).2 a, b, fun y hy => c y ((h y).1 hy)⟩⟩)
theorem chT_sub {l : List Tm} {x : Tm} (h : x ∈ chT l) : x ∈ l := (mem_chT.1 h).1
theorem chT_left (l m : List Tm) : chT (chT l ++ m) = chT (l ++ m) := by
  refine chT_same (fun x => ⟨fun ⟨a, b, c⟩ => ⟨?_, b, fun y hy hle => ?_⟩, fun ⟨a, b, c⟩ => ⟨?_, b, fun y hy hle => c y ?_ hle⟩⟩)
  · rcases List.mem_append.1 a with a | a
    · exact List.mem_append_left _ (chT_sub a)
    · exact List.mem_append_right _ a
  · rcases List.mem_append.1 hy with hy | hy
    · obtain ⟨z, hz, hzy⟩ := below_chT hy (leB_right hle).1
      have e := c z (List.mem_append_left _ hz) (leB_trans hzy hle)
      rw [e] at hzy
      exact leB_anti hle hzy
    · exact c y (List.mem_append_right _ hy) hle
  · rcases List.mem_append.1 a with a | a
    · exact List.mem_append_left _ (mem_chT.2 ⟨a, b, fun y hy hle => c y (List.mem_append_left _ hy) hle⟩)
    · exact List.mem_append_right _ a
  · rcases List.mem_append.1 hy with hy | hy
    · exact List.mem_append_left _ (chT_sub hy)
    · exact List.mem_append_right _ hy
theorem chT_comm (l m : List Tm) : chT (l ++ m) = chT (m ++ l) := chT_mem (fun x => by rw [List.mem_append, List.mem_append]; exact or_comm)
theorem chT_rightL (l m : List Tm) : chT (l ++ chT m) = chT (l ++ m) := by rw [chT_comm, chT_left, chT_comm]
theorem chT_idem (l : List Tm) : chT (chT l) = chT l := by
  have := chT_left l []
  rwa [List.append_nil, List.append_nil] at this
/-- Turned round, each twice. -/
def dblR : List Tm → List Tm
  | [] => []
  | a :: l => dblR l ++ [a, a]
theorem dblR_mem {x : Tm} : ∀ {l : List Tm}, x ∈ dblR l ↔ x ∈ l
  | [] => Iff.rfl
  | a :: l => by
    unfold dblR
    rw [List.mem_append, dblR_mem, List.mem_cons, List.mem_cons, List.mem_cons]
    constructor
    · rintro (h | h | h | h)
      · exact .inr h
      · exact .inl h
      · exact .inl h
      · cases h
    · rintro (h | h)
      · exact .inr (.inl h)
      · exact .inl h
theorem dblR_len : ∀ l : List Tm, (dblR l).length = 2 * l.length
  | [] => rfl
  | a :: l => by
    unfold dblR
    rw [List.length_append, dblR_len l]
    simp
    omega
theorem dblR_drop {l : List Tm} {j : Nat} {x : Tm} (h : l[j]? = some x) : dblR (l.drop j) = dblR (l.drop (j + 1)) ++ [x, x] := by
  obtain ⟨hj, hx⟩ := List.getElem?_eq_some_iff.1 h
  rw [List.drop_eq_getElem_cons hj, hx]
  rfl
theorem order_xy (a b c : List Tm) : chT (chT (a ++ b) ++ c) = chT (a ++ chT (c ++ b)) := by
  rw [chT_left, chT_rightL]
  exact chT_mem (fun x => by
    simp only [List.mem_append]
    constructor
    · rintro ((h | h) | h)
      · exact .inl h
      · exact .inr (.inr h)
      · exact .inr (.inl h)
    · rintro (h | h | h)
      · exact .inl (.inl h)
      · exact .inr h
      · exact .inl (.inr h))
theorem order_turn (l : List Tm) : chT (dblR (chT l)) = chT l := by rw [chT_mem (fun x => dblR_mem), chT_idem]
theorem order_again (a b c : List Tm) : chT (chT (chT (a ++ b) ++ c) ++ a) = chT (chT (a ++ b) ++ c) := by
  rw [chT_left, chT_left, List.append_assoc, chT_left]
  exact chT_mem (fun x => by
    simp only [List.mem_append]
    constructor
    · rintro ((h | h) | h | h)
      · exact .inl (.inl h)
      · exact .inl (.inr h)
      · exact .inr h
      · exact .inl (.inl h)
    · rintro ((h | h) | h)
      · exact .inl (.inl h)
      · exact .inl (.inr h)
      · exact .inr (.inl h))
end Go.Proofs.Ytmngjifcgfnogaa
