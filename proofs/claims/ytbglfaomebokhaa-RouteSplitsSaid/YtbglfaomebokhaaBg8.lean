/- slices.Insert of one item into a row of the call's own, in all. -/
import Derived.Test.YtbglfaomebokhaaBg7
namespace Go.Proofs.Ytbglfaomebokhaa
set_option linter.unusedSimpArgs false
set_option linter.unusedVariables false
open Go.RowKit

/-- What a change of a row answers: another row of the call's own. -/
def Grows (w : World) (base : Nat) (v : Value) (l : List It) (e : Ending) (w' : World) : Prop :=
  ∃ b c, e = .returned (.slice b l.length c) ∧ w.grownBy w' v.ownBlock ∧ w'.ownsRow base 30 3 (.slice b l.length c) l.length (its l) ∧ (v.ownBlock = (Value.slice b l.length c).ownBlock ∨ ∀ k, (Value.slice b l.length c).ownBlock = some k → w.heap.size ≤ k)
theorem grown_any {w w' : World} {r : Option Nat} (h : w.grownBy w' none) : w.grownBy w' r := ⟨h.os, h.tape, h.output, h.size, fun k hk _ => h.block k hk (by simp)⟩
theorem ins_any (l : List It) (a : Option Addr) (n c base vb i : Nat) (x : It) (w0 w : World) (hx0 : Ext w0 w) (hb0 : w0.heap.size ≤ base) (hb : base ≤ w.heap.size) (h : w.ownsRow base 30 3 (.slice a n c) n (its l)) (hl : l.length = n) (hn : n ≤ 1073741823) (hi : i ≤ n) (hne : (Value.slice a n c).ownBlock ≠ some vb) (hv : w.heap[vb]? = some (.cells #[.int .i64 x.k, .int .i64 x.v, .int .i64 x.n] 30 (0, 0))) :
    Calls Try.prog 52 #[.slice a n c, .int .i64 i, .slice (some ⟨vb, 0, none⟩) 1 1] w (Grows w base (.slice a n c) (l.take i ++ x :: l.drop i)) := by
  have hlen : (l.take i ++ x :: l.drop i).length = n + 1 := by simp [hl]; omega
  have hits : its (l.take i ++ x :: l.drop i) = (its l).take (i * 3) ++ its [x] ++ (its l).drop (i * 3) := by
    rw [show l.take i ++ x :: l.drop i = l.take i ++ [x] ++ l.drop i by simp, its_append, its_append, its_take, its_drop]
  unfold Grows
  rw [hlen, hits]
  rcases Nat.lt_or_ge i n with hlt | hge
  · obtain ⟨g, rfl, hgb⟩ := own_form h (by omega)
    rcases Nat.lt_or_ge c (n + 1) with hc | hc
    · refine (ins_grow l g n c base vb i x w h hb hn hlt hc hv).mono ?_
      rintro e w' ⟨G, rfl, h1, h2⟩
      exact ⟨_, G, rfl, grown_any h1, h2, .inr (fun k hk => Nat.le_of_eq (by simpa [Value.ownBlock] using hk))⟩
    · refine (ins_room l g n c base vb i x w h hn hlt hc (fun e => hne (by rw [e]; rfl)) hv).mono ?_
      rintro e w' ⟨rfl, h1, h2⟩
      exact ⟨_, c, rfl, h1, h2, .inl rfl⟩
  · obtain rfl : i = n := by omega
    have hrd : Rd w 3 1 (.slice (some ⟨vb, 0, none⟩) 1 1) (its [x]) := ⟨rfl, _, _, rfl, fun _ => ⟨vb, 0, rfl, fun j u hu => by
      rw [Nat.zero_add, cell_of_row _ _ _ _ _ (0, 0) hv]
      simpa [its] using hu⟩⟩
    refine (ins_end l a i c base vb x w0 w hx0 hb0 hb h hn hrd).mono ?_
    rintro e w' ⟨b, c', rfl, h1, -, h2, h3⟩
    have e1 : (its l).take (i * 3) ++ its [x] ++ (its l).drop (i * 3) = its (l ++ [x]) := by
      rw [its_append, List.take_of_length_le (by rw [its_length, hl]; exact Nat.le_refl _), List.drop_of_length_le (by rw [its_length, hl]; exact Nat.le_refl _), List.append_nil]
    rw [e1]
    exact ⟨b, c', rfl, h1, h2, h3.imp id (fun h k hk => by rw [h] at hk; cases hk; exact Nat.le_refl _)⟩
theorem del_all (l : List It) (g cap i n : Nat) (base : Nat) (w : World) (h : w.ownsRow base 30 3 (.slice (some ⟨g, 0, none⟩) n cap) n (its l)) (hl : l.length = n) (hi : i < n) (hn : n ≤ 1073741823) :
    Calls Try.prog 53 #[.slice (some ⟨g, 0, none⟩) n cap, .int .i64 i, .int .i64 ((i : Int) + 1)] w (Grows w base (.slice (some ⟨g, 0, none⟩) n cap) (l.eraseIdx i)) := by
  obtain ⟨m, rfl⟩ : ∃ m, n = m + 1 := ⟨n - 1, by omega⟩
  refine (del_any l g cap m i base w h hi (by omega)).mono ?_
  rintro e w' ⟨rfl, h1, h2⟩
  have hlen : (l.eraseIdx i).length = m := by rw [List.length_eraseIdx_of_lt (by omega)]; omega
  unfold Grows
  rw [hlen]
  exact ⟨_, cap, rfl, h1, h2, .inl rfl⟩
end Go.Proofs.Ytbglfaomebokhaa
