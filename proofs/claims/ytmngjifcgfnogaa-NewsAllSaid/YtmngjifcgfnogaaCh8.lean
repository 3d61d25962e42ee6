/- slices.Insert of one item into a row of the call's own, in all. -/
import Derived.Test.YtmngjifcgfnogaaCh7
namespace Go.Proofs.Ytmngjifcgfnogaa
set_option linter.unusedSimpArgs false
set_option linter.unusedVariables false
set_option maxRecDepth 100000
open Go.RowKit

/-- What a change of a row answers: another row of the call's own. -/
def Grows (w : World) (base : Nat) (v : Value) (l : List Tm) (e : Ending) (w' : World) : Prop :=
  ∃ b c, e = .returned (.slice b l.length c) ∧ w.grownBy w' v.ownBlock ∧ w'.ownsRow base 47 5 (.slice b l.length c) l.length (tms l) ∧ (v.ownBlock = (Value.slice b l.length c).ownBlock ∨ ∀ k, (Value.slice b l.length c).ownBlock = some k → w.heap.size ≤ k)
theorem grown_any {w w' : World} {r : Option Nat} (h : w.grownBy w' none) : w.grownBy w' r := ⟨h.os, h.tape, h.output, h.size, fun k hk _ => h.block k hk (by simp)⟩
theorem ins_any (l : List Tm) (a : Option Addr) (n c base vb i : Nat) (x : Tm) (w0 w : World) (hx0 : Ext w0 w) (hb0 : w0.heap.size ≤ base) (hb : base ≤ w.heap.size) (h : w.ownsRow base 47 5 (.slice a n c) n (tms l)) (hl : l.length = n) (hn : n ≤ 1073741823) (hi : i ≤ n) (hne : (Value.slice a n c).ownBlock ≠ some vb) (hv : w.heap[vb]? = some (.cells #[.int .i64 x.d, .int .i64 x.a, .int .i64 x.b, .int .i64 x.c, .int .i64 x.e] 47 (0, 0))) :
    Calls Try.prog 51 #[.slice a n c, .int .i64 i, .slice (some ⟨vb, 0, none⟩) 1 1] w (Grows w base (.slice a n c) (l.take i ++ x :: l.drop i)) := by
  have hlen : (l.take i ++ x :: l.drop i).length = n + 1 := by simp [hl]; omega
  have hits : tms (l.take i ++ x :: l.drop i) = (tms l).take (i * 5) ++ tms [x] ++ (tms l).drop (i * 5) := by
    rw [show l.take i ++ x :: l.drop i = l.take i ++ [x] ++ l.drop i by simp, tms_append, tms_append, tms_take, tms_drop]
  unfold Grows
  rw [hlen, hits]
  rcases Nat.lt_or_ge i n with hlt | hge
  · obtain ⟨g, rfl, hgb⟩ := own_form h (by omega)
    rcases Nat.lt_or_ge c (n + 1) with hc | hc
    · refine (ins_grow l g n c base vb i x w h hb hn hlt hc hv).mono ?_
      rintro e w' ⟨G, rfl, h1, h2⟩
      exact ⟨_, G, rfl, grown_any h1, h2, .inr (fun k hk => Nat.le_of_eq (by simpa [Value.ownBlock] using hk))⟩
    · refine (ins_room l g n c base vb i x w h hn hlt hc (fun e => hne (by rw [e]; rfl)) hv).mono ?_
      rintro e w' ⟨rfl, h1, h2⟩
      exact ⟨_, c, rfl, h1, h2, .inl rfl⟩
  · obtain rfl : i = n := by omega
    have hrd : Rd w 5 1 (.slice (some ⟨vb, 0, none⟩) 1 1) (tms [x]) := ⟨rfl, _, _, rfl, fun _ => ⟨vb, 0, rfl, fun j u hu => by
      rw [Nat.zero_add, cell_of_row _ _ _ _ _ (0, 0) hv]
      simpa [tms] using hu⟩⟩
    refine (ins_end l a i c base vb x w0 w hx0 hb0 hb h hn hrd).mono ?_
    rintro e w' ⟨b, c', rfl, h1, -, h2, h3⟩
    have e1 : (tms l).take (i * 5) ++ tms [x] ++ (tms l).drop (i * 5) = tms (l ++ [x]) := by
      rw [tms_append, List.take_of_length_le (by rw [tms_length, hl]; exact Nat.le_refl _), List.drop_of_length_le (by rw [tms_length, hl]; exact Nat.le_refl _), List.append_nil]
    rw [e1]
    exact ⟨b, c', rfl, h1, h2, h3.imp id (fun h k hk => by rw [h] at hk; cases hk; exact Nat.le_refl _)⟩
end Go.Proofs.Ytmngjifcgfnogaa
