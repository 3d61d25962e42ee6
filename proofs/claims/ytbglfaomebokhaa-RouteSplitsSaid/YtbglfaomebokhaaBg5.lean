/- slices.Insert of one item into a row of the call's own. -/
import Derived.Test.YtbglfaomebokhaaBg4
import Derived.Test.YtbglfaomebokhaaApp
import Derived.Lib.Overlaps
import Derived.Laws.Externs
namespace Go.Proofs.Ytbglfaomebokhaa
set_option linter.unusedSimpArgs false
set_option linter.unusedVariables false
open Go.RowKit

theorem info_item' : (Try.prog.info? 30).map (fun i => (i.zero, i.size, i.bytes)) = some (some (.agg #[.int .i64 0, .int .i64 0, .int .i64 0]), 3, 24) := by kernel_rfl
theorem own_capY {w : World} {b : Nat} {e : TypeId} {k n m c : Nat} {a : Option Addr} {xs : List Value} (h : w.ownsRow b e k (.slice a m c) n xs) : m ≤ c := by
  rcases h.2 with ⟨h2, _⟩ | ⟨g', cap, cur, hv, hg, hh, hnc, _⟩
  · cases h2; exact Nat.le_refl _
  · obtain ⟨_, rfl, rfl⟩ := Value.slice.inj hv
    exact hnc
/-- What an insertion answers. -/
def InsAt (w : World) (base : Nat) (v : Value) (n : Nat) (xs : List Value) (e : Ending) (w' : World) : Prop :=
  ∃ b c, e = .returned (.slice b (n + 1) c) ∧ w.grownBy w' v.ownBlock ∧ w'.ownsRow base 30 3 (.slice b (n + 1) c) (n + 1) xs ∧ (v.ownBlock = (Value.slice b (n + 1) c).ownBlock ∨ ∀ k, (Value.slice b (n + 1) c).ownBlock = some k → w.heap.size ≤ k) ∧ Ext w w'
theorem ins_end (l : List It) (a : Option Addr) (n c base vb : Nat) (x : It) (w0 w : World) (hx0 : Ext w0 w) (hb0 : w0.heap.size ≤ base) (hb : base ≤ w.heap.size) (h : w.ownsRow base 30 3 (.slice a n c) n (its l)) (hn : n ≤ 1073741823) (hv : Rd w 3 1 (.slice (some ⟨vb, 0, none⟩) 1 1) (its [x])) :
    Calls Try.prog 52 #[.slice a n c, .int .i64 n, .slice (some ⟨vb, 0, none⟩) 1 1] w fun e w' => ∃ b c', e = .returned (.slice b (n + 1) c') ∧ w.grownBy w' (Value.slice a n c).ownBlock ∧ (∃ y, w' = ext w0 y) ∧ w'.ownsRow base 30 3 (.slice b (n + 1) c') (n + 1) (its (l ++ [x])) ∧ ((Value.slice a n c).ownBlock = (Value.slice b (n + 1) c').ownBlock ∨ (Value.slice b (n + 1) c').ownBlock = some w.heap.size) := by
  have H := Lib.hid h
  have HV := Lib.hid hv
  have e1 : ((n : Int) == (n : Int)) = true := by simp
  have i0 : (0 : Int) ≤ n := by omega
  have hcap := own_capY h
  have i1 : (n : Int) ≤ c := by omega
  rw [its_append]
  have ONE := Lib.hid (its_one [x])
  clear hv
  have key : ∀ (P : Prop), ((a = none ∧ n = 0) → P) → ((∃ g, a = some ⟨g, 0, none⟩) → c = n → P) → ((∃ g, a = some ⟨g, 0, none⟩) → c ≠ n → P) → P := fun P k1 k2 k3 => by
    rcases h.2 with ⟨h1, h2⟩ | ⟨g, cap, cur, h1, _⟩
    · cases h1; exact k1 ⟨rfl, h2⟩
    · obtain ⟨rfl, _, _⟩ := Value.slice.inj h1
      by_cases hq : c = n
      · exact k2 ⟨g, rfl⟩ hq
      · exact k3 ⟨g, rfl⟩ hq
  clear h
  refine key _ (fun hk => ?_) (fun hk hq => ?_) (fun hk hq => ?_)
  · obtain ⟨rfl, rfl⟩ := hk
    clear key
    go_enter Try.func52, Try.ntmps52
    go_wp2_with (at_builtin; apply stop_here)
    unfold Stop
    refine wpList_app rfl _ _ 22 rfl 30 (.agg #[.int .i64 0, .int .i64 0, .int .i64 0]) 3 24 Try.underlying22 info_item' rfl (by decide) w0 hx0 base _ _ _ H.out 1 _ _ rfl rfl HV.out ONE.out (by unfold maxLen; omega) (by omega) hb hb0 ?_
    intro b c' y hown hgr hat
    have HOWN := Lib.hid hown
    have HGR := Lib.hid hgr
    have HAT := Lib.hid hat
    clear hown hgr hat
    go_wp2
    go_returns
    exact ⟨b, c', by simp, HGR.out, ⟨y, rfl⟩, HOWN.out, HAT.out⟩
  · obtain ⟨g, rfl⟩ := hk
    subst hq
    clear key
    go_enter Try.func52, Try.ntmps52
    go_wp2_with (at_builtin; apply stop_here)
    unfold Stop
    refine wpList_app rfl _ _ 22 rfl 30 (.agg #[.int .i64 0, .int .i64 0, .int .i64 0]) 3 24 Try.underlying22 info_item' rfl (by decide) w0 hx0 base _ _ _ H.out 1 _ _ rfl rfl HV.out ONE.out (by unfold maxLen; omega) (by omega) hb hb0 ?_
    intro b c' y hown hgr hat
    have HOWN := Lib.hid hown
    have HGR := Lib.hid hgr
    have HAT := Lib.hid hat
    clear hown hgr hat
    go_wp2
    go_returns
    exact ⟨b, c', by simp, HGR.out, ⟨y, rfl⟩, HOWN.out, HAT.out⟩
  · obtain ⟨g, rfl⟩ := hk
    clear key
    go_enter Try.func52, Try.ntmps52
    go_wp2_with (at_builtin; apply stop_here)
    unfold Stop
    refine wpList_app rfl _ _ 22 rfl 30 (.agg #[.int .i64 0, .int .i64 0, .int .i64 0]) 3 24 Try.underlying22 info_item' rfl (by decide) w0 hx0 base _ _ _ H.out 1 _ _ rfl rfl HV.out ONE.out (by unfold maxLen; omega) (by omega) hb hb0 ?_
    intro b c' y hown hgr hat
    have HOWN := Lib.hid hown
    have HGR := Lib.hid hgr
    have HAT := Lib.hid hat
    clear hown hgr hat
    go_wp2
    go_returns
    exact ⟨b, c', by simp, HGR.out, ⟨y, rfl⟩, HOWN.out, HAT.out⟩
end Go.Proofs.Ytbglfaomebokhaa
