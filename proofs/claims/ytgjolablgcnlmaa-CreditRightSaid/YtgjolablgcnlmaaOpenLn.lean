/- Arguments opened: a lane. -/
import Derived.Test.YtgjolablgcnlmaaLaw35d
import Derived.Test.YtgjolablgcnlmaaOpen
import Derived.Test.YtgjolablgcnlmaaOpenSl
import Derived.ProofKit
namespace Go.Proofs.Ytgjolablgcnlmaa
set_option linter.unusedSimpArgs false
set_option linter.unusedVariables false
open Go.RowKit Go.WideShapes Go.ChangeShapes Go.Deep

theorem slice_cell {H : Type} {enc : TypeId × Value → H} {P : Program} {w : World} {base : Nat} {spare : Nat → Bool} {held : Bool} {t e : TypeId} (ht : P.underlying t = some (.slice e)) {n : Nat} {c : Value} {x : DataW H × List MemPlace} (h : DataW.trod enc P w base spare held n t [c] = some x) : c.cells.toList = [c] := by
  obtain ⟨d, ps⟩ := x
  rcases open_slice ht h with ⟨h0, _⟩ | ⟨a, len, cap, m, k, D, Pl, h0, _⟩
  · obtain rfl : c = .slice none 0 0 := by simpa using h0
    rfl
  · obtain rfl : c = .slice (some a) len cap := by simpa using h0
    rfl
theorem cap_le {H : Type} {enc : TypeId × Value → H} {P : Program} {w : World} {base : Nat} {spare : Nat → Bool} {held : Bool} {t e : TypeId} (ht : P.underlying t = some (.slice e)) {m : Nat} {a : Option Addr} {n c : Nat} {x : DataW H × List MemPlace} (h : DataW.trod enc P w base spare held m t [.slice a n c] = some x) : n ≤ c := by
  obtain ⟨d, ps⟩ := x
  rcases open_slice ht h with ⟨h0, _⟩ | ⟨a', len, cap, m, k, D, Pl, h0, hb, hl, _⟩
  · obtain ⟨-, rfl, rfl⟩ : a = none ∧ n = 0 ∧ c = 0 := by simpa using h0
    exact Nat.le_refl _
  · obtain ⟨-, rfl, rfl⟩ : a = some a' ∧ n = len ∧ c = cap := by simpa using h0
    exact hl
theorem open_lane {H : Type} {enc : TypeId × Value → H} {w : World} {base : Nat} {spare : Nat → Bool} {held : Bool} {v : Value} {d : DataW H} {qs : List MemPlace} (h : DataW.Trod enc Try.prog w base spare held 24 v d qs) {r : Reach} {b' : Nat} (hv : Value.okWide Try.prog w r b' 24 v) :
    ∃ (s m b : Int) (xs ys : List Int) (a1 a2 : Option Addr) (c1 c2 : Nat), v = .agg #[.int .i64 s, .int .i64 m, .slice a1 xs.length c1, .slice a2 ys.length c2, .int .i64 b] ∧ LaneV w a1 c1 a2 c2 ⟨s, m, b, xs, ys⟩ ∧ xs.length ≤ c1 ∧ ys.length ≤ c2 := by
  obtain ⟨fuel, h⟩ := h
  unfold Value.okWide at hv
  rw [Try.underlying24] at hv
  obtain ⟨cs, rfl, hsz, -⟩ := hv
  rw [show Try.prog.cellsOf 24 = 5 by kernel_rfl] at hsz
  obtain ⟨cl⟩ := cs
  obtain ⟨k0, k1, k2, k3, k4, rfl⟩ := list5 (l := cl) (by simpa using hsz)
  rw [show (Value.agg #[k0, k1, k2, k3, k4]).cells.toList = [k0, k1, k2, k3, k4] from rfl] at h
  obtain ⟨xs, n, _, -, hl, hlen, hf⟩ := DataW.trod_struct Try.underlying24 h
  obtain ⟨z0, z1, z2, z3, z4, rfl⟩ := list5 (l := xs) (by simpa using hlen)
  obtain ⟨y0, h0⟩ : ∃ y, DataW.trod enc Try.prog w base spare held n 3 [k0] = some y := by
    have := hf 0 _ rfl
    exact ⟨z0, by simpa [show Try.prog.cellsOf 3 = 1 by kernel_rfl] using this⟩
  obtain ⟨y1, h1⟩ : ∃ y, DataW.trod enc Try.prog w base spare held n 3 [k1] = some y := by
    have := hf 1 _ rfl
    exact ⟨z1, by simpa [show Try.prog.cellsOf 3 = 1 by kernel_rfl] using this⟩
  obtain ⟨y2, h2⟩ : ∃ y, DataW.trod enc Try.prog w base spare held n 22 [k2] = some y := by
    have := hf 2 _ rfl
    exact ⟨z2, by simpa [show Try.prog.cellsOf 22 = 1 by kernel_rfl] using this⟩
  obtain ⟨y3, h3⟩ : ∃ y, DataW.trod enc Try.prog w base spare held n 22 [k3] = some y := by
    have := hf 3 _ rfl
    exact ⟨z3, by simpa [show Try.prog.cellsOf 22 = 1 by kernel_rfl] using this⟩
  obtain ⟨y4, h4⟩ : ∃ y, DataW.trod enc Try.prog w base spare held n 3 [k4] = some y := by
    have := hf 4 _ rfl
    exact ⟨z4, by simpa [show Try.prog.cellsOf 3 = 1 by kernel_rfl] using this⟩
  obtain ⟨n0, e0, -, -⟩ := DataW.trod_int Try.underlying3 h0
  obtain ⟨n1, e1, -, -⟩ := DataW.trod_int Try.underlying3 h1
  obtain ⟨n4, e4, -, -⟩ := DataW.trod_int Try.underlying3 h4
  obtain rfl : k0 = .int .i64 n0 := by simpa using e0
  obtain rfl : k1 = .int .i64 n1 := by simpa using e1
  obtain rfl : k4 = .int .i64 n4 := by simpa using e4
  have s2 := slice_cell Try.underlying22 h2
  have s3 := slice_cell Try.underlying22 h3
  obtain ⟨l2, r2, -, -⟩ := open_is Try.underlying22 (by kernel_rfl) Try.underlying2 (d := y2.1) (ps := y2.2) (v := k2) ⟨n, by rw [s2]; exact h2⟩ s2
  obtain ⟨l3, r3, -, -⟩ := open_is Try.underlying22 (by kernel_rfl) Try.underlying2 (d := y3.1) (ps := y3.2) (v := k3) ⟨n, by rw [s3]; exact h3⟩ s3
  obtain ⟨a1, c1, rfl, -⟩ := r2.form
  obtain ⟨a2, c2, rfl, -⟩ := r3.form
  exact ⟨n0, n1, n4, l2, l3, a1, a2, c1, c2, rfl, ⟨r2, r3⟩, cap_le Try.underlying22 h2, cap_le Try.underlying22 h3⟩

set_option synthInstance.maxHeartbeats 400000 in
set_option maxRecDepth 100000 in
set_option maxHeartbeats 40000000 in
theorem walk_CreditRight_short (s m b : Int) (a1 a2 : Option Addr) (c1 c2 : Nat) (xs ys : List Int) (v size : Int) (w : World) (h : 100 < xs.length ∨ 100 < ys.length) :
    Calls Try.prog 3 #[.agg #[.int .i64 s, .int .i64 m, .slice a1 xs.length c1, .slice a2 ys.length c2, .int .i64 b], .int .i64 v, .int .i64 size] w fun r w' => r = .returned (.bool true) ∧ Ext w w' := by
  have AW := Lib.hid (fun w => awake35 w)
  by_cases h1 : 100 < (xs.length : Int)
  · clear h
    go_enter Try.func3, Try.ntmps3
    go_wp2_with (go_at_call 8; refine (AW.out _).mono ?_; rintro r w' ⟨rfl, x, rfl⟩)
    go_returns
    exact ⟨retb rfl rfl, by (repeat' (first | with_reducible exact Ext.refl _ | with_reducible refine Ext.ext ?_ _ | with_reducible refine Ext.alloc ?_ _ | with_reducible refine Ext.drew ?_ | with_reducible refine Ext.drewN ?_ _ | with_reducible assumption))⟩
  · have h2 : 100 < (ys.length : Int) := by omega
    clear h
    go_enter Try.func3, Try.ntmps3
    go_wp2_with (go_at_call 8; refine (AW.out _).mono ?_; rintro r w' ⟨rfl, x, rfl⟩)
    go_returns
    exact ⟨retb rfl rfl, by (repeat' (first | with_reducible exact Ext.refl _ | with_reducible refine Ext.ext ?_ _ | with_reducible refine Ext.alloc ?_ _ | with_reducible refine Ext.drew ?_ | with_reducible refine Ext.drewN ?_ _ | with_reducible assumption))⟩
theorem walk_CreditRight (w : World) (s m b : Int) (a1 a2 : Option Addr) (c1 c2 : Nat) (xs ys : List Int) (hV : LaneV w a1 c1 a2 c2 ⟨s, m, b, xs, ys⟩) (hc : xs.length ≤ c1 ∧ ys.length ≤ c2) (v : Int) (_ : -9223372036854775808 ≤ v ∧ v ≤ 9223372036854775807) (size : Int) (_ : -9223372036854775808 ≤ size ∧ size ≤ 9223372036854775807) :
    Calls Try.prog 3 #[.agg #[.int .i64 s, .int .i64 m, .slice a1 xs.length c1, .slice a2 ys.length c2, .int .i64 b], .int .i64 v, .int .i64 size] w fun r w' => r = .returned (.bool true) ∧ Ext w w' := by
  by_cases h : 100 < xs.length ∨ 100 < ys.length
  · exact walk_CreditRight_short s m b a1 a2 c1 c2 xs ys v size w h
  · exact lane_walk s m b a1 a2 c1 c2 xs ys v size w (by omega) (by omega) hc hV
end Go.Proofs.Ytgjolablgcnlmaa
