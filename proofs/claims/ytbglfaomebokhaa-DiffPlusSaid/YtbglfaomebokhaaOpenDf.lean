/- Arguments opened: lists of lists of records. -/
import Derived.Test.YtbglfaomebokhaaOpenBg
import Derived.Test.YtbglfaomebokhaaDf5
namespace Go.Proofs.Ytbglfaomebokhaa
set_option linter.unusedSimpArgs false
set_option linter.unusedVariables false
open Go.RowKit Go.WideShapes Go.ChangeShapes Go.Deep

theorem lies_rl {w : World} : Lies Try.prog w 41 (fun v : Value => [v]) (fun v => ∃ (l : List (Int × Int)) (a : Option Addr) (c : Nat), v = .slice a l.length c ∧ Rd w 2 l.length (.slice a l.length c) (rcs l) ∧ l.length ≤ c) := by
  intro H enc base spare held fuel cs x h
  obtain ⟨d, ps⟩ := x
  have hcs : ∃ a n c, cs = [.slice a n c] := by
    rcases open_slice Try.underlying41 h with ⟨h0, _⟩ | ⟨a', len, cap, m, k, D, Pl, h0, _⟩
    · exact ⟨_, _, _, h0⟩
    · exact ⟨_, _, _, h0⟩
  obtain ⟨a, n, c, rfl⟩ := hcs
  obtain ⟨l, a', c', e, h1, h2⟩ := open_rcs (enc := enc) (w := w) (base := base) (spare := spare) (held := held) (v := .slice a n c) (d := d) (qs := ps) ⟨fuel, h⟩ rfl
  exact ⟨_, rfl, l, a', c', e, h1, h2⟩
theorem pick_all {α β : Type} {p : α → β → Prop} : ∀ xs : List α, (∀ x ∈ xs, ∃ y, p x y) → ∃ ys : List β, ys.length = xs.length ∧ ∀ (i : Nat) y x, ys[i]? = some y → xs[i]? = some x → p x y
  | [], _ => ⟨[], rfl, fun i y x h => by simp at h⟩
  | x :: xs, h => by
    obtain ⟨y, hy⟩ := h x List.mem_cons_self
    obtain ⟨ys, hl, hp⟩ := pick_all xs (fun z hz => h z (List.mem_cons_of_mem _ hz))
    refine ⟨y :: ys, by simp [hl], fun i b a hb ha => ?_⟩
    cases i with
    | zero =>
      obtain rfl : y = b := by simpa using hb
      obtain rfl : x = a := by simpa using ha
      exact hy
    | succ i => exact hp i b a (by simpa using hb) (by simpa using ha)
section
variable {H : Type} {enc : TypeId × Value → H} {w : World} {base : Nat} {spare : Nat → Bool} {held : Bool}
theorem open_rrs {v : Value} {d : DataW H} {qs : List MemPlace} (h : DataW.Trod enc Try.prog w base spare held 35 v d qs) (hv : v.cells.toList = [v]) :
    ∃ (ls : List (List (Int × Int))) (a : Option Addr) (c : Nat), v = .slice a ls.length c ∧ Rrs w ls (.slice a ls.length c) := by
  obtain ⟨xs, h1, h2, h3⟩ := open_sl Try.underlying35 (show Try.prog.cellsOf 41 = 1 by kernel_rfl) (by omega) lies_rl h hv
  rw [show xs.flatMap (fun v => [v]) = xs by simp] at h1
  obtain ⟨ls, hl, hp⟩ := pick_all xs (fun x hx => (h2 x hx).1)
  obtain ⟨a, c, rfl⟩ := h1.form
  rw [← hl] at h1 ⊢
  exact ⟨ls, a, c, rfl, a, c, xs, rfl, h1, fun i l u hi hu => hp i l u hi hu⟩
end
end Go.Proofs.Ytbglfaomebokhaa
