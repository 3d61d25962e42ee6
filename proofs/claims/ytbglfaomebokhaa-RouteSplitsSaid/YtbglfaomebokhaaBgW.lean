/- Bags as values that read: the contracts once more, for the laws. -/
import Derived.Test.YtbglfaomebokhaaLaw05a
namespace Go.Proofs.Ytbglfaomebokhaa
set_option linter.unusedSimpArgs false
set_option linter.unusedVariables false
open Go.RowKit

/-- The value reads as this bag. -/
def Rb (w : World) (l : List It) (v : Value) : Prop := ∃ a c, v = .slice a l.length c ∧ Rd w 3 l.length (.slice a l.length c) (its l)
theorem Rb.on {w w' : World} {l : List It} {v : Value} (h : Rb w l v) (hx : Ext w w') : Rb w' l v := by
  obtain ⟨a, c, rfl, h⟩ := h
  exact ⟨a, c, rfl, h.of_ext hx⟩
theorem Rb.nil (w : World) : Rb w [] (.slice none 0 0) := ⟨none, 0, rfl, Rd.nil _ _ _ _⟩
theorem Bag.rb {w0 w : World} {b : Nat} {l : List It} {v : Value} (h : Bag w0 b l v w) : Ext w0 w ∧ Rb w l v := by
  obtain ⟨hx, a, c, rfl, ho⟩ := h
  exact ⟨hx, a, c, rfl, own_rd ho⟩
/-- The value reads as these records. -/
def Rr (w : World) (l : List (Int × Int)) (v : Value) : Prop := ∃ a c, v = .slice a l.length c ∧ Rd w 2 l.length (.slice a l.length c) (rcs l)
theorem Rr.on {w w' : World} {l : List (Int × Int)} {v : Value} (h : Rr w l v) (hx : Ext w w') : Rr w' l v := by
  obtain ⟨a, c, rfl, h⟩ := h
  exact ⟨a, c, rfl, h.of_ext hx⟩
theorem RBag.rr {w0 w : World} {b : Nat} {l : List (Int × Int)} {v : Value} (h : RBag w0 b l v w) : Ext w0 w ∧ Rr w l v := by
  obtain ⟨hx, a, c, rfl, ho⟩ := h
  exact ⟨hx, a, c, rfl, own_rd ho⟩
theorem there_rb {w : World} {l : List It} {v : Value} (h : Rb w l v) (hn : l.length ≤ 1073741823) (r : List It) (hr : thereS l = r) :
    Calls Try.prog 32 #[v] w fun e w' => ∃ v', e = .returned v' ∧ Ext w w' ∧ Rb w' r v' := by
  subst hr
  obtain ⟨a, c, rfl, h⟩ := h
  exact (there_any l a c w h hn).mono (fun e w' ⟨v', he, hb⟩ => ⟨v', he, hb.rb⟩)
theorem plus_rb {w : World} {l m : List It} {v u : Value} (h : Rb w l v) (h' : Rb w m u) (hn : l.length + m.length ≤ 1073741823) (r : List It) (hr : joinS l m 1 = r) :
    Calls Try.prog 15 #[v, u] w fun e w' => ∃ v', e = .returned v' ∧ Ext w w' ∧ Rb w' r v' := by
  subst hr
  obtain ⟨a, c, rfl, h⟩ := h
  obtain ⟨a', c', rfl, h'⟩ := h'
  exact (plus_any l m a a' c c' w h h' hn).mono (fun e w' ⟨v', he, hb⟩ => ⟨v', he, hb.rb⟩)
theorem minus_rb {w : World} {l m : List It} {v u : Value} (h : Rb w l v) (h' : Rb w m u) (hn : l.length + m.length ≤ 1073741823) (r : List It) (hr : joinS l m (-1) = r) :
    Calls Try.prog 33 #[v, u] w fun e w' => ∃ v', e = .returned v' ∧ Ext w w' ∧ Rb w' r v' := by
  subst hr
  obtain ⟨a, c, rfl, h⟩ := h
  obtain ⟨a', c', rfl, h'⟩ := h'
  exact (minus_any l m a a' c c' w h h' hn).mono (fun e w' ⟨v', he, hb⟩ => ⟨v', he, hb.rb⟩)
theorem same_rb {w : World} {l m : List It} {v u : Value} (h : Rb w l v) (h' : Rb w m u) (hn : l.length ≤ 1073741823) (b : Bool) (hb : sameB l m = b) :
    Calls Try.prog 16 #[v, u] w fun e w' => e = .returned (.bool b) ∧ Ext w w' := by
  obtain ⟨a, c, rfl, h⟩ := h
  obtain ⟨a', c', rfl, h'⟩ := h'
  subst hb
  exact bagSame_any l m a a' c c' w h h' hn
theorem right_rb {w : World} {l : List It} {v : Value} (h : Rb w l v) (hn : l.length ≤ 1073741823) (b : Bool) (hb : rightB l = b) :
    Calls Try.prog 14 #[v] w fun e w' => e = .returned (.bool b) ∧ Ext w w' := by
  obtain ⟨a, c, rfl, h⟩ := h
  subst hb
  exact bagRight_any l a _ c w h rfl (by omega)
theorem of_rb {w : World} {l : List (Int × Int)} {v : Value} (h : Rr w l v) (hn : l.length ≤ 1073741823) (r : List It) (hr : ofF l = r) :
    Calls Try.prog 24 #[v] w fun e w' => ∃ v', e = .returned v' ∧ Ext w w' ∧ Rb w' r v' := by
  subst hr
  obtain ⟨a, c, rfl, h⟩ := h
  exact (bagOf_any l a c w h hn).mono (fun e w' ⟨v', he, hb⟩ => ⟨v', he, hb.rb⟩)
theorem list_rb {w : World} {l : List It} {v : Value} (h : Rb w l v) (hn : l.length ≤ 1073741823) (r : List (Int × Int)) (hr : listS l = r) (b : Bool) (hb : okL l = b) :
    Calls Try.prog 26 #[v] w fun e w' => ∃ v', e = .returned (.tuple #[v', .bool b]) ∧ Ext w w' ∧ Rr w' r v' := by
  subst hr hb
  obtain ⟨a, c, rfl, h⟩ := h
  exact (bagList_any l a c w h hn).mono (fun e w' ⟨v', he, hb⟩ => ⟨v', he, hb.rr⟩)
theorem Rb.cut {w : World} {l : List It} {a : Option Addr} {c : Nat} (h : Rd w 3 l.length (.slice a l.length c) (its l)) {m : Nat} (hm : m ≤ l.length) : Rb w (l.take m) (.slice a m c) := by
  have hl : (l.take m).length = m := by rw [List.length_take]; omega
  refine ⟨a, c, by rw [hl], ?_⟩
  rw [hl, its_take]
  exact rd_take h hm
theorem Rr.cut {w : World} {l : List (Int × Int)} {a : Option Addr} {c : Nat} (h : Rd w 2 l.length (.slice a l.length c) (rcs l)) {m : Nat} (hm : m ≤ l.length) : Rr w (l.take m) (.slice a m c) := by
  have hl : (l.take m).length = m := by rw [List.length_take]; omega
  refine ⟨a, c, by rw [hl], ?_⟩
  rw [hl, rcs_take]
  exact rd_take h hm
theorem run_min {P : Program} (n k : Nat) (K : Int) (hk : K = k) (ats : Array TypeId) (ty : TypeId) (w : World) : (Builtin.min_ ats ty #[.int .i64 (n : Int), .int .i64 K]).run P w = .ok (.int .i64 ((min n k : Nat) : Int)) w := by
  subst hk
  simp only [Builtin.min_, List.foldlM, Builtin.min2, Sem.run_bind, Sem.run_pure, Result.andThen_ok]
  have : (if (k : Int) < n then (k : Int) else n) = ((min n k : Nat) : Int) := by
    simp only [Nat.min_def]
    split <;> split <;> omega
  rw [this]
end Go.Proofs.Ytbglfaomebokhaa
