/- Rows of bags: each its own; append of one; diff: right, Changes, Sums. -/
import Derived.Test.YtbglfaomebokhaaBgW
import Derived.Test.YtbglfaomebokhaaBgQ
namespace Go.Proofs.Ytbglfaomebokhaa
set_option linter.unusedSimpArgs false
set_option linter.unusedVariables false
open Go.RowKit

/-- A bag in a row of its own. -/
def El (w : World) (l : List It) (v : Value) : Prop := ∃ a c, v = .slice a l.length c ∧ w.ownsRow 0 30 3 (.slice a l.length c) l.length (its l)
theorem El.rb {w : World} {l : List It} {v : Value} (h : El w l v) : Rb w l v := by
  obtain ⟨a, c, rfl, ho⟩ := h
  exact ⟨a, c, rfl, own_rd ho⟩
theorem El.on {w w' : World} {l : List It} {v : Value} (h : El w l v) (hx : Ext w w') : El w' l v := by
  obtain ⟨a, c, rfl, ho⟩ := h
  exact ⟨a, c, rfl, own_of_extY ho hx⟩
theorem El.nil (w : World) : El w [] (.slice none 0 0) := ⟨none, 0, rfl, World.ownsRow_nil _ _ _ _⟩
theorem Bag.el {w0 w : World} {b : Nat} {l : List It} {v : Value} (h : Bag w0 b l v w) : Ext w0 w ∧ El w l v := by
  obtain ⟨hx, a, c, rfl, ho⟩ := h
  exact ⟨hx, a, c, rfl, own_base ho (Nat.zero_le _)⟩
/-- What is written into a row of another type leaves it. -/
theorem El.grown {w w' : World} {l : List It} {u : Value} (h : El w l u) {b n k : Nat} {v : Value} {xs : List Value} (hrow : w.ownsRow b 22 k v n xs) (hgr : w.grownBy w' v.ownBlock) : El w' l u := by
  obtain ⟨a, c, rfl, ho⟩ := h
  refine ⟨a, c, rfl, ho.kept hgr ?_⟩
  rcases ho.2 with ⟨h0, -⟩ | ⟨g, cap, cur, h0, -, hg, -⟩
  · left
    obtain ⟨rfl, -, -⟩ := Value.slice.inj h0
    rfl
  · obtain ⟨rfl, -, -⟩ := Value.slice.inj h0
    right
    rcases hrow.2 with ⟨h1, -⟩ | ⟨g', cap', cur', h1, -, hg', -⟩
    · subst h1
      intro e
      cases e
    · subst h1
      intro e
      obtain rfl : g = g' := by simpa [Value.ownBlock] using e
      rw [hg] at hg'
      simp at hg'
/-- An own row of bags, each in a row of its own. -/
def OBs (w0 : World) (base : Nat) (ls : List (List It)) (v : Value) (w : World) : Prop :=
  Ext w0 w ∧ ∃ a c vs, v = .slice a ls.length c ∧ w.ownsRow base 22 1 (.slice a ls.length c) ls.length vs ∧ ∀ (i : Nat) l u, ls[i]? = some l → vs[i]? = some u → El w l u
theorem OBs.nil (w : World) (b : Nat) : OBs w b [] (.slice none 0 0) w := ⟨Ext.refl w, none, 0, [], rfl, World.ownsRow_nil _ _ _ _, fun i l u h => by simp at h⟩
theorem OBs.on {w0 w w' : World} {base : Nat} {ls : List (List It)} {v : Value} (h : OBs w0 base ls v w) (hx : Ext w w') : OBs w0 base ls v w' := by
  obtain ⟨h1, a, c, vs, rfl, ho, he⟩ := h
  exact ⟨h1.trans hx, a, c, vs, rfl, own_of_extY ho hx, fun i l u hi hu => (he i l u hi hu).on hx⟩
theorem OBs.up {w0 w1 w : World} {base : Nat} {ls : List (List It)} {v : Value} (h : OBs w1 base ls v w) (hx : Ext w0 w1) : OBs w0 base ls v w := ⟨hx.trans h.1, h.2⟩
/-- The value reads as these bags. -/
def Rbs (w : World) (ls : List (List It)) (v : Value) : Prop := ∃ a c vs, v = .slice a ls.length c ∧ Rd w 1 ls.length (.slice a ls.length c) vs ∧ ∀ (i : Nat) l u, ls[i]? = some l → vs[i]? = some u → Rb w l u
theorem Rbs.on {w w' : World} {ls : List (List It)} {v : Value} (h : Rbs w ls v) (hx : Ext w w') : Rbs w' ls v := by
  obtain ⟨a, c, vs, rfl, hr, he⟩ := h
  exact ⟨a, c, vs, rfl, hr.of_ext hx, fun i l u hi hu => (he i l u hi hu).on hx⟩
theorem OBs.rbs {w0 w : World} {b : Nat} {ls : List (List It)} {v : Value} (h : OBs w0 b ls v w) : Ext w0 w ∧ Rbs w ls v := by
  obtain ⟨hx, a, c, vs, rfl, ho, he⟩ := h
  exact ⟨hx, a, c, vs, rfl, own_rd ho, fun i l u hi hu => (he i l u hi hu).rb⟩
/-- One of them, its value in its cell. -/
theorem Rbs.at {w : World} {ls : List (List It)} {a : Option Addr} {n c : Nat} (h : Rbs w ls (.slice a n c)) {j : Nat} {l : List It} (hj : ls[j]? = some l) :
    ∃ b off u, a = some ⟨b, off, none⟩ ∧ Rb w l u ∧ w.cell? ⟨b, off + j, none⟩ = some u ∧ (∀ z, (ext w z).cell? ⟨b, off + j, none⟩ = some u) ∧ n = ls.length ∧ j < ls.length := by
  obtain ⟨a', c', vs, he, hr, hel⟩ := h
  obtain ⟨rfl, rfl, rfl⟩ := Value.slice.inj he
  have hlt := (List.getElem?_eq_some_iff.1 hj).1
  have hlen := hr.len
  rw [Nat.mul_one] at hlen
  obtain ⟨b, off, rfl, hc⟩ := hr.cells (by omega)
  obtain ⟨u, hu⟩ : ∃ u, vs[j]? = some u := ⟨vs[j]'(by omega), List.getElem?_eq_getElem _⟩
  have h1 := hc j u hu
  exact ⟨b, off, u, rfl, hel j l u hj hu, h1, fun z => by rw [cell_ext_a _ _ _ (World.block_lt_of_cell? _ _ h1), h1], rfl, hlt⟩
theorem Rbs.form {w : World} {ls : List (List It)} {v : Value} (h : Rbs w ls v) : ∃ a c, v = .slice a ls.length c := by
  obtain ⟨a, c, vs, rfl, -⟩ := h
  exact ⟨a, c, rfl⟩
theorem info_obs : (Try.prog.info? 22).map (fun i => (i.zero, i.size, i.bytes)) = some (some (.slice none 0 0), 1, 24) := by kernel_rfl
section
variable {ops : Array Oper} {rest : List Oper} {o : Oper} {a : Act} {Q : Exit → Act → World → Prop}
/-- 'append(v, x)' of one bag onto an own row of bags. -/
theorem push_obs (hgd : o.guard = none) (s x : Operand) (ho : o.op = .call { callee := .builtin .append, args := #[s, x], argTypes := #[24, 24] })
    (w0 w1 : World) (ls : List (List It)) (v : Value) (h : OBs w0 w0.heap.size ls v w1) (b c : Nat) (u : Value) (hs : a.eval s = v) (hx : a.eval x = .slice (some ⟨b, 0, none⟩) 1 c) (hb : b = w1.heap.size) (hl : ls.length ≤ 1073741823) (l : List It) (hel : El w1 l u)
    (k : ∀ v' w', OBs w0 w0.heap.size (ls ++ [l]) v' w' → (∀ l' u', El w1 l' u' → El w' l' u') → wpList Try.prog ops Q rest (a.put o.dst v') w') :
    wpList Try.prog ops Q (o :: rest) a (w1.alloc (.cells #[u] 22)) := by
  obtain ⟨⟨i, rfl⟩, a', c', vs, rfl, hown, he⟩ := h
  have hone : u.oneCell' = true := by
    obtain ⟨a1, c1, rfl, -⟩ := hel
    rfl
  refine wpList_pushF hgd s x 24 ho 22 (.slice none 0 0) 1 24 Try.underlying24 info_obs rfl (by decide) w0 i w0.heap.size _ ls.length vs hown b 1 c #[u] hs hx rfl (by simpa using hone) (by decide) hb (by unfold maxLen; omega) (by omega) (by simp) (Nat.le_refl _) ?_
  intro g cap y hown1 hgr hat
  have hlen := hown.1
  rw [Nat.mul_one] at hlen
  have keep : ∀ l' u', El (ext w0 i) l' u' → El (ext w0 y) l' u' := fun l' u' h => h.grown hown hgr
  refine k _ _ ⟨⟨y, rfl⟩, some ⟨g, 0, none⟩, cap, vs ++ [u], ?_, ?_, fun j l' u' hj hu => ?_⟩ keep
  · rw [List.length_append]; rfl
  · rw [List.length_append]
    exact hown1
  · by_cases hlt : j < ls.length
    · rw [List.getElem?_append_left hlt] at hj
      rw [List.getElem?_append_left (by omega)] at hu
      exact keep _ _ (he j l' u' hj hu)
    · rw [List.getElem?_append_right (by omega)] at hj
      rw [List.getElem?_append_right (by omega), hlen] at hu
      have : j - ls.length = 0 := by
        have := (List.getElem?_eq_some_iff.1 hj).1
        simp at this
        omega
      rw [this] at hj hu
      obtain rfl : l = l' := by simpa using hj
      obtain rfl : u = u' := by simpa using hu
      exact keep _ _ hel
end
theorem minus_el {w : World} {l m : List It} {v u : Value} (h : Rb w l v) (h' : Rb w m u) (hn : l.length + m.length ≤ 1073741823) (r : List It) (hr : joinS l m (-1) = r) :
    Calls Try.prog 33 #[v, u] w fun e w' => ∃ v', e = .returned v' ∧ Ext w w' ∧ El w' r v' := by
  subst hr
  obtain ⟨a, c, rfl, h⟩ := h
  obtain ⟨a', c', rfl, h'⟩ := h'
  exact (minus_any l m a a' c c' w h h' hn).mono (fun e w' ⟨v', he, hb⟩ => ⟨v', he, hb.el⟩)
theorem plus_el {w : World} {l m : List It} {v u : Value} (h : Rb w l v) (h' : Rb w m u) (hn : l.length + m.length ≤ 1073741823) (r : List It) (hr : joinS l m 1 = r) :
    Calls Try.prog 15 #[v, u] w fun e w' => ∃ v', e = .returned v' ∧ Ext w w' ∧ El w' r v' := by
  subst hr
  obtain ⟨a, c, rfl, h⟩ := h
  obtain ⟨a', c', rfl, h'⟩ := h'
  exact (plus_any l m a a' c c' w h h' hn).mono (fun e w' ⟨v', he, hb⟩ => ⟨v', he, hb.el⟩)
theorem clone_el {w : World} {l : List It} {v : Value} (h : Rb w l v) (hn : l.length ≤ 1073741823) :
    Calls Try.prog 46 #[v] w fun e w' => ∃ v', e = .returned v' ∧ Ext w w' ∧ El w' l v' := by
  obtain ⟨a, c, rfl, h⟩ := h
  exact (clone_bag l a c w h hn).mono (fun e w' ⟨v', he, hb⟩ => ⟨v', he, hb.el⟩)
theorem of_el {w : World} {l : List (Int × Int)} {v : Value} (h : Rr w l v) (hn : l.length ≤ 1073741823) (r : List It) (hr : ofF l = r) :
    Calls Try.prog 24 #[v] w fun e w' => ∃ v', e = .returned v' ∧ Ext w w' ∧ El w' r v' := by
  subst hr
  obtain ⟨a, c, rfl, h⟩ := h
  exact (bagOf_any l a c w h hn).mono (fun e w' ⟨v', he, hb⟩ => ⟨v', he, hb.el⟩)
/-- A right bag, or none. -/
def rgt (l : List It) : List It := if rightB l then l else []
theorem rgt_right (l : List It) : rightB (rgt l) = true := by
  unfold rgt
  split
  · assumption
  · rfl
theorem rgt_id {l : List It} (h : rightB l = true) : rgt l = l := by unfold rgt; rw [if_pos h]
theorem rgt_len (l : List It) : (rgt l).length ≤ l.length := by
  unfold rgt
  split
  · exact Nat.le_refl _
  · exact Nat.zero_le _
theorem right_el {w : World} {l : List It} {v : Value} (h : Rb w l v) (hn : l.length ≤ 1073741823) (r : List It) (hr : rgt l = r) :
    Calls Try.prog 45 #[v] w fun e w' => ∃ v', e = .returned v' ∧ Ext w w' ∧ El w' r v' := by
  subst hr
  obtain ⟨b, f⟩ : ∃ b, rightB l = b := ⟨_, rfl⟩
  have B1 := Lib.hid h
  have HN := Lib.hid hn
  have HF := Lib.hid f
  unfold rgt
  rw [f]
  clear h hn f
  cases b
  all_goals
    go_enter Try.func45, Try.ntmps45
    go_wp2_with (first | (go_at_call 14; (with_reducible refine (right_rb (B1.out.on (by (repeat' (first | with_reducible exact Ext.refl _ | with_reducible refine Ext.ext ?_ _ | with_reducible refine Ext.alloc ?_ _ | with_reducible refine Ext.drew ?_ | with_reducible refine Ext.drewN ?_ _ | with_reducible refine Ext.trans ?_ HX1.out | with_reducible refine Ext.trans ?_ HX2.out | with_reducible refine Ext.trans ?_ HX3.out | with_reducible refine Ext.trans ?_ HX4.out | with_reducible refine Ext.trans ?_ HX5.out | with_reducible refine Ext.trans ?_ HX6.out | with_reducible refine Ext.trans ?_ HX7.out | with_reducible refine Ext.trans ?_ HX8.out | with_reducible refine Ext.trans ?_ HX9.out | with_reducible refine Ext.trans ?_ HX10.out | with_reducible refine Ext.trans ?_ HX11.out | with_reducible refine Ext.trans ?_ HX12.out | with_reducible refine Ext.trans ?_ HX13.out | with_reducible refine Ext.trans ?_ HX14.out | with_reducible refine Ext.trans ?_ HX15.out | with_reducible refine Ext.trans ?_ HX16.out | with_reducible refine Ext.trans ?_ HX17.out | with_reducible refine Ext.trans ?_ HX18.out | with_reducible refine Ext.trans ?_ HX19.out | with_reducible refine Ext.trans ?_ HX20.out | with_reducible refine Ext.trans ?_ HX21.out | with_reducible refine Ext.trans ?_ HX22.out | with_reducible refine Ext.trans ?_ HX23.out | with_reducible refine Ext.trans ?_ HX24.out)))) HN.out _ HF.out).mono ?_); rintro e w2 ⟨rfl, hx⟩; have HX2 := Lib.hid hx; clear hx) | (go_at_call 46; (with_reducible refine (clone_el (B1.out.on (by (repeat' (first | with_reducible exact Ext.refl _ | with_reducible refine Ext.ext ?_ _ | with_reducible refine Ext.alloc ?_ _ | with_reducible refine Ext.drew ?_ | with_reducible refine Ext.drewN ?_ _ | with_reducible refine Ext.trans ?_ HX1.out | with_reducible refine Ext.trans ?_ HX2.out | with_reducible refine Ext.trans ?_ HX3.out | with_reducible refine Ext.trans ?_ HX4.out | with_reducible refine Ext.trans ?_ HX5.out | with_reducible refine Ext.trans ?_ HX6.out | with_reducible refine Ext.trans ?_ HX7.out | with_reducible refine Ext.trans ?_ HX8.out | with_reducible refine Ext.trans ?_ HX9.out | with_reducible refine Ext.trans ?_ HX10.out | with_reducible refine Ext.trans ?_ HX11.out | with_reducible refine Ext.trans ?_ HX12.out | with_reducible refine Ext.trans ?_ HX13.out | with_reducible refine Ext.trans ?_ HX14.out | with_reducible refine Ext.trans ?_ HX15.out | with_reducible refine Ext.trans ?_ HX16.out | with_reducible refine Ext.trans ?_ HX17.out | with_reducible refine Ext.trans ?_ HX18.out | with_reducible refine Ext.trans ?_ HX19.out | with_reducible refine Ext.trans ?_ HX20.out | with_reducible refine Ext.trans ?_ HX21.out | with_reducible refine Ext.trans ?_ HX22.out | with_reducible refine Ext.trans ?_ HX23.out | with_reducible refine Ext.trans ?_ HX24.out)))) HN.out).mono ?_); rintro e w3 ⟨v3, rfl, hx, hb⟩; have HX3 := Lib.hid hx; have B3 := Lib.hid hb; clear hx hb))
    go_returns
    first
      | exact ⟨_, rfl, by (repeat' (first | with_reducible exact Ext.refl _ | with_reducible refine Ext.ext ?_ _ | with_reducible refine Ext.alloc ?_ _ | with_reducible refine Ext.drew ?_ | with_reducible refine Ext.drewN ?_ _ | with_reducible refine Ext.trans ?_ HX1.out | with_reducible refine Ext.trans ?_ HX2.out | with_reducible refine Ext.trans ?_ HX3.out | with_reducible refine Ext.trans ?_ HX4.out | with_reducible refine Ext.trans ?_ HX5.out | with_reducible refine Ext.trans ?_ HX6.out | with_reducible refine Ext.trans ?_ HX7.out | with_reducible refine Ext.trans ?_ HX8.out | with_reducible refine Ext.trans ?_ HX9.out | with_reducible refine Ext.trans ?_ HX10.out | with_reducible refine Ext.trans ?_ HX11.out | with_reducible refine Ext.trans ?_ HX12.out | with_reducible refine Ext.trans ?_ HX13.out | with_reducible refine Ext.trans ?_ HX14.out | with_reducible refine Ext.trans ?_ HX15.out | with_reducible refine Ext.trans ?_ HX16.out | with_reducible refine Ext.trans ?_ HX17.out | with_reducible refine Ext.trans ?_ HX18.out | with_reducible refine Ext.trans ?_ HX19.out | with_reducible refine Ext.trans ?_ HX20.out | with_reducible refine Ext.trans ?_ HX21.out | with_reducible refine Ext.trans ?_ HX22.out | with_reducible refine Ext.trans ?_ HX23.out | with_reducible refine Ext.trans ?_ HX24.out)), El.nil _⟩
      | exact ⟨_, rfl, by (repeat' (first | with_reducible exact Ext.refl _ | with_reducible refine Ext.ext ?_ _ | with_reducible refine Ext.alloc ?_ _ | with_reducible refine Ext.drew ?_ | with_reducible refine Ext.drewN ?_ _ | with_reducible refine Ext.trans ?_ HX1.out | with_reducible refine Ext.trans ?_ HX2.out | with_reducible refine Ext.trans ?_ HX3.out | with_reducible refine Ext.trans ?_ HX4.out | with_reducible refine Ext.trans ?_ HX5.out | with_reducible refine Ext.trans ?_ HX6.out | with_reducible refine Ext.trans ?_ HX7.out | with_reducible refine Ext.trans ?_ HX8.out | with_reducible refine Ext.trans ?_ HX9.out | with_reducible refine Ext.trans ?_ HX10.out | with_reducible refine Ext.trans ?_ HX11.out | with_reducible refine Ext.trans ?_ HX12.out | with_reducible refine Ext.trans ?_ HX13.out | with_reducible refine Ext.trans ?_ HX14.out | with_reducible refine Ext.trans ?_ HX15.out | with_reducible refine Ext.trans ?_ HX16.out | with_reducible refine Ext.trans ?_ HX17.out | with_reducible refine Ext.trans ?_ HX18.out | with_reducible refine Ext.trans ?_ HX19.out | with_reducible refine Ext.trans ?_ HX20.out | with_reducible refine Ext.trans ?_ HX21.out | with_reducible refine Ext.trans ?_ HX22.out | with_reducible refine Ext.trans ?_ HX23.out | with_reducible refine Ext.trans ?_ HX24.out)), B3.out⟩
end Go.Proofs.Ytbglfaomebokhaa
