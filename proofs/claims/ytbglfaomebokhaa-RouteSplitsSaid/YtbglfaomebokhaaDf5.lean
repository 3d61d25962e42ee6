/- law 25: lists. -/
import Derived.Test.YtbglfaomebokhaaDf4
import Derived.Test.YtbglfaomebokhaaNew
namespace Go.Proofs.Ytbglfaomebokhaa
set_option linter.unusedSimpArgs false
set_option linter.unusedVariables false
open Go.RowKit

section
variable {ops : Array Oper} {o : Oper} {a : Act} {Q : Exit → Act → World → Prop}
/-- The append of one bag, in a region that draws its order. -/
theorem step_obs {K : Act → World → Prop} {E : Prop} (hgd : o.guard = none) (s x : Operand) (ho : o.op = .call { callee := .builtin .append, args := #[s, x], argTypes := #[24, 24] })
    (w0 w1 : World) (ls : List (List It)) (v : Value) (h : OBs w0 w0.heap.size ls v w1) (b c : Nat) (u : Value) (hs : a.eval s = v) (hx : a.eval x = .slice (some ⟨b, 0, none⟩) 1 c) (hb : b = w1.heap.size) (hl : ls.length ≤ 1073741823) (l : List It) (hel : El w1 l u)
    (k : ∀ v' w', OBs w0 w0.heap.size (ls ++ [l]) v' w' → (∀ l' u', El w1 l' u' → El w' l' u') → K (a.put o.dst v') w') :
    if Region.wanted o (yielded ops a.tmps) = true then Oper.wp Try.prog o a (w1.alloc (.cells #[u] 22)) K Q else E := by
  obtain ⟨⟨i, rfl⟩, a', c', vs, rfl, hown, he⟩ := h
  have hone : u.oneCell' = true := by
    obtain ⟨a1, c1, rfl, -⟩ := hel
    rfl
  refine step_pushF hgd s x 24 ho 22 (.slice none 0 0) 1 24 Try.underlying24 info_obs rfl (by decide) w0 i w0.heap.size _ ls.length vs hown b 1 c #[u] hs hx rfl (by simpa using hone) (by decide) hb (by unfold maxLen; omega) (by omega) (by simp) (Nat.le_refl _) ?_
  intro g cap y hown1 hgr hat
  have hlen := hown.1
  rw [Nat.mul_one] at hlen
  have keep : ∀ l' u', El (ext w0 i) l' u' → El (ext w0 y) l' u' := fun l' u' h => h.grown hown hgr
  refine k _ _ ⟨⟨y, rfl⟩, some ⟨g, 0, none⟩, cap, vs ++ [u], ?_, ?_, fun j l' u' hj hu => ?_⟩ keep
  · rw [List.length_append]; rfl
  · rw [List.length_append]
    exact hown1
  · by_cases hlt : j < ls.length
    · rw [List.getElem?_append_left hlt] at hj
      rw [List.getElem?_append_left (by omega)] at hu
      exact keep _ _ (he j l' u' hj hu)
    · rw [List.getElem?_append_right (by omega)] at hj
      rw [List.getElem?_append_right (by omega), hlen] at hu
      have : j - ls.length = 0 := by
        have := (List.getElem?_eq_some_iff.1 hj).1
        simp at this
        omega
      rw [this] at hj hu
      obtain rfl : l = l' := by simpa using hj
      obtain rfl : u = u' := by simpa using hu
      exact keep _ _ hel
end
/-- The value reads as these lists of records. -/
def Rrs (w : World) (ls : List (List (Int × Int))) (v : Value) : Prop := ∃ a c vs, v = .slice a ls.length c ∧ Rd w 1 ls.length (.slice a ls.length c) vs ∧ ∀ (i : Nat) l u, ls[i]? = some l → vs[i]? = some u → ∃ a' c', u = .slice a' l.length c' ∧ Rd w 2 l.length (.slice a' l.length c') (rcs l) ∧ l.length ≤ c'
theorem Rrs.at {w : World} {ls : List (List (Int × Int))} {a : Option Addr} {n c : Nat} (h : Rrs w ls (.slice a n c)) {j : Nat} {l : List (Int × Int)} (hj : ls[j]? = some l) :
    ∃ b off a' c', a = some ⟨b, off, none⟩ ∧ Rd w 2 l.length (.slice a' l.length c') (rcs l) ∧ l.length ≤ c' ∧ w.cell? ⟨b, off + j, none⟩ = some (.slice a' l.length c') := by
  obtain ⟨a0, c0, vs, he, hr, hel⟩ := h
  obtain ⟨rfl, rfl, rfl⟩ := Value.slice.inj he
  have hlt := (List.getElem?_eq_some_iff.1 hj).1
  have hlen := hr.len
  rw [Nat.mul_one] at hlen
  obtain ⟨b, off, rfl, hc⟩ := hr.cells (by omega)
  obtain ⟨u, hu⟩ : ∃ u, vs[j]? = some u := ⟨vs[j]'(by omega), List.getElem?_eq_getElem _⟩
  obtain ⟨a', c', rfl, h1, h2⟩ := hel j l u hj hu
  exact ⟨b, off, a', c', rfl, h1, h2, hc j _ hu⟩
def lsF (l : List (Int × Int)) : List It := ofF (l.take (min l.length 30))
theorem lsF_len (l : List (Int × Int)) : (lsF l).length ≤ 30 := by
  have := ofF_len (l.take (min l.length 30))
  rw [List.length_take] at this
  unfold lsF
  omega
def listsF (ls : List (List (Int × Int))) : List (List It) := (ls.take (min ls.length 30)).map lsF
set_option maxHeartbeats 4000000 in
theorem lists_any (ls : List (List (Int × Int))) (a : Option Addr) (c : Nat) (w : World) (h : Rrs w ls (.slice a ls.length c)) :
    Calls Try.prog 18 #[.slice a ls.length c] w fun e w' => ∃ v', e = .returned v' ∧ OBs w w.heap.size (listsF ls) v' w' := by
  have H := Lib.hid h
  clear h
  go_enter Try.func18, Try.ntmps18
  go_wp2
  go_loopw [3, 4] (fun v i wr => ∃ j : Nat, j ≤ ls.length ∧ j ≤ 30 ∧ i = .int .i64 j ∧ OBs w w.heap.size ((ls.take j).map lsF) v wr) (fun _ i _ => 30 - (intOf i).toNat)
  case atStart => exact ⟨0, by omega, by omega, rfl, OBs.nil _ _⟩
  case round =>
    obtain ⟨j, hj, hj', rfl, ho⟩ := hrel
    rename_i w1 _
    have OB := Lib.hid ho
    have HX1 := Lib.hid ho.1
    clear ho
    by_cases hlt : j < ls.length ∧ j < 30
    · obtain ⟨h1, h2⟩ := hlt
      obtain ⟨x, hx⟩ : ∃ x, ls[j]? = some x := ⟨ls[j], List.getElem?_eq_getElem _⟩
      obtain ⟨b, off, ua, uc, rfl, hru, hcap, hcell⟩ := H.out.at hx
      have RU := Lib.hid (Rr.cut hru (m := min x.length 30) (Nat.min_le_left _ _))
      have C0 := Lib.hid hcell
      have hm := fun ats ty w => run_min (P := Try.prog) x.length 30 30 rfl ats ty w
      have i1 : (0 : Int) ≤ j := by omega
      have i2 : (j : Int) < ls.length := by omega
      have i3 : (j : Int) < 30 := by omega
      have ew : wrap64 ((j : Int) + 1) = ((j + 1 : Nat) : Int) := (IntWalk.wrap64_in _ ⟨by omega, by omega⟩).trans (by omega)
      have ml : min x.length 30 ≤ 30 := Nat.min_le_right _ _
      have ml2 : min x.length 30 ≤ x.length := Nat.min_le_left _ _
      have LN := Lib.hid (show (x.take (min x.length 30)).length ≤ 1073741823 by rw [List.length_take]; omega)
      have LC := Lib.hid (show ((ls.take j).map lsF).length ≤ 1073741823 by rw [List.length_map, List.length_take]; omega)
      have C1 := Lib.hid (show (ls.take (j + 1)).map lsF = (ls.take j).map lsF ++ [ofF (x.take (min x.length 30))] by rw [take_snoc hx, List.map_append]; rfl)
      generalize x.take (min x.length 30) = x' at *
      generalize min x.length 30 = mm at *
      have m0 : (0 : Int) ≤ mm := by omega
      have m1 : (mm : Int) ≤ uc := by omega
      clear hx hru hcell ml ml2
      go_wp2
      go_region_held3 (fun w' => w'.cell? ⟨b, off + j, none⟩ = some (.slice ua x.length uc) ∧ Ext w w')  (first | exact ⟨(keep_cell C0.out OB4.out.1).2, OB4.out.1⟩ | exact ⟨(keep_cell C0.out (by (repeat' (first | with_reducible exact Ext.refl _ | with_reducible refine Ext.ext ?_ _ | with_reducible refine Ext.alloc ?_ _ | with_reducible refine Ext.drew ?_ | with_reducible refine Ext.drewN ?_ _ | with_reducible refine Ext.trans ?_ HX1.out | with_reducible refine Ext.trans ?_ HX2.out | with_reducible refine Ext.trans ?_ HX3.out | with_reducible refine Ext.trans ?_ HX4.out | with_reducible refine Ext.trans ?_ HX5.out | with_reducible refine Ext.trans ?_ HX6.out | with_reducible refine Ext.trans ?_ HX7.out | with_reducible refine Ext.trans ?_ HX8.out | with_reducible refine Ext.trans ?_ HX9.out | with_reducible refine Ext.trans ?_ HX10.out | with_reducible refine Ext.trans ?_ HX11.out | with_reducible refine Ext.trans ?_ HX12.out | with_reducible refine Ext.trans ?_ HX13.out | with_reducible refine Ext.trans ?_ HX14.out | with_reducible refine Ext.trans ?_ HX15.out | with_reducible refine Ext.trans ?_ HX16.out | with_reducible refine Ext.trans ?_ HX17.out | with_reducible refine Ext.trans ?_ HX18.out | with_reducible refine Ext.trans ?_ HX19.out | with_reducible refine Ext.trans ?_ HX20.out | with_reducible refine Ext.trans ?_ HX21.out | with_reducible refine Ext.trans ?_ HX22.out | with_reducible refine Ext.trans ?_ HX23.out | with_reducible refine Ext.trans ?_ HX24.out)))).2, by (repeat' (first | with_reducible exact Ext.refl _ | with_reducible refine Ext.ext ?_ _ | with_reducible refine Ext.alloc ?_ _ | with_reducible refine Ext.drew ?_ | with_reducible refine Ext.drewN ?_ _ | with_reducible refine Ext.trans ?_ HX1.out | with_reducible refine Ext.trans ?_ HX2.out | with_reducible refine Ext.trans ?_ HX3.out | with_reducible refine Ext.trans ?_ HX4.out | with_reducible refine Ext.trans ?_ HX5.out | with_reducible refine Ext.trans ?_ HX6.out | with_reducible refine Ext.trans ?_ HX7.out | with_reducible refine Ext.trans ?_ HX8.out | with_reducible refine Ext.trans ?_ HX9.out | with_reducible refine Ext.trans ?_ HX10.out | with_reducible refine Ext.trans ?_ HX11.out | with_reducible refine Ext.trans ?_ HX12.out | with_reducible refine Ext.trans ?_ HX13.out | with_reducible refine Ext.trans ?_ HX14.out | with_reducible refine Ext.trans ?_ HX15.out | with_reducible refine Ext.trans ?_ HX16.out | with_reducible refine Ext.trans ?_ HX17.out | with_reducible refine Ext.trans ?_ HX18.out | with_reducible refine Ext.trans ?_ HX19.out | with_reducible refine Ext.trans ?_ HX20.out | with_reducible refine Ext.trans ?_ HX21.out | with_reducible refine Ext.trans ?_ HX22.out | with_reducible refine Ext.trans ?_ HX23.out | with_reducible refine Ext.trans ?_ HX24.out))⟩)  (first | (go_at_call 24; (with_reducible refine (of_el (RU.out.on (by (repeat' (first | with_reducible exact Ext.refl _ | with_reducible refine Ext.ext ?_ _ | with_reducible refine Ext.alloc ?_ _ | with_reducible refine Ext.drew ?_ | with_reducible refine Ext.drewN ?_ _ | with_reducible refine Ext.trans ?_ HX1.out | with_reducible refine Ext.trans ?_ HX2.out | with_reducible refine Ext.trans ?_ HX3.out | with_reducible refine Ext.trans ?_ HX4.out | with_reducible refine Ext.trans ?_ HX5.out | with_reducible refine Ext.trans ?_ HX6.out | with_reducible refine Ext.trans ?_ HX7.out | with_reducible refine Ext.trans ?_ HX8.out | with_reducible refine Ext.trans ?_ HX9.out | with_reducible refine Ext.trans ?_ HX10.out | with_reducible refine Ext.trans ?_ HX11.out | with_reducible refine Ext.trans ?_ HX12.out | with_reducible refine Ext.trans ?_ HX13.out | with_reducible refine Ext.trans ?_ HX14.out | with_reducible refine Ext.trans ?_ HX15.out | with_reducible refine Ext.trans ?_ HX16.out | with_reducible refine Ext.trans ?_ HX17.out | with_reducible refine Ext.trans ?_ HX18.out | with_reducible refine Ext.trans ?_ HX19.out | with_reducible refine Ext.trans ?_ HX20.out | with_reducible refine Ext.trans ?_ HX21.out | with_reducible refine Ext.trans ?_ HX22.out | with_reducible refine Ext.trans ?_ HX23.out | with_reducible refine Ext.trans ?_ HX24.out)))) LN.out _ rfl).mono ?_); rintro e w2 ⟨v2, rfl, hx, hb⟩; have hb' := hb; obtain ⟨a2, c2, rfl, -⟩ := hb'; have HX2 := Lib.hid hx; have E2 := Lib.hid hb; clear hx hb)  | (refine step_obs (by rfl) _ _ (by rfl) w _ _ _ (by exact OB.out.on (by (repeat' (first | with_reducible exact Ext.refl _ | with_reducible refine Ext.ext ?_ _ | with_reducible refine Ext.alloc ?_ _ | with_reducible refine Ext.drew ?_ | with_reducible refine Ext.drewN ?_ _ | with_reducible refine Ext.trans ?_ HX1.out | with_reducible refine Ext.trans ?_ HX2.out | with_reducible refine Ext.trans ?_ HX3.out | with_reducible refine Ext.trans ?_ HX4.out | with_reducible refine Ext.trans ?_ HX5.out | with_reducible refine Ext.trans ?_ HX6.out | with_reducible refine Ext.trans ?_ HX7.out | with_reducible refine Ext.trans ?_ HX8.out | with_reducible refine Ext.trans ?_ HX9.out | with_reducible refine Ext.trans ?_ HX10.out | with_reducible refine Ext.trans ?_ HX11.out | with_reducible refine Ext.trans ?_ HX12.out | with_reducible refine Ext.trans ?_ HX13.out | with_reducible refine Ext.trans ?_ HX14.out | with_reducible refine Ext.trans ?_ HX15.out | with_reducible refine Ext.trans ?_ HX16.out | with_reducible refine Ext.trans ?_ HX17.out | with_reducible refine Ext.trans ?_ HX18.out | with_reducible refine Ext.trans ?_ HX19.out | with_reducible refine Ext.trans ?_ HX20.out | with_reducible refine Ext.trans ?_ HX21.out | with_reducible refine Ext.trans ?_ HX22.out | with_reducible refine Ext.trans ?_ HX23.out | with_reducible refine Ext.trans ?_ HX24.out)))) _ _ _ (by rfl) (by rfl) (by first | rfl | (simp; done)) LC.out _ E2.out ?_; intro v4 w4 hb4 hk; rw [← C1.out] at hb4; have OB4 := Lib.hid hb4; clear hb4 hk))
      all_goals
        go_wp2
        exact ⟨⟨j + 1, by omega, by omega, rfl, OB4.out⟩, by simp only [intOf]; omega⟩
    · have hc : min ls.length 30 = j := by simp only [Nat.min_def]; split <;> omega
      have R := Lib.hid (show (ls.take j).map lsF = listsF ls by unfold listsF; rw [hc])
      by_cases h1 : j < ls.length
      · have i3 : ¬ ((j : Int) < 30) := by omega
        have i2 : (j : Int) < ls.length := by omega
        go_wp2
        go_returns
        exact ⟨_, rfl, by rw [← R.out]; exact OB.out.on (by (repeat' (first | with_reducible exact Ext.refl _ | with_reducible refine Ext.ext ?_ _ | with_reducible refine Ext.alloc ?_ _ | with_reducible refine Ext.drew ?_ | with_reducible refine Ext.drewN ?_ _ | with_reducible assumption)))⟩
      · have i2 : ¬ ((j : Int) < ls.length) := by omega
        go_wp2
        go_returns
        exact ⟨_, rfl, by rw [← R.out]; exact OB.out.on (by (repeat' (first | with_reducible exact Ext.refl _ | with_reducible refine Ext.ext ?_ _ | with_reducible refine Ext.alloc ?_ _ | with_reducible refine Ext.drew ?_ | with_reducible refine Ext.drewN ?_ _ | with_reducible assumption)))⟩
end Go.Proofs.Ytbglfaomebokhaa
