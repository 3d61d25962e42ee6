/- diff: Changes, Sums. -/
import Derived.Test.YtbglfaomebokhaaDf1
namespace Go.Proofs.Ytbglfaomebokhaa
set_option linter.unusedSimpArgs false
set_option linter.unusedVariables false
open Go.RowKit

def chF (was : List It) : List (List It) → List (List It)
  | [] => []
  | b :: bs => joinS (rgt b) was (-1) :: chF (rgt b) bs
def lastF (was : List It) (ls : List (List It)) : List It := ls.foldl (fun _ b => rgt b) was
theorem chF_app (l m : List (List It)) : ∀ was, chF was (l ++ m) = chF was l ++ chF (lastF was l) m := by
  induction l with
  | nil => intro was; rfl
  | cons b l ih => intro was; show joinS (rgt b) was (-1) :: chF (rgt b) (l ++ m) = _; rw [ih]; rfl
theorem chF_snoc (was : List It) {ls : List (List It)} {j : Nat} {b : List It} (h : ls[j]? = some b) : chF was (ls.take (j + 1)) = chF was (ls.take j) ++ [joinS (rgt b) (lastF was (ls.take j)) (-1)] := by rw [take_snoc h, chF_app]; rfl
theorem lastF_snoc (was : List It) {ls : List (List It)} {j : Nat} {b : List It} (h : ls[j]? = some b) : lastF was (ls.take (j + 1)) = rgt b := by rw [take_snoc h]; unfold lastF; rw [List.foldl_append]; rfl
theorem chF_length (ls : List (List It)) : ∀ was, (chF was ls).length = ls.length := by
  induction ls with
  | nil => intro was; rfl
  | cons b l ih => intro was; show (chF (rgt b) l).length + 1 = _; rw [ih]; rfl
theorem lastF_len {N : Nat} (ls : List (List It)) : ∀ was : List It, was.length ≤ N → (∀ b ∈ ls, b.length ≤ N) → (lastF was ls).length ≤ N := by
  induction ls with
  | nil => intro was h _; exact h
  | cons b l ih => intro was h hb; exact ih (rgt b) (Nat.le_trans (rgt_len b) (hb b List.mem_cons_self)) (fun x hx => hb x (List.mem_cons_of_mem _ hx))
set_option maxHeartbeats 4000000 in
theorem changes_any (ls : List (List It)) (v : Value) (w : World) (h : Rbs w ls v) (hl : ls.length ≤ 1000) (hb : ∀ b ∈ ls, b.length ≤ 1000000) :
    Calls Try.prog 21 #[v] w fun e w' => ∃ v', e = .returned v' ∧ OBs w w.heap.size (chF [] ls) v' w' := by
  obtain ⟨a, c, rfl⟩ := h.form
  have H := Lib.hid h
  have HL := Lib.hid hl
  have HB := Lib.hid hb
  clear h hl hb
  go_enter Try.func21, Try.ntmps21
  go_wp2
  go_loopw [3, 4, 10] (fun v u i wr => ∃ j : Nat, j ≤ ls.length ∧ i = .int .i64 j ∧ OBs w w.heap.size (chF [] (ls.take j)) v wr ∧ El wr (lastF [] (ls.take j)) u) (fun _ _ i _ => ls.length - (intOf i).toNat)
  case atStart => exact ⟨0, by omega, rfl, OBs.nil _ _, El.nil _⟩
  case round =>
    obtain ⟨j, hj, rfl, ho, hu⟩ := hrel
    rename_i w1 _
    have OB := Lib.hid ho
    have EU := Lib.hid hu
    have HX0 := Lib.hid ho.1
    clear ho hu
    by_cases hlt : j < ls.length
    · obtain ⟨x, hx⟩ : ∃ x, ls[j]? = some x := ⟨ls[j], List.getElem?_eq_getElem _⟩
      obtain ⟨b, off, u, rfl, hru, hcell, -, -, -⟩ := (H.out.on HX0.out).at hx
      have RU := Lib.hid hru
      have i1 : (0 : Int) ≤ j := by omega
      have i2 : (j : Int) < ls.length := by omega
      have ew : wrap64 ((j : Int) + 1) = ((j + 1 : Nat) : Int) := (IntWalk.wrap64_in _ ⟨by omega, by have := HL.out; omega⟩).trans (by omega)
      have l1 := HB.out x (List.mem_of_getElem? hx)
      have l2 := lastF_len (N := 1000000) (ls.take j) [] (Nat.zero_le _) (fun b hb => HB.out b (List.mem_of_mem_take hb))
      have l3 := rgt_len x
      have LN := Lib.hid (show x.length ≤ 1073741823 ∧ (rgt x).length + (lastF [] (ls.take j)).length ≤ 1073741823 by omega)
      have l4 := chF_length (ls.take j) []
      have LC := Lib.hid (show (chF [] (ls.take j)).length ≤ 1073741823 by rw [l4, List.length_take]; have := HL.out; omega)
      have C1 := Lib.hid (chF_snoc [] hx)
      have C2 := Lib.hid (lastF_snoc [] hx)
      clear hx hru l1 l2 l3 l4
      go_wp2_with (first  | (go_at_call 45; (with_reducible refine (right_el (RU.out.on (by (repeat' (first | with_reducible exact Ext.refl _ | with_reducible refine Ext.ext ?_ _ | with_reducible refine Ext.alloc ?_ _ | with_reducible refine Ext.drew ?_ | with_reducible refine Ext.drewN ?_ _ | with_reducible assumption)))) LN.out.1 _ rfl).mono ?_); rintro e w2 ⟨v2, rfl, hx, hb⟩; have HX2 := Lib.hid hx; have E2 := Lib.hid hb; clear hx hb)  | (go_at_call 33; (with_reducible refine (minus_el E2.out.rb (EU.out.on (by (repeat' (first | with_reducible exact Ext.refl _ | with_reducible refine Ext.ext ?_ _ | with_reducible refine Ext.alloc ?_ _ | with_reducible refine Ext.drew ?_ | with_reducible refine Ext.drewN ?_ _ | with_reducible refine Ext.trans ?_ HX1.out | with_reducible refine Ext.trans ?_ HX2.out | with_reducible refine Ext.trans ?_ HX3.out | with_reducible refine Ext.trans ?_ HX4.out | with_reducible refine Ext.trans ?_ HX5.out | with_reducible refine Ext.trans ?_ HX6.out | with_reducible refine Ext.trans ?_ HX7.out | with_reducible refine Ext.trans ?_ HX8.out | with_reducible refine Ext.trans ?_ HX9.out | with_reducible refine Ext.trans ?_ HX10.out | with_reducible refine Ext.trans ?_ HX11.out | with_reducible refine Ext.trans ?_ HX12.out | with_reducible refine Ext.trans ?_ HX13.out | with_reducible refine Ext.trans ?_ HX14.out | with_reducible refine Ext.trans ?_ HX15.out | with_reducible refine Ext.trans ?_ HX16.out | with_reducible refine Ext.trans ?_ HX17.out | with_reducible refine Ext.trans ?_ HX18.out | with_reducible refine Ext.trans ?_ HX19.out | with_reducible refine Ext.trans ?_ HX20.out | with_reducible refine Ext.trans ?_ HX21.out | with_reducible refine Ext.trans ?_ HX22.out | with_reducible refine Ext.trans ?_ HX23.out | with_reducible refine Ext.trans ?_ HX24.out)))).rb LN.out.2 _ rfl).mono ?_); rintro e w3 ⟨v3, rfl, hx, hb⟩; have hb' := hb; obtain ⟨a3, c3, rfl, -⟩ := hb'; have HX3 := Lib.hid hx; have E3 := Lib.hid hb; clear hx hb)  | (at_builtin; refine push_obs rfl _ _ rfl w _ _ _ (by exact OB.out.on (by (repeat' (first | with_reducible exact Ext.refl _ | with_reducible refine Ext.ext ?_ _ | with_reducible refine Ext.alloc ?_ _ | with_reducible refine Ext.drew ?_ | with_reducible refine Ext.drewN ?_ _ | with_reducible refine Ext.trans ?_ HX1.out | with_reducible refine Ext.trans ?_ HX2.out | with_reducible refine Ext.trans ?_ HX3.out | with_reducible refine Ext.trans ?_ HX4.out | with_reducible refine Ext.trans ?_ HX5.out | with_reducible refine Ext.trans ?_ HX6.out | with_reducible refine Ext.trans ?_ HX7.out | with_reducible refine Ext.trans ?_ HX8.out | with_reducible refine Ext.trans ?_ HX9.out | with_reducible refine Ext.trans ?_ HX10.out | with_reducible refine Ext.trans ?_ HX11.out | with_reducible refine Ext.trans ?_ HX12.out | with_reducible refine Ext.trans ?_ HX13.out | with_reducible refine Ext.trans ?_ HX14.out | with_reducible refine Ext.trans ?_ HX15.out | with_reducible refine Ext.trans ?_ HX16.out | with_reducible refine Ext.trans ?_ HX17.out | with_reducible refine Ext.trans ?_ HX18.out | with_reducible refine Ext.trans ?_ HX19.out | with_reducible refine Ext.trans ?_ HX20.out | with_reducible refine Ext.trans ?_ HX21.out | with_reducible refine Ext.trans ?_ HX22.out | with_reducible refine Ext.trans ?_ HX23.out | with_reducible refine Ext.trans ?_ HX24.out)))) _ _ _ rfl rfl (by first | rfl | (simp; done)) LC.out _ E3.out ?_; intro v4 w4 hb4 hk; rw [← C1.out] at hb4; have E4 := Lib.hid (hk _ _ (E2.out.on (by (repeat' (first | with_reducible exact Ext.refl _ | with_reducible refine Ext.ext ?_ _ | with_reducible refine Ext.alloc ?_ _ | with_reducible refine Ext.drew ?_ | with_reducible refine Ext.drewN ?_ _ | with_reducible refine Ext.trans ?_ HX1.out | with_reducible refine Ext.trans ?_ HX2.out | with_reducible refine Ext.trans ?_ HX3.out | with_reducible refine Ext.trans ?_ HX4.out | with_reducible refine Ext.trans ?_ HX5.out | with_reducible refine Ext.trans ?_ HX6.out | with_reducible refine Ext.trans ?_ HX7.out | with_reducible refine Ext.trans ?_ HX8.out | with_reducible refine Ext.trans ?_ HX9.out | with_reducible refine Ext.trans ?_ HX10.out | with_reducible refine Ext.trans ?_ HX11.out | with_reducible refine Ext.trans ?_ HX12.out | with_reducible refine Ext.trans ?_ HX13.out | with_reducible refine Ext.trans ?_ HX14.out | with_reducible refine Ext.trans ?_ HX15.out | with_reducible refine Ext.trans ?_ HX16.out | with_reducible refine Ext.trans ?_ HX17.out | with_reducible refine Ext.trans ?_ HX18.out | with_reducible refine Ext.trans ?_ HX19.out | with_reducible refine Ext.trans ?_ HX20.out | with_reducible refine Ext.trans ?_ HX21.out | with_reducible refine Ext.trans ?_ HX22.out | with_reducible refine Ext.trans ?_ HX23.out | with_reducible refine Ext.trans ?_ HX24.out))))); rw [← C2.out] at E4; have OB4 := Lib.hid hb4; clear hb4 hk))
      exact ⟨⟨j + 1, by omega, congrArg (Value.int .i64) ew, OB4.out, E4.out⟩, by rw [ew]; simp only [intOf]; omega⟩
    · obtain rfl : j = ls.length := by omega
      rw [List.take_length] at OB
      go_wp2
      go_returns
      exact ⟨_, rfl, OB.out.on (by (repeat' (first | with_reducible exact Ext.refl _ | with_reducible refine Ext.ext ?_ _ | with_reducible refine Ext.alloc ?_ _ | with_reducible refine Ext.drew ?_ | with_reducible refine Ext.drewN ?_ _ | with_reducible refine Ext.trans ?_ HX1.out | with_reducible refine Ext.trans ?_ HX2.out | with_reducible refine Ext.trans ?_ HX3.out | with_reducible refine Ext.trans ?_ HX4.out | with_reducible refine Ext.trans ?_ HX5.out | with_reducible refine Ext.trans ?_ HX6.out | with_reducible refine Ext.trans ?_ HX7.out | with_reducible refine Ext.trans ?_ HX8.out | with_reducible refine Ext.trans ?_ HX9.out | with_reducible refine Ext.trans ?_ HX10.out | with_reducible refine Ext.trans ?_ HX11.out | with_reducible refine Ext.trans ?_ HX12.out | with_reducible refine Ext.trans ?_ HX13.out | with_reducible refine Ext.trans ?_ HX14.out | with_reducible refine Ext.trans ?_ HX15.out | with_reducible refine Ext.trans ?_ HX16.out | with_reducible refine Ext.trans ?_ HX17.out | with_reducible refine Ext.trans ?_ HX18.out | with_reducible refine Ext.trans ?_ HX19.out | with_reducible refine Ext.trans ?_ HX20.out | with_reducible refine Ext.trans ?_ HX21.out | with_reducible refine Ext.trans ?_ HX22.out | with_reducible refine Ext.trans ?_ HX23.out | with_reducible refine Ext.trans ?_ HX24.out)))⟩
def smF (acc : List It) : List (List It) → List (List It)
  | [] => []
  | b :: bs => joinS acc (rgt b) 1 :: smF (joinS acc (rgt b) 1) bs
def accF (acc : List It) (ls : List (List It)) : List It := ls.foldl (fun s b => joinS s (rgt b) 1) acc
theorem smF_app (l m : List (List It)) : ∀ acc, smF acc (l ++ m) = smF acc l ++ smF (accF acc l) m := by
  induction l with
  | nil => intro acc; rfl
  | cons b l ih => intro acc; show joinS acc (rgt b) 1 :: smF (joinS acc (rgt b) 1) (l ++ m) = _; rw [ih]; rfl
theorem accF_snoc (acc : List It) {ls : List (List It)} {j : Nat} {b : List It} (h : ls[j]? = some b) : accF acc (ls.take (j + 1)) = joinS (accF acc (ls.take j)) (rgt b) 1 := by rw [take_snoc h]; unfold accF; rw [List.foldl_append]; rfl
theorem smF_snoc (acc : List It) {ls : List (List It)} {j : Nat} {b : List It} (h : ls[j]? = some b) : smF acc (ls.take (j + 1)) = smF acc (ls.take j) ++ [accF acc (ls.take (j + 1))] := by rw [accF_snoc acc h, take_snoc h, smF_app]; rfl
theorem smF_length (ls : List (List It)) : ∀ acc, (smF acc ls).length = ls.length := by
  induction ls with
  | nil => intro acc; rfl
  | cons b l ih => intro acc; show (smF _ l).length + 1 = _; rw [ih]; rfl
theorem joinS_lenA (a b : List It) (t : Int) : (joinS a b t).length ≤ a.length + b.length := by
  cases h : rightB a
  · unfold joinS
    rw [h]
    simp
  · exact joinS_len h t
theorem accF_len {N : Nat} (ls : List (List It)) : ∀ acc : List It, (∀ b ∈ ls, b.length ≤ N) → (accF acc ls).length ≤ acc.length + ls.length * N := by
  induction ls with
  | nil => intro acc _; simp [accF]
  | cons b l ih =>
    intro acc hb
    have h1 := ih (joinS acc (rgt b) 1) (fun x hx => hb x (List.mem_cons_of_mem _ hx))
    have h2 := joinS_lenA acc (rgt b) 1
    have h3 := rgt_len b
    have h4 := hb b List.mem_cons_self
    show (accF (joinS acc (rgt b) 1) l).length ≤ _
    rw [List.length_cons, Nat.succ_mul]
    omega
set_option maxHeartbeats 4000000 in
theorem sums_any (ls : List (List It)) (v : Value) (w : World) (h : Rbs w ls v) (hl : ls.length ≤ 1000) (hb : ∀ b ∈ ls, b.length ≤ 100000) :
    Calls Try.prog 20 #[v] w fun e w' => ∃ v', e = .returned v' ∧ OBs w w.heap.size (smF [] ls) v' w' := by
  obtain ⟨a, c, rfl⟩ := h.form
  have H := Lib.hid h
  have HL := Lib.hid hl
  have HB := Lib.hid hb
  clear h hl hb
  go_enter Try.func20, Try.ntmps20
  go_wp2
  go_loopw [3, 4, 9] (fun v u i wr => ∃ j : Nat, j ≤ ls.length ∧ i = .int .i64 j ∧ OBs w w.heap.size (smF [] (ls.take j)) v wr ∧ El wr (accF [] (ls.take j)) u) (fun _ _ i _ => ls.length - (intOf i).toNat)
  case atStart => exact ⟨0, by omega, rfl, OBs.nil _ _, El.nil _⟩
  case round =>
    obtain ⟨j, hj, rfl, ho, hu⟩ := hrel
    rename_i w1 _
    have OB := Lib.hid ho
    have EU := Lib.hid hu
    have HX0 := Lib.hid ho.1
    clear ho hu
    by_cases hlt : j < ls.length
    · obtain ⟨x, hx⟩ : ∃ x, ls[j]? = some x := ⟨ls[j], List.getElem?_eq_getElem _⟩
      obtain ⟨b, off, u, rfl, hru, hcell, -, -, -⟩ := (H.out.on HX0.out).at hx
      have RU := Lib.hid hru
      have i1 : (0 : Int) ≤ j := by omega
      have i2 : (j : Int) < ls.length := by omega
      have ew : wrap64 ((j : Int) + 1) = ((j + 1 : Nat) : Int) := (IntWalk.wrap64_in _ ⟨by omega, by have := HL.out; omega⟩).trans (by omega)
      have l1 := HB.out x (List.mem_of_getElem? hx)
      have l2 := accF_len (N := 100000) (ls.take j) [] (fun b hb => HB.out b (List.mem_of_mem_take hb))
      rw [List.length_take, List.length_nil, Nat.min_eq_left hj] at l2
      have l3 := rgt_len x
      have l5 := joinS_lenA (accF [] (ls.take j)) (rgt x) 1
      rw [← accF_snoc [] hx] at l5
      have LN := Lib.hid (show x.length ≤ 1073741823 ∧ (accF [] (ls.take j)).length + (rgt x).length ≤ 1073741823 ∧ (accF [] (ls.take (j + 1))).length ≤ 1073741823 by have := HL.out; omega)
      have l4 := smF_length (ls.take j) []
      have LC := Lib.hid (show (smF [] (ls.take j)).length ≤ 1073741823 by rw [l4, List.length_take]; have := HL.out; omega)
      have C1 := Lib.hid (smF_snoc [] hx)
      have C2 := Lib.hid (accF_snoc [] hx)
      clear hx hru l1 l2 l3 l4 l5
      go_wp2_with (first  | (go_at_call 45; (with_reducible refine (right_el (RU.out.on (by (repeat' (first | with_reducible exact Ext.refl _ | with_reducible refine Ext.ext ?_ _ | with_reducible refine Ext.alloc ?_ _ | with_reducible refine Ext.drew ?_ | with_reducible refine Ext.drewN ?_ _ | with_reducible assumption)))) LN.out.1 _ rfl).mono ?_); rintro e w2 ⟨v2, rfl, hx, hb⟩; have HX2 := Lib.hid hx; have E2 := Lib.hid hb; clear hx hb)  | (go_at_call 15; (with_reducible refine (plus_el (EU.out.on (by (repeat' (first | with_reducible exact Ext.refl _ | with_reducible refine Ext.ext ?_ _ | with_reducible refine Ext.alloc ?_ _ | with_reducible refine Ext.drew ?_ | with_reducible refine Ext.drewN ?_ _ | with_reducible refine Ext.trans ?_ HX1.out | with_reducible refine Ext.trans ?_ HX2.out | with_reducible refine Ext.trans ?_ HX3.out | with_reducible refine Ext.trans ?_ HX4.out | with_reducible refine Ext.trans ?_ HX5.out | with_reducible refine Ext.trans ?_ HX6.out | with_reducible refine Ext.trans ?_ HX7.out | with_reducible refine Ext.trans ?_ HX8.out | with_reducible refine Ext.trans ?_ HX9.out | with_reducible refine Ext.trans ?_ HX10.out | with_reducible refine Ext.trans ?_ HX11.out | with_reducible refine Ext.trans ?_ HX12.out | with_reducible refine Ext.trans ?_ HX13.out | with_reducible refine Ext.trans ?_ HX14.out | with_reducible refine Ext.trans ?_ HX15.out | with_reducible refine Ext.trans ?_ HX16.out | with_reducible refine Ext.trans ?_ HX17.out | with_reducible refine Ext.trans ?_ HX18.out | with_reducible refine Ext.trans ?_ HX19.out | with_reducible refine Ext.trans ?_ HX20.out | with_reducible refine Ext.trans ?_ HX21.out | with_reducible refine Ext.trans ?_ HX22.out | with_reducible refine Ext.trans ?_ HX23.out | with_reducible refine Ext.trans ?_ HX24.out)))).rb E2.out.rb LN.out.2.1 _ C2.out.symm).mono ?_); rintro e w3 ⟨v3, rfl, hx, hb⟩; have HX3 := Lib.hid hx; have E3 := Lib.hid hb; clear hx hb)  | (go_at_call 46; (with_reducible refine (clone_el E3.out.rb LN.out.2.2).mono ?_); rintro e w5 ⟨v5, rfl, hx, hb⟩; have hb' := hb; obtain ⟨a5, c5, rfl, -⟩ := hb'; have HX5 := Lib.hid hx; have E5 := Lib.hid hb; clear hx hb)  | (at_builtin; refine push_obs rfl _ _ rfl w _ _ _ (by exact OB.out.on (by (repeat' (first | with_reducible exact Ext.refl _ | with_reducible refine Ext.ext ?_ _ | with_reducible refine Ext.alloc ?_ _ | with_reducible refine Ext.drew ?_ | with_reducible refine Ext.drewN ?_ _ | with_reducible refine Ext.trans ?_ HX1.out | with_reducible refine Ext.trans ?_ HX2.out | with_reducible refine Ext.trans ?_ HX3.out | with_reducible refine Ext.trans ?_ HX4.out | with_reducible refine Ext.trans ?_ HX5.out | with_reducible refine Ext.trans ?_ HX6.out | with_reducible refine Ext.trans ?_ HX7.out | with_reducible refine Ext.trans ?_ HX8.out | with_reducible refine Ext.trans ?_ HX9.out | with_reducible refine Ext.trans ?_ HX10.out | with_reducible refine Ext.trans ?_ HX11.out | with_reducible refine Ext.trans ?_ HX12.out | with_reducible refine Ext.trans ?_ HX13.out | with_reducible refine Ext.trans ?_ HX14.out | with_reducible refine Ext.trans ?_ HX15.out | with_reducible refine Ext.trans ?_ HX16.out | with_reducible refine Ext.trans ?_ HX17.out | with_reducible refine Ext.trans ?_ HX18.out | with_reducible refine Ext.trans ?_ HX19.out | with_reducible refine Ext.trans ?_ HX20.out | with_reducible refine Ext.trans ?_ HX21.out | with_reducible refine Ext.trans ?_ HX22.out | with_reducible refine Ext.trans ?_ HX23.out | with_reducible refine Ext.trans ?_ HX24.out)))) _ _ _ rfl rfl (by first | rfl | (simp; done)) LC.out _ E5.out ?_; intro v4 w4 hb4 hk; rw [← C1.out] at hb4; have E4 := Lib.hid (hk _ _ (E3.out.on (by (repeat' (first | with_reducible exact Ext.refl _ | with_reducible refine Ext.ext ?_ _ | with_reducible refine Ext.alloc ?_ _ | with_reducible refine Ext.drew ?_ | with_reducible refine Ext.drewN ?_ _ | with_reducible refine Ext.trans ?_ HX1.out | with_reducible refine Ext.trans ?_ HX2.out | with_reducible refine Ext.trans ?_ HX3.out | with_reducible refine Ext.trans ?_ HX4.out | with_reducible refine Ext.trans ?_ HX5.out | with_reducible refine Ext.trans ?_ HX6.out | with_reducible refine Ext.trans ?_ HX7.out | with_reducible refine Ext.trans ?_ HX8.out | with_reducible refine Ext.trans ?_ HX9.out | with_reducible refine Ext.trans ?_ HX10.out | with_reducible refine Ext.trans ?_ HX11.out | with_reducible refine Ext.trans ?_ HX12.out | with_reducible refine Ext.trans ?_ HX13.out | with_reducible refine Ext.trans ?_ HX14.out | with_reducible refine Ext.trans ?_ HX15.out | with_reducible refine Ext.trans ?_ HX16.out | with_reducible refine Ext.trans ?_ HX17.out | with_reducible refine Ext.trans ?_ HX18.out | with_reducible refine Ext.trans ?_ HX19.out | with_reducible refine Ext.trans ?_ HX20.out | with_reducible refine Ext.trans ?_ HX21.out | with_reducible refine Ext.trans ?_ HX22.out | with_reducible refine Ext.trans ?_ HX23.out | with_reducible refine Ext.trans ?_ HX24.out))))); have OB4 := Lib.hid hb4; clear hb4 hk))
      exact ⟨⟨j + 1, by omega, congrArg (Value.int .i64) ew, OB4.out, E4.out⟩, by rw [ew]; simp only [intOf]; omega⟩
    · obtain rfl : j = ls.length := by omega
      rw [List.take_length] at OB
      go_wp2
      go_returns
      exact ⟨_, rfl, OB.out.on (by (repeat' (first | with_reducible exact Ext.refl _ | with_reducible refine Ext.ext ?_ _ | with_reducible refine Ext.alloc ?_ _ | with_reducible refine Ext.drew ?_ | with_reducible refine Ext.drewN ?_ _ | with_reducible refine Ext.trans ?_ HX1.out | with_reducible refine Ext.trans ?_ HX2.out | with_reducible refine Ext.trans ?_ HX3.out | with_reducible refine Ext.trans ?_ HX4.out | with_reducible refine Ext.trans ?_ HX5.out | with_reducible refine Ext.trans ?_ HX6.out | with_reducible refine Ext.trans ?_ HX7.out | with_reducible refine Ext.trans ?_ HX8.out | with_reducible refine Ext.trans ?_ HX9.out | with_reducible refine Ext.trans ?_ HX10.out | with_reducible refine Ext.trans ?_ HX11.out | with_reducible refine Ext.trans ?_ HX12.out | with_reducible refine Ext.trans ?_ HX13.out | with_reducible refine Ext.trans ?_ HX14.out | with_reducible refine Ext.trans ?_ HX15.out | with_reducible refine Ext.trans ?_ HX16.out | with_reducible refine Ext.trans ?_ HX17.out | with_reducible refine Ext.trans ?_ HX18.out | with_reducible refine Ext.trans ?_ HX19.out | with_reducible refine Ext.trans ?_ HX20.out | with_reducible refine Ext.trans ?_ HX21.out | with_reducible refine Ext.trans ?_ HX22.out | with_reducible refine Ext.trans ?_ HX23.out | with_reducible refine Ext.trans ?_ HX24.out)))⟩
end Go.Proofs.Ytbglfaomebokhaa
