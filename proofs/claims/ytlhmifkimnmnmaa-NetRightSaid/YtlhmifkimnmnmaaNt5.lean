/- Net: copied. -/
import Derived.Test.YtlhmifkimnmnmaaNt4
import Derived.Test.YtlhmifkimnmnmaaNe2
namespace Go.Proofs.Ytlhmifkimnmnmaa
set_option linter.unusedSimpArgs false
set_option linter.unusedVariables false
open Go.RowKit

theorem cloneM {w : World} {l : List Mg} {u : Value} (h : RbG 10 mgs w l u) (hn : l.length ≤ 1073741823) :
    Calls Try.prog 30 #[u] w fun e w' => ∃ u', e = .returned u' ∧ Ext w w' ∧ ElG 29 10 mgs w' w.heap.size l u' := by
  obtain ⟨a, c, rfl, hr⟩ := h
  refine (clone_mg _ _ _ w hr (by omega) (mgs_one l)).mono ?_
  rintro e w' ⟨v', rfl, hx, ho⟩
  obtain ⟨a', c', rfl⟩ := (own_rd ho).form
  exact ⟨_, rfl, hx, a', c', rfl, ho⟩
set_option maxHeartbeats 4000000 in
theorem copied_any (l : List Bx) (a : Option Addr) (n c : Nat) (w : World) (h : RdsG shB w l (.slice a n c)) (hl : n ≤ 1073741823) (hm : ∀ x ∈ l, x.l.length ≤ 1073741823) :
    Calls Try.prog 19 #[.slice a n c] w fun e w' => ∃ v', e = .returned v' ∧ PtsG shB w l v' w' := by
  have hn := rds_len h
  have HN := Lib.hid hn
  have HL := Lib.hid hl
  have HM := Lib.hid hm
  obtain ⟨us, hone, hrd, hst⟩ := h.cells
  rw [← hn] at hrd hst
  have CB := Lib.hid (clone_bx _ _ _ w hrd (by omega) hone)
  have ST := Lib.hid hst
  have CM := Lib.hid (fun W u x (hx : x ∈ l) (h : RbG 10 mgs W x.l u) => cloneM h (hm x hx))
  clear h hl hm hn hone hrd hst
  go_enter Try.func19, Try.ntmps19
  go_wp2_with (go_at_call 29; (with_reducible refine CB.out.mono ?_); rintro e w1 ⟨v1, rfl, hx, ho⟩; have hc := ST.out _ _ hx ho; obtain ⟨a1, c1, rfl⟩ := (own_rd ho).form; have C1 := Lib.hid hc; clear hc hx ho)
  go_loopw [9] (fun i wr => ∃ j : Nat, j ≤ n ∧ i = .int .i64 j ∧ CopG shB w l (.slice a1 n c1) j wr) (fun i _ => n - (intOf i).toNat)
  case atStart => exact ⟨0, by omega, rfl, C1.out⟩
  case round =>
    obtain ⟨j, hj, rfl, hc⟩ := hrel
    have HC := Lib.hid hc
    clear hc C1 CB ST
    by_cases hlt : j < n
    · obtain ⟨x, hx⟩ : ∃ x, l[j]? = some x := ⟨l[j]'(by have := HN.out; omega), List.getElem?_eq_getElem _⟩
      obtain ⟨g, u, rfl, hu, q3, -, -, hgl, hnext⟩ := HC.out.at hx
      have i1 : (0 : Int) ≤ j := by omega
      have i2 : (j : Int) < n := by omega
      have ew : wrap64 ((j : Int) + 1) = ((j + 1 : Nat) : Int) := (IntWalk.wrap64_in _ ⟨by omega, by have := HL.out; omega⟩).trans (by omega)
      have EW := Lib.hid ew
      have CX := Lib.hid (CM.out wr u x (List.mem_of_getElem? hx) (hu.on HC.out.1))
      have NX := Lib.hid hnext
      haveI : LtSz g wr.heap.size := ⟨hgl⟩
      obtain ⟨ua, uc, rfl, -⟩ := hu
      clear hnext hx hgl ew
      have q3' : wr.cell? ⟨g, j * 4 + 3, none⟩ = _ := q3
      clear q3
      go_wp2_with (go_at_call 30; (with_reducible refine CX.out.mono ?_); rintro e w2 ⟨u2, rfl, hx, he⟩; obtain ⟨r3, fz, hn2⟩ := NX.out _ _ hx he; have r3' : w2.cell? ⟨g, j * 4 + 3, none⟩ = _ := r3; have fz' : w2.frozen? ⟨g, j * 4 + 3, none⟩ = false := fz; have HN2 := Lib.hid hn2; obtain ⟨va, vc, rfl, -⟩ := he; clear hx r3 fz hn2)
      exact nat_up (P := fun i => CopG shB w l _ i _) EW.out hlt HN2.out
    · obtain rfl : j = n := by omega
      have hd := HC.out
      rw [HN.out] at hd
      have HD := Lib.hid hd.done
      clear hd
      go_wp2
      go_returns
      exact ⟨_, rfl, by rw [HN.out]; exact HD.out⟩
end Go.Proofs.Ytlhmifkimnmnmaa
