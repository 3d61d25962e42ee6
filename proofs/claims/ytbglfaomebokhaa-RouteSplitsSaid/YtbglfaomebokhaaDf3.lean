/- law 25: the reference's Same of lists of bags; Late at one list; awake. -/
import Derived.Test.YtbglfaomebokhaaDf2
import Derived.Test.YtbglfaomebokhaaBgJ
import Derived.Deep.RegionHeld3
namespace Go.Proofs.Ytbglfaomebokhaa
set_option linter.unusedSimpArgs false
set_option linter.unusedVariables false
open Go.RowKit

theorem ext_any (w : World) (x : Inc) : Ext w (ext w x) := ⟨x, rfl⟩
set_option maxHeartbeats 4000000 in
theorem same25_any (ls ms : List (List It)) (v u : Value) (w : World) (h : Rbs w ls v) (h' : Rbs w ms u) (hl : ls.length ≤ 1073741823) (hb : ∀ b ∈ ls, b.length ≤ 1073741823) :
    Calls Try.prog 19 #[v, u] w fun e w' => e = .returned (.bool (sameB ls ms)) ∧ Ext w w' := by
  obtain ⟨a, c, rfl⟩ := h.form
  obtain ⟨a', c', rfl⟩ := h'.form
  obtain ⟨R, hR⟩ : ∃ R, R = sameB ls ms := ⟨_, rfl⟩
  rw [← hR]
  have HR := Lib.hid hR
  have H := Lib.hid h
  have H' := Lib.hid h'
  have HN := Lib.hid hl
  have HB := Lib.hid hb
  by_cases hlen : ls.length = ms.length
  · rw [← hlen] at H' ⊢
    have HLEN := Lib.hid hlen
    clear h h' hl hR hlen hb
    go_enter Try.func19, Try.ntmps19
    go_wp2
    go_loopw [5] (fun i wr => ∃ j : Nat, j ≤ ls.length ∧ i = .int .i64 j ∧ Ext w wr ∧ ∀ (k : Nat) x y, k < j → ls[k]? = some x → ms[k]? = some y → x = y) (fun i _ => ls.length - (intOf i).toNat)
    case atStart => exact ⟨0, by omega, rfl, by (repeat' (first | with_reducible exact Ext.refl _ | with_reducible refine Ext.ext ?_ _ | with_reducible refine Ext.alloc ?_ _ | with_reducible refine Ext.drew ?_ | with_reducible refine Ext.drewN ?_ _ | with_reducible assumption)), fun k x y hk => absurd hk (Nat.not_lt_zero k)⟩
    case round =>
      obtain ⟨j, hj, rfl, ⟨z, rfl⟩, hok⟩ := hrel
      have HOK := Lib.hid hok
      clear hok
      by_cases hlt : j < ls.length
      · obtain ⟨x, hx⟩ : ∃ x, ls[j]? = some x := ⟨ls[j], List.getElem?_eq_getElem _⟩
        obtain ⟨y, hy⟩ : ∃ y, ms[j]? = some y := ⟨ms[j]'(by have := HLEN.out; omega), List.getElem?_eq_getElem _⟩
        obtain ⟨b, off, p, rfl, hp, -, kp, -, -⟩ := H.out.at hx
        obtain ⟨b', off', p', rfl, hp', -, kp', -, -⟩ := H'.out.at hy
        have RP := Lib.hid hp
        have RP' := Lib.hid hp'
        have q0 : ∀ u, (ext w (z.add u)).cell? ⟨b, off + j, none⟩ = some p := fun u => kp _
        have q1 : ∀ u, (ext w (z.add u)).cell? ⟨b', off' + j, none⟩ = some p' := fun u => kp' _
        have q2 : (ext w z).cell? ⟨b, off + j, none⟩ = some p := kp _
        have q3 : (ext w z).cell? ⟨b', off' + j, none⟩ = some p' := kp' _
        have i1 : (0 : Int) ≤ j := by omega
        have i2 : (j : Int) < ls.length := by omega
        have ew : wrap64 ((j : Int) + 1) = ((j + 1 : Nat) : Int) := (IntWalk.wrap64_in _ ⟨by omega, by have := HN.out; omega⟩).trans (by omega)
        have LX := Lib.hid (HB.out x (List.mem_of_getElem? hx))
        have NO := Lib.hid (show x ≠ y → false = R from fun e => by rw [HR.out, sameB_no (fun k => e (by rw [k, hy] at hx; exact (Option.some.inj hx).symm))])
        have ST := Lib.hid (show x = y → ∀ (k : Nat) x y, k < j + 1 → ls[k]? = some x → ms[k]? = some y → x = y from fun e k u v hk hu hv => by
          rcases Nat.lt_or_ge k j with h | h
          · exact HOK.out k u v h hu hv
          · obtain rfl : k = j := by omega
            rw [hx] at hu
            rw [hy] at hv
            cases hu
            cases hv
            exact e)
        clear hx hy hp hp' kp kp'
        obtain ⟨bs, hbs⟩ : ∃ b, sameB x y = b := ⟨_, rfl⟩
        have SM := Lib.hid (fun W (hx : Ext w W) => refSame_rb (RP.out.on hx) (RP'.out.on hx) LX.out bs hbs)
        cases bs
        · have HF := Lib.hid (NO.out (fun e => by rw [sameB_yes e] at hbs; cases hbs))
          clear NO ST hbs
          go_wp2
          refine wp_region_ext (by kernel_rfl) (by kernel_rfl) ?_
          repeat (go_big_quiet_step (first | (go_at_call 23; (apply quiet_of; (with_reducible exact SM.out _ (ext_any _ _)); (intro w' hx; obtain ⟨z, rfl⟩ := hx; (try simp only [ext_ext, add_assoc]); exact ⟨_, rfl⟩)))))
          refine wpQuiet_nil ?_
          intro xK
          go_wp2
          go_returns
          exact ⟨retb rfl HF.out, by (repeat' (first | with_reducible exact Ext.refl _ | with_reducible refine Ext.ext ?_ _ | with_reducible refine Ext.alloc ?_ _ | with_reducible refine Ext.drew ?_ | with_reducible refine Ext.drewN ?_ _ | with_reducible assumption))⟩
        · have HS := Lib.hid (ST.out (sameB_iff.1 hbs))
          clear NO ST hbs
          go_wp2
          refine wp_region_ext (by kernel_rfl) (by kernel_rfl) ?_
          repeat (go_big_quiet_step (first | (go_at_call 23; (apply quiet_of; (with_reducible exact SM.out _ (ext_any _ _)); (intro w' hx; obtain ⟨z, rfl⟩ := hx; (try simp only [ext_ext, add_assoc]); exact ⟨_, rfl⟩)))))
          refine wpQuiet_nil ?_
          intro xK
          go_wp2
          exact ⟨⟨j + 1, by omega, congrArg (Value.int .i64) ew, by (repeat' (first | with_reducible exact Ext.refl _ | with_reducible refine Ext.ext ?_ _ | with_reducible refine Ext.alloc ?_ _ | with_reducible refine Ext.drew ?_ | with_reducible refine Ext.drewN ?_ _ | with_reducible assumption)), HS.out⟩, by rw [ew]; simp only [intOf]; omega⟩
      · obtain rfl : j = ls.length := by omega
        have HS := Lib.hid (show true = R by rw [HR.out, sameB_yes (list_same HLEN.out (fun k x y h1 h2 => HOK.out k x y (List.getElem?_eq_some_iff.1 h1).1 h1 h2))])
        go_wp2
        go_returns
        exact ⟨retb rfl HS.out, by (repeat' (first | with_reducible exact Ext.refl _ | with_reducible refine Ext.ext ?_ _ | with_reducible refine Ext.alloc ?_ _ | with_reducible refine Ext.drew ?_ | with_reducible refine Ext.drewN ?_ _ | with_reducible assumption))⟩
  · have HF := Lib.hid (show false = R by rw [hR, sameB_no (fun e => hlen (by rw [e]))])
    have e0 : ((ls.length : Int) != ms.length) = true := by simp; omega
    clear h h' hl hR hlen hb
    go_enter Try.func19, Try.ntmps19
    go_wp2
    go_returns
    exact ⟨retb rfl HF.out, by (repeat' (first | with_reducible exact Ext.refl _ | with_reducible refine Ext.ext ?_ _ | with_reducible refine Ext.alloc ?_ _ | with_reducible refine Ext.drew ?_ | with_reducible refine Ext.drewN ?_ _ | with_reducible assumption))⟩
end Go.Proofs.Ytbglfaomebokhaa
