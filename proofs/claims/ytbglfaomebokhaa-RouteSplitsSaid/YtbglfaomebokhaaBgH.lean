/- The reference of layer 5: Add. -/
import Derived.Test.YtbglfaomebokhaaBgF
import Derived.Test.YtbglfaomebokhaaBgG
import Derived.Test.YtbglfaomebokhaaBgW
namespace Go.Proofs.Ytbglfaomebokhaa
set_option linter.unusedSimpArgs false
set_option linter.unusedVariables false
open Go.RowKit

section
variable {ops : Array Oper} {rest : List Oper} {o : Oper} {a : Act} {Q : Exit → Act → World → Prop}
/-- 'append([]api.Item{}, x..)': a new row of items. -/
theorem app_new (w1 : World) (hgd : o.guard = none) (s x : Operand) (ho : o.op = .call { callee := .builtin .append, args := #[s, x], argTypes := #[22, 22] })
    (b : Nat) (hs : a.eval s = .slice (some ⟨b, 0, none⟩) 0 0) (hb : b = w1.heap.size) (l : List It) (u : Value) (hx : a.eval x = u) (hr : Rb w1 l u) (hl : l.length ≤ 1073741823)
    (k : ∀ v' w', Bag w1 w1.heap.size l v' w' → wpList Try.prog ops Q rest (a.put o.dst v') w') :
    wpList Try.prog ops Q (o :: rest) a (w1.alloc (.cells #[] 30)) := by
  subst hb
  obtain ⟨a0, c0, rfl, hr⟩ := hr
  have hown := World.ownsRow_made (e := 30) (size := 3) (base := w1.heap.size) w1 #[] 0 (Nat.le_refl _) (by decide) (by simp)
  refine wpList_app hgd s x 22 ho 30 (.agg #[.int .i64 0, .int .i64 0, .int .i64 0]) 3 24 Try.underlying22 info_its3 rfl (by decide) w1 ((Ext.refl w1).alloc _) w1.heap.size _ 0 [] hown l.length _ (its l) hs hx (hr.of_ext ((Ext.refl w1).alloc _)) (its_one l) (by unfold maxLen; omega) (by omega) (by rw [World.size_alloc]; omega) (Nat.le_refl _) ?_
  intro b c y hown1 hgr hat
  rw [Nat.zero_add, List.nil_append] at hown1
  rw [Nat.zero_add]
  exact k _ _ ⟨⟨y, rfl⟩, b, c, rfl, hown1⟩
/-- 'append(v, x)' of one item onto a bag of the call's own; what else lies there stays. -/
theorem push_bagG (hgd : o.guard = none) (s x : Operand) (ho : o.op = .call { callee := .builtin .append, args := #[s, x], argTypes := #[22, 22] })
    (w0 w1 : World) (l : List It) (v : Value) (h : Bag w0 w0.heap.size l v w1) (b c : Nat) (hs : a.eval s = v) (hx : a.eval x = .slice (some ⟨b, 0, none⟩) 1 c) (hb : b = w1.heap.size) (hl : l.length ≤ 1073741823) (it : It)
    (k : ∀ v' w', Bag w0 w0.heap.size (l ++ [it]) v' w' → (∀ g i u, v.ownBlock ≠ some g → w1.cell? ⟨g, i, none⟩ = some u → w'.cell? ⟨g, i, none⟩ = some u) → wpList Try.prog ops Q rest (a.put o.dst v') w') :
    wpList Try.prog ops Q (o :: rest) a (w1.alloc (.cells #[.int .i64 it.k, .int .i64 it.v, .int .i64 it.n] 30)) := by
  obtain ⟨⟨i, rfl⟩, a', c', rfl, hown⟩ := h
  refine wpList_pushF hgd s x 22 ho 30 (.agg #[.int .i64 0, .int .i64 0, .int .i64 0]) 3 24 Try.underlying22 info_its3 rfl (by decide) w0 i w0.heap.size _ l.length (its l) hown b 1 c #[.int .i64 it.k, .int .i64 it.v, .int .i64 it.n] hs hx rfl (by simp [Value.oneCell']) (by decide) hb (by unfold maxLen; omega) (by omega) (by simp) (Nat.le_refl _) ?_
  intro g cap y hown1 hgr hat
  refine k _ _ ⟨⟨y, rfl⟩, some ⟨g, 0, none⟩, cap, ?_, ?_⟩ (fun g' i' u hne hc => ?_)
  · rw [List.length_append]; rfl
  · rw [List.length_append, its_append]
    exact hown1
  · have hlt := World.block_lt_of_cell? _ _ hc
    have := hgr.block g' hlt (fun e => hne e.symm)
    unfold World.cell? at hc ⊢
    rw [this]
    exact hc
end
theorem Bag.lt {w0 w : World} {b : Nat} {l : List It} {v : Value} (h : Bag w0 b l v w) {g : Nat} (hg : w.heap.size ≤ g) : v.ownBlock ≠ some g := by
  obtain ⟨_, a, c, rfl, ho⟩ := h
  intro e
  have := (ho.lt _ e).2
  omega
set_option maxHeartbeats 8000000 in
theorem refAdd_any (l : List It) (v : Value) (w : World) (h : Rb w l v) (hn : l.length ≤ 1073741822) (r : Int × Int) (q : Int) :
    Calls Try.prog 37 #[v, .agg #[.int .i64 r.1, .int .i64 r.2], .int .i64 q] w fun e w' => ∃ v', e = .returned v' ∧ Bag w w.heap.size (addS l r q) v' w' := by
  obtain ⟨K, V⟩ := r
  obtain ⟨a, c, rfl, h⟩ := h
  obtain ⟨R, hR⟩ : ∃ R, R = addR l (K, V) q := ⟨_, rfl⟩
  rw [← addR_eq, ← hR]
  have RT := Lib.hid (fun w' (hx : Ext w w') => refRight_any l a _ c w' (h.of_ext hx) rfl (by omega))
  have H := Lib.hid h
  have HN := Lib.hid hn
  obtain ⟨rb, f⟩ : ∃ b, rightB l = b := ⟨_, rfl⟩
  obtain ⟨c1, g1⟩ : ∃ b, decide (2147483648 < q) = b := ⟨_, rfl⟩
  obtain ⟨c2, g2⟩ : ∃ b, decide (q < -2147483648) = b := ⟨_, rfl⟩
  have hm : mayB q = (!c1 && !c2) := by
    subst g1 g2
    rw [Bool.eq_iff_iff, mayB_iff]
    simp only [Bool.and_eq_true, Bool.not_eq_true', decide_eq_false_iff_not]
    omega
  rw [f] at RT
  have key : R = if (rb && (!c1 && !c2)) then (match fld (K, V) q l with
    | none => l
    | some (O, d) => if d then O else O ++ [⟨K, V, q⟩]) else l := by rw [hR]; unfold addR; rw [f, hm]; rfl
  have HF := Lib.hid f
  dsimp only
  clear h hn hR f
  rcases Bool.eq_false_or_eq_true (rb && (!c1 && !c2)) with hk | hk
  · simp only [Bool.and_eq_true, Bool.not_eq_true'] at hk
    obtain ⟨rfl, rfl, rfl⟩ := hk
    have HM := Lib.hid (show mayB q = true from hm)
    simp only [Bool.not_false, Bool.and_self, if_true] at key
    have HR := Lib.hid key
    clear key hm
    go_enter Try.func37, Try.ntmps37
    go_wp2_with (first | (at_builtin; refine app_new _ rfl _ _ rfl _ rfl (by simp) l _ rfl ⟨a, c, rfl, H.out.of_ext (by (repeat' (first | with_reducible exact Ext.refl _ | with_reducible refine Ext.ext ?_ _ | with_reducible refine Ext.alloc ?_ _ | with_reducible refine Ext.drew ?_ | with_reducible refine Ext.drewN ?_ _ | with_reducible assumption)))⟩ (by have := HN.out; omega) ?_; intro vs w1 hb; have k0 := (keep_cell (b := w.heap.size) (i := 0) (u := .int .i64 K) (by simp) hb.1).1; have k1 := (keep_cell (b := w.heap.size) (i := 1) (u := .int .i64 V) (by simp) hb.1).1; have HX := Lib.hid (((Ext.refl w).alloc _).trans hb.1); have HS := Lib.hid hb; clear hb) | (go_at_call 35; (with_reducible refine (RT.out _ (Ext.trans HX.out (by (repeat' (first | with_reducible exact Ext.refl _ | with_reducible refine Ext.ext ?_ _ | with_reducible refine Ext.alloc ?_ _ | with_reducible refine Ext.drew ?_ | with_reducible refine Ext.drewN ?_ _ | with_reducible assumption))))).mono ?_); rintro e w' ⟨rfl, x1, rfl⟩))
    go_loopw [8, 9, 10] (fun v d i wr => ∃ (j : Nat) (O : List It) (dd : Bool), j ≤ l.length ∧ i = .int .i64 j ∧ d = .bool dd ∧ fld (K, V) q (l.take j) = some (O, dd) ∧ Bag w1 w1.heap.size O v wr) (fun _ _ i _ => l.length - (intOf i).toNat)
    case atStart => exact ⟨0, [], _, by omega, rfl, rfl, rfl, (Bag.nil w1 _).on (by (repeat' (first | with_reducible exact Ext.refl _ | with_reducible refine Ext.ext ?_ _ | with_reducible refine Ext.alloc ?_ _ | with_reducible refine Ext.drew ?_ | with_reducible refine Ext.drewN ?_ _ | with_reducible assumption)))⟩
    case round =>
      obtain ⟨j, O, d, hj, rfl, rfl, hf, hb⟩ := hrel
      obtain ⟨z', rfl⟩ := hb.1
      have HB := Lib.hid hb
      have HFL := Lib.hid hf
      have hol := fld_len (K, V) q (l.take j) [] (q == 0) O d hf
      rw [List.length_take] at hol
      have hol2 : O.length ≤ l.length + 1 := by
        have e1 : (if d = true then 0 else 1) ≤ 1 := by split <;> omega
        have e2 : (if (q == 0) = true then 0 else 1) ≤ 1 := by split <;> omega
        rw [List.length_nil] at hol
        omega
      have HOL := Lib.hid (show O.length ≤ 1073741823 by have := HN.out; omega)
      have HOL2 := Lib.hid (show d = false → O.length ≤ l.length by
        rintro rfl
        have e2 : (if (q == 0) = true then 0 else 1) ≤ 1 := by split <;> omega
        rw [List.length_nil] at hol
        simp only [Bool.false_eq_true, if_false] at hol
        omega)
      clear hb hf hol hol2
      have L1 := Lib.hid (H.out.of_ext HX.out)
      by_cases hlt : j < l.length
      · obtain ⟨x, hx⟩ : ∃ x, l[j]? = some x := ⟨l[j], List.getElem?_eq_getElem _⟩
        obtain ⟨b, off, rfl, -⟩ := L1.out.cells (by omega)
        have qq := it_cells L1.out j x hx z'
        have q0 := keep_add qq.1
        have q1 := keep_add qq.2.1
        have q2 := keep_add qq.2.2
        have i1 : (0 : Int) ≤ j := by omega
        have i2 : (j : Int) < l.length := by omega
        have hN := nOf HF.out (List.mem_of_getElem? hx)
        have hQ := (mayB_iff q).1 HM.out
        have ew : wrap64 ((j : Int) + 1) = ((j + 1 : Nat) : Int) := (IntWalk.wrap64_in _ ⟨by omega, by have := HN.out; omega⟩).trans (by omega)
        have ews : wrap64 (x.n + q) = x.n + q := IntWalk.wrap64_in _ ⟨by omega, by omega⟩
        have nz := right_ne HF.out _ (List.mem_of_getElem? hx)
        have ST := Lib.hid (show fld (K, V) q (l.take (j + 1)) = stp (K, V) q (some (O, d)) x by rw [fld_snoc _ _ hx, HFL.out])
        have kk0 : (ext w1 z').cell? ⟨w.heap.size, 0, none⟩ = some (.int .i64 K) := k0 z'
        have kk1 : (ext w1 z').cell? ⟨w.heap.size, 1, none⟩ = some (.int .i64 V) := k1 z'
        obtain ⟨xk, xv, xn⟩ := x
        dsimp only at q0 q1 q2 ews nz
        obtain ⟨be, fe⟩ : ∃ b, (xk == K && xv == V) = b := ⟨_, rfl⟩
        have nz' : (xn != 0) = true := by simp [nz]
        clear qq hx hN hQ nz
        haveI : LtSz w.heap.size (w1.heap.size + z'.hs.length) := ⟨by have := World.block_lt_of_cell? _ _ kk0; simpa using this⟩
        cases be
        · have fr : ¬ (It.r ⟨xk, xv, xn⟩ = (K, V)) := fun e => by
            obtain ⟨rfl, rfl⟩ := Prod.mk.inj e
            simp [It.r] at fe
          have LS := Lib.hid (fun w => refLess_any (K, V) (xk, xv) w)
          obtain ⟨bl, fl⟩ : ∃ b, decide (ordR (K, V) (xk, xv) < 0) = b := ⟨_, rfl⟩
          rw [fl] at LS
          have st := ST.out
          unfold stp at st
          dsimp only at st
          rw [if_neg fr, show It.r ⟨xk, xv, xn⟩ = (xk, xv) from rfl, fl] at st
          cases d <;> cases bl
          · have HST := Lib.hid (show fld (K, V) q (l.take (j + 1)) = some (O ++ [⟨xk, xv, xn⟩], false) from st)
            clear st fr fl ST
            go_wp2_with (first | (go_at_call 34; (with_reducible refine (LS.out _).mono ?_); rintro e w' ⟨rfl, x2, rfl⟩) | (at_builtin; refine push_bagG rfl _ _ rfl w1 _ O _ (by exact HB.out.on (by (first | (with_reducible exact ext_more2 _ _ _) | (repeat' (first | with_reducible exact Ext.refl _ | with_reducible refine Ext.ext ?_ _ | with_reducible refine Ext.alloc ?_ _ | with_reducible refine Ext.drew ?_ | with_reducible refine Ext.drewN ?_ _ | with_reducible assumption))))) _ _ rfl rfl (by simp) (by have := HOL.out; omega) ⟨xk, xv, xn⟩ ?_; intro v2 w2 hb2 _; obtain ⟨z2, rfl⟩ := hb2.1; have HB2 := Lib.hid hb2; clear hb2))
            exact ⟨⟨j + 1, _, _, by omega, congrArg (Value.int .i64) ew, rfl, HST.out, HB2.out⟩, by rw [ew]; simp only [intOf]; omega⟩
          · have HST := Lib.hid (show fld (K, V) q (l.take (j + 1)) = some (O ++ [⟨K, V, q⟩] ++ [⟨xk, xv, xn⟩], true) from st)
            have HO3 := Lib.hid (HOL2.out rfl)
            clear st fr fl ST
            go_wp2_with (first | (go_at_call 34; (with_reducible refine (LS.out _).mono ?_); rintro e w' ⟨rfl, x2, rfl⟩) | (at_builtin; refine push_bagG rfl _ _ rfl w1 _ (O ++ [⟨K, V, q⟩]) _ (by exact HB2.out.on (by (first | (with_reducible exact ext_more2 _ _ _) | (repeat' (first | with_reducible exact Ext.refl _ | with_reducible refine Ext.ext ?_ _ | with_reducible refine Ext.alloc ?_ _ | with_reducible refine Ext.drew ?_ | with_reducible refine Ext.drewN ?_ _ | with_reducible assumption))))) _ _ rfl rfl (by simp) (by rw [List.length_append, List.length_singleton]; have := HO3.out; have := HN.out; omega) ⟨xk, xv, xn⟩ ?_; intro v3 w3 hb3 _; obtain ⟨z3, rfl⟩ := hb3.1; have HB3 := Lib.hid hb3; clear hb3) | (at_builtin; refine push_bagG rfl _ _ rfl w1 _ O _ (by exact HB.out.on (by (first | (with_reducible exact ext_more2 _ _ _) | (repeat' (first | with_reducible exact Ext.refl _ | with_reducible refine Ext.ext ?_ _ | with_reducible refine Ext.alloc ?_ _ | with_reducible refine Ext.drew ?_ | with_reducible refine Ext.drewN ?_ _ | with_reducible assumption))))) _ _ rfl rfl (by simp) (by have := HOL.out; omega) ⟨K, V, q⟩ ?_; intro v2 w2 hb2 hk; have e0 := hk (w1.heap.size + z'.hs.length) 0 (.int .i64 xk) (HB.out.lt (by rw [size_ext]; exact Nat.le_refl _)) (keep_cell (cell_lit (ext w1 z') #[.int .i64 xk, .int .i64 xv, .int .i64 xn] 30 _ 0 _ (by rw [size_ext]) rfl) (by (repeat' (first | with_reducible exact Ext.refl _ | with_reducible refine Ext.ext ?_ _ | with_reducible refine Ext.alloc ?_ _ | with_reducible refine Ext.drew ?_ | with_reducible refine Ext.drewN ?_ _ | with_reducible assumption)))).2; have e1 := hk (w1.heap.size + z'.hs.length) 1 (.int .i64 xv) (HB.out.lt (by rw [size_ext]; exact Nat.le_refl _)) (keep_cell (cell_lit (ext w1 z') #[.int .i64 xk, .int .i64 xv, .int .i64 xn] 30 _ 1 _ (by rw [size_ext]) rfl) (by (repeat' (first | with_reducible exact Ext.refl _ | with_reducible refine Ext.ext ?_ _ | with_reducible refine Ext.alloc ?_ _ | with_reducible refine Ext.drew ?_ | with_reducible refine Ext.drewN ?_ _ | with_reducible assumption)))).2; have e2 := hk (w1.heap.size + z'.hs.length) 2 (.int .i64 xn) (HB.out.lt (by rw [size_ext]; exact Nat.le_refl _)) (keep_cell (cell_lit (ext w1 z') #[.int .i64 xk, .int .i64 xv, .int .i64 xn] 30 _ 2 _ (by rw [size_ext]) rfl) (by (repeat' (first | with_reducible exact Ext.refl _ | with_reducible refine Ext.ext ?_ _ | with_reducible refine Ext.alloc ?_ _ | with_reducible refine Ext.drew ?_ | with_reducible refine Ext.drewN ?_ _ | with_reducible assumption)))).2; obtain ⟨z2, rfl⟩ := hb2.1; have HB2 := Lib.hid hb2; clear hb2 hk))
            exact ⟨⟨j + 1, _, _, by omega, congrArg (Value.int .i64) ew, rfl, HST.out, HB3.out⟩, by rw [ew]; simp only [intOf]; omega⟩
          all_goals
            have HST := Lib.hid (show fld (K, V) q (l.take (j + 1)) = some (O ++ [⟨xk, xv, xn⟩], true) from st)
            clear st fr fl ST
            go_wp2_with (at_builtin; refine push_bagG rfl _ _ rfl w1 _ O _ (by exact HB.out.on (by (first | (with_reducible exact ext_more2 _ _ _) | (repeat' (first | with_reducible exact Ext.refl _ | with_reducible refine Ext.ext ?_ _ | with_reducible refine Ext.alloc ?_ _ | with_reducible refine Ext.drew ?_ | with_reducible refine Ext.drewN ?_ _ | with_reducible assumption))))) _ _ rfl rfl (by simp) (by have := HOL.out; omega) ⟨xk, xv, xn⟩ ?_; intro v2 w2 hb2 _; obtain ⟨z2, rfl⟩ := hb2.1; have HB2 := Lib.hid hb2; clear hb2)
            exact ⟨⟨j + 1, _, _, by omega, congrArg (Value.int .i64) ew, rfl, HST.out, HB2.out⟩, by rw [ew]; simp only [intOf]; omega⟩
        · have fr : It.r ⟨xk, xv, xn⟩ = (K, V) := by
            simp only [Bool.and_eq_true, beq_iff_eq] at fe
            obtain ⟨rfl, rfl⟩ := fe
            rfl
          obtain ⟨m1, h1⟩ : ∃ b, decide (2147483648 < xn + q) = b := ⟨_, rfl⟩
          obtain ⟨m2, h2⟩ : ∃ b, decide (xn + q < -2147483648) = b := ⟨_, rfl⟩
          have hms : mayB (xn + q) = (!m1 && !m2) := by
            subst h1 h2
            rw [Bool.eq_iff_iff, mayB_iff]
            simp only [Bool.and_eq_true, Bool.not_eq_true', decide_eq_false_iff_not]
            omega
          have st := ST.out
          unfold stp at st
          dsimp only at st
          rw [if_pos fr, hms] at st
          clear fr hms ST
          rcases Bool.eq_false_or_eq_true (!m1 && !m2) with hk | hk
          · simp only [Bool.and_eq_true, Bool.not_eq_true'] at hk
            obtain ⟨rfl, rfl⟩ := hk
            simp only [Bool.not_false, Bool.and_self, if_true] at st
            by_cases hz : xn + q = 0
            · have hz' : (xn + q != 0) = false := by simp [hz]
              rw [if_pos hz] at st
              have HST := Lib.hid st
              clear st hz
              go_wp2
              exact ⟨⟨j + 1, _, _, by omega, congrArg (Value.int .i64) ew, rfl, HST.out, HB.out.on (by (first | (with_reducible exact ext_more2 _ _ _) | (repeat' (first | with_reducible exact Ext.refl _ | with_reducible refine Ext.ext ?_ _ | with_reducible refine Ext.alloc ?_ _ | with_reducible refine Ext.drew ?_ | with_reducible refine Ext.drewN ?_ _ | with_reducible assumption))))⟩, by rw [ew]; simp only [intOf]; omega⟩
            · have hz' : (xn + q != 0) = true := by simp [hz]
              rw [if_neg hz] at st
              have HST := Lib.hid st
              clear st hz
              go_wp2_with (at_builtin; refine push_bagG rfl _ _ rfl w1 _ O _ (by exact HB.out.on (by (first | (with_reducible exact ext_more2 _ _ _) | (repeat' (first | with_reducible exact Ext.refl _ | with_reducible refine Ext.ext ?_ _ | with_reducible refine Ext.alloc ?_ _ | with_reducible refine Ext.drew ?_ | with_reducible refine Ext.drewN ?_ _ | with_reducible assumption))))) _ _ rfl rfl (by simp) (by have := HOL.out; omega) ⟨xk, xv, xn + q⟩ ?_; intro v2 w2 hb2 _; obtain ⟨z2, rfl⟩ := hb2.1; have HB2 := Lib.hid hb2; clear hb2)
              exact ⟨⟨j + 1, _, _, by omega, congrArg (Value.int .i64) ew, rfl, HST.out, HB2.out⟩, by rw [ew]; simp only [intOf]; omega⟩
          · rw [hk] at st
            have HRL := Lib.hid (show l = R by rw [HR.out, fld_none (K, V) q (j := j + 1) st])
            clear st
            cases m1
            · cases m2
              · simp at hk
              · clear hk
                go_wp2
                go_returns
                exact ⟨_, rfl, by rw [← HRL.out]; exact Bag.from0 (HS.out.on (by (repeat' (first | with_reducible exact Ext.refl _ | with_reducible refine Ext.ext ?_ _ | with_reducible refine Ext.alloc ?_ _ | with_reducible refine Ext.drew ?_ | with_reducible refine Ext.drewN ?_ _ | with_reducible assumption)))) (by (repeat' (first | with_reducible exact Ext.refl _ | with_reducible refine Ext.ext ?_ _ | with_reducible refine Ext.alloc ?_ _ | with_reducible refine Ext.drew ?_ | with_reducible refine Ext.drewN ?_ _ | with_reducible assumption)))⟩
            · clear hk
              go_wp2
              go_returns
              exact ⟨_, rfl, by rw [← HRL.out]; exact Bag.from0 (HS.out.on (by (repeat' (first | with_reducible exact Ext.refl _ | with_reducible refine Ext.ext ?_ _ | with_reducible refine Ext.alloc ?_ _ | with_reducible refine Ext.drew ?_ | with_reducible refine Ext.drewN ?_ _ | with_reducible assumption)))) (by (repeat' (first | with_reducible exact Ext.refl _ | with_reducible refine Ext.ext ?_ _ | with_reducible refine Ext.alloc ?_ _ | with_reducible refine Ext.drew ?_ | with_reducible refine Ext.drewN ?_ _ | with_reducible assumption)))⟩
      · obtain rfl : j = l.length := by omega
        have hf := HFL.out
        rw [List.take_length] at hf
        have hr := HR.out
        rw [hf] at hr
        dsimp only at hr
        have kk0 : (ext w1 z').cell? ⟨w.heap.size, 0, none⟩ = some (.int .i64 K) := k0 z'
        have kk1 : (ext w1 z').cell? ⟨w.heap.size, 1, none⟩ = some (.int .i64 V) := k1 z'
        cases d
        · have HRL := Lib.hid (show O ++ [⟨K, V, q⟩] = R from hr.symm)
          clear hf hr
          go_wp2_with (at_builtin; refine push_bagG rfl _ _ rfl w1 _ O _ (by exact HB.out.on (by (first | (with_reducible exact ext_more2 _ _ _) | (repeat' (first | with_reducible exact Ext.refl _ | with_reducible refine Ext.ext ?_ _ | with_reducible refine Ext.alloc ?_ _ | with_reducible refine Ext.drew ?_ | with_reducible refine Ext.drewN ?_ _ | with_reducible assumption))))) _ _ rfl rfl (by simp) (by have := HOL.out; omega) ⟨K, V, q⟩ ?_; intro v2 w2 hb2 _; obtain ⟨z2, rfl⟩ := hb2.1; have HB2 := Lib.hid hb2; clear hb2)
          go_returns
          exact ⟨_, rfl, by rw [← HRL.out]; exact Bag.from0 HB2.out HX.out⟩
        · have HRL := Lib.hid (show O = R from hr.symm)
          clear hf hr
          go_wp2
          go_returns
          exact ⟨_, rfl, by rw [← HRL.out]; exact Bag.from0 (HB.out.on (by (first | (with_reducible exact ext_more2 _ _ _) | (repeat' (first | with_reducible exact Ext.refl _ | with_reducible refine Ext.ext ?_ _ | with_reducible refine Ext.alloc ?_ _ | with_reducible refine Ext.drew ?_ | with_reducible refine Ext.drewN ?_ _ | with_reducible assumption))))) HX.out⟩
  · have HRL := Lib.hid (show l = R by rw [key, hk]; rfl)
    clear key hm
    have e1 := g1
    cases rb <;> cases c1 <;> cases c2 <;> first | (exfalso; simp at hk; done) | skip
    all_goals
      clear hk
      go_enter Try.func37, Try.ntmps37
      go_wp2_with (first | (at_builtin; refine app_new _ rfl _ _ rfl _ rfl (by simp) l _ rfl ⟨a, c, rfl, H.out.of_ext (by (repeat' (first | with_reducible exact Ext.refl _ | with_reducible refine Ext.ext ?_ _ | with_reducible refine Ext.alloc ?_ _ | with_reducible refine Ext.drew ?_ | with_reducible refine Ext.drewN ?_ _ | with_reducible assumption)))⟩ (by have := HN.out; omega) ?_; intro vs w1 hb; have HX := Lib.hid (((Ext.refl w).alloc _).trans hb.1); have HS := Lib.hid hb; clear hb) | (go_at_call 35; (with_reducible refine (RT.out _ (Ext.trans HX.out (by (repeat' (first | with_reducible exact Ext.refl _ | with_reducible refine Ext.ext ?_ _ | with_reducible refine Ext.alloc ?_ _ | with_reducible refine Ext.drew ?_ | with_reducible refine Ext.drewN ?_ _ | with_reducible assumption))))).mono ?_); rintro e w' ⟨rfl, x1, rfl⟩))
      go_returns
      exact ⟨_, rfl, by rw [← HRL.out]; exact Bag.from0 (HS.out.on (by (repeat' (first | with_reducible exact Ext.refl _ | with_reducible refine Ext.ext ?_ _ | with_reducible refine Ext.alloc ?_ _ | with_reducible refine Ext.drew ?_ | with_reducible refine Ext.drewN ?_ _ | with_reducible assumption)))) (by (repeat' (first | with_reducible exact Ext.refl _ | with_reducible refine Ext.ext ?_ _ | with_reducible refine Ext.alloc ?_ _ | with_reducible refine Ext.drew ?_ | with_reducible refine Ext.drewN ?_ _ | with_reducible assumption)))⟩
end Go.Proofs.Ytbglfaomebokhaa
