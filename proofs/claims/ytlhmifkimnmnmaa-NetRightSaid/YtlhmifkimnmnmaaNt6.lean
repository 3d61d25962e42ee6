/- Net: Len, All. -/
import Derived.Test.YtlhmifkimnmnmaaNt5
namespace Go.Proofs.Ytlhmifkimnmnmaa
set_option linter.unusedSimpArgs false
set_option linter.unusedVariables false
open Go.RowKit

theorem run_minI {P : Program} (a k : Int) (ats : Array TypeId) (ty : TypeId) (w : World) : (Builtin.min_ ats ty #[.int .i64 a, .int .i64 k]).run P w = .ok (.int .i64 (min a k)) w := by
  simp only [Builtin.min_, List.foldlM, Builtin.min2, Sem.run_bind, Sem.run_pure, Result.andThen_ok]
  have : (if k < a then k else a) = min a k := by
    simp only [Int.min_def]
    split <;> split <;> omega
  rw [this]
/-- The messages of a box. -/
def inB (l : List Bx) (e f t : Int) : List Mg := match l[posB l e f t]? with
  | some x => if hasB l e f t then x.l else []
  | none => []
def lenS (l : List Bx) (e f t : Int) : Nat := if rightB l then (inB l e f t).length else 0
theorem hasB_some {l : List Bx} {e f t : Int} (h : hasB l e f t = true) : ∃ x, l[posB l e f t]? = some x ∧ x.e = e ∧ x.f = f ∧ x.t = t ∧ inB l e f t = x.l := by
  unfold hasB at h
  cases hx : l[posB l e f t]? with
  | none => rw [hx] at h; cases h
  | some x =>
    have h' := h
    rw [hx] at h
    dsimp only at h
    have h2 := (ord3_zero _ _ _ _ _ _).1 (of_decide_eq_true h)
    refine ⟨x, rfl, h2.1, h2.2.1, h2.2.2, ?_⟩
    unfold inB
    rw [hx]
    dsimp only
    rw [if_pos (by unfold hasB; rw [hx]; exact h)]
theorem hasB_none {l : List Bx} {e f t : Int} (h : hasB l e f t = false) : inB l e f t = [] := by
  unfold inB
  split
  · rw [h]; rfl
  · rfl
theorem right_chain {l : List Bx} (h : rightB l = true) : chainB l = true := by unfold rightB at h; simp only [Bool.and_eq_true] at h; exact h.2
theorem len_any (l : List Bx) (a : Option Addr) (n c : Nat) (w : World) (h : RdsG shB w l (.slice a n c)) (hl : n ≤ 1073741823) (hm : ∀ x ∈ l, x.l.length ≤ 1073741823) (e f t : Int) :
    Calls Try.prog 15 #[.slice a n c, .int .i64 e, .int .i64 f, .int .i64 t] w fun r w' => r = .returned (.int .i64 (lenS l e f t)) ∧ Ext w w' := by
  have RG := Lib.hid (fun W (hx : Ext w W) => right_any l a n c W (h.on hx) hl hm)
  have FD := Lib.hid (fun W (hx : Ext w W) hc => find_any l a n c W (h.on hx) hl hc e f t)
  obtain ⟨br, hr⟩ : ∃ b, rightB l = b := ⟨_, rfl⟩
  rw [hr] at RG
  obtain ⟨R, hR⟩ : ∃ R, R = ((lenS l e f t : Nat) : Int) := ⟨_, rfl⟩
  rw [← hR]
  have HR := Lib.hid hR
  have H := Lib.hid h
  have HRT := Lib.hid hr
  clear hR h hl hm hr
  cases br
  · have RR := Lib.hid (show 0 = R by rw [HR.out, lenS, HRT.out]; rfl)
    clear FD
    go_enter Try.func15, Try.ntmps15
    go_wp2_with (go_at_call 10; (with_reducible refine (RG.out _ (by (repeat' (first | with_reducible exact Ext.refl _ | with_reducible refine Ext.ext ?_ _ | with_reducible refine Ext.alloc ?_ _ | with_reducible refine Ext.drew ?_ | with_reducible refine Ext.drewN ?_ _ | with_reducible assumption)))).mono ?_); rintro r w' ⟨rfl, x1, rfl⟩)
    go_returns
    exact ⟨reti rfl RR.out, by (repeat' (first | with_reducible exact Ext.refl _ | with_reducible refine Ext.ext ?_ _ | with_reducible refine Ext.alloc ?_ _ | with_reducible refine Ext.drew ?_ | with_reducible refine Ext.drewN ?_ _ | with_reducible assumption))⟩
  · obtain ⟨bh, hh⟩ : ∃ b, hasB l e f t = b := ⟨_, rfl⟩
    have FX := Lib.hid (fun W (hx : Ext w W) => FD.out W hx (right_chain HRT.out))
    rw [hh] at FX
    clear FD
    cases bh
    · have RR := Lib.hid (show 0 = R by rw [HR.out, lenS, HRT.out, hasB_none hh]; rfl)
      clear hh
      generalize posB l e f t = p at *
      go_enter Try.func15, Try.ntmps15
      go_wp2_with (first | (go_at_call 10; (with_reducible refine (RG.out _ (by (repeat' (first | with_reducible exact Ext.refl _ | with_reducible refine Ext.ext ?_ _ | with_reducible refine Ext.alloc ?_ _ | with_reducible refine Ext.drew ?_ | with_reducible refine Ext.drewN ?_ _ | with_reducible assumption)))).mono ?_); rintro r w' ⟨rfl, x1, rfl⟩) | (go_at_call 20; (with_reducible refine (FX.out _ (by (repeat' (first | with_reducible exact Ext.refl _ | with_reducible refine Ext.ext ?_ _ | with_reducible refine Ext.alloc ?_ _ | with_reducible refine Ext.drew ?_ | with_reducible refine Ext.drewN ?_ _ | with_reducible assumption)))).mono ?_); rintro r w' ⟨rfl, x2, rfl⟩))
      go_returns
      exact ⟨reti rfl RR.out, by (repeat' (first | with_reducible exact Ext.refl _ | with_reducible refine Ext.ext ?_ _ | with_reducible refine Ext.alloc ?_ _ | with_reducible refine Ext.drew ?_ | with_reducible refine Ext.drewN ?_ _ | with_reducible assumption))⟩
    · obtain ⟨x, hx, -, -, -, hi⟩ := hasB_some hh
      have RR := Lib.hid (show (x.l.length : Int) = R by rw [HR.out, lenS, HRT.out, hi]; rfl)
      clear hh hi
      generalize posB l e f t = p at *
      obtain ⟨b, off, u, rfl, ⟨ua, uc, rfl, -⟩, hc, rfl, hlt⟩ := H.out.at hx
      have q3 : w.cell? ⟨b, off + p * 4 + 3, none⟩ = some (.slice ua x.l.length uc) := hc 3 _ (by decide) rfl
      haveI : LtSz b w.heap.size := ⟨World.block_lt_of_cell? _ _ q3⟩
      have i1 : (0 : Int) ≤ p := by omega
      have i2 : (p : Int) < l.length := by omega
      clear hc hx hlt
      go_enter Try.func15, Try.ntmps15
      go_wp2_with (first | (go_at_call 10; (with_reducible refine (RG.out _ (by (repeat' (first | with_reducible exact Ext.refl _ | with_reducible refine Ext.ext ?_ _ | with_reducible refine Ext.alloc ?_ _ | with_reducible refine Ext.drew ?_ | with_reducible refine Ext.drewN ?_ _ | with_reducible assumption)))).mono ?_); rintro r w' ⟨rfl, x1, rfl⟩) | (go_at_call 20; (with_reducible refine (FX.out _ (by (repeat' (first | with_reducible exact Ext.refl _ | with_reducible refine Ext.ext ?_ _ | with_reducible refine Ext.alloc ?_ _ | with_reducible refine Ext.drew ?_ | with_reducible refine Ext.drewN ?_ _ | with_reducible assumption)))).mono ?_); rintro r w' ⟨rfl, x2, rfl⟩))
      go_returns
      exact ⟨reti rfl RR.out, by (repeat' (first | with_reducible exact Ext.refl _ | with_reducible refine Ext.ext ?_ _ | with_reducible refine Ext.alloc ?_ _ | with_reducible refine Ext.drew ?_ | with_reducible refine Ext.drewN ?_ _ | with_reducible assumption))⟩
def allS (l : List Bx) : List Mg := if rightB l then l.flatMap (·.l) else []
theorem flat_len {l : List Bx} (h : ∀ x ∈ l, x.l.length ≤ 4096) : (l.flatMap (·.l)).length ≤ l.length * 4096 := by
  induction l with
  | nil => simp
  | cons x l ih =>
    have h1 := h x List.mem_cons_self
    have h2 := ih (fun y hy => h y (List.mem_cons_of_mem _ hy))
    simp only [List.flatMap_cons, List.length_append, List.length_cons]
    omega
theorem right_len {l : List Bx} (h : rightB l = true) : ∀ x ∈ l, x.l.length ≤ 4096 := fun x hx => by
  unfold rightB at h
  simp only [Bool.and_eq_true] at h
  have := List.all_eq_true.1 h.1 x hx
  unfold okB at this
  simp at this
  omega
theorem flat_snoc {l : List Bx} {j : Nat} {x : Bx} (h : l[j]? = some x) : (l.take (j + 1)).flatMap (·.l) = (l.take j).flatMap (·.l) ++ x.l := by
  rw [List.take_add_one, h]
  simp
/-- Appends what reads onto an own row of messages. -/
theorem push_ms {ops : Array Oper} {rest : List Oper} {o : Oper} {a : Act} {Q : Exit → Act → World → Prop} (hgd : o.guard = none) (s x : Operand) (ho : o.op = .call { callee := .builtin .append, args := #[s, x], argTypes := #[32, 32] })
    (w0 w1 : World) (hx0 : Ext w0 w1) (l m : List Mg) (v u : Value) (h : ElG 29 10 mgs w1 w0.heap.size l v) (hu : RbG 10 mgs w1 m u) (hs : a.eval s = v) (hx : a.eval x = u) (hl : l.length + m.length ≤ 1073741823)
    (k : ∀ v' w', Ext w0 w' → ElG 29 10 mgs w' w0.heap.size (l ++ m) v' → wpList Try.prog ops Q rest (a.put o.dst v') w') :
    wpList Try.prog ops Q (o :: rest) a w1 := by
  obtain ⟨a', c', rfl, hown⟩ := h
  obtain ⟨b', d', rfl, hrd⟩ := hu
  refine wpList_app hgd s x 32 ho 29 _ 10 80 Try.underlying32 mg_info rfl (by decide) w0 hx0 w0.heap.size _ l.length (mgs l) hown m.length _ (mgs m) hs hx hrd (mgs_one m) (by unfold maxLen; omega) (by omega) (Ext.grows hx0 none).size (Nat.le_refl _) ?_
  intro b c y hown1 hgr hat
  refine k _ _ ⟨y, rfl⟩ ⟨b, c, ?_, ?_⟩
  · rw [List.length_append]
  · rw [List.length_append, mgs_append]
    exact hown1
set_option maxHeartbeats 4000000 in
theorem all_own (l : List Bx) (a : Option Addr) (n c : Nat) (w : World) (h : RdsG shB w l (.slice a n c)) (hl : n ≤ 1000) (hm : ∀ x ∈ l, x.l.length ≤ 1073741823) :
    Calls Try.prog 18 #[.slice a n c] w fun r w' => ∃ v, r = .returned v ∧ Ext w w' ∧ ElG 29 10 mgs w' w.heap.size (allS l) v := by
  have RG := Lib.hid (fun W (hx : Ext w W) => right_any l a n c W (h.on hx) (by omega) hm)
  obtain ⟨br, hr⟩ : ∃ b, rightB l = b := ⟨_, rfl⟩
  rw [hr] at RG
  have H := Lib.hid h
  have HN := Lib.hid (rds_len h)
  have HL := Lib.hid hl
  have HRT := Lib.hid hr
  clear h hl hm hr
  cases br
  · have RR := Lib.hid (show allS l = [] by rw [allS, HRT.out]; rfl)
    go_enter Try.func18, Try.ntmps18
    go_wp2_with (go_at_call 10; (with_reducible refine (RG.out _ (by (repeat' (first | with_reducible exact Ext.refl _ | with_reducible refine Ext.ext ?_ _ | with_reducible refine Ext.alloc ?_ _ | with_reducible refine Ext.drew ?_ | with_reducible refine Ext.drewN ?_ _ | with_reducible assumption)))).mono ?_); rintro r w' ⟨rfl, x1, rfl⟩)
    go_returns
    exact ⟨_, rfl, by (repeat' (first | with_reducible exact Ext.refl _ | with_reducible refine Ext.ext ?_ _ | with_reducible refine Ext.alloc ?_ _ | with_reducible refine Ext.drew ?_ | with_reducible refine Ext.drewN ?_ _ | with_reducible assumption)), by rw [RR.out]; exact ElG.nil _ _ rfl⟩
  · have RR := Lib.hid (show allS l = l.flatMap (·.l) by rw [allS, HRT.out]; rfl)
    have ML := Lib.hid (right_len HRT.out)
    go_enter Try.func18, Try.ntmps18
    go_wp2_with (go_at_call 10; (with_reducible refine (RG.out _ (by (repeat' (first | with_reducible exact Ext.refl _ | with_reducible refine Ext.ext ?_ _ | with_reducible refine Ext.alloc ?_ _ | with_reducible refine Ext.drew ?_ | with_reducible refine Ext.drewN ?_ _ | with_reducible assumption)))).mono ?_); rintro r w1 ⟨rfl, hx⟩; have HX1 := Lib.hid hx; clear hx)
    go_loopw [3, 11] (fun v i wr => ∃ j : Nat, j ≤ n ∧ i = .int .i64 j ∧ Ext w wr ∧ ElG 29 10 mgs wr w.heap.size ((l.take j).flatMap (·.l)) v) (fun _ i _ => n - (intOf i).toNat)
    case atStart => exact ⟨0, by omega, rfl, HX1.out, ElG.nil _ _ rfl⟩
    case round =>
      obtain ⟨j, hj, rfl, hx, he⟩ := hrel
      have HX2 := Lib.hid hx
      have HE := Lib.hid he
      clear hx
      by_cases hlt : j < n
      · obtain ⟨x, hx⟩ : ∃ x, l[j]? = some x := ⟨l[j]'(by have := HN.out; omega), List.getElem?_eq_getElem _⟩
        obtain ⟨b, off, rfl⟩ := rds_some H.out (by omega)
        obtain ⟨u, hu, q0, q1, q2, q3⟩ := bx_at (H.out.on HX2.out) hx
        have HU := Lib.hid hu
        have i1 : (0 : Int) ≤ j := by omega
        have i2 : (j : Int) < n := by omega
        have EW := Lib.hid (show wrap64 ((j : Int) + 1) = ((j + 1 : Nat) : Int) from (IntWalk.wrap64_in _ ⟨by omega, by have := HL.out; omega⟩).trans (by omega))
        have SN := Lib.hid (flat_snoc hx)
        have LB := Lib.hid (show ((l.take j).flatMap (·.l)).length + x.l.length ≤ 1073741823 by
          have h1 := ML.out x (List.mem_of_getElem? hx)
          have h2 := flat_len (l := l.take j) (fun y hy => ML.out y (List.mem_of_mem_take hy))
          have h3 : (l.take j).length ≤ j := by rw [List.length_take]; omega
          have h4 : (l.take j).length * 4096 ≤ j * 4096 := Nat.mul_le_mul_right _ h3
          have := HL.out
          omega)
        generalize (l.take j).flatMap (·.l) = acc at *
        obtain ⟨va, vc, rfl, -⟩ := he
        obtain ⟨ua, uc, rfl, -⟩ := hu
        haveI : LtSz b wr.heap.size := ⟨World.block_lt_of_cell? _ _ q0⟩
        clear hx
        have ew := EW.out
        go_wp2_with (at_builtin; apply stop_here)
        unfold Stop
        refine push_ms rfl _ _ rfl w _ (HX2.out.alloc _) _ _ _ _ (HE.out.on ((Ext.refl _).alloc _)) (HU.out.on ((Ext.refl _).alloc _)) rfl rfl LB.out ?_
        intro v' w2 hx2 he2
        have HE2 := Lib.hid (And.intro hx2 he2)
        obtain ⟨va', vc', rfl, -⟩ := he2
        generalize (acc ++ x.l).length = k at *
        clear hx2
        have ew := EW.out
        go_wp2
        exact nat_up (P := fun i => Ext w w2 ∧ ElG 29 10 mgs w2 w.heap.size ((l.take i).flatMap (·.l)) _) EW.out hlt (by rw [SN.out]; exact HE2.out)
      · obtain rfl : j = n := by omega
        rw [show l.take j = l by rw [HN.out, List.take_length]] at HE he
        obtain ⟨va, vc, rfl, -⟩ := he
        go_wp2
        go_returns
        exact ⟨_, rfl, HX2.out, by rw [RR.out]; exact HE.out⟩
theorem all_any (l : List Bx) (a : Option Addr) (n c : Nat) (w : World) (h : RdsG shB w l (.slice a n c)) (hl : n ≤ 1000) (hm : ∀ x ∈ l, x.l.length ≤ 1073741823) :
    Calls Try.prog 18 #[.slice a n c] w fun r w' => ∃ v, r = .returned v ∧ Ext w w' ∧ RbG 10 mgs w' (allS l) v :=
  (all_own l a n c w h hl hm).mono fun _ _ ⟨v, h1, h2, h3⟩ => ⟨v, h1, h2, h3.rb⟩
end Go.Proofs.Ytlhmifkimnmnmaa
