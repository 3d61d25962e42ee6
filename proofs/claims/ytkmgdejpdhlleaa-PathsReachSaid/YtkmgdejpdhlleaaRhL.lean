/- Chain: the reference's Of. -/
import Derived.Test.YtkmgdejpdhlleaaRhG
import Derived.Test.YtkmgdejpdhlleaaRef1f
namespace Go.Proofs.Ytkmgdejpdhlleaa.Rc
set_option linter.unusedSimpArgs false
set_option linter.unusedVariables false
set_option maxRecDepth 100000
open Go.RowKit

def Rb (w : World) (l : List Tm) (v : Value) : Prop := ∃ a c, v = .slice a l.length c ∧ Rd w 5 l.length (.slice a l.length c) (tms l)
theorem Rb.on {w w' : World} {l : List Tm} {v : Value} (h : Rb w l v) (hx : Ext w w') : Rb w' l v := by
  obtain ⟨a, c, rfl, h⟩ := h
  exact ⟨a, c, rfl, h.of_ext hx⟩
section
variable {ops : Array Oper} {rest : List Oper} {o : Oper} {a : Act} {Q : Exit → Act → World → Prop}
theorem app_row {w : World} (hgd : o.guard = none) (s x : Operand) (ho : o.op = .call { callee := .builtin .append, args := #[s, x], argTypes := #[90, 90] })
    (w0 : World) (base : Nat) (l m : List Tm) (v u : Value) (hs : a.eval s = v) (hx : a.eval x = u) (hr : Row w0 base l v w) (hu : Rb w m u) (hb0 : w0.heap.size ≤ base) (hb : base ≤ w.heap.size) (hl : l.length + m.length ≤ 1073741823)
    (k : ∀ v' w', Row w0 base (l ++ m) v' w' → wpList Try.prog ops Q rest (a.put o.dst v') w') :
    wpList Try.prog ops Q (o :: rest) a w := by
  obtain ⟨a0, c0, rfl, hu⟩ := hu
  obtain ⟨hx0, a1, c1, rfl, hown⟩ := hr
  refine wpList_app hgd s x 90 ho 73 (.agg #[.int .i64 0, .int .i64 0, .int .i64 0, .int .i64 0, .int .i64 0]) 5 40 Try.underlying90 info_item' rfl (by decide) w0 hx0 base _ l.length (tms l) hown m.length _ (tms m) hs hx hu (tms_one m) (by unfold maxLen; omega) (by omega) hb hb0 ?_
  intro b c y hown1 hgr hat
  rw [← tms_append, ← List.length_append] at hown1
  rw [← List.length_append]
  exact k _ _ ⟨⟨y, rfl⟩, b, c, rfl, hown1⟩
end
/-- A literal of one timestamp reads. -/
theorem litT {W W1 : World} {b : Nat} {d a1 b1 c1 e1 : Int} (hx : Ext (W1.alloc (.cells #[.int .i64 d, .int .i64 a1, .int .i64 b1, .int .i64 c1, .int .i64 e1] 73)) W) (hb : b = W1.heap.size) : Rb W [⟨d, a1, b1, c1, e1⟩] (.slice (some ⟨b, 0, none⟩) 1 1) := by
  subst hb
  refine Rb.on ?_ hx
  refine ⟨_, 1, rfl, rfl, _, _, rfl, fun _ => ⟨W1.heap.size, 0, rfl, fun j u hu => ?_⟩⟩
  rw [Nat.zero_add, cell_of_row _ _ _ _ _ (0, 0) (heap_alloc_new W1 _)]
  simpa [tms] using hu
theorem list_any (t : Tm) (w : World) : Calls Try.prog 142 #[.agg #[.int .i64 t.d, .int .i64 t.a, .int .i64 t.b, .int .i64 t.c, .int .i64 t.e]] w fun r w' => ∃ a n c, r = .returned (.tuple #[.slice a n c, .bool (rightB t)]) ∧ Ext w w' := by
  obtain ⟨d, a, b, c, e⟩ := t
  cases h : rightB ⟨d, a, b, c, e⟩
  · exact (list_no d a b c e w h).mono fun r w' ⟨h1, h2⟩ => ⟨_, _, _, h1, h2⟩
  · exact (list_yes d a b c e w h).mono fun r w' ⟨g, cap, h1, h2, _⟩ => ⟨_, _, _, h1, h2⟩
/-- Five cells written. -/
def set5 (w : World) (g off : Nat) (t : Tm) : World := ((((w.setCell ⟨g, off, none⟩ (.int .i64 t.d)).setCell ⟨g, off + 1, none⟩ (.int .i64 t.a)).setCell ⟨g, off + 2, none⟩ (.int .i64 t.b)).setCell ⟨g, off + 3, none⟩ (.int .i64 t.c)).setCell ⟨g, off + 4, none⟩ (.int .i64 t.e)
theorem set5_ext {w W : World} {g : Nat} {t : Tm} (h : Ext w W) (hg : w.heap.size ≤ g) (off : Nat) : Ext w (set5 W g off t) := by
  unfold set5
  exact ((((h.setCell hg _).setCell hg _).setCell hg _).setCell hg _).setCell hg _
theorem own_set5 {w : World} {b g n c i : Nat} {t : Tm} {ys : List Tm} (h : w.ownsRow b 73 5 (.slice (some ⟨g, 0, none⟩) n c) n (tms ys)) (hi : i < ys.length) : (set5 w g (i * 5) t).ownsRow b 73 5 (.slice (some ⟨g, 0, none⟩) n c) n (tms (ys.set i t)) := by
  rw [← tms_set _ _ _ hi]
  exact own_put (own_put (own_put (own_put (own_put h _) _) _) _) _
theorem lessI (a b : Nat) : decide ((a : Int) < (b : Int)) = decide (a < b) := by simp
set_option maxRecDepth 100000 in
set_option maxHeartbeats 8000000 in
theorem refOf_any (l : List Tm) (a : Option Addr) (c : Nat) (w : World) (h : Rd w 5 l.length (.slice a l.length c) (tms l)) (hn : l.length ≤ 1073741823) :
    Calls Try.prog 102 #[.slice a l.length c] w fun e w' => ∃ v', e = .returned v' ∧ Row w w.heap.size (refT l l.length) v' w' := by
  have H := Lib.hid h
  have HN := Lib.hid hn
  clear h hn
  go_enter Try.func102, Try.ntmps102
  go_wp2
  go_loopw [4, 3] (fun si so wr => ∃ i : Nat, i ≤ l.length ∧ si = .int .i64 i ∧ Row w w.heap.size (refT l i) so wr) (fun si _ _ => l.length - (intOf si).toNat)
  case atStart => exact ⟨0, by omega, rfl, by (repeat' (first | with_reducible exact Ext.refl _ | with_reducible refine Ext.ext ?_ _ | with_reducible refine Ext.alloc ?_ _ | with_reducible refine Ext.drew ?_ | with_reducible refine Ext.drewN ?_ _ | with_reducible assumption)), none, 0, rfl, World.ownsRow_nil _ _ _ _⟩
  case round =>
    obtain ⟨i, hi, rfl, hx, ao, co, rfl, ho⟩ := hrel
    obtain ⟨w1, hw1⟩ : ∃ x, x = wr := ⟨_, rfl⟩
    subst hw1
    have HX1 := Lib.hid hx
    have HO := Lib.hid ho
    clear hx ho
    by_cases hlt : i < l.length
    · obtain ⟨x, hx⟩ : ∃ x, l[i]? = some x := ⟨l[i], List.getElem?_eq_getElem _⟩
      obtain ⟨b, off, rfl, -⟩ := H.out.cells (by omega)
      obtain ⟨q0, q1, q2, q3, q4⟩ := tm_at (H.out.of_ext HX1.out) i x hx
      have i1 : (0 : Int) ≤ i := by omega
      have i2 : (i : Int) < l.length := by omega
      have hri : refT l (i + 1) = if lowTo l i x l.length then insT (refT l i) x else refT l i := by
        rw [refT, hx]
      have hfr : lowTo l i x l.length = true → x ∉ refT l i ∧ rightB x = true := fun h => ⟨fresh_refT h, ((lowTo_iff _ _ _ _).1 h).1⟩
      have hrs := refT_rs (l := l) i
      have hrl := refT_len l i
      have FIN := Lib.hid (show ∀ v' W', Row w w.heap.size (refT l (i + 1)) v' W' → (∃ j : Nat, j ≤ l.length ∧ Value.int .i64 (wrap64 ((i : Int) + 1)) = .int .i64 j ∧ Row w w.heap.size (refT l j) v' W') ∧ l.length - (intOf (Value.int .i64 (wrap64 ((i : Int) + 1)))).toNat < l.length - (intOf (Value.int .i64 (i : Int))).toNat from fun v' W' h2 => by
        have ew : wrap64 ((i : Int) + 1) = ((i + 1 : Nat) : Int) := (IntWalk.wrap64_in _ ⟨by omega, by have := HN.out; omega⟩).trans (by omega)
        exact ⟨⟨i + 1, by omega, congrArg (Value.int .i64) ew, h2⟩, by rw [ew]; simp only [intOf]; omega⟩)
      have HRI := Lib.hid hri
      have HFR := Lib.hid hfr
      have HRS := Lib.hid hrs
      have HRL := Lib.hid hrl
      clear hri hfr hrs hrl
      generalize refT l i = o at *
      haveI : LtSz b w1.heap.size := ⟨World.block_lt_of_cell? _ _ q0⟩
      have HXI := Lib.hid hx
      have LI := Lib.hid (fun W => list_any x W)
      obtain ⟨xd, xa, xb, xc, xe⟩ := x
      dsimp only at q0 q1 q2 q3 q4 LI
      clear hx
      have HL0 : lowTo l i ⟨xd, xa, xb, xc, xe⟩ 0 = rightB ⟨xd, xa, xb, xc, xe⟩ := rfl
      rw [← HL0] at LI
      clear HL0
      obtain ⟨X, hX⟩ : ∃ X : Tm, X = ⟨xd, xa, xb, xc, xe⟩ := ⟨_, rfl⟩
      rw [← hX] at LI HRI HFR HXI
      have HX := Lib.hid hX
      clear hX
      go_wp2_with (go_at_call 142; (with_reducible refine (LI.out _).mono ?_); rintro e w2 ⟨g0, n0, k0, rfl, hx⟩; have HX2 := Lib.hid hx; clear hx)
      go_loopw [7, 6] (fun sk sl wr => ∃ k : Nat, k ≤ l.length ∧ sk = .int .i64 k ∧ sl = .bool (lowTo l i X k) ∧ Ext w2 wr) (fun sk _ _ => l.length - (intOf sk).toNat)
      case atStart => exact ⟨0, by omega, rfl, rfl, by (repeat' (first | with_reducible exact Ext.refl _ | with_reducible refine Ext.ext ?_ _ | with_reducible refine Ext.alloc ?_ _ | with_reducible refine Ext.drew ?_ | with_reducible refine Ext.drewN ?_ _ | with_reducible refine Ext.trans ?_ HX1.out | with_reducible refine Ext.trans ?_ HX2.out | with_reducible refine Ext.trans ?_ HX3.out | with_reducible refine Ext.trans ?_ HX4.out | with_reducible refine Ext.trans ?_ HX5.out | with_reducible refine Ext.trans ?_ HX6.out | with_reducible refine Ext.trans ?_ HX7.out | with_reducible refine Ext.trans ?_ HX8.out | with_reducible refine Ext.trans ?_ HX9.out | with_reducible refine Ext.trans ?_ HX10.out | with_reducible refine Ext.trans ?_ HX11.out | with_reducible refine Ext.trans ?_ HX12.out | with_reducible refine Ext.trans ?_ HX13.out | with_reducible refine Ext.trans ?_ HX14.out | with_reducible refine Ext.trans ?_ HX15.out | with_reducible refine Ext.trans ?_ HX16.out | with_reducible refine Ext.trans ?_ HX17.out | with_reducible refine Ext.trans ?_ HX18.out | with_reducible refine Ext.trans ?_ HX19.out | with_reducible refine Ext.trans ?_ HX20.out | with_reducible refine Ext.trans ?_ HX21.out | with_reducible refine Ext.trans ?_ HX22.out | with_reducible refine Ext.trans ?_ HX23.out | with_reducible refine Ext.trans ?_ HX24.out))⟩
      case round =>
        obtain ⟨k, hk, rfl, rfl, hx⟩ := hrel
        obtain ⟨w3, hw3⟩ : ∃ x, x = wr := ⟨_, rfl⟩
        subst hw3
        have HX3 := Lib.hid hx
        clear hx
        by_cases hlt2 : k < l.length
        · obtain ⟨y, hy⟩ : ∃ y, l[k]? = some y := ⟨l[k], List.getElem?_eq_getElem _⟩
          have hbad := badB_at (i := i) (x := X) hy
          obtain ⟨p0, p1, p2, p3, p4⟩ := tm_at (H.out.of_ext (w' := w3) (by (repeat' (first | with_reducible exact Ext.refl _ | with_reducible refine Ext.ext ?_ _ | with_reducible refine Ext.alloc ?_ _ | with_reducible refine Ext.drew ?_ | with_reducible refine Ext.drewN ?_ _ | with_reducible refine Ext.trans ?_ HX1.out | with_reducible refine Ext.trans ?_ HX2.out | with_reducible refine Ext.trans ?_ HX3.out | with_reducible refine Ext.trans ?_ HX4.out | with_reducible refine Ext.trans ?_ HX5.out | with_reducible refine Ext.trans ?_ HX6.out | with_reducible refine Ext.trans ?_ HX7.out | with_reducible refine Ext.trans ?_ HX8.out | with_reducible refine Ext.trans ?_ HX9.out | with_reducible refine Ext.trans ?_ HX10.out | with_reducible refine Ext.trans ?_ HX11.out | with_reducible refine Ext.trans ?_ HX12.out | with_reducible refine Ext.trans ?_ HX13.out | with_reducible refine Ext.trans ?_ HX14.out | with_reducible refine Ext.trans ?_ HX15.out | with_reducible refine Ext.trans ?_ HX16.out | with_reducible refine Ext.trans ?_ HX17.out | with_reducible refine Ext.trans ?_ HX18.out | with_reducible refine Ext.trans ?_ HX19.out | with_reducible refine Ext.trans ?_ HX20.out | with_reducible refine Ext.trans ?_ HX21.out | with_reducible refine Ext.trans ?_ HX22.out | with_reducible refine Ext.trans ?_ HX23.out | with_reducible refine Ext.trans ?_ HX24.out)))) k y hy
          obtain ⟨r0, r1, r2, r3, r4⟩ := tm_at (H.out.of_ext (w' := w3) (by (repeat' (first | with_reducible exact Ext.refl _ | with_reducible refine Ext.ext ?_ _ | with_reducible refine Ext.alloc ?_ _ | with_reducible refine Ext.drew ?_ | with_reducible refine Ext.drewN ?_ _ | with_reducible refine Ext.trans ?_ HX1.out | with_reducible refine Ext.trans ?_ HX2.out | with_reducible refine Ext.trans ?_ HX3.out | with_reducible refine Ext.trans ?_ HX4.out | with_reducible refine Ext.trans ?_ HX5.out | with_reducible refine Ext.trans ?_ HX6.out | with_reducible refine Ext.trans ?_ HX7.out | with_reducible refine Ext.trans ?_ HX8.out | with_reducible refine Ext.trans ?_ HX9.out | with_reducible refine Ext.trans ?_ HX10.out | with_reducible refine Ext.trans ?_ HX11.out | with_reducible refine Ext.trans ?_ HX12.out | with_reducible refine Ext.trans ?_ HX13.out | with_reducible refine Ext.trans ?_ HX14.out | with_reducible refine Ext.trans ?_ HX15.out | with_reducible refine Ext.trans ?_ HX16.out | with_reducible refine Ext.trans ?_ HX17.out | with_reducible refine Ext.trans ?_ HX18.out | with_reducible refine Ext.trans ?_ HX19.out | with_reducible refine Ext.trans ?_ HX20.out | with_reducible refine Ext.trans ?_ HX21.out | with_reducible refine Ext.trans ?_ HX22.out | with_reducible refine Ext.trans ?_ HX23.out | with_reducible refine Ext.trans ?_ HX24.out)))) i X HXI.out
          rw [HX.out] at r0 r1 r2 r3 r4
          haveI : LtSz b w3.heap.size := ⟨World.block_lt_of_cell? _ _ r0⟩
          have j1 : (0 : Int) ≤ k := by omega
          have j2 : (k : Int) < l.length := by omega
          have ek : wrap64 ((k : Int) + 1) = ((k + 1 : Nat) : Int) := (IntWalk.wrap64_in _ ⟨by omega, by have := HN.out; omega⟩).trans (by omega)
          have hle : ∀ W, Calls Try.prog 100 #[.agg #[.int .i64 y.d, .int .i64 y.a, .int .i64 y.b, .int .i64 y.c, .int .i64 y.e], .agg #[.int .i64 xd, .int .i64 xa, .int .i64 xb, .int .i64 xc, .int .i64 xe]] W fun r w' => r = .returned (.bool (leB y X)) ∧ Ext W w' := fun W => by
            rw [HX.out]
            exact ref_le_any y.d y.a y.b y.c y.e xd xa xb xc xe W
          have RL := Lib.hid hle
          have hst : lowTo l i X (k + 1) = (lowTo l i X k && !badB l i X k) := rfl
          rw [hbad] at hst
          obtain ⟨bq, f1⟩ : ∃ b, eqT y X = b := ⟨_, rfl⟩
          obtain ⟨bl, f2⟩ : ∃ b, leB y X = b := ⟨_, rfl⟩
          obtain ⟨bd, f3⟩ : ∃ b, decide (k < i) = b := ⟨_, rfl⟩
          have f3' : decide ((k : Int) < (i : Int)) = bd := by rw [lessI]; exact f3
          rw [f1, f2, f3] at hst
          rw [f2] at RL
          have f1' : (y.d == xd && (y.a == xa && (y.b == xb && (y.c == xc && y.e == xe)))) = bq := by rw [← f1, HX.out]; rfl
          obtain ⟨yd, ya, yb, yc, ye⟩ := y
          dsimp only at p0 p1 p2 p3 p4 r0 r1 r2 r3 r4 RL f1'
          have HST := Lib.hid hst
          clear hst hbad hy f1 f2 hle
          have FK := Lib.hid (show ∀ v W, Ext w2 W → v = lowTo l i X (k + 1) → (∃ k' : Nat, k' ≤ l.length ∧ Value.int .i64 (wrap64 ((k : Int) + 1)) = .int .i64 k' ∧ Value.bool v = .bool (lowTo l i X k') ∧ Ext w2 W) ∧ l.length - (intOf (Value.int .i64 (wrap64 ((k : Int) + 1)))).toNat < l.length - (intOf (Value.int .i64 (k : Int))).toNat from fun v W h1 h2 => ⟨⟨k + 1, by omega, congrArg (Value.int .i64) ek, congrArg Value.bool h2, h1⟩, by rw [ek]; simp only [intOf]; omega⟩)
          clear ek
          cases bq
          · cases bl
            · cases bd
              all_goals
                go_wp2
                refine wp_region_ext (by kernel_rfl) (by kernel_rfl) ?_
                repeat (go_big_quiet_step (first | (go_at_call 100; (apply quiet_of; (with_reducible exact RL.out _); (intro w' hx; obtain ⟨z, rfl⟩ := hx; (try simp only [ext_ext, add_assoc]); exact ⟨_, rfl⟩)))))
                refine wpQuiet_nil ?_
                intro xK
                go_wp2
                exact FK.out _ _ (by (repeat' (first | with_reducible exact Ext.refl _ | with_reducible refine Ext.ext ?_ _ | with_reducible refine Ext.alloc ?_ _ | with_reducible refine Ext.drew ?_ | with_reducible refine Ext.drewN ?_ _ | with_reducible refine Ext.trans ?_ HX1.out | with_reducible refine Ext.trans ?_ HX2.out | with_reducible refine Ext.trans ?_ HX3.out | with_reducible refine Ext.trans ?_ HX4.out | with_reducible refine Ext.trans ?_ HX5.out | with_reducible refine Ext.trans ?_ HX6.out | with_reducible refine Ext.trans ?_ HX7.out | with_reducible refine Ext.trans ?_ HX8.out | with_reducible refine Ext.trans ?_ HX9.out | with_reducible refine Ext.trans ?_ HX10.out | with_reducible refine Ext.trans ?_ HX11.out | with_reducible refine Ext.trans ?_ HX12.out | with_reducible refine Ext.trans ?_ HX13.out | with_reducible refine Ext.trans ?_ HX14.out | with_reducible refine Ext.trans ?_ HX15.out | with_reducible refine Ext.trans ?_ HX16.out | with_reducible refine Ext.trans ?_ HX17.out | with_reducible refine Ext.trans ?_ HX18.out | with_reducible refine Ext.trans ?_ HX19.out | with_reducible refine Ext.trans ?_ HX20.out | with_reducible refine Ext.trans ?_ HX21.out | with_reducible refine Ext.trans ?_ HX22.out | with_reducible refine Ext.trans ?_ HX23.out | with_reducible refine Ext.trans ?_ HX24.out))) (by rw [HST.out]; simp)
            · cases bd
              all_goals
                go_wp2
                refine wp_region_ext (by kernel_rfl) (by kernel_rfl) ?_
                repeat (go_big_quiet_step (first | (go_at_call 100; (apply quiet_of; (with_reducible exact RL.out _); (intro w' hx; obtain ⟨z, rfl⟩ := hx; (try simp only [ext_ext, add_assoc]); exact ⟨_, rfl⟩)))))
                refine wpQuiet_nil ?_
                intro xK
                go_wp2
                exact FK.out _ _ (by (repeat' (first | with_reducible exact Ext.refl _ | with_reducible refine Ext.ext ?_ _ | with_reducible refine Ext.alloc ?_ _ | with_reducible refine Ext.drew ?_ | with_reducible refine Ext.drewN ?_ _ | with_reducible refine Ext.trans ?_ HX1.out | with_reducible refine Ext.trans ?_ HX2.out | with_reducible refine Ext.trans ?_ HX3.out | with_reducible refine Ext.trans ?_ HX4.out | with_reducible refine Ext.trans ?_ HX5.out | with_reducible refine Ext.trans ?_ HX6.out | with_reducible refine Ext.trans ?_ HX7.out | with_reducible refine Ext.trans ?_ HX8.out | with_reducible refine Ext.trans ?_ HX9.out | with_reducible refine Ext.trans ?_ HX10.out | with_reducible refine Ext.trans ?_ HX11.out | with_reducible refine Ext.trans ?_ HX12.out | with_reducible refine Ext.trans ?_ HX13.out | with_reducible refine Ext.trans ?_ HX14.out | with_reducible refine Ext.trans ?_ HX15.out | with_reducible refine Ext.trans ?_ HX16.out | with_reducible refine Ext.trans ?_ HX17.out | with_reducible refine Ext.trans ?_ HX18.out | with_reducible refine Ext.trans ?_ HX19.out | with_reducible refine Ext.trans ?_ HX20.out | with_reducible refine Ext.trans ?_ HX21.out | with_reducible refine Ext.trans ?_ HX22.out | with_reducible refine Ext.trans ?_ HX23.out | with_reducible refine Ext.trans ?_ HX24.out))) (by rw [HST.out]; simp)
          · cases bd
            all_goals
              go_wp2
              refine wp_region_ext (by kernel_rfl) (by kernel_rfl) ?_
              repeat (go_big_quiet_step (first | (go_at_call 100; (apply quiet_of; (with_reducible exact RL.out _); (intro w' hx; obtain ⟨z, rfl⟩ := hx; (try simp only [ext_ext, add_assoc]); exact ⟨_, rfl⟩)))))
              refine wpQuiet_nil ?_
              intro xK
              go_wp2
              exact FK.out _ _ (by (repeat' (first | with_reducible exact Ext.refl _ | with_reducible refine Ext.ext ?_ _ | with_reducible refine Ext.alloc ?_ _ | with_reducible refine Ext.drew ?_ | with_reducible refine Ext.drewN ?_ _ | with_reducible refine Ext.trans ?_ HX1.out | with_reducible refine Ext.trans ?_ HX2.out | with_reducible refine Ext.trans ?_ HX3.out | with_reducible refine Ext.trans ?_ HX4.out | with_reducible refine Ext.trans ?_ HX5.out | with_reducible refine Ext.trans ?_ HX6.out | with_reducible refine Ext.trans ?_ HX7.out | with_reducible refine Ext.trans ?_ HX8.out | with_reducible refine Ext.trans ?_ HX9.out | with_reducible refine Ext.trans ?_ HX10.out | with_reducible refine Ext.trans ?_ HX11.out | with_reducible refine Ext.trans ?_ HX12.out | with_reducible refine Ext.trans ?_ HX13.out | with_reducible refine Ext.trans ?_ HX14.out | with_reducible refine Ext.trans ?_ HX15.out | with_reducible refine Ext.trans ?_ HX16.out | with_reducible refine Ext.trans ?_ HX17.out | with_reducible refine Ext.trans ?_ HX18.out | with_reducible refine Ext.trans ?_ HX19.out | with_reducible refine Ext.trans ?_ HX20.out | with_reducible refine Ext.trans ?_ HX21.out | with_reducible refine Ext.trans ?_ HX22.out | with_reducible refine Ext.trans ?_ HX23.out | with_reducible refine Ext.trans ?_ HX24.out))) (by rw [HST.out]; simp)
        · obtain rfl : k = l.length := by omega
          cases hlow : lowTo l i X l.length
          · go_wp2
            have HE := HRI.out
            rw [hlow, if_neg (by decide)] at HE
            refine FIN.out _ _ ?_
            rw [HE]
            exact ⟨HX1.out.trans (by (repeat' (first | with_reducible exact Ext.refl _ | with_reducible refine Ext.ext ?_ _ | with_reducible refine Ext.alloc ?_ _ | with_reducible refine Ext.drew ?_ | with_reducible refine Ext.drewN ?_ _ | with_reducible refine Ext.trans ?_ HX1.out | with_reducible refine Ext.trans ?_ HX2.out | with_reducible refine Ext.trans ?_ HX3.out | with_reducible refine Ext.trans ?_ HX4.out | with_reducible refine Ext.trans ?_ HX5.out | with_reducible refine Ext.trans ?_ HX6.out | with_reducible refine Ext.trans ?_ HX7.out | with_reducible refine Ext.trans ?_ HX8.out | with_reducible refine Ext.trans ?_ HX9.out | with_reducible refine Ext.trans ?_ HX10.out | with_reducible refine Ext.trans ?_ HX11.out | with_reducible refine Ext.trans ?_ HX12.out | with_reducible refine Ext.trans ?_ HX13.out | with_reducible refine Ext.trans ?_ HX14.out | with_reducible refine Ext.trans ?_ HX15.out | with_reducible refine Ext.trans ?_ HX16.out | with_reducible refine Ext.trans ?_ HX17.out | with_reducible refine Ext.trans ?_ HX18.out | with_reducible refine Ext.trans ?_ HX19.out | with_reducible refine Ext.trans ?_ HX20.out | with_reducible refine Ext.trans ?_ HX21.out | with_reducible refine Ext.trans ?_ HX22.out | with_reducible refine Ext.trans ?_ HX23.out | with_reducible refine Ext.trans ?_ HX24.out))), ao, co, rfl, own_of_extY HO.out (by (repeat' (first | with_reducible exact Ext.refl _ | with_reducible refine Ext.ext ?_ _ | with_reducible refine Ext.alloc ?_ _ | with_reducible refine Ext.drew ?_ | with_reducible refine Ext.drewN ?_ _ | with_reducible refine Ext.trans ?_ HX1.out | with_reducible refine Ext.trans ?_ HX2.out | with_reducible refine Ext.trans ?_ HX3.out | with_reducible refine Ext.trans ?_ HX4.out | with_reducible refine Ext.trans ?_ HX5.out | with_reducible refine Ext.trans ?_ HX6.out | with_reducible refine Ext.trans ?_ HX7.out | with_reducible refine Ext.trans ?_ HX8.out | with_reducible refine Ext.trans ?_ HX9.out | with_reducible refine Ext.trans ?_ HX10.out | with_reducible refine Ext.trans ?_ HX11.out | with_reducible refine Ext.trans ?_ HX12.out | with_reducible refine Ext.trans ?_ HX13.out | with_reducible refine Ext.trans ?_ HX14.out | with_reducible refine Ext.trans ?_ HX15.out | with_reducible refine Ext.trans ?_ HX16.out | with_reducible refine Ext.trans ?_ HX17.out | with_reducible refine Ext.trans ?_ HX18.out | with_reducible refine Ext.trans ?_ HX19.out | with_reducible refine Ext.trans ?_ HX20.out | with_reducible refine Ext.trans ?_ HX21.out | with_reducible refine Ext.trans ?_ HX22.out | with_reducible refine Ext.trans ?_ HX23.out | with_reducible refine Ext.trans ?_ HX24.out)))⟩
          · have HE := HRI.out
            rw [hlow, if_pos rfl] at HE
            obtain ⟨hfresh, hright⟩ := HFR.out hlow
            have HEH := Lib.hid HE
            have HFH := Lib.hid (And.intro hfresh hright)
            clear HE hfresh hright hlow
            have r3 := (own_rd HO.out).len
            obtain ⟨q0, q1, q2, q3, q4⟩ := tm_at (H.out.of_ext (w' := w3) (by (repeat' (first | with_reducible exact Ext.refl _ | with_reducible refine Ext.ext ?_ _ | with_reducible refine Ext.alloc ?_ _ | with_reducible refine Ext.drew ?_ | with_reducible refine Ext.drewN ?_ _ | with_reducible refine Ext.trans ?_ HX1.out | with_reducible refine Ext.trans ?_ HX2.out | with_reducible refine Ext.trans ?_ HX3.out | with_reducible refine Ext.trans ?_ HX4.out | with_reducible refine Ext.trans ?_ HX5.out | with_reducible refine Ext.trans ?_ HX6.out | with_reducible refine Ext.trans ?_ HX7.out | with_reducible refine Ext.trans ?_ HX8.out | with_reducible refine Ext.trans ?_ HX9.out | with_reducible refine Ext.trans ?_ HX10.out | with_reducible refine Ext.trans ?_ HX11.out | with_reducible refine Ext.trans ?_ HX12.out | with_reducible refine Ext.trans ?_ HX13.out | with_reducible refine Ext.trans ?_ HX14.out | with_reducible refine Ext.trans ?_ HX15.out | with_reducible refine Ext.trans ?_ HX16.out | with_reducible refine Ext.trans ?_ HX17.out | with_reducible refine Ext.trans ?_ HX18.out | with_reducible refine Ext.trans ?_ HX19.out | with_reducible refine Ext.trans ?_ HX20.out | with_reducible refine Ext.trans ?_ HX21.out | with_reducible refine Ext.trans ?_ HX22.out | with_reducible refine Ext.trans ?_ HX23.out | with_reducible refine Ext.trans ?_ HX24.out)))) i X HXI.out
            rw [HX.out] at q0 q1 q2 q3 q4
            dsimp only at q0 q1 q2 q3 q4
            haveI : LtSz b w3.heap.size := ⟨World.block_lt_of_cell? _ _ q0⟩
            have lno : o.length ≤ 1073741822 := by have := HRL.out; have := HN.out; omega
            have LNO := Lib.hid lno
            go_wp2_with (at_builtin; refine app_row rfl _ _ rfl w w.heap.size o [⟨xd, xa, xb, xc, xe⟩] _ _ rfl rfl (by exact ⟨HX1.out.trans (by (repeat' (first | with_reducible exact Ext.refl _ | with_reducible refine Ext.ext ?_ _ | with_reducible refine Ext.alloc ?_ _ | with_reducible refine Ext.drew ?_ | with_reducible refine Ext.drewN ?_ _ | with_reducible refine Ext.trans ?_ HX1.out | with_reducible refine Ext.trans ?_ HX2.out | with_reducible refine Ext.trans ?_ HX3.out | with_reducible refine Ext.trans ?_ HX4.out | with_reducible refine Ext.trans ?_ HX5.out | with_reducible refine Ext.trans ?_ HX6.out | with_reducible refine Ext.trans ?_ HX7.out | with_reducible refine Ext.trans ?_ HX8.out | with_reducible refine Ext.trans ?_ HX9.out | with_reducible refine Ext.trans ?_ HX10.out | with_reducible refine Ext.trans ?_ HX11.out | with_reducible refine Ext.trans ?_ HX12.out | with_reducible refine Ext.trans ?_ HX13.out | with_reducible refine Ext.trans ?_ HX14.out | with_reducible refine Ext.trans ?_ HX15.out | with_reducible refine Ext.trans ?_ HX16.out | with_reducible refine Ext.trans ?_ HX17.out | with_reducible refine Ext.trans ?_ HX18.out | with_reducible refine Ext.trans ?_ HX19.out | with_reducible refine Ext.trans ?_ HX20.out | with_reducible refine Ext.trans ?_ HX21.out | with_reducible refine Ext.trans ?_ HX22.out | with_reducible refine Ext.trans ?_ HX23.out | with_reducible refine Ext.trans ?_ HX24.out))), ao, co, rfl, own_of_extY HO.out (by (repeat' (first | with_reducible exact Ext.refl _ | with_reducible refine Ext.ext ?_ _ | with_reducible refine Ext.alloc ?_ _ | with_reducible refine Ext.drew ?_ | with_reducible refine Ext.drewN ?_ _ | with_reducible refine Ext.trans ?_ HX1.out | with_reducible refine Ext.trans ?_ HX2.out | with_reducible refine Ext.trans ?_ HX3.out | with_reducible refine Ext.trans ?_ HX4.out | with_reducible refine Ext.trans ?_ HX5.out | with_reducible refine Ext.trans ?_ HX6.out | with_reducible refine Ext.trans ?_ HX7.out | with_reducible refine Ext.trans ?_ HX8.out | with_reducible refine Ext.trans ?_ HX9.out | with_reducible refine Ext.trans ?_ HX10.out | with_reducible refine Ext.trans ?_ HX11.out | with_reducible refine Ext.trans ?_ HX12.out | with_reducible refine Ext.trans ?_ HX13.out | with_reducible refine Ext.trans ?_ HX14.out | with_reducible refine Ext.trans ?_ HX15.out | with_reducible refine Ext.trans ?_ HX16.out | with_reducible refine Ext.trans ?_ HX17.out | with_reducible refine Ext.trans ?_ HX18.out | with_reducible refine Ext.trans ?_ HX19.out | with_reducible refine Ext.trans ?_ HX20.out | with_reducible refine Ext.trans ?_ HX21.out | with_reducible refine Ext.trans ?_ HX22.out | with_reducible refine Ext.trans ?_ HX23.out | with_reducible refine Ext.trans ?_ HX24.out)))⟩) (litT (by (repeat' (first | with_reducible exact Ext.refl _ | with_reducible refine Ext.ext ?_ _ | with_reducible refine Ext.alloc ?_ _ | with_reducible refine Ext.drew ?_ | with_reducible refine Ext.drewN ?_ _ | with_reducible refine Ext.trans ?_ HX1.out | with_reducible refine Ext.trans ?_ HX2.out | with_reducible refine Ext.trans ?_ HX3.out | with_reducible refine Ext.trans ?_ HX4.out | with_reducible refine Ext.trans ?_ HX5.out | with_reducible refine Ext.trans ?_ HX6.out | with_reducible refine Ext.trans ?_ HX7.out | with_reducible refine Ext.trans ?_ HX8.out | with_reducible refine Ext.trans ?_ HX9.out | with_reducible refine Ext.trans ?_ HX10.out | with_reducible refine Ext.trans ?_ HX11.out | with_reducible refine Ext.trans ?_ HX12.out | with_reducible refine Ext.trans ?_ HX13.out | with_reducible refine Ext.trans ?_ HX14.out | with_reducible refine Ext.trans ?_ HX15.out | with_reducible refine Ext.trans ?_ HX16.out | with_reducible refine Ext.trans ?_ HX17.out | with_reducible refine Ext.trans ?_ HX18.out | with_reducible refine Ext.trans ?_ HX19.out | with_reducible refine Ext.trans ?_ HX20.out | with_reducible refine Ext.trans ?_ HX21.out | with_reducible refine Ext.trans ?_ HX22.out | with_reducible refine Ext.trans ?_ HX23.out | with_reducible refine Ext.trans ?_ HX24.out))) (by first | rfl | (simp; done))) (Nat.le_refl _) ((Ext.grows (HX1.out.trans (by (repeat' (first | with_reducible exact Ext.refl _ | with_reducible refine Ext.ext ?_ _ | with_reducible refine Ext.alloc ?_ _ | with_reducible refine Ext.drew ?_ | with_reducible refine Ext.drewN ?_ _ | with_reducible refine Ext.trans ?_ HX1.out | with_reducible refine Ext.trans ?_ HX2.out | with_reducible refine Ext.trans ?_ HX3.out | with_reducible refine Ext.trans ?_ HX4.out | with_reducible refine Ext.trans ?_ HX5.out | with_reducible refine Ext.trans ?_ HX6.out | with_reducible refine Ext.trans ?_ HX7.out | with_reducible refine Ext.trans ?_ HX8.out | with_reducible refine Ext.trans ?_ HX9.out | with_reducible refine Ext.trans ?_ HX10.out | with_reducible refine Ext.trans ?_ HX11.out | with_reducible refine Ext.trans ?_ HX12.out | with_reducible refine Ext.trans ?_ HX13.out | with_reducible refine Ext.trans ?_ HX14.out | with_reducible refine Ext.trans ?_ HX15.out | with_reducible refine Ext.trans ?_ HX16.out | with_reducible refine Ext.trans ?_ HX17.out | with_reducible refine Ext.trans ?_ HX18.out | with_reducible refine Ext.trans ?_ HX19.out | with_reducible refine Ext.trans ?_ HX20.out | with_reducible refine Ext.trans ?_ HX21.out | with_reducible refine Ext.trans ?_ HX22.out | with_reducible refine Ext.trans ?_ HX23.out | with_reducible refine Ext.trans ?_ HX24.out)))) none).size) (by simp; omega) ?_; intro v4 w4 hb; obtain ⟨hx4, a4, c4, rfl, ho4⟩ := hb; obtain ⟨g, rfl, hgb⟩ := own_form ho4 (by simp); have HO4 := Lib.hid ho4; have HX4 := Lib.hid hx4; have HGB := Lib.hid hgb; clear ho4 hx4 hgb)
            have hl4 : (o ++ [(⟨xd, xa, xb, xc, xe⟩ : Tm)]).length = o.length + 1 := by simp
            have hs4 : w4.ownsRow w.heap.size 73 5 (.slice (some ⟨g, 0, none⟩) (o.length + 1) c4) (o.length + 1) (tms (insAt o X o.length)) := by
              have := HO4.out
              rw [hl4] at this
              rw [insAt_end, HX.out]
              exact this
            have HS4 := Lib.hid hs4
            clear hs4 hl4 HO4
            go_loopw [8] (fun sk wr => ∃ k : Nat, k ≤ o.length ∧ sk = .int .i64 k ∧ Ext w wr ∧ wr.ownsRow w.heap.size 73 5 (.slice (some ⟨g, 0, none⟩) (o.length + 1) c4) (o.length + 1) (tms (insAt o X k)) ∧ (∀ j y, k ≤ j → o[j]? = some y → lessB X y = true)) (fun sk _ => (intOf sk).toNat)
            case atStart => exact ⟨o.length, Nat.le_refl _, rfl, HX4.out, HS4.out, fun j y hj hy => by have := (List.getElem?_eq_some_iff.1 hy).1; omega⟩
            case round =>
              obtain ⟨k, hk, rfl, hx, ho5, hdone⟩ := hrel
              obtain ⟨w5, hw5⟩ : ∃ x, x = wr := ⟨_, rfl⟩
              subst hw5
              have HX5 := Lib.hid hx
              have HO5 := Lib.hid ho5
              have HD := Lib.hid hdone
              clear hx ho5 hdone
              have FIN2 := Lib.hid (show (k = 0 ∨ ∃ y, o[k - 1]? = some y ∧ lessB X y = false) → ∀ W', Ext w5 W' → Row w w.heap.size (refT l (i + 1)) (.slice (some ⟨g, 0, none⟩) (o.length + 1) c4) W' from fun hs W' hW => by
                rw [HEH.out, ← insAt_done HRS.out HFH.out.2 HFH.out.1 hk HD.out hs]
                have hl := insAt_len (x := X) hk
                refine ⟨HX5.out.trans hW, some ⟨g, 0, none⟩, c4, by rw [hl], ?_⟩
                rw [hl]
                exact own_of_extY HO5.out hW)
              rcases Nat.eq_zero_or_pos k with rfl | hpos
              · go_wp2
                refine wp_region_ext (by kernel_rfl) (by kernel_rfl) ?_
                repeat (go_big_quiet_step (fail))
                refine wpQuiet_nil ?_
                intro xK
                go_wp2
                exact FIN.out _ _ (FIN2.out (by simp) _ (by (repeat' (first | with_reducible exact Ext.refl _ | with_reducible refine Ext.ext ?_ _ | with_reducible refine Ext.alloc ?_ _ | with_reducible refine Ext.drew ?_ | with_reducible refine Ext.drewN ?_ _ | with_reducible assumption))))
              · obtain ⟨k, rfl⟩ : ∃ k', k = k' + 1 := ⟨k - 1, by omega⟩
                obtain ⟨y, hy⟩ : ∃ y, o[k]? = some y := ⟨o[k]'(by omega), List.getElem?_eq_getElem _⟩
                obtain ⟨p0, p1, p2, p3, p4⟩ := tm_at (own_rd HO5.out) (k + 1) X (insAt_self hk)
                obtain ⟨r0, r1, r2, r3, r4⟩ := tm_at (own_rd HO5.out) k y ((insAt_before hk (by omega)).trans hy)
                rw [HX.out] at p0 p1 p2 p3 p4
                rw [Nat.zero_add] at p0 p1 p2 p3 p4 r0 r1 r2 r3 r4
                haveI : LtSz g w5.heap.size := ⟨World.block_lt_of_cell? _ _ p0⟩
                have hle : ∀ W, Calls Try.prog 151 #[.agg #[.int .i64 xd, .int .i64 xa, .int .i64 xb, .int .i64 xc, .int .i64 xe], .agg #[.int .i64 y.d, .int .i64 y.a, .int .i64 y.b, .int .i64 y.c, .int .i64 y.e]] W fun r w' => r = .returned (.bool (lessB X y)) ∧ Ext W w' := fun W => by
                  rw [HX.out]
                  exact ref_less_any xd xa xb xc xe y.d y.a y.b y.c y.e W
                have RL := Lib.hid hle
                have HY := Lib.hid hy
                have SW := Lib.hid (insAt_swap (x := X) hk hy)
                have b1 : (0 : Int) < (k : Int) + 1 := by omega
                have b2 : (0 : Int) ≤ (k : Int) + 1 := by omega
                have b3 : (k : Int) + 1 < (o.length : Int) + 1 := by omega
                have b4 : (k : Int) < (o.length : Int) + 1 := by omega
                have b5 : (k : Int) + 1 ≤ 1073741823 := by omega
                obtain ⟨yd, ya, yb, yc, ye⟩ := y
                dsimp only at p0 p1 p2 p3 p4 r0 r1 r2 r3 r4 RL
                clear hle hy hpos
                cases hb : lessB X ⟨yd, ya, yb, yc, ye⟩
                · rw [hb] at RL
                  have HB := Lib.hid hb
                  clear hb
                  go_wp2
                  refine wp_region_ext (by kernel_rfl) (by kernel_rfl) ?_
                  repeat (go_big_quiet_step (first | (go_at_call 151; (apply quiet_of; (with_reducible exact RL.out _); (intro w' hx; obtain ⟨z, rfl⟩ := hx; (try simp only [ext_ext, add_assoc]); exact ⟨_, rfl⟩)))))
                  refine wpQuiet_nil ?_
                  intro xK
                  go_wp2
                  exact FIN.out _ _ (FIN2.out (.inr ⟨_, HY.out, HB.out⟩) _ (by (repeat' (first | with_reducible exact Ext.refl _ | with_reducible refine Ext.ext ?_ _ | with_reducible refine Ext.alloc ?_ _ | with_reducible refine Ext.drew ?_ | with_reducible refine Ext.drewN ?_ _ | with_reducible assumption))))
                · rw [hb] at RL
                  have HB := Lib.hid hb
                  clear hb
                  go_wp2
                  refine wp_region_ext (by kernel_rfl) (by kernel_rfl) ?_
                  repeat (go_big_quiet_step (first | (go_at_call 151; (apply quiet_of; (with_reducible exact RL.out _); (intro w' hx; obtain ⟨z, rfl⟩ := hx; (try simp only [ext_ext, add_assoc]); exact ⟨_, rfl⟩)))))
                  refine wpQuiet_nil ?_
                  intro xK
                  go_wp2
                  have hfz : ∀ q, w5.frozen? ⟨g, q, none⟩ = false := fun q => by
                    obtain ⟨-, -, -, -, -, cur, hg, -, -⟩ := own_parts HO5.out
                    exact frozen_row hg
                  go_region
                  go_wp2
                  have hl0 := insAt_len (x := X) hk
                  have hs1 := own_set5 (t := (⟨yd, ya, yb, yc, ye⟩ : Tm)) HO5.out (show k + 1 < (insAt o X (k + 1)).length by omega)
                  have hs2 := own_set5 (t := X) hs1 (show k < ((insAt o X (k + 1)).set (k + 1) (⟨yd, ya, yb, yc, ye⟩ : Tm)).length by rw [List.length_set]; omega)
                  rw [SW.out, HX.out] at hs2
                  refine ⟨⟨k, by omega, by first | rfl | exact congrArg (Value.int .i64) (by omega), Ext.ext (set5_ext (t := (⟨xd, xa, xb, xc, xe⟩ : Tm)) (set5_ext (t := (⟨yd, ya, yb, yc, ye⟩ : Tm)) HX5.out HGB.out _) HGB.out _) _, own_ext (by rw [HX.out]; exact hs2) _, fun j z hj hz => ?_⟩, by simp only [intOf]; omega⟩
                  rcases Nat.lt_or_ge k j with h | h
                  · exact HD.out j z h hz
                  · obtain rfl : k = j := by omega
                    rw [HY.out] at hz
                    cases hz
                    exact HB.out
    · obtain rfl : i = l.length := by omega
      go_wp2
      go_returns
      exact ⟨_, rfl, HX1.out, ao, co, rfl, HO.out⟩
end Go.Proofs.Ytkmgdejpdhlleaa.Rc
