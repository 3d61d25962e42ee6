/- Bag: Same, List. -/
import Derived.Test.YtbglfaomebokhaaBgR
namespace Go.Proofs.Ytbglfaomebokhaa
set_option linter.unusedSimpArgs false
set_option linter.unusedVariables false
open Go.RowKit

theorem bagSame_any (l m : List It) (a a' : Option Addr) (c c' : Nat) (w : World) (h : Rd w 3 l.length (.slice a l.length c) (its l)) (h' : Rd w 3 m.length (.slice a' m.length c') (its m)) (hn : l.length ≤ 1073741823) :
    Calls Try.prog 16 #[.slice a l.length c, .slice a' m.length c'] w fun e w' => e = .returned (.bool (sameB l m)) ∧ Ext w w' := by
  have E := Lib.hid (fun W (hx : Ext w W) => equal_any l m a a' c c' W (h.of_ext hx) (h'.of_ext hx) hn)
  generalize sameB l m = b at *
  clear h h' hn
  go_enter Try.func16, Try.ntmps16
  go_wp2_with (go_at_call 43; refine (E.out _ (by (repeat' (first | with_reducible exact Ext.refl _ | with_reducible refine Ext.ext ?_ _ | with_reducible refine Ext.alloc ?_ _ | with_reducible refine Ext.drew ?_ | with_reducible refine Ext.drewN ?_ _ | with_reducible assumption)))).mono ?_; rintro e w' ⟨rfl, x, rfl⟩)
  go_returns
  exact ⟨retb rfl rfl, by (repeat' (first | with_reducible exact Ext.refl _ | with_reducible refine Ext.ext ?_ _ | with_reducible refine Ext.alloc ?_ _ | with_reducible refine Ext.drew ?_ | with_reducible refine Ext.drewN ?_ _ | with_reducible assumption))⟩
/-- An own row of records, new above 'base', in a world that 'w0' has grown into. -/
def RBag (w0 : World) (base : Nat) (l : List (Int × Int)) (v : Value) (w : World) : Prop :=
  Ext w0 w ∧ ∃ a c, v = .slice a l.length c ∧ w.ownsRow base 28 2 (.slice a l.length c) l.length (rcs l)
theorem RBag.nil (w : World) (b : Nat) : RBag w b [] (.slice none 0 0) w := ⟨Ext.refl w, none, 0, rfl, World.ownsRow_nil _ _ _ _⟩
theorem RBag.on {w0 w w' : World} {base : Nat} {l : List (Int × Int)} {v : Value} (h : RBag w0 base l v w) (hx : Ext w w') : RBag w0 base l v w' := by
  obtain ⟨h1, a, c, rfl, ho⟩ := h
  exact ⟨h1.trans hx, a, c, rfl, own_of_extY ho hx⟩
theorem RBag.up {w0 w1 w : World} {base : Nat} {l : List (Int × Int)} {v : Value} (h : RBag w1 base l v w) (hx : Ext w0 w1) : RBag w0 base l v w := ⟨hx.trans h.1, h.2⟩
theorem RBag.low {w0 w : World} {b b' : Nat} {l : List (Int × Int)} {v : Value} (h : RBag w0 b l v w) (hb : b' ≤ b) : RBag w0 b' l v w := by
  obtain ⟨hx, a, c, rfl, ho⟩ := h
  exact ⟨hx, a, c, rfl, own_base ho hb⟩
theorem RBag.from0 {w0 w1 w : World} {l : List (Int × Int)} {v : Value} (h : RBag w1 w1.heap.size l v w) (hx : Ext w0 w1) : RBag w0 w0.heap.size l v w := (h.up hx).low ((Ext.grows hx none).size)
theorem info_rcs : (Try.prog.info? 28).map (fun i => (i.zero, i.size, i.bytes)) = some (some (.agg #[.int .i64 0, .int .i64 0]), 2, 16) := by kernel_rfl
section
variable {ops : Array Oper} {rest : List Oper} {o : Oper} {a : Act} {Q : Exit → Act → World → Prop}
/-- 'append(v, x..)' of records onto a row of the call's own. -/
theorem app_rbag (w1 : World) (hgd : o.guard = none) (s x : Operand) (ho : o.op = .call { callee := .builtin .append, args := #[s, x], argTypes := #[41, 41] })
    (w0 : World) (l m : List (Int × Int)) (v u : Value) (h : RBag w0 w0.heap.size l v w1) (hs : a.eval s = v) (hx : a.eval x = u) (hr : Rd w1 2 m.length u (rcs m)) (hl : l.length + m.length ≤ 1073741823)
    (k : ∀ v' w', RBag w0 w0.heap.size (l ++ m) v' w' → wpList Try.prog ops Q rest (a.put o.dst v') w') :
    wpList Try.prog ops Q (o :: rest) a w1 := by
  obtain ⟨hx0, a', c', rfl, hown⟩ := h
  refine wpList_app hgd s x 41 ho 28 _ 2 16 Try.underlying41 info_rcs rfl (by decide) w0 hx0 w0.heap.size _ l.length (rcs l) hown m.length u (rcs m) hs hx hr (rcs_one m) (by unfold maxLen; omega) (by omega) (Ext.grows hx0 none).size (Nat.le_refl _) ?_
  intro b c y hown1 hgr hat
  refine k _ _ ⟨⟨y, rfl⟩, b, c, ?_, ?_⟩
  · rw [List.length_append]
  · rw [List.length_append, rcs_append]
    exact hown1
end
def tot (l : List It) : Int := (l.map (·.n)).sum
theorem tot_app (l m : List It) : tot (l ++ m) = tot l + tot m := by unfold tot; rw [List.map_append, List.sum_append]
theorem tot_snoc {l : List It} {j : Nat} {x : It} (h : l[j]? = some x) : tot (l.take (j + 1)) = tot (l.take j) + x.n := by rw [take_snoc h, tot_app]; simp [tot]
theorem tot_nn {l : List It} (h : ∀ x ∈ l, 0 < x.n) : 0 ≤ tot l := by
  induction l with
  | nil => exact Int.le_refl 0
  | cons x l ih =>
    have h1 := ih (fun y hy => h y (List.mem_cons_of_mem _ hy))
    have h2 := h x List.mem_cons_self
    show 0 ≤ (x.n :: l.map (·.n)).sum
    rw [List.sum_cons]
    unfold tot at h1
    omega
theorem tot_take {l : List It} (h : ∀ x ∈ l, 0 < x.n) (j : Nat) : tot (l.take j) ≤ tot l := by
  have := tot_nn (l := l.drop j) (fun x hx => h x (List.mem_of_mem_drop hx))
  have e : tot l = tot (l.take j) + tot (l.drop j) := by rw [← tot_app, List.take_append_drop]
  omega
def lstS (l : List It) : List (Int × Int) := l.flatMap (fun x => List.replicate x.n.toNat x.r)
theorem lst_snoc {l : List It} {j : Nat} {x : It} (h : l[j]? = some x) : lstS (l.take (j + 1)) = lstS (l.take j) ++ List.replicate x.n.toNat x.r := by rw [take_snoc h]; unfold lstS; rw [List.flatMap_append]; simp
theorem lst_len {l : List It} (h : ∀ x ∈ l, 0 < x.n) : ((lstS l).length : Int) = tot l := by
  induction l with
  | nil => rfl
  | cons x l ih =>
    have h1 := ih (fun y hy => h y (List.mem_cons_of_mem _ hy))
    have h2 := h x List.mem_cons_self
    show (((List.replicate x.n.toNat x.r) ++ lstS l).length : Int) = (x.n :: l.map (·.n)).sum
    rw [List.sum_cons, List.length_append, List.length_replicate]
    unfold tot at h1
    omega
def okL (l : List It) : Bool := decide (tot (thereS l) ≤ 65536)
def listS (l : List It) : List (Int × Int) := if okL l then lstS (thereS l) else []
theorem there_pos {l : List It} {x : It} (hx : x ∈ thereS l) : 0 < x.n ∧ x.n ≤ 2147483648 := by
  unfold thereS at hx
  split at hx
  · next hr =>
    unfold posF at hx
    rw [List.mem_filter] at hx
    have := nOf hr hx.1
    exact ⟨of_decide_eq_true hx.2, this.2⟩
  · cases hx
theorem there_len (l : List It) : (thereS l).length ≤ l.length := by
  unfold thereS
  split
  · exact List.length_filter_le _ _
  · exact Nat.zero_le _
set_option maxHeartbeats 8000000 in
theorem bagList_any (l : List It) (a : Option Addr) (c : Nat) (w : World) (h : Rd w 3 l.length (.slice a l.length c) (its l)) (hn : l.length ≤ 1073741823) :
    Calls Try.prog 26 #[.slice a l.length c] w fun e w' => ∃ v', e = .returned (.tuple #[v', .bool (okL l)]) ∧ RBag w w.heap.size (listS l) v' w' := by
  have TH := Lib.hid (there_any l a c w h hn)
  have POS := Lib.hid (fun x (hx : x ∈ thereS l) => there_pos hx)
  have HN := Lib.hid (Nat.le_trans (there_len l) hn)
  unfold listS okL
  clear h hn
  generalize thereS l = t at *
  obtain ⟨R, hR⟩ : ∃ R, R = decide (tot t ≤ 65536) := ⟨_, rfl⟩
  rw [← hR]
  have HR := Lib.hid hR
  clear hR
  have TP := Lib.hid (fun x hx => (POS.out x hx).1)
  go_enter Try.func26, Try.ntmps26
  go_wp2_with (go_at_call 32; refine TH.out.mono ?_; rintro e w1 ⟨v', rfl, hb⟩; obtain ⟨hx, a', c', rfl, ho⟩ := hb; have HX := Lib.hid hx; have H := Lib.hid (own_rd ho); clear hx ho)
  go_loopw [5, 15] (fun nv i wr => ∃ j : Nat, j ≤ t.length ∧ nv = .int .i64 (tot (t.take j)) ∧ i = .int .i64 j ∧ tot (t.take j) ≤ 65536 ∧ Ext w1 wr) (fun _ i _ => t.length - (intOf i).toNat)
  case atStart => exact ⟨0, by omega, rfl, rfl, by rw [List.take_zero]; decide, by (repeat' (first | with_reducible exact Ext.refl _ | with_reducible refine Ext.ext ?_ _ | with_reducible refine Ext.alloc ?_ _ | with_reducible refine Ext.drew ?_ | with_reducible refine Ext.drewN ?_ _ | with_reducible assumption))⟩
  case round =>
    obtain ⟨j, hj, rfl, rfl, hle, ⟨z', rfl⟩⟩ := hrel
    by_cases hlt : j < t.length
    · obtain ⟨x, hx⟩ : ∃ x, t[j]? = some x := ⟨t[j], List.getElem?_eq_getElem _⟩
      obtain ⟨b, off, rfl, -⟩ := H.out.cells (by omega)
      have q := it_cells H.out j x hx z'
      have q0 := keep_add q.1
      have q1 := keep_add q.2.1
      have q2 := keep_add q.2.2
      have i1 : (0 : Int) ≤ j := by omega
      have i2 : (j : Int) < t.length := by omega
      have ew : wrap64 ((j : Int) + 1) = ((j + 1 : Nat) : Int) := (IntWalk.wrap64_in _ ⟨by omega, by have := HN.out; omega⟩).trans (by omega)
      have ps := POS.out x (List.mem_of_getElem? hx)
      have sn := tot_snoc hx
      have nn := tot_nn (l := t.take j) (fun x hx => TP.out x (List.mem_of_mem_take hx))
      have tk := tot_take TP.out (j + 1)
      obtain ⟨xk, xv, xn⟩ := x
      dsimp only at q0 q1 q2 ps sn
      clear q hx
      have SN := Lib.hid sn
      rw [sn] at tk
      clear sn
      generalize tot (t.take j) = s at *
      have ew2 : wrap64 (s + xn) = s + xn := IntWalk.wrap64_in _ ⟨by omega, by omega⟩
      by_cases hgt : 65536 < s + xn
      · have f1 : decide (65536 < s + xn) = true := decide_eq_true hgt
        have HF : false = R := by rw [HR.out]; exact (decide_eq_false (by omega)).symm
        subst HF
        clear ps nn tk hgt hle
        go_wp2
        go_returns
        exact ⟨_, rfl, ((RBag.nil w _).on HX.out).on (by (first | (with_reducible exact ext_more2 _ _ _) | (repeat' (first | with_reducible exact Ext.refl _ | with_reducible refine Ext.ext ?_ _ | with_reducible refine Ext.alloc ?_ _ | with_reducible refine Ext.drew ?_ | with_reducible refine Ext.drewN ?_ _ | with_reducible assumption))))⟩
      · have f1 : decide (65536 < s + xn) = false := decide_eq_false hgt
        have hle2 := Lib.hid (show s + xn ≤ 65536 by omega)
        clear ps nn tk hgt hle
        go_wp2
        exact ⟨⟨j + 1, by omega, by rw [SN.out, ew2], congrArg (Value.int .i64) ew, by rw [SN.out]; exact hle2.out, by (repeat' (first | with_reducible exact Ext.refl _ | with_reducible refine Ext.ext ?_ _ | with_reducible refine Ext.alloc ?_ _ | with_reducible refine Ext.drew ?_ | with_reducible refine Ext.drewN ?_ _ | with_reducible assumption))⟩, by rw [ew]; simp only [intOf]; omega⟩
    · obtain rfl : j = t.length := by omega
      rw [List.take_length] at hle ⊢
      obtain rfl : true = R := by rw [HR.out]; exact (decide_eq_true hle).symm
      have HLE := Lib.hid hle
      clear hle hj hlt
      go_wp2
      go_loopw [8, 28] (fun v i wr => ∃ j : Nat, j ≤ t.length ∧ i = .int .i64 j ∧ RBag w1 w1.heap.size (lstS (t.take j)) v wr) (fun _ i _ => t.length - (intOf i).toNat)
      case atStart => exact ⟨0, by omega, rfl, (RBag.nil w1 _).on (by (repeat' (first | with_reducible exact Ext.refl _ | with_reducible refine Ext.ext ?_ _ | with_reducible refine Ext.alloc ?_ _ | with_reducible refine Ext.drew ?_ | with_reducible refine Ext.drewN ?_ _ | with_reducible assumption)))⟩
      case round =>
        obtain ⟨j, hj, rfl, hb⟩ := hrel
        obtain ⟨z2, rfl⟩ := hb.1
        have HB := Lib.hid hb
        clear hb
        by_cases hlt : j < t.length
        · obtain ⟨x, hx⟩ : ∃ x, t[j]? = some x := ⟨t[j], List.getElem?_eq_getElem _⟩
          obtain ⟨b, off, rfl, -⟩ := H.out.cells (by omega)
          have q := it_cells H.out j x hx z2
          have q0 := keep_add q.1
          have q1 := keep_add q.2.1
          have q2 := keep_add q.2.2
          have i1 : (0 : Int) ≤ j := by omega
          have i2 : (j : Int) < t.length := by omega
          have ew : wrap64 ((j : Int) + 1) = ((j + 1 : Nat) : Int) := (IntWalk.wrap64_in _ ⟨by omega, by have := HN.out; omega⟩).trans (by omega)
          have ps := POS.out x (List.mem_of_getElem? hx)
          have LS := lst_snoc hx
          have ll := lst_len (l := t.take (j + 1)) (fun x hx => TP.out x (List.mem_of_mem_take hx))
          have tk := tot_take TP.out (j + 1)
          rw [LS, List.length_append, List.length_replicate] at ll
          have LL := Lib.hid (show (lstS (t.take j)).length + x.n.toNat ≤ 1073741823 by have := HLE.out; omega)
          obtain ⟨xk, xv, xn⟩ := x
          dsimp only [It.r] at q0 q1 q2 ps LS LL
          obtain ⟨p, rfl⟩ : ∃ p : Nat, xn = (p : Int) := ⟨xn.toNat, by omega⟩
          rw [Int.toNat_natCast] at LS LL
          have REP := Lib.hid (fun b (W : World) (hb : b = W.heap.size) => repeat_any (xk, xv) p (by omega) (by have := LL.out; omega) b (W.alloc (.cells #[.int .i64 xk, .int .i64 xv] 28)) (by rw [hb]; exact heap_alloc_new _ _))
          have HLS := Lib.hid LS
          clear q hx ps ll tk LS
          go_wp2_with (first | (go_at_call 48; refine (REP.out _ _ (by simp)).mono ?_; rintro e w2 ⟨g, rfl, hr⟩; have HG := Lib.hid hr; clear hr) | (at_builtin; refine app_rbag _ rfl _ _ rfl w1 (lstS (t.take j)) (List.replicate p (xk, xv)) _ _ (by exact (HB.out.on (by (first | (with_reducible exact ext_more2 _ _ _) | (repeat' (first | with_reducible exact Ext.refl _ | with_reducible refine Ext.ext ?_ _ | with_reducible refine Ext.alloc ?_ _ | with_reducible refine Ext.drew ?_ | with_reducible refine Ext.drewN ?_ _ | with_reducible assumption))))).on HG.out.1) rfl rfl (by rw [List.length_replicate]; exact own_rd (HG.out.row (by have := LL.out; omega))) (by rw [List.length_replicate]; exact LL.out) ?_; intro v3 w3 hb3; rw [← HLS.out] at hb3; have HB3 := Lib.hid hb3; clear hb3))
          exact ⟨⟨j + 1, by omega, congrArg (Value.int .i64) ew, HB3.out⟩, by rw [ew]; simp only [intOf]; omega⟩
        · obtain rfl : j = t.length := by omega
          rw [List.take_length] at HB
          go_wp2
          go_returns
          exact ⟨_, rfl, RBag.from0 (HB.out.on (by (first | (with_reducible exact ext_more2 _ _ _) | (repeat' (first | with_reducible exact Ext.refl _ | with_reducible refine Ext.ext ?_ _ | with_reducible refine Ext.alloc ?_ _ | with_reducible refine Ext.drew ?_ | with_reducible refine Ext.drewN ?_ _ | with_reducible assumption))))) HX.out⟩
end Go.Proofs.Ytbglfaomebokhaa
