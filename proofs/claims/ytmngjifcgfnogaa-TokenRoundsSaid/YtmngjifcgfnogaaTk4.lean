/- law 17: Visit. -/
import Derived.Test.YtmngjifcgfnogaaTk3
namespace Go.Proofs.Ytmngjifcgfnogaa
set_option linter.unusedSimpArgs false
set_option linter.unusedVariables false
set_option maxRecDepth 100000
open Go.RowKit

theorem box_none {w W : World} {g : Nat} {o : Obj} (h : Ext w W) (hg : w.heap[g]? = some o) : W.heap[g]? = some o := Keeps.ext (A := noB) h _ _ id hg
def Tk.agg (t : Tk) (v : Value) : Value := .agg #[.int .i64 t.p, .int .i64 t.a, .int .i64 t.c, .int .i64 t.w, v]
def VisPost (A : Nat → Prop) (w : World) (t : Tk) (d : Bool) (tells : List (List Tm)) (o : Bool) (e : Ending) (w' : World) : Prop :=
  ∃ a c a' c', e = .returned (.tuple #[t.agg (.slice a t.l.length c), .bool d, .slice a' tells.length c', .bool o]) ∧ Ext w w' ∧ Rs tml A w' t.l (.slice a t.l.length c) ∧ Rs tml A w' tells (.slice a' tells.length c')
structure VisIn (A : Nat → Prop) (w : World) (t : Tk) (u : Un) (m : List (List Tm)) (a ar am : Option Addr) (n c nr cr nm cm : Nat) : Prop where
  rt : Rs tml A w t.l (.slice a n c)
  rr : Rs tml A w u.r (.slice ar nr cr)
  rm : Rs tml A w m (.slice am nm cm)
  ce : ∃ ca cn cc, u.ce = .slice ca cn cc
  hA : ∀ b, A b → b < w.heap.size
  el : n = t.l.length
  er : nr = u.r.length
  em : nm = m.length
  hn : n ≤ 1000000
  hs : ∀ l ∈ t.l, l.length ≤ 1073741823
set_option maxHeartbeats 8000000 in
theorem visit_no {A : Nat → Prop} {w : World} {t : Tk} {u : Un} {m : List (List Tm)} {a ar am : Option Addr} {n c nr cr nm cm : Nat} (H : VisIn A w t u m a ar am n c nr cr nm cm) (nw : Int) (hno : rightK t n nw = false ∨ nm ≠ n ∨ nr ≠ n) :
    Calls Try.prog 15 #[t.agg (.slice a n c), u.agg (.slice ar nr cr), .slice am nm cm, .int .i64 nw] w (VisPost A w t false [] false) := by
  obtain ⟨ca, cn, cc, hce⟩ := H.ce
  have HH := Lib.hid H
  have RK := Lib.hid (fun W (hx : Ext w W) (r : Bool) (hr : rightK t n nw = r) => tkRight_any t (H.el ▸ H.rt.on hx) (by have := H.hn; have := H.el; omega) H.hs n nw r hr)
  rw [← H.el] at RK
  clear H
  obtain ⟨rk, hrk⟩ : ∃ r, rightK t n nw = r := ⟨_, rfl⟩
  have RK1 := Lib.hid (fun W (hx : Ext w W) => RK.out W hx rk hrk)
  have HNO := Lib.hid (show rk = false ∨ nm ≠ n ∨ nr ≠ n by rw [← hrk]; exact hno)
  clear RK hrk hno
  obtain ⟨b1, f1⟩ : ∃ b, ((nm : Int) != (n : Int)) = b := ⟨_, rfl⟩
  obtain ⟨b2, f2⟩ : ∃ b, ((nr : Int) != (n : Int)) = b := ⟨_, rfl⟩
  have hor : rk = false ∨ (rk = true ∧ b1 = true) ∨ (rk = true ∧ b1 = false ∧ b2 = true) := by
    cases rk
    · exact .inl rfl
    · rcases HNO.out with h | h | h
      · cases h
      · exact .inr (.inl ⟨rfl, by rw [← f1]; simp; omega⟩)
      · cases b1
        · exact .inr (.inr ⟨rfl, rfl, by rw [← f2]; simp; omega⟩)
        · exact .inr (.inl ⟨rfl, rfl⟩)
  obtain ⟨p, ta, tc, tw, l⟩ := t
  obtain ⟨ui, ce, uc, s0, s1, g0, g1, r, la, ba⟩ := u
  unfold Tk.agg Un.agg
  dsimp only at *
  subst hce
  clear HNO
  rcases hor with rfl | ⟨rfl, rfl⟩ | ⟨rfl, rfl, rfl⟩
  all_goals
    go_enter Try.func15, Try.ntmps15
    go_wp2_with (go_at_call 13; (with_reducible refine (RK1.out _ (by (repeat' (first | with_reducible exact Ext.refl _ | with_reducible refine Ext.ext ?_ _ | with_reducible refine Ext.alloc ?_ _ | with_reducible refine Ext.drew ?_ | with_reducible refine Ext.drewN ?_ _ | with_reducible assumption)))).mono ?_); rintro e w' ⟨rfl, x, rfl⟩)
    refine bodyPost_ret (v := .tuple #[.agg #[.int .i64 p, .int .i64 ta, .int .i64 tc, .int .i64 tw, .slice a n c], .bool false, .slice none 0 0, .bool false]) (by simp [results, Try.results15, go_sem]) rfl ⟨a, c, none, 0, by rw [← HH.out.el]; rfl, by (repeat' (first | with_reducible exact Ext.refl _ | with_reducible refine Ext.ext ?_ _ | with_reducible refine Ext.alloc ?_ _ | with_reducible refine Ext.drew ?_ | with_reducible refine Ext.drewN ?_ _ | with_reducible assumption)), by rw [← HH.out.el]; exact HH.out.rt.on (by (repeat' (first | with_reducible exact Ext.refl _ | with_reducible refine Ext.ext ?_ _ | with_reducible refine Ext.alloc ?_ _ | with_reducible refine Ext.drew ?_ | with_reducible refine Ext.drewN ?_ _ | with_reducible assumption))), Rs.nil _ _ _ _⟩
theorem rightK_in {t : Tk} {nodes nw : Int} (h : rightK t nodes nw = true) : (0 ≤ t.p ∧ t.p ≤ 1) ∧ (0 ≤ t.c ∧ t.c ≤ 1) ∧ (1 ≤ nw ∧ nw ≤ 64) ∧ (0 ≤ t.a ∧ t.a < nw) ∧ (t.l.length : Int) = nodes ∧ t.l.any badC = false := by
  unfold rightK Tk.bad at h
  simp only [Bool.and_eq_true, Bool.not_eq_true', Bool.or_eq_false_iff, decide_eq_false_iff_not, decide_eq_true_eq] at h
  obtain ⟨⟨⟨⟨⟨⟨⟨⟨h1, h2⟩, h3⟩, h4⟩, h5⟩, h6⟩, h7⟩, h8⟩, h9, h0⟩ := h
  exact ⟨⟨by omega, by omega⟩, ⟨by omega, by omega⟩, ⟨by omega, by omega⟩, ⟨by omega, by omega⟩, h9, h0⟩
theorem keeps3 (w : World) (o1 o2 o3 p1 p2 p3 : Obj) (x : Inc) : Keeps (fun b => w.heap.size ≤ b ∧ b < w.heap.size + 3) (ext (((w.alloc o1).alloc o2).alloc o3) x) (ext (((w.alloc p1).alloc p2).alloc p3) x) := by
  intro b o hb ho
  rw [heap_ext] at ho ⊢
  have hs : ∀ q1 q2 q3 : Obj, (((w.alloc q1).alloc q2).alloc q3).heap.size = w.heap.size + 3 := fun _ _ _ => by simp
  rw [Array.getElem?_append] at ho ⊢
  rw [hs] at ho ⊢
  split at ho
  · next hlt =>
    rw [if_pos hlt]
    have hlt' : b < w.heap.size := by omega
    have hg : ∀ q1 q2 q3 : Obj, (((w.alloc q1).alloc q2).alloc q3).heap[b]? = w.heap[b]? := fun q1 q2 q3 => by
      rw [Below.heap_alloc _ _ _ (by simp; omega), Below.heap_alloc _ _ _ (by simp; omega), Below.heap_alloc _ _ _ hlt']
    rw [hg] at ho ⊢
    exact ho
  · next hge => rw [if_neg hge]; exact ho
set_option maxHeartbeats 8000000 in
theorem visit_turn {A : Nat → Prop} {w : World} {t : Tk} {u : Un} {m : List (List Tm)} {a ar am : Option Addr} {n c cr cm : Nat} (H : VisIn A w t u m a ar am n c n cr n cm) (nw : Int) (hr : rightK t n nw = true) (hp : t.p = 0) :
    Calls Try.prog 15 #[t.agg (.slice a n c), u.agg (.slice ar n cr), .slice am n cm, .int .i64 nw] w (VisPost A w (if t.a + 1 < nw then ⟨t.p, t.a + 1, t.c, t.w, t.l⟩ else ⟨1, 0, t.c, 0, emp n⟩) true [] false) := by
  obtain ⟨ca, cn, cc, hce⟩ := H.ce
  have HH := Lib.hid H
  have RK := Lib.hid (fun W (hx : Ext w W) => tkRight_any t (H.el ▸ H.rt.on hx) (by have := H.hn; have := H.el; omega) H.hs n nw true hr)
  rw [← H.el] at RK
  obtain ⟨hp1, hc1, hw1, ha1, -, -⟩ := rightK_in hr
  have BG := Lib.hid (fun (W : World) p ta => begun_any (w := W) p ta t.c t.w a n c H.hn)
  clear H hr
  obtain ⟨p, ta, tc, tw, l⟩ := t
  obtain ⟨ui, ce, uc, s0, s1, g0, g1, r, la, ba⟩ := u
  unfold Tk.agg Un.agg
  dsimp only at *
  subst hce hp
  have ee : ((n : Int) != (n : Int)) = false := by simp
  obtain ⟨h1, h2⟩ := ha1
  obtain ⟨h3, h4⟩ := hw1
  clear hp1 hc1
  by_cases hlt : ta + 1 < nw
  · rw [if_pos hlt]
    go_enter Try.func15, Try.ntmps15
    go_wp2_with (go_at_call 13; (with_reducible refine (RK.out _ (by (repeat' (first | with_reducible exact Ext.refl _ | with_reducible refine Ext.ext ?_ _ | with_reducible refine Ext.alloc ?_ _ | with_reducible refine Ext.drew ?_ | with_reducible refine Ext.drewN ?_ _ | with_reducible assumption)))).mono ?_); rintro e w' ⟨rfl, x, rfl⟩)
    refine bodyPost_ret (v := .tuple #[.agg #[.int .i64 0, .int .i64 (ta + 1), .int .i64 tc, .int .i64 tw, .slice a n c], .bool true, .slice none 0 0, .bool false]) (by simp [results, Try.results15, go_sem]) rfl ⟨a, c, none, 0, by rw [← HH.out.el]; rfl, by (repeat' (first | with_reducible exact Ext.refl _ | with_reducible refine Ext.ext ?_ _ | with_reducible refine Ext.alloc ?_ _ | with_reducible refine Ext.drew ?_ | with_reducible refine Ext.drewN ?_ _ | with_reducible assumption)), by rw [← HH.out.el]; exact HH.out.rt.on (by (repeat' (first | with_reducible exact Ext.refl _ | with_reducible refine Ext.ext ?_ _ | with_reducible refine Ext.alloc ?_ _ | with_reducible refine Ext.drew ?_ | with_reducible refine Ext.drewN ?_ _ | with_reducible assumption))), Rs.nil _ _ _ _⟩
  · rw [if_neg hlt]
    have hge : decide (ta + 1 < nw) = false := decide_eq_false hlt
    go_enter Try.func15, Try.ntmps15
    go_wp2_with (first | (go_at_call 13; (with_reducible refine (RK.out _ (by (repeat' (first | with_reducible exact Ext.refl _ | with_reducible refine Ext.ext ?_ _ | with_reducible refine Ext.alloc ?_ _ | with_reducible refine Ext.drew ?_ | with_reducible refine Ext.drewN ?_ _ | with_reducible assumption)))).mono ?_); rintro e w' ⟨rfl, x, rfl⟩) | (go_at_call 42; (with_reducible refine (BG.out _ _ _).mono ?_); rintro e w' ⟨g, hg, rfl, ⟨x2, rfl⟩, hrs⟩; have RS := Lib.hid hrs; clear hrs hg))
    refine bodyPost_ret (v := .tuple #[.agg #[.int .i64 1, .int .i64 0, .int .i64 tc, .int .i64 0, .slice (some ⟨g, 0, none⟩) n n], .bool true, .slice none 0 0, .bool false]) (by simp [results, Try.results15, go_sem]) rfl ⟨some ⟨g, 0, none⟩, n, none, 0, by rw [emp_len]; rfl, by (repeat' (first | with_reducible exact Ext.refl _ | with_reducible refine Ext.ext ?_ _ | with_reducible refine Ext.alloc ?_ _ | with_reducible refine Ext.drew ?_ | with_reducible refine Ext.drewN ?_ _ | with_reducible assumption)), ?_, Rs.nil _ _ _ _⟩
    rw [emp_len]
    have hr := RS.out (fun b => A b ∨ w.heap.size ≤ b ∧ b < w.heap.size + 3) (fun b hb => by simp; rcases hb with hb | hb; (have := HH.out.hA b hb; omega); omega)
    rw [ext_ext] at hr
    exact (hr.keep ((keeps3 _ _ _ _ _ _ _ _).weak (fun b hb => .inr hb))).weak (fun b hb => .inl hb)
set_option maxHeartbeats 16000000 in
theorem visit_count {A : Nat → Prop} {w : World} {t : Tk} {u : Un} {m : List (List Tm)} {a ar am : Option Addr} {n c cr cm : Nat} (H : VisIn A w t u m a ar am n c n cr n cm) (nw : Int) (hr : rightK t n nw = true) (hp : t.p = 1) (hs : ∀ i : Nat, (t.l.getD i []).length + (m.getD i []).length + (u.r.getD i []).length ≤ 1073741823)
    (t' : Tk) (tells : List (List Tm)) (o : Bool) (h' : (t.a + 1 < nw ∧ t' = ⟨t.p, t.a + 1, t.c, whiteS t u, cntAt t.l m u.r n⟩ ∧ tells = [] ∧ o = false) ∨ (¬ t.a + 1 < nw ∧ whiteS t u ≠ 0 ∧ t' = ⟨t.p, 0, t.c, 0, emp n⟩ ∧ tells = [] ∧ o = false) ∨ (¬ t.a + 1 < nw ∧ whiteS t u = 0 ∧ t' = ⟨0, 0, 1 - t.c, 0, emp n⟩ ∧ tells = cntAt t.l m u.r n ∧ o = true)) :
    Calls Try.prog 15 #[t.agg (.slice a n c), u.agg (.slice ar n cr), .slice am n cm, .int .i64 nw] w (VisPost A w t' false tells o) := by
  have hcl : (cntAt t.l m u.r n).length = n := by rw [cntAt_len]; exact H.el.symm
  have hA1 : ∀ b, (A b ∨ w.heap.size ≤ b ∧ b < w.heap.size + 3) → b < w.heap.size + 3 := fun b hb => by
    rcases hb with hb | hb
    · have := H.hA b hb; omega
    · omega
  have RK := Lib.hid (fun W (hx : Ext w W) => tkRight_any t (H.el ▸ H.rt.on hx) (by have := H.hn; have := H.el; omega) H.hs n nw true hr)
  rw [← H.el] at RK
  obtain ⟨hp1, hc1, hw1, ha1, -, -⟩ := rightK_in hr
  have offs : ∀ {l : List (List Tm)} {v : Value}, Rs tml A w l v → Rs tml (fun b => A b ∨ w.heap.size ≤ b ∧ b < w.heap.size + 3) w l v := fun h => h.off (fun b hb => hb.imp id And.left)
  have hc12 : t.c = 0 ∨ t.c = 1 := by omega
  have CT := Lib.hid (fun W (hx : Ext w W) (hz : w.heap.size + 3 ≤ W.heap.size) => counted_any (A := fun b => A b ∨ w.heap.size ≤ b ∧ b < w.heap.size + 3) (w := W) t ((offs H.rt).on hx) u H.ce ((offs H.rr).on hx) ((offs H.rm).on hx) (fun b hb => by have := hA1 b hb; omega) H.hn hc12 hs)
  have BG := Lib.hid (fun (W : World) p ta tc tw a c => begun_any (w := W) p ta tc tw a n c H.hn)
  have HA1 := Lib.hid hA1
  have HCL := Lib.hid hcl
  obtain ⟨wh, hwh⟩ : ∃ x, whiteS t u = x := ⟨_, rfl⟩
  rw [hwh] at CT h'
  obtain ⟨L, hL⟩ : ∃ x, cntAt t.l m u.r n = x := ⟨_, rfl⟩
  rw [hL] at CT h' HCL
  obtain ⟨ca, cn, cc, hce⟩ := H.ce
  clear H hr hs hcl hA1 offs hwh hL hc12
  obtain ⟨p, ta, tc, tw, l⟩ := t
  obtain ⟨ui, ce, uc, s0, s1, g0, g1, r, la, ba⟩ := u
  unfold Un.agg at CT
  unfold Tk.agg Un.agg
  dsimp only at *
  subst hce hp
  have ee : ((n : Int) != (n : Int)) = false := by simp
  obtain ⟨h1, h2⟩ := ha1
  obtain ⟨h3, h4⟩ := hw1
  obtain ⟨hc3, hc4⟩ := hc1
  clear hp1
  have fin : ∀ (W W' : World) (l : List (List Tm)) (v : Value), Rs tml (fun b => A b ∨ w.heap.size ≤ b ∧ b < w.heap.size + 3) W l v → Keeps (fun b => w.heap.size ≤ b ∧ b < w.heap.size + 3) W W' → Rs tml A W' l v := fun W W' l v h hk => (h.keep (hk.weak fun b hb => .inr hb)).weak (fun b hb => .inl hb)
  have FIN := Lib.hid fin
  clear fin
  rcases h' with ⟨hlt, rfl, rfl, rfl⟩ | ⟨hlt, hw0, rfl, rfl, rfl⟩ | ⟨hlt, rfl, rfl, rfl, rfl⟩
  · go_enter Try.func15, Try.ntmps15
    go_wp2_with (first | (go_at_call 13; (with_reducible refine (RK.out _ (by (repeat' (first | with_reducible exact Ext.refl _ | with_reducible refine Ext.ext ?_ _ | with_reducible refine Ext.alloc ?_ _ | with_reducible refine Ext.drew ?_ | with_reducible refine Ext.drewN ?_ _ | with_reducible assumption)))).mono ?_); rintro e w' ⟨rfl, x, rfl⟩) | (go_at_call 41; (with_reducible refine (CT.out _ (by (repeat' (first | with_reducible exact Ext.refl _ | with_reducible refine Ext.ext ?_ _ | with_reducible refine Ext.alloc ?_ _ | with_reducible refine Ext.drew ?_ | with_reducible refine Ext.drewN ?_ _ | with_reducible assumption))) (by simp)).mono ?_); rintro e w' ⟨a', c', rfl, ⟨x2, rfl⟩, hrs⟩; have RS := Lib.hid hrs; clear hrs))
    refine bodyPost_ret (v := .tuple #[.agg #[.int .i64 1, .int .i64 (ta + 1), .int .i64 tc, .int .i64 wh, .slice a' n c'], .bool false, .slice none 0 0, .bool false]) (by simp [results, Try.results15, go_sem]) rfl ⟨a', c', none, 0, by rw [HCL.out]; rfl, by (repeat' (first | with_reducible exact Ext.refl _ | with_reducible refine Ext.ext ?_ _ | with_reducible refine Ext.alloc ?_ _ | with_reducible refine Ext.drew ?_ | with_reducible refine Ext.drewN ?_ _ | with_reducible assumption)), ?_, Rs.nil _ _ _ _⟩
    rw [HCL.out]
    have hr := RS.out
    rw [ext_ext] at hr
    exact FIN.out _ _ _ _ hr (keeps3 _ _ _ _ _ _ _ _)
  · have hge : decide (ta + 1 < nw) = false := decide_eq_false hlt
    have hwn : (wh != 0) = true := by simp [hw0]
    go_enter Try.func15, Try.ntmps15
    go_wp2_with (first | (go_at_call 13; (with_reducible refine (RK.out _ (by (repeat' (first | with_reducible exact Ext.refl _ | with_reducible refine Ext.ext ?_ _ | with_reducible refine Ext.alloc ?_ _ | with_reducible refine Ext.drew ?_ | with_reducible refine Ext.drewN ?_ _ | with_reducible assumption)))).mono ?_); rintro e w' ⟨rfl, x, rfl⟩) | (go_at_call 41; (with_reducible refine (CT.out _ (by (repeat' (first | with_reducible exact Ext.refl _ | with_reducible refine Ext.ext ?_ _ | with_reducible refine Ext.alloc ?_ _ | with_reducible refine Ext.drew ?_ | with_reducible refine Ext.drewN ?_ _ | with_reducible assumption))) (by simp)).mono ?_); rintro e w' ⟨a', c', rfl, ⟨x2, rfl⟩, hrs⟩; have RS := Lib.hid hrs; clear hrs) | (go_at_call 42; (with_reducible refine (BG.out _ _ _ _ _ _ _).mono ?_); rintro e w' ⟨g, hg, rfl, ⟨x3, rfl⟩, hrs⟩; have RB := Lib.hid hrs; clear hrs hg))
    refine bodyPost_ret (v := .tuple #[.agg #[.int .i64 1, .int .i64 0, .int .i64 tc, .int .i64 0, .slice (some ⟨g, 0, none⟩) n n], .bool false, .slice none 0 0, .bool false]) (by simp [results, Try.results15, go_sem]) rfl ⟨some ⟨g, 0, none⟩, n, none, 0, by rw [emp_len]; rfl, by (repeat' (first | with_reducible exact Ext.refl _ | with_reducible refine Ext.ext ?_ _ | with_reducible refine Ext.alloc ?_ _ | with_reducible refine Ext.drew ?_ | with_reducible refine Ext.drewN ?_ _ | with_reducible assumption)), ?_, Rs.nil _ _ _ _⟩
    rw [emp_len]
    have hr := RB.out (fun b => A b ∨ w.heap.size ≤ b ∧ b < w.heap.size + 3) (fun b hb => by simp; have := HA1.out b hb; omega)
    simp only [ext_ext, add_assoc] at hr
    exact FIN.out _ _ _ _ hr (keeps3 _ _ _ _ _ _ _ _)
  · have hge : decide (ta + 1 < nw) = false := decide_eq_false hlt
    go_enter Try.func15, Try.ntmps15
    go_wp2_with (first | (go_at_call 13; (with_reducible refine (RK.out _ (by (repeat' (first | with_reducible exact Ext.refl _ | with_reducible refine Ext.ext ?_ _ | with_reducible refine Ext.alloc ?_ _ | with_reducible refine Ext.drew ?_ | with_reducible refine Ext.drewN ?_ _ | with_reducible assumption)))).mono ?_); rintro e w' ⟨rfl, x, rfl⟩) | (go_at_call 41; (with_reducible refine (CT.out _ (by (repeat' (first | with_reducible exact Ext.refl _ | with_reducible refine Ext.ext ?_ _ | with_reducible refine Ext.alloc ?_ _ | with_reducible refine Ext.drew ?_ | with_reducible refine Ext.drewN ?_ _ | with_reducible assumption))) (by simp)).mono ?_); rintro e w' ⟨a', c', rfl, ⟨x2, rfl⟩, hrs⟩; have RS := Lib.hid hrs; clear hrs) | (go_at_call 42; (with_reducible refine (BG.out _ _ _ _ _ _ _).mono ?_); rintro e w' ⟨g, hg, rfl, ⟨x3, rfl⟩, hrs⟩; have RB := Lib.hid hrs; clear hrs hg))
    refine bodyPost_ret (v := .tuple #[.agg #[.int .i64 0, .int .i64 0, .int .i64 (1 - tc), .int .i64 0, .slice (some ⟨g, 0, none⟩) n n], .bool false, .slice a' n c', .bool true]) (by simp [results, Try.results15, go_sem]) rfl ⟨some ⟨g, 0, none⟩, n, a', c', by rw [emp_len, HCL.out]; rfl, by (repeat' (first | with_reducible exact Ext.refl _ | with_reducible refine Ext.ext ?_ _ | with_reducible refine Ext.alloc ?_ _ | with_reducible refine Ext.drew ?_ | with_reducible refine Ext.drewN ?_ _ | with_reducible assumption)), ?_, ?_⟩
    · rw [emp_len]
      have hr := RB.out (fun b => A b ∨ w.heap.size ≤ b ∧ b < w.heap.size + 3) (fun b hb => by simp; have := HA1.out b hb; omega)
      simp only [ext_ext, add_assoc] at hr
      exact FIN.out _ _ _ _ hr (keeps3 _ _ _ _ _ _ _ _)
    · rw [HCL.out]
      have hr := RS.out
      have hr2 := hr.on ⟨x3, rfl⟩
      simp only [ext_ext, add_assoc] at hr2
      exact FIN.out _ _ _ _ hr2 (keeps3 _ _ _ _ _ _ _ _)
end Go.Proofs.Ytmngjifcgfnogaa
