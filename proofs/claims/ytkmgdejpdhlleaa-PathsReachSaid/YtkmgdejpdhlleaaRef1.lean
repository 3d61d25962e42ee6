/- Timestamps: the reference's functions. -/
import Derived.Test.YtkmgdejpdhlleaaTs1
import Derived.Test.YtkmgdejpdhlleaaApp
namespace Go.Proofs.Ytkmgdejpdhlleaa
set_option linter.unusedSimpArgs false
set_option linter.unusedVariables false
set_option maxRecDepth 100000
open Go.RowKit

theorem info_int : (Try.prog.info? 3).map (fun i => (i.zero, i.size, i.bytes)) = some (some (.int .i64 0), 1, 8) := by kernel_rfl
/-- Numbers as cells. -/
def ints (l : List Int) : List Value := l.map (Value.int .i64)
/-- The coordinates of the first k places. -/
def pre (t : Tm) : Nat → List Int
  | 0 => []
  | k + 1 => pre t k ++ (if (k : Int) < t.d then [t.at k] else [])
theorem pre_in (t : Tm) (k : Nat) (h : (k : Int) < t.d) : pre t (k + 1) = pre t k ++ [t.at k] := by simp [pre, h]
theorem pre_out (t : Tm) (k : Nat) (h : t.d ≤ (k : Int)) : pre t (k + 1) = pre t k := by simp [pre, show ¬ (k : Int) < t.d by omega]
theorem pre_len (t : Tm) (h : 0 ≤ t.d) (k : Nat) : (pre t k).length = min k t.d.toNat := by
  induction k with
  | zero => simp [pre]
  | succ k ih =>
    by_cases hk : (k : Int) < t.d
    · rw [pre_in t k hk, List.length_append, ih]; simp; omega
    · rw [pre_out t k (by omega), ih]; omega
theorem cells_at (d a b c e : Int) (k : Nat) (h : k < 4) : [Value.int .i64 d, .int .i64 a, .int .i64 b, .int .i64 c, .int .i64 e][1 + k]? = some (.int .i64 (cAt a b c e k)) := by
  obtain rfl | rfl | rfl | rfl : k = 0 ∨ k = 1 ∨ k = 2 ∨ k = 3 := by omega
  all_goals rfl

theorem ints_snoc (l : List Int) (x : Int) : ints (l ++ [x]) = ints l ++ [.int .i64 x] := by simp [ints]

theorem list_out (d a b c e : Int) (w : World) (h : d < 1 ∨ 4 < d) :
    Calls Try.prog 142 #[.agg #[.int .i64 d, .int .i64 a, .int .i64 b, .int .i64 c, .int .i64 e]] w fun r w' => r = .returned (.tuple #[.slice none 0 0, .bool false]) ∧ Ext w w' := by
  go_enter Try.func142, Try.ntmps142
  go_wp2
  all_goals (go_returns; exact ⟨rett rfl rfl, by (repeat' (first | with_reducible exact Ext.refl _ | with_reducible refine Ext.ext ?_ _ | with_reducible refine Ext.alloc ?_ _ | with_reducible refine Ext.drew ?_ | with_reducible refine Ext.drewN ?_ _ | with_reducible assumption))⟩)

theorem okAt_no {d x k : Int} (h : x < 0 ∨ (k < d ∧ gr k < x) ∨ (d ≤ k ∧ x ≠ 0)) : okAt d x k = false := by
  rcases h with h | ⟨h1, h2⟩ | ⟨h1, h2⟩
  · exact okAt_neg _ _ _ h
  · exact okAt_big _ _ _ h2 h1
  · exact okAt_not _ _ _ h2 h1
def ListPost (t : Tm) (w : World) (r : Ending) (w' : World) : Prop :=
  if rightB t then ∃ g cap, r = .returned (.tuple #[.slice (some ⟨g, 0, none⟩) t.d.toNat cap, .bool true]) ∧ Ext w w' ∧
      w'.ownsRow w.heap.size 3 1 (.slice (some ⟨g, 0, none⟩) t.d.toNat cap) t.d.toNat (ints (pre t 4))
  else r = .returned (.tuple #[.slice none 0 0, .bool false]) ∧ Ext w w'

theorem ListPost.no {t : Tm} {w w' : World} {r : Ending} {k : Nat} (hk : k < 4) (h : okAt t.d (t.at k) k = false) (hr : r = .returned (.tuple #[.slice none 0 0, .bool false])) (hx : Ext w w') : ListPost t w r w' := by
  unfold ListPost
  rw [if_neg (by rw [rightB_false _ _ _ _ _ k hk h]; simp)]
  exact ⟨hr, hx⟩

set_option maxHeartbeats 400000 in
theorem list_in (d a b c e : Int) (w : World) (h1 : 1 ≤ d) (h4 : d ≤ 4) :
    Calls Try.prog 142 #[.agg #[.int .i64 d, .int .i64 a, .int .i64 b, .int .i64 c, .int .i64 e]] w (ListPost ⟨d, a, b, c, e⟩ w) := by
  obtain ⟨i0, hi, hz0, hz1, hz2⟩ := info_parts info_int
  have hp := pre_len ⟨d, a, b, c, e⟩ (show 0 ≤ d by omega)
  have HP := Lib.hid hp
  clear hp
  go_enter Try.func142, Try.ntmps142
  go_wp2
  go_loopw [4, 5] (fun l i wr => ∃ k : Nat, k ≤ 4 ∧ i = .int .i64 k ∧ okTo d a b c e k = true ∧ (∃ x, wr = ext (w.alloc (.cells #[.int .i64 d, .int .i64 a, .int .i64 b, .int .i64 c, .int .i64 e] 73)) x) ∧
    wr.ownsRow (w.heap.size + 1) 3 1 l (pre ⟨d, a, b, c, e⟩ k).length (ints (pre ⟨d, a, b, c, e⟩ k)))
    (fun _ i _ => 4 - (intOf i).toNat)
  case atStart => exact ⟨0, by omega, rfl, rfl, Ext.refl _, World.ownsRow_nil _ _ _ _⟩
  case round =>
    obtain ⟨k, hk, rfl, hok, ⟨x, rfl⟩, hown⟩ := hrel
    have HOK := Lib.hid hok
    have HOWN := Lib.hid hown
    clear hok hown
    by_cases hlt : k < 4
    · have hce := cells_at d a b c e k hlt
      have hle : (pre ⟨d, a, b, c, e⟩ k).length ≤ k := by rw [HP.out]; omega
      go_wp2_with (at_builtin; refine wpList_push rfl _ _ 47 rfl 3 (.int .i64 0) 1 8 Try.underlying47 info_int rfl (by decide) _ x (w.heap.size + 1) _ _ _ HOWN.out _ 1 1 #[.int .i64 _] rfl rfl rfl (by simp [Value.oneCell']) (by decide) (by simp) (by simp [maxLen]; omega) (by omega) (by simp) (by simp) ?_; intro g cap y hown1; have HOWN1 := Lib.hid hown1; clear hown1)
      · go_returns
        have hb : (cAt a b c e k != 0) = true := by assumption
        exact ListPost.no hlt (okAt_no (.inr (.inr ⟨by assumption, bne_iff_ne.1 hb⟩))) (rett rfl rfl) (by (repeat' (first | with_reducible exact Ext.refl _ | with_reducible refine Ext.ext ?_ _ | with_reducible refine Ext.alloc ?_ _ | with_reducible refine Ext.drew ?_ | with_reducible refine Ext.drewN ?_ _ | with_reducible assumption)))
      · have hok : okAt d (cAt a b c e k) k = true := okAt_out _ _ _ (by assumption) (by simp_all)
        exact ⟨⟨k + 1, by omega, by go_num, by simp [okTo, HOK.out, hok], (Ext.refl _).ext _, by rw [pre_out _ _ (by assumption)]; exact HOWN.out⟩, by simp [intOf]; omega⟩
      · subst k
        have hok : okAt d (cAt a b c e 0) 0 = true := okAt_in _ _ _ (by assumption) (by assumption) (by rw [gr_0]; assumption)
        exact ⟨⟨1, by omega, rfl, by simp [okTo, hok], (Ext.refl _).ext _, by rw [show (1 : Nat) = 0 + 1 from rfl, pre_in _ _ (by assumption), ints_snoc, List.length_append]; exact HOWN1.out⟩, by simp [intOf]⟩
      · subst k
        go_returns
        exact ListPost.no hlt (okAt_no (.inr (.inl ⟨by assumption, by rw [show ((0 : Nat) : Int) = 0 from rfl, gr_0]; assumption⟩))) (rett rfl rfl) (by (repeat' (first | with_reducible exact Ext.refl _ | with_reducible refine Ext.ext ?_ _ | with_reducible refine Ext.alloc ?_ _ | with_reducible refine Ext.drew ?_ | with_reducible refine Ext.drewN ?_ _ | with_reducible assumption)))
      · subst k
        go_returns
        exact ListPost.no hlt (okAt_no (.inl (by assumption))) (rett rfl rfl) (by (repeat' (first | with_reducible exact Ext.refl _ | with_reducible refine Ext.ext ?_ _ | with_reducible refine Ext.alloc ?_ _ | with_reducible refine Ext.drew ?_ | with_reducible refine Ext.drewN ?_ _ | with_reducible assumption)))
      · go_returns
        refine ListPost.no hlt (okAt_no ?_) (rett rfl rfl) (by (repeat' (first | with_reducible exact Ext.refl _ | with_reducible refine Ext.ext ?_ _ | with_reducible refine Ext.alloc ?_ _ | with_reducible refine Ext.drew ?_ | with_reducible refine Ext.drewN ?_ _ | with_reducible assumption)))
        rw [gr_pos _ (by omega)]
        change cAt a b c e k < 0 ∨ ((k : Int) < d ∧ 64 < cAt a b c e k) ∨ (d ≤ k ∧ cAt a b c e k ≠ 0)
        omega
      · have hok : okAt d (cAt a b c e k) k = true := okAt_in _ _ _ (by assumption) (by assumption) (by rw [gr_pos _ (by omega)]; omega)
        exact ⟨⟨k + 1, by omega, by go_num, by simp [okTo, HOK.out, hok], (Ext.refl _).ext _, by rw [pre_in _ _ (by assumption), ints_snoc, List.length_append]; exact HOWN1.out⟩, by simp [intOf]; omega⟩
      · go_returns
        exact ListPost.no hlt (okAt_no (.inl (by assumption))) (rett rfl rfl) (by (repeat' (first | with_reducible exact Ext.refl _ | with_reducible refine Ext.ext ?_ _ | with_reducible refine Ext.alloc ?_ _ | with_reducible refine Ext.drew ?_ | with_reducible refine Ext.drewN ?_ _ | with_reducible assumption)))
    · obtain rfl : k = 4 := by omega
      have hl : (pre ⟨d, a, b, c, e⟩ 4).length = d.toNat := by rw [HP.out]; omega
      obtain ⟨g, cap, hv, _⟩ := HOWN.out.form (by omega)
      subst hv
      go_wp2
      go_returns
      unfold ListPost
      rw [if_pos (by simp [rightB, HOK.out]; omega)]
      refine ⟨g, cap, rett rfl (by rw [hl]; rfl), by (repeat' (first | with_reducible exact Ext.refl _ | with_reducible refine Ext.ext ?_ _ | with_reducible refine Ext.alloc ?_ _ | with_reducible refine Ext.drew ?_ | with_reducible refine Ext.drewN ?_ _ | with_reducible assumption)), ?_⟩
      rw [← hl]
      exact own_base HOWN.out (by omega)
theorem list_no (d a b c e : Int) (w : World) (h : rightB ⟨d, a, b, c, e⟩ = false) :
    Calls Try.prog 142 #[.agg #[.int .i64 d, .int .i64 a, .int .i64 b, .int .i64 c, .int .i64 e]] w fun r w' => r = .returned (.tuple #[.slice none 0 0, .bool false]) ∧ Ext w w' := by
  by_cases hd : 1 ≤ d ∧ d ≤ 4
  · exact (list_in d a b c e w hd.1 hd.2).mono fun r w' hp => by
      unfold ListPost at hp
      rwa [if_neg (by rw [h]; simp)] at hp
  · exact list_out d a b c e w (by omega)
theorem list_yes (d a b c e : Int) (w : World) (h : rightB ⟨d, a, b, c, e⟩ = true) :
    Calls Try.prog 142 #[.agg #[.int .i64 d, .int .i64 a, .int .i64 b, .int .i64 c, .int .i64 e]] w fun r w' => ∃ g cap, r = .returned (.tuple #[.slice (some ⟨g, 0, none⟩) d.toNat cap, .bool true]) ∧ Ext w w' ∧
      w'.ownsRow w.heap.size 3 1 (.slice (some ⟨g, 0, none⟩) d.toNat cap) d.toNat (ints (pre ⟨d, a, b, c, e⟩ 4)) := by
  obtain ⟨h1, h2⟩ : 1 ≤ d ∧ d ≤ 4 := rightB_d h
  exact (list_in d a b c e w h1 h2).mono fun r w' hp => by
    unfold ListPost at hp
    rwa [if_pos h] at hp

/-- The timestamp of a list's numbers. -/
def tmOf (l : List Int) : Tm := ⟨l.length, l.getD 0 0, l.getD 1 0, l.getD 2 0, l.getD 3 0⟩
def ofT (l : List Int) : Tm := if rightB (tmOf l) then tmOf l else tz
def ofB (l : List Int) : Bool := rightB (tmOf l)

theorem of_1 (x0 : Int) (b o cap : Nat) (w : World) (hb : b < w.heap.size) (c0 : w.cell? ⟨b, o, none⟩ = some (.int .i64 x0)) :
    Calls Try.prog 143 #[.slice (some ⟨b, o, none⟩) 1 cap] w fun r w' => r = .returned (.tuple #[tv (ofT [x0]), .bool (ofB [x0])]) ∧ Ext w w' := by
  cases hr : rightB ⟨1, x0, 0, 0, 0⟩
  all_goals
    have HR := Lib.hid hr
    clear hr
    go_enter Try.func143, Try.ntmps143
    go_wp2
    refine wp_loop_rounds 2 ?_
    iterate 2
      rw [rounds_succ]
      go_wp2_with (first | (go_at_call 142; refine (list_no _ _ _ _ _ _ HR.out).mono ?_; rintro r w' ⟨rfl, x, rfl⟩) | (go_at_call 142; refine (list_yes _ _ _ _ _ _ HR.out).mono ?_; rintro r w' ⟨g, c, rfl, ⟨x, rfl⟩, ho⟩; clear ho))
    go_returns
    exact ⟨rett rfl (by simp [ofT, ofB, tmOf, HR.out, tv, tz]), by (repeat' (first | with_reducible exact Ext.refl _ | with_reducible refine Ext.ext ?_ _ | with_reducible refine Ext.alloc ?_ _ | with_reducible refine Ext.drew ?_ | with_reducible refine Ext.drewN ?_ _ | with_reducible assumption))⟩

theorem of_2 (x0 x1 : Int) (b o cap : Nat) (w : World) (hb : b < w.heap.size) (c0 : w.cell? ⟨b, o, none⟩ = some (.int .i64 x0)) (c1 : w.cell? ⟨b, o + 1, none⟩ = some (.int .i64 x1)) :
    Calls Try.prog 143 #[.slice (some ⟨b, o, none⟩) 2 cap] w fun r w' => r = .returned (.tuple #[tv (ofT [x0, x1]), .bool (ofB [x0, x1])]) ∧ Ext w w' := by
  cases hr : rightB ⟨2, x0, x1, 0, 0⟩
  all_goals
    have HR := Lib.hid hr
    clear hr
    go_enter Try.func143, Try.ntmps143
    go_wp2
    refine wp_loop_rounds 3 ?_
    iterate 3
      rw [rounds_succ]
      go_wp2_with (first | (go_at_call 142; refine (list_no _ _ _ _ _ _ HR.out).mono ?_; rintro r w' ⟨rfl, x, rfl⟩) | (go_at_call 142; refine (list_yes _ _ _ _ _ _ HR.out).mono ?_; rintro r w' ⟨g, c, rfl, ⟨x, rfl⟩, ho⟩; clear ho))
    go_returns
    exact ⟨rett rfl (by simp [ofT, ofB, tmOf, HR.out, tv, tz]), by (repeat' (first | with_reducible exact Ext.refl _ | with_reducible refine Ext.ext ?_ _ | with_reducible refine Ext.alloc ?_ _ | with_reducible refine Ext.drew ?_ | with_reducible refine Ext.drewN ?_ _ | with_reducible assumption))⟩

theorem of_3 (x0 x1 x2 : Int) (b o cap : Nat) (w : World) (hb : b < w.heap.size) (c0 : w.cell? ⟨b, o, none⟩ = some (.int .i64 x0)) (c1 : w.cell? ⟨b, o + 1, none⟩ = some (.int .i64 x1)) (c2 : w.cell? ⟨b, o + 2, none⟩ = some (.int .i64 x2)) :
    Calls Try.prog 143 #[.slice (some ⟨b, o, none⟩) 3 cap] w fun r w' => r = .returned (.tuple #[tv (ofT [x0, x1, x2]), .bool (ofB [x0, x1, x2])]) ∧ Ext w w' := by
  cases hr : rightB ⟨3, x0, x1, x2, 0⟩
  all_goals
    have HR := Lib.hid hr
    clear hr
    go_enter Try.func143, Try.ntmps143
    go_wp2
    refine wp_loop_rounds 4 ?_
    iterate 4
      rw [rounds_succ]
      go_wp2_with (first | (go_at_call 142; refine (list_no _ _ _ _ _ _ HR.out).mono ?_; rintro r w' ⟨rfl, x, rfl⟩) | (go_at_call 142; refine (list_yes _ _ _ _ _ _ HR.out).mono ?_; rintro r w' ⟨g, c, rfl, ⟨x, rfl⟩, ho⟩; clear ho))
    go_returns
    exact ⟨rett rfl (by simp [ofT, ofB, tmOf, HR.out, tv, tz]), by (repeat' (first | with_reducible exact Ext.refl _ | with_reducible refine Ext.ext ?_ _ | with_reducible refine Ext.alloc ?_ _ | with_reducible refine Ext.drew ?_ | with_reducible refine Ext.drewN ?_ _ | with_reducible assumption))⟩

theorem of_4 (x0 x1 x2 x3 : Int) (b o cap : Nat) (w : World) (hb : b < w.heap.size) (c0 : w.cell? ⟨b, o, none⟩ = some (.int .i64 x0)) (c1 : w.cell? ⟨b, o + 1, none⟩ = some (.int .i64 x1)) (c2 : w.cell? ⟨b, o + 2, none⟩ = some (.int .i64 x2)) (c3 : w.cell? ⟨b, o + 3, none⟩ = some (.int .i64 x3)) :
    Calls Try.prog 143 #[.slice (some ⟨b, o, none⟩) 4 cap] w fun r w' => r = .returned (.tuple #[tv (ofT [x0, x1, x2, x3]), .bool (ofB [x0, x1, x2, x3])]) ∧ Ext w w' := by
  cases hr : rightB ⟨4, x0, x1, x2, x3⟩
  all_goals
    have HR := Lib.hid hr
    clear hr
    go_enter Try.func143, Try.ntmps143
    go_wp2
    refine wp_loop_rounds 5 ?_
    iterate 5
      rw [rounds_succ]
      go_wp2_with (first | (go_at_call 142; refine (list_no _ _ _ _ _ _ HR.out).mono ?_; rintro r w' ⟨rfl, x, rfl⟩) | (go_at_call 142; refine (list_yes _ _ _ _ _ _ HR.out).mono ?_; rintro r w' ⟨g, c, rfl, ⟨x, rfl⟩, ho⟩; clear ho))
    go_returns
    exact ⟨rett rfl (by simp [ofT, ofB, tmOf, HR.out, tv, tz]), by (repeat' (first | with_reducible exact Ext.refl _ | with_reducible refine Ext.ext ?_ _ | with_reducible refine Ext.alloc ?_ _ | with_reducible refine Ext.drew ?_ | with_reducible refine Ext.drewN ?_ _ | with_reducible assumption))⟩
theorem own_cells {w : World} {base e g n cap : Nat} {xs : List Int} (h : w.ownsRow base e 1 (.slice (some ⟨g, 0, none⟩) n cap) n (ints xs)) (j : Nat) (hj : j < n) (u : Int) (hu : xs[j]? = some u) : w.cell? ⟨g, j, none⟩ = some (.int .i64 u) := by
  rw [h.cellAt j (by omega)]
  simp [ints, hu]
theorem own_lt {w : World} {base e size g n m cap : Nat} {xs : List Value} (h : w.ownsRow base e size (.slice (some ⟨g, 0, none⟩) n cap) m xs) : base ≤ g ∧ g < w.heap.size := h.lt g rfl

end Go.Proofs.Ytkmgdejpdhlleaa
