/- Steps: the reference. -/
import Derived.Test.YtkmgdejpdhlleaaRef1
import Derived.Test.YtkmgdejpdhlleaaHop4
import Derived.Test.YtkmgdejpdhlleaaApp
import Derived.Test.YtkmgdejpdhlleaaHopLaw2
import Derived.Test.YtkmgdejpdhlleaaRef1f
namespace Go.Proofs.Ytkmgdejpdhlleaa
set_option linter.unusedSimpArgs false
set_option linter.unusedVariables false
set_option maxRecDepth 100000
open Go.RowKit

theorem info_part : (Try.prog.info? 187).map (fun i => (i.zero, i.size, i.bytes)) = some (some (.agg #[.int .i64 0, .int .i64 0]), 2, 16) := by kernel_rfl
/-- Pairs of numbers as cells. -/
def prs (o v : Nat → Int) : Nat → List Value
  | 0 => []
  | n + 1 => prs o v n ++ [.int .i64 (o n), .int .i64 (v n)]
theorem prs_len (o v : Nat → Int) : ∀ n, (prs o v n).length = n * 2
  | 0 => rfl
  | n + 1 => by simp [prs, prs_len o v n]; omega
theorem prs_get (o v : Nat → Int) {i : Nat} : ∀ {n : Nat}, i < n → (prs o v n)[i * 2]? = some (.int .i64 (o i)) ∧ (prs o v n)[i * 2 + 1]? = some (.int .i64 (v i))
  | 0, h => absurd h (by omega)
  | n + 1, h => by
    by_cases hi : i = n
    · subst hi
      have hl := prs_len o v i
      constructor
      · rw [prs, List.getElem?_append_right (by omega), hl, Nat.sub_self]; rfl
      · rw [prs, List.getElem?_append_right (by omega), hl, show i * 2 + 1 - i * 2 = 1 by omega]; rfl
    · have ih := prs_get o v (i := i) (n := n) (by omega)
      have hl := prs_len o v n
      exact ⟨by rw [prs, List.getElem?_append_left (by omega)]; exact ih.1, by rw [prs, List.getElem?_append_left (by omega)]; exact ih.2⟩
/-- Which coordinate a step's place keeps; what it adds. -/
def ptO (h : Hp) (i : Nat) : Int := if (i : Int) < h.k then i else -1
def ptV (h : Hp) (i : Nat) : Int := atV h i

theorem hcells_A (f k l a b c e p q r s : Int) (i : Nat) (h : i < 4) : [Value.int .i64 f, .int .i64 k, .int .i64 l, .int .i64 a, .int .i64 b, .int .i64 c, .int .i64 e, .int .i64 p, .int .i64 q, .int .i64 r, .int .i64 s][3 + i]? = some (.int .i64 (cAt a b c e i)) := by
  obtain rfl | rfl | rfl | rfl : i = 0 ∨ i = 1 ∨ i = 2 ∨ i = 3 := by omega
  all_goals rfl
theorem hcells_T (f k l a b c e p q r s : Int) (i : Nat) (h : i < 4) : [Value.int .i64 f, .int .i64 k, .int .i64 l, .int .i64 a, .int .i64 b, .int .i64 c, .int .i64 e, .int .i64 p, .int .i64 q, .int .i64 r, .int .i64 s][7 + i]? = some (.int .i64 (cAt p q r s i)) := by
  obtain rfl | rfl | rfl | rfl : i = 0 ∨ i = 1 ∨ i = 2 ∨ i = 3 := by omega
  all_goals rfl

def PartsPost (h : Hp) (w : World) (r : Ending) (w' : World) : Prop :=
  if hopB h then ∃ g cap, r = .returned (.tuple #[.slice (some ⟨g, 0, none⟩) (h.k + h.l).toNat cap, .bool true]) ∧ Ext w w' ∧
      w'.ownsRow w.heap.size 187 2 (.slice (some ⟨g, 0, none⟩) (h.k + h.l).toNat cap) (h.k + h.l).toNat (prs (ptO h) (ptV h) (h.k + h.l).toNat)
  else r = .returned (.tuple #[.slice none 0 0, .bool false]) ∧ Ext w w'
theorem PartsPost.no {h : Hp} {w w' : World} {r : Ending} (hb : hopB h = false) (hr : r = .returned (.tuple #[.slice none 0 0, .bool false])) (hx : Ext w w') : PartsPost h w r w' := by
  unfold PartsPost
  rw [hb, if_neg (by simp)]
  exact ⟨hr, hx⟩

set_option maxHeartbeats 2000000 in
theorem parts_out (f k l a b c e p q r s : Int) (w : World) (h : ¬ (1 ≤ f ∧ f ≤ 4 ∧ 0 ≤ k ∧ k ≤ f ∧ 0 ≤ l ∧ l ≤ 4)) :
    Calls Try.prog 95 #[.agg #[.int .i64 f, .int .i64 k, .int .i64 l, .int .i64 a, .int .i64 b, .int .i64 c, .int .i64 e, .int .i64 p, .int .i64 q, .int .i64 r, .int .i64 s]] w fun r w' => r = .returned (.tuple #[.slice none 0 0, .bool false]) ∧ Ext w w' := by
  go_enter Try.func95, Try.ntmps95
  go_wp2
  all_goals first | (exfalso; omega; done) | skip
  all_goals (go_returns; exact ⟨rett rfl rfl, by (repeat' (first | with_reducible exact Ext.refl _ | with_reducible refine Ext.ext ?_ _ | with_reducible refine Ext.alloc ?_ _ | with_reducible refine Ext.drew ?_ | with_reducible refine Ext.drewN ?_ _ | with_reducible assumption))⟩)
set_option maxHeartbeats 2000000 in
theorem parts_sum (f k l a b c e p q r s : Int) (w : World) (h1 : 1 ≤ f) (h2 : f ≤ 4) (h3 : 0 ≤ k) (h4 : k ≤ f) (h5 : 0 ≤ l) (h6 : l ≤ 4) (h : k + l < 1 ∨ 4 < k + l) :
    Calls Try.prog 95 #[.agg #[.int .i64 f, .int .i64 k, .int .i64 l, .int .i64 a, .int .i64 b, .int .i64 c, .int .i64 e, .int .i64 p, .int .i64 q, .int .i64 r, .int .i64 s]] w fun r w' => r = .returned (.tuple #[.slice none 0 0, .bool false]) ∧ Ext w w' := by
  have hs : k + l ≤ 9223372036854775807 ∧ -9223372036854775808 ≤ k + l := by omega
  rcases h with h | h
  all_goals
    go_enter Try.func95, Try.ntmps95
    go_wp2
    all_goals (go_returns; exact ⟨rett rfl rfl, by (repeat' (first | with_reducible exact Ext.refl _ | with_reducible refine Ext.ext ?_ _ | with_reducible refine Ext.alloc ?_ _ | with_reducible refine Ext.drew ?_ | with_reducible refine Ext.drewN ?_ _ | with_reducible assumption))⟩)

set_option maxRecDepth 100000 in
set_option maxHeartbeats 4000000 in
theorem parts_in (f k l a b c e p q r s : Int) (w : World) (h1 : 1 ≤ f) (h2 : f ≤ 4) (h3 : 0 ≤ k) (h4 : k ≤ f) (h5 : 0 ≤ l) (h6 : l ≤ 4) (h7 : 1 ≤ k + l) (h8 : k + l ≤ 4) :
    Calls Try.prog 95 #[.agg #[.int .i64 f, .int .i64 k, .int .i64 l, .int .i64 a, .int .i64 b, .int .i64 c, .int .i64 e, .int .i64 p, .int .i64 q, .int .i64 r, .int .i64 s]] w (PartsPost ⟨f, k, l, a, b, c, e, p, q, r, s⟩ w) := by
  have hbb : hopB ⟨f, k, l, a, b, c, e, p, q, r, s⟩ = (withinB a b c e k && withinB p q r s l) := by
    simp [hopB, h1, h2, h3, h4, h5, h6, h7, h8]
  have HBB := Lib.hid hbb
  clear hbb
  generalize hH : (⟨f, k, l, a, b, c, e, p, q, r, s⟩ : Hp) = H at HBB ⊢
  have hV1 : ∀ i : Nat, (i : Int) < k → ptO H i = i ∧ ptV H i = cAt a b c e i := by
    subst hH
    intro i hi
    exact ⟨if_pos hi, if_pos hi⟩
  have hV2 : ∀ i : Nat, ptO H (k.toNat + i) = -1 ∧ ptV H (k.toNat + i) = cAt p q r s i := by
    subst hH
    intro i
    have hn : ¬ ((k.toNat + i : Nat) : Int) < k := by omega
    refine ⟨if_neg hn, ?_⟩
    simp only [ptV, atV, if_neg hn]
    congr 1
    omega
  have V1 := Lib.hid hV1
  have V2 := Lib.hid hV2
  have HK : Hid (H.k + H.l = k + l) := Lib.hid (by subst hH; rfl)
  clear hV1 hV2 hH
  go_enter Try.func95, Try.ntmps95
  go_wp2
  go_loopw [4, 5] (fun v i wr => ∃ m : Nat, m ≤ 4 ∧ i = .int .i64 m ∧ wiTo k a b c e m = true ∧ (∃ x, wr = ext (w.alloc (.cells #[.int .i64 f, .int .i64 k, .int .i64 l, .int .i64 a, .int .i64 b, .int .i64 c, .int .i64 e, .int .i64 p, .int .i64 q, .int .i64 r, .int .i64 s] 82)) x) ∧
    wr.ownsRow (w.heap.size + 1) 187 2 v (min m k.toNat) (prs (ptO H) (ptV H) (min m k.toNat)))
    (fun _ i _ => 4 - (intOf i).toNat)
  case atStart => exact ⟨0, by omega, rfl, rfl, Ext.refl _, by rw [Nat.zero_min]; exact World.ownsRow_nil _ _ _ _⟩
  case round =>
    obtain ⟨m, hm, rfl, hok, ⟨x, rfl⟩, hown⟩ := hrel
    have HOK := Lib.hid hok
    have HOWN := Lib.hid hown
    clear hok hown
    by_cases hlt : m < 4
    · have hce := hcells_A f k l a b c e p q r s m hlt
      go_wp2_with (at_builtin; refine wpList_push rfl _ _ 148 rfl 187 (.agg #[.int .i64 0, .int .i64 0]) 2 16 Try.underlying148 info_part rfl (by decide) _ x (w.heap.size + 1) _ _ _ HOWN.out _ 1 1 #[.int .i64 _, .int .i64 _] rfl rfl rfl (by simp [Value.oneCell']) (by decide) (by simp) (by simp [maxLen]; omega) (by omega) (by simp) (by simp) ?_; intro g cap y hown1; have HOWN1 := Lib.hid hown1; clear hown1)
      all_goals (try simp only [bne_iff_ne, ne_eq, Bool.not_eq_true, bne_eq_false_iff_eq] at *)
      all_goals first
        | (go_returns
           exact PartsPost.no (by rw [HBB.out, withinB_false a b c e k m hlt (by omega)]; rfl) (rett rfl rfl) (by (repeat' (first | with_reducible exact Ext.refl _ | with_reducible refine Ext.ext ?_ _ | with_reducible refine Ext.alloc ?_ _ | with_reducible refine Ext.drew ?_ | with_reducible refine Ext.drewN ?_ _ | with_reducible assumption))))
        | (have hc : wiAt k (cAt a b c e m) m = true := decide_eq_true ⟨by omega, by omega, fun h => by omega⟩
           exact ⟨⟨m + 1, by omega, by go_num, by simp [wiTo, HOK.out, hc], (Ext.refl _).ext _, by rw [show min (m + 1) k.toNat = min m k.toNat by omega]; exact HOWN.out⟩, by simp [intOf]; omega⟩)
        | (have hc : wiAt k (cAt a b c e m) m = true := decide_eq_true ⟨by omega, by omega, fun h => by omega⟩
           refine ⟨⟨m + 1, by omega, by go_num, by simp [wiTo, HOK.out, hc], (Ext.refl _).ext _, ?_⟩, by simp [intOf]; omega⟩
           have e1 : min m k.toNat = m := by omega
           have hown := HOWN1.out
           rw [e1] at hown
           obtain ⟨e3, e4⟩ := V1.out m (by assumption)
           rw [e1, show min (m + 1) k.toNat = m + 1 by omega, prs, e3, e4]
           exact hown)
    · obtain rfl : m = 4 := by omega
      have hown := HOWN.out
      rw [show min 4 k.toNat = k.toNat by omega] at hown
      have HO1 := Lib.hid hown
      clear hown
      go_wp2
      go_loopw [4, 7] (fun v i wr => ∃ m : Nat, m ≤ 4 ∧ i = .int .i64 m ∧ wiTo l p q r s m = true ∧ (∃ x, wr = ext (w.alloc (.cells #[.int .i64 f, .int .i64 k, .int .i64 l, .int .i64 a, .int .i64 b, .int .i64 c, .int .i64 e, .int .i64 p, .int .i64 q, .int .i64 r, .int .i64 s] 82)) x) ∧
        wr.ownsRow (w.heap.size + 1) 187 2 v (k.toNat + min m l.toNat) (prs (ptO H) (ptV H) (k.toNat + min m l.toNat)))
        (fun _ i _ => 4 - (intOf i).toNat)
      case atStart => exact ⟨0, by omega, rfl, rfl, (Ext.refl _).ext _, by rw [Nat.zero_min]; exact HO1.out⟩
      case round =>
        obtain ⟨m, hm, rfl, hok, ⟨z, rfl⟩, hown⟩ := hrel
        have HOK2 := Lib.hid hok
        have HOWN2 := Lib.hid hown
        clear hok hown
        by_cases hlt : m < 4
        · have hce := hcells_T f k l a b c e p q r s m hlt
          go_wp2_with (at_builtin; refine wpList_push rfl _ _ 148 rfl 187 (.agg #[.int .i64 0, .int .i64 0]) 2 16 Try.underlying148 info_part rfl (by decide) _ z (w.heap.size + 1) _ _ _ HOWN2.out _ 1 1 #[.int .i64 _, .int .i64 _] rfl rfl rfl (by simp [Value.oneCell']) (by decide) (by simp) (by simp [maxLen]; omega) (by omega) (by simp) (by simp) ?_; intro g cap y hown1; have HOWN1 := Lib.hid hown1; clear hown1)
          all_goals first
            | (go_returns
               exact PartsPost.no (by rw [HBB.out, withinB_false p q r s l m hlt (by (try simp only [bne_iff_ne, ne_eq, Bool.not_eq_true, bne_eq_false_iff_eq] at *); omega), Bool.and_false]) (rett rfl rfl) (by (repeat' (first | with_reducible exact Ext.refl _ | with_reducible refine Ext.ext ?_ _ | with_reducible refine Ext.alloc ?_ _ | with_reducible refine Ext.drew ?_ | with_reducible refine Ext.drewN ?_ _ | with_reducible assumption))))
            | go_roundw
          case rel =>
            (repeat apply Exists.intro)
            refine ⟨?inv, rfl⟩
            case inv =>
              clear HOWN
              (try simp only [bne_iff_ne, ne_eq, Bool.not_eq_true, bne_eq_false_iff_eq] at *)
              exact ⟨m + 1, by omega, by go_num, by simp [wiTo, HOK2.out, show wiAt l (cAt p q r s m) m = true from decide_eq_true ⟨by omega, by omega, fun h => by omega⟩], (Ext.refl _).ext _, by rw [show min (m + 1) l.toNat = min m l.toNat by omega]; exact HOWN2.out⟩
          case measure => simp [intOf]; omega
          case rel =>
            refine ⟨_, _, _, _, ?inv, rfl, rfl, rfl, rfl⟩
            case inv =>
              (try simp only [bne_iff_ne, ne_eq, Bool.not_eq_true, bne_eq_false_iff_eq] at *)
              refine ⟨m + 1, by omega, by go_num, by simp [wiTo, HOK2.out, show wiAt l (cAt p q r s m) m = true from decide_eq_true ⟨by omega, by omega, fun h => by omega⟩], (Ext.refl _).ext _, ?_⟩
              have e1 : min m l.toNat = m := by omega
              have hown := HOWN1.out
              rw [e1] at hown
              obtain ⟨e3, e4⟩ := V2.out m
              rw [e1, show min (m + 1) l.toNat = m + 1 by omega, show k.toNat + (m + 1) = (k.toNat + m) + 1 by omega, prs, e3, e4]
              exact hown
          case measure => simp [intOf]; omega
        · obtain rfl : m = 4 := by omega
          have hown := HOWN2.out
          rw [show k.toNat + min 4 l.toNat = (k + l).toNat by omega] at hown
          obtain ⟨g, cap, hv, _⟩ := hown.form (by omega)
          subst hv
          have HO2 := Lib.hid hown
          clear hown
          go_wp2
          go_returns
          unfold PartsPost
          rw [if_pos (by rw [HBB.out, show withinB a b c e k = true from HOK.out, show withinB p q r s l = true from HOK2.out]; rfl), HK.out]
          exact ⟨g, cap, rett rfl rfl, by (repeat' (first | with_reducible exact Ext.refl _ | with_reducible refine Ext.ext ?_ _ | with_reducible refine Ext.alloc ?_ _ | with_reducible refine Ext.drew ?_ | with_reducible refine Ext.drewN ?_ _ | with_reducible assumption)), own_base HO2.out (by omega)⟩
theorem parts_any (x : Hp) (w : World) : Calls Try.prog 95 #[hv x] w (PartsPost x w) := by
  obtain ⟨f, k, l, a, b, c, e, p, q, r, s⟩ := x
  by_cases h : 1 ≤ f ∧ f ≤ 4 ∧ 0 ≤ k ∧ k ≤ f ∧ 0 ≤ l ∧ l ≤ 4
  · obtain ⟨h1, h2, h3, h4, h5, h6⟩ := h
    by_cases hs : k + l < 1 ∨ 4 < k + l
    · exact (parts_sum f k l a b c e p q r s w h1 h2 h3 h4 h5 h6 hs).mono fun r w' hp => PartsPost.no (by simp only [hopB]; rw [decide_eq_false (by omega)]; rfl) hp.1 hp.2
    · exact parts_in f k l a b c e p q r s w h1 h2 h3 h4 h5 h6 (by omega) (by omega)
  · exact (parts_out f k l a b c e p q r s w h).mono fun r w' hp => PartsPost.no (by simp only [hopB]; rw [decide_eq_false (by omega)]; rfl) hp.1 hp.2
theorem parts_no {x : Hp} (h : hopB x = false) (w : World) : Calls Try.prog 95 #[hv x] w fun r w' => r = .returned (.tuple #[.slice none 0 0, .bool false]) ∧ Ext w w' :=
  (parts_any x w).mono fun r w' hp => by
    unfold PartsPost at hp
    rwa [if_neg (by rw [h]; simp)] at hp
theorem parts_yes {x : Hp} {n : Nat} (h : hopB x = true) (hn : x.k + x.l = n) (w : World) : Calls Try.prog 95 #[hv x] w fun r w' => ∃ g cap y, r = .returned (.tuple #[.slice (some ⟨g, 0, none⟩) n cap, .bool true]) ∧ w' = ext w y ∧
      (ext w y).ownsRow w.heap.size 187 2 (.slice (some ⟨g, 0, none⟩) n cap) n (prs (ptO x) (ptV x) n) :=
  (parts_any x w).mono fun r w' hp => by
    unfold PartsPost at hp
    rw [if_pos h, show (x.k + x.l).toNat = n by omega] at hp
    obtain ⟨g, cap, hr, ⟨y, rfl⟩, ho⟩ := hp
    exact ⟨g, cap, y, hr, rfl, ho⟩
/-- The cells of a row of pairs, in any later world. -/
theorem prs_cells {w : World} {b g n cap : Nat} {e : TypeId} {o v : Nat → Int} (h : w.ownsRow b e 2 (.slice (some ⟨g, 0, none⟩) n cap) n (prs o v n)) {j : Nat} (hj : j < n) : w.cell? ⟨g, j * 2, none⟩ = some (.int .i64 (o j)) ∧ w.cell? ⟨g, j * 2 + 1, none⟩ = some (.int .i64 (v j)) := by
  obtain ⟨b', off, hb, hc⟩ := (own_rd h).cells (by omega)
  obtain ⟨rfl, rfl⟩ : g = b' ∧ 0 = off := by simpa using hb
  obtain ⟨h1, h2⟩ := prs_get o v hj
  have c1 := hc _ _ h1
  have c2 := hc _ _ h2
  rw [Nat.zero_add] at c1 c2
  exact ⟨c1, c2⟩

theorem parts_no' {x : Hp} (h : hopB x = false) : Hid (∀ w, Calls Try.prog 95 #[.agg #[.int .i64 x.f, .int .i64 x.k, .int .i64 x.l, .int .i64 x.a, .int .i64 x.b, .int .i64 x.c, .int .i64 x.e, .int .i64 x.p, .int .i64 x.q, .int .i64 x.r, .int .i64 x.s]] w fun r w' => r = .returned (.tuple #[.slice none 0 0, .bool false]) ∧ Ext w w') := Lib.hid (parts_no h)
theorem parts_yes' {x : Hp} {n : Nat} (h : hopB x = true) (hn : x.k + x.l = n) : Hid (∀ w, Calls Try.prog 95 #[.agg #[.int .i64 x.f, .int .i64 x.k, .int .i64 x.l, .int .i64 x.a, .int .i64 x.b, .int .i64 x.c, .int .i64 x.e, .int .i64 x.p, .int .i64 x.q, .int .i64 x.r, .int .i64 x.s]] w fun r w' => ∃ g cap y, r = .returned (.tuple #[.slice (some ⟨g, 0, none⟩) n cap, .bool true]) ∧ w' = ext w y ∧
      (ext w y).ownsRow w.heap.size 187 2 (.slice (some ⟨g, 0, none⟩) n cap) n (prs (ptO x) (ptV x) n)) := Lib.hid (parts_yes h hn)

end Go.Proofs.Ytkmgdejpdhlleaa
