/- Steps: the reference. -/
import Derived.Test.YtkmgdejpdhlleaaRef1
import Derived.Test.YtkmgdejpdhlleaaHop4
import Derived.Test.YtkmgdejpdhlleaaApp
import Derived.Test.YtkmgdejpdhlleaaHopLaw2
import Derived.Test.YtkmgdejpdhlleaaRef1f
namespace Go.Proofs.Ytkmgdejpdhlleaa
set_option linter.unusedSimpArgs false
set_option linter.unusedVariables false
set_option maxRecDepth 100000
open Go.RowKit

theorem info_part : (Try.prog.info? 187).map (fun i => (i.zero, i.size, i.bytes)) = some (some (.agg #[.int .i64 0, .int .i64 0]), 2, 16) := by kernel_rfl
/-- Pairs of numbers as cells. -/
def prs (o v : Nat → Int) : Nat → List Value
  | 0 => []
  | n + 1 => prs o v n ++ [.int .i64 (o n), .int .i64 (v n)]
theorem prs_len (o v : Nat → Int) : ∀ n, (prs o v n).length = n * 2
  | 0 => rfl
  | n + 1 => by simp [prs, prs_len o v n]; omega
theorem prs_get (o v : Nat → Int) {i : Nat} : ∀ {n : Nat}, i < n → (prs o v n)[i * 2]? = some (.int .i64 (o i)) ∧ (prs o v n)[i * 2 + 1]? = some (.int .i64 (v i))
  | 0, h => absurd h (by omega)
  | n + 1, h => by
    by_cases hi : i = n
    · subst hi
      have hl := prs_len o v i
      constructor
      · rw [prs, List.getElem?_append_right (by omega), hl, Nat.sub_self]; rfl
      · rw [prs, List.getElem?_append_right (by omega), hl, show i * 2 + 1 - i * 2 = 1 by omega]; rfl
    · have ih := prs_get o v (i := i) (n := n) (by omega)
      have hl := prs_len o v n
      exact ⟨by rw [prs, List.getElem?_append_left (by omega)]; exact ih.1, by rw [prs, List.getElem?_append_left (by omega)]; exact ih.2⟩
theorem prs_congr {o v o' v' : Nat → Int} : ∀ {n : Nat}, (∀ i, i < n → o i = o' i ∧ v i = v' i) → prs o v n = prs o' v' n
  | 0, _ => rfl
  | n + 1, h => by rw [prs, prs, prs_congr (fun i hi => h i (by omega)), (h n (by omega)).1, (h n (by omega)).2]
theorem prs_one (o v : Nat → Int) : ∀ n, ∀ u ∈ prs o v n, u.oneCell' = true
  | 0, u, h => by simp [prs] at h
  | n + 1, u, h => by
    simp only [prs, List.mem_append, List.mem_cons, List.not_mem_nil, or_false] at h
    rcases h with h | rfl | rfl
    · exact prs_one o v n u h
    · rfl
    · rfl
/-- Which coordinate a step's place keeps; what it adds. -/
def ptO (h : Hp) (i : Nat) : Int := if (i : Int) < h.k then i else -1
def ptV (h : Hp) (i : Nat) : Int := atV h i

theorem hcells_A (f k l a b c e p q r s : Int) (i : Nat) (h : i < 4) : [Value.int .i64 f, .int .i64 k, .int .i64 l, .int .i64 a, .int .i64 b, .int .i64 c, .int .i64 e, .int .i64 p, .int .i64 q, .int .i64 r, .int .i64 s][3 + i]? = some (.int .i64 (cAt a b c e i)) := by
  obtain rfl | rfl | rfl | rfl : i = 0 ∨ i = 1 ∨ i = 2 ∨ i = 3 := by omega
  all_goals rfl
theorem hcells_T (f k l a b c e p q r s : Int) (i : Nat) (h : i < 4) : [Value.int .i64 f, .int .i64 k, .int .i64 l, .int .i64 a, .int .i64 b, .int .i64 c, .int .i64 e, .int .i64 p, .int .i64 q, .int .i64 r, .int .i64 s][7 + i]? = some (.int .i64 (cAt p q r s i)) := by
  obtain rfl | rfl | rfl | rfl : i = 0 ∨ i = 1 ∨ i = 2 ∨ i = 3 := by omega
  all_goals rfl

def PartsPost (h : Hp) (w : World) (r : Ending) (w' : World) : Prop :=
  if hopB h then ∃ g cap, r = .returned (.tuple #[.slice (some ⟨g, 0, none⟩) (h.k + h.l).toNat cap, .bool true]) ∧ Ext w w' ∧
      w'.ownsRow w.heap.size 187 2 (.slice (some ⟨g, 0, none⟩) (h.k + h.l).toNat cap) (h.k + h.l).toNat (prs (ptO h) (ptV h) (h.k + h.l).toNat)
  else r = .returned (.tuple #[.slice none 0 0, .bool false]) ∧ Ext w w'
theorem PartsPost.no {h : Hp} {w w' : World} {r : Ending} (hb : hopB h = false) (hr : r = .returned (.tuple #[.slice none 0 0, .bool false])) (hx : Ext w w') : PartsPost h w r w' := by
  unfold PartsPost
  rw [hb, if_neg (by simp)]
  exact ⟨hr, hx⟩

set_option maxHeartbeats 2000000 in
theorem parts_out (f k l a b c e p q r s : Int) (w : World) (h : ¬ (1 ≤ f ∧ f ≤ 4 ∧ 0 ≤ k ∧ k ≤ f ∧ 0 ≤ l ∧ l ≤ 4)) :
    Calls Try.prog 95 #[.agg #[.int .i64 f, .int .i64 k, .int .i64 l, .int .i64 a, .int .i64 b, .int .i64 c, .int .i64 e, .int .i64 p, .int .i64 q, .int .i64 r, .int .i64 s]] w fun r w' => r = .returned (.tuple #[.slice none 0 0, .bool false]) ∧ Ext w w' := by
  go_enter Try.func95, Try.ntmps95
  go_wp2
  all_goals first | (exfalso; omega; done) | skip
  all_goals (go_returns; exact ⟨rett rfl rfl, by (repeat' (first | with_reducible exact Ext.refl _ | with_reducible refine Ext.ext ?_ _ | with_reducible refine Ext.alloc ?_ _ | with_reducible refine Ext.drew ?_ | with_reducible refine Ext.drewN ?_ _ | with_reducible assumption))⟩)
set_option maxHeartbeats 2000000 in
theorem parts_sum (f k l a b c e p q r s : Int) (w : World) (h1 : 1 ≤ f) (h2 : f ≤ 4) (h3 : 0 ≤ k) (h4 : k ≤ f) (h5 : 0 ≤ l) (h6 : l ≤ 4) (h : k + l < 1 ∨ 4 < k + l) :
    Calls Try.prog 95 #[.agg #[.int .i64 f, .int .i64 k, .int .i64 l, .int .i64 a, .int .i64 b, .int .i64 c, .int .i64 e, .int .i64 p, .int .i64 q, .int .i64 r, .int .i64 s]] w fun r w' => r = .returned (.tuple #[.slice none 0 0, .bool false]) ∧ Ext w w' := by
  have hs : k + l ≤ 9223372036854775807 ∧ -9223372036854775808 ≤ k + l := by omega
  rcases h with h | h
  all_goals
    go_enter Try.func95, Try.ntmps95
    go_wp2
    all_goals (go_returns; exact ⟨rett rfl rfl, by (repeat' (first | with_reducible exact Ext.refl _ | with_reducible refine Ext.ext ?_ _ | with_reducible refine Ext.alloc ?_ _ | with_reducible refine Ext.drew ?_ | with_reducible refine Ext.drewN ?_ _ | with_reducible assumption))⟩)

set_option maxRecDepth 100000 in
set_option maxHeartbeats 4000000 in
theorem parts_in (f k l a b c e p q r s : Int) (w : World) (h1 : 1 ≤ f) (h2 : f ≤ 4) (h3 : 0 ≤ k) (h4 : k ≤ f) (h5 : 0 ≤ l) (h6 : l ≤ 4) (h7 : 1 ≤ k + l) (h8 : k + l ≤ 4) :
    Calls Try.prog 95 #[.agg #[.int .i64 f, .int .i64 k, .int .i64 l, .int .i64 a, .int .i64 b, .int .i64 c, .int .i64 e, .int .i64 p, .int .i64 q, .int .i64 r, .int .i64 s]] w (PartsPost ⟨f, k, l, a, b, c, e, p, q, r, s⟩ w) := by
  have hbb : hopB ⟨f, k, l, a, b, c, e, p, q, r, s⟩ = (withinB a b c e k && withinB p q r s l) := by
    simp [hopB, h1, h2, h3, h4, h5, h6, h7, h8]
  have HBB := Lib.hid hbb
  clear hbb
  generalize hH : (⟨f, k, l, a, b, c, e, p, q, r, s⟩ : Hp) = H at HBB ⊢
  have hV1 : ∀ i : Nat, (i : Int) < k → ptO H i = i ∧ ptV H i = cAt a b c e i := by
    subst hH
    intro i hi
    exact ⟨if_pos hi, if_pos hi⟩
  have hV2 : ∀ i : Nat, ptO H (k.toNat + i) = -1 ∧ ptV H (k.toNat + i) = cAt p q r s i := by
    subst hH
    intro i
    have hn : ¬ ((k.toNat + i : Nat) : Int) < k := by omega
    refine ⟨if_neg hn, ?_⟩
    simp only [ptV, atV, if_neg hn]
    congr 1
    omega
  have V1 := Lib.hid hV1
  have V2 := Lib.hid hV2
  have HK : Hid (H.k + H.l = k + l) := Lib.hid (by subst hH; rfl)
  clear hV1 hV2 hH
  go_enter Try.func95, Try.ntmps95
  go_wp2
  go_loopw [4, 5] (fun v i wr => ∃ m : Nat, m ≤ 4 ∧ i = .int .i64 m ∧ wiTo k a b c e m = true ∧ (∃ x, wr = ext (w.alloc (.cells #[.int .i64 f, .int .i64 k, .int .i64 l, .int .i64 a, .int .i64 b, .int .i64 c, .int .i64 e, .int .i64 p, .int .i64 q, .int .i64 r, .int .i64 s] 82)) x) ∧
    wr.ownsRow (w.heap.size + 1) 187 2 v (min m k.toNat) (prs (ptO H) (ptV H) (min m k.toNat)))
    (fun _ i _ => 4 - (intOf i).toNat)
  case atStart => exact ⟨0, by omega, rfl, rfl, Ext.refl _, by rw [Nat.zero_min]; exact World.ownsRow_nil _ _ _ _⟩
  case round =>
    obtain ⟨m, hm, rfl, hok, ⟨x, rfl⟩, hown⟩ := hrel
    have HOK := Lib.hid hok
    have HOWN := Lib.hid hown
    clear hok hown
    by_cases hlt : m < 4
    · have hce := hcells_A f k l a b c e p q r s m hlt
      go_wp2_with (at_builtin; refine wpList_push rfl _ _ 148 rfl 187 (.agg #[.int .i64 0, .int .i64 0]) 2 16 Try.underlying148 info_part rfl (by decide) _ x (w.heap.size + 1) _ _ _ HOWN.out _ 1 1 #[.int .i64 _, .int .i64 _] rfl rfl rfl (by simp [Value.oneCell']) (by decide) (by simp) (by simp [maxLen]; omega) (by omega) (by simp) (by simp) ?_; intro g cap y hown1; have HOWN1 := Lib.hid hown1; clear hown1)
      all_goals (try simp only [bne_iff_ne, ne_eq, Bool.not_eq_true, bne_eq_false_iff_eq] at *)
      all_goals first
        | (go_returns
           exact PartsPost.no (by rw [HBB.out, withinB_false a b c e k m hlt (by omega)]; rfl) (rett rfl rfl) (by (repeat' (first | with_reducible exact Ext.refl _ | with_reducible refine Ext.ext ?_ _ | with_reducible refine Ext.alloc ?_ _ | with_reducible refine Ext.drew ?_ | with_reducible refine Ext.drewN ?_ _ | with_reducible assumption))))
        | (have hc : wiAt k (cAt a b c e m) m = true := decide_eq_true ⟨by omega, by omega, fun h => by omega⟩
           exact ⟨⟨m + 1, by omega, by go_num, by simp [wiTo, HOK.out, hc], (Ext.refl _).ext _, by rw [show min (m + 1) k.toNat = min m k.toNat by omega]; exact HOWN.out⟩, by simp [intOf]; omega⟩)
        | (have hc : wiAt k (cAt a b c e m) m = true := decide_eq_true ⟨by omega, by omega, fun h => by omega⟩
           refine ⟨⟨m + 1, by omega, by go_num, by simp [wiTo, HOK.out, hc], (Ext.refl _).ext _, ?_⟩, by simp [intOf]; omega⟩
           have e1 : min m k.toNat = m := by omega
           have hown := HOWN1.out
           rw [e1] at hown
           obtain ⟨e3, e4⟩ := V1.out m (by assumption)
           rw [e1, show min (m + 1) k.toNat = m + 1 by omega, prs, e3, e4]
           exact hown)
    · obtain rfl : m = 4 := by omega
      have hown := HOWN.out
      rw [show min 4 k.toNat = k.toNat by omega] at hown
      have HO1 := Lib.hid hown
      clear hown
      go_wp2
      go_loopw [4, 7] (fun v i wr => ∃ m : Nat, m ≤ 4 ∧ i = .int .i64 m ∧ wiTo l p q r s m = true ∧ (∃ x, wr = ext (w.alloc (.cells #[.int .i64 f, .int .i64 k, .int .i64 l, .int .i64 a, .int .i64 b, .int .i64 c, .int .i64 e, .int .i64 p, .int .i64 q, .int .i64 r, .int .i64 s] 82)) x) ∧
        wr.ownsRow (w.heap.size + 1) 187 2 v (k.toNat + min m l.toNat) (prs (ptO H) (ptV H) (k.toNat + min m l.toNat)))
        (fun _ i _ => 4 - (intOf i).toNat)
      case atStart => exact ⟨0, by omega, rfl, rfl, (Ext.refl _).ext _, by rw [Nat.zero_min]; exact HO1.out⟩
      case round =>
        obtain ⟨m, hm, rfl, hok, ⟨z, rfl⟩, hown⟩ := hrel
        have HOK2 := Lib.hid hok
        have HOWN2 := Lib.hid hown
        clear hok hown
        by_cases hlt : m < 4
        · have hce := hcells_T f k l a b c e p q r s m hlt
          go_wp2_with (at_builtin; refine wpList_push rfl _ _ 148 rfl 187 (.agg #[.int .i64 0, .int .i64 0]) 2 16 Try.underlying148 info_part rfl (by decide) _ z (w.heap.size + 1) _ _ _ HOWN2.out _ 1 1 #[.int .i64 _, .int .i64 _] rfl rfl rfl (by simp [Value.oneCell']) (by decide) (by simp) (by simp [maxLen]; omega) (by omega) (by simp) (by simp) ?_; intro g cap y hown1; have HOWN1 := Lib.hid hown1; clear hown1)
          all_goals first
            | (go_returns
               exact PartsPost.no (by rw [HBB.out, withinB_false p q r s l m hlt (by (try simp only [bne_iff_ne, ne_eq, Bool.not_eq_true, bne_eq_false_iff_eq] at *); omega), Bool.and_false]) (rett rfl rfl) (by (repeat' (first | with_reducible exact Ext.refl _ | with_reducible refine Ext.ext ?_ _ | with_reducible refine Ext.alloc ?_ _ | with_reducible refine Ext.drew ?_ | with_reducible refine Ext.drewN ?_ _ | with_reducible assumption))))
            | go_roundw
          case rel =>
            (repeat apply Exists.intro)
            refine ⟨?inv, rfl⟩
            case inv =>
              clear HOWN
              (try simp only [bne_iff_ne, ne_eq, Bool.not_eq_true, bne_eq_false_iff_eq] at *)
              exact ⟨m + 1, by omega, by go_num, by simp [wiTo, HOK2.out, show wiAt l (cAt p q r s m) m = true from decide_eq_true ⟨by omega, by omega, fun h => by omega⟩], (Ext.refl _).ext _, by rw [show min (m + 1) l.toNat = min m l.toNat by omega]; exact HOWN2.out⟩
          case measure => simp [intOf]; omega
          case rel =>
            refine ⟨_, _, _, _, ?inv, rfl, rfl, rfl, rfl⟩
            case inv =>
              (try simp only [bne_iff_ne, ne_eq, Bool.not_eq_true, bne_eq_false_iff_eq] at *)
              refine ⟨m + 1, by omega, by go_num, by simp [wiTo, HOK2.out, show wiAt l (cAt p q r s m) m = true from decide_eq_true ⟨by omega, by omega, fun h => by omega⟩], (Ext.refl _).ext _, ?_⟩
              have e1 : min m l.toNat = m := by omega
              have hown := HOWN1.out
              rw [e1] at hown
              obtain ⟨e3, e4⟩ := V2.out m
              rw [e1, show min (m + 1) l.toNat = m + 1 by omega, show k.toNat + (m + 1) = (k.toNat + m) + 1 by omega, prs, e3, e4]
              exact hown
          case measure => simp [intOf]; omega
        · obtain rfl : m = 4 := by omega
          have hown := HOWN2.out
          rw [show k.toNat + min 4 l.toNat = (k + l).toNat by omega] at hown
          obtain ⟨g, cap, hv, _⟩ := hown.form (by omega)
          subst hv
          have HO2 := Lib.hid hown
          clear hown
          go_wp2
          go_returns
          unfold PartsPost
          rw [if_pos (by rw [HBB.out, show withinB a b c e k = true from HOK.out, show withinB p q r s l = true from HOK2.out]; rfl), HK.out]
          exact ⟨g, cap, rett rfl rfl, by (repeat' (first | with_reducible exact Ext.refl _ | with_reducible refine Ext.ext ?_ _ | with_reducible refine Ext.alloc ?_ _ | with_reducible refine Ext.drew ?_ | with_reducible refine Ext.drewN ?_ _ | with_reducible assumption)), own_base HO2.out (by omega)⟩
theorem parts_any (x : Hp) (w : World) : Calls Try.prog 95 #[hv x] w (PartsPost x w) := by
  obtain ⟨f, k, l, a, b, c, e, p, q, r, s⟩ := x
  by_cases h : 1 ≤ f ∧ f ≤ 4 ∧ 0 ≤ k ∧ k ≤ f ∧ 0 ≤ l ∧ l ≤ 4
  · obtain ⟨h1, h2, h3, h4, h5, h6⟩ := h
    by_cases hs : k + l < 1 ∨ 4 < k + l
    · exact (parts_sum f k l a b c e p q r s w h1 h2 h3 h4 h5 h6 hs).mono fun r w' hp => PartsPost.no (by simp only [hopB]; rw [decide_eq_false (by omega)]; rfl) hp.1 hp.2
    · exact parts_in f k l a b c e p q r s w h1 h2 h3 h4 h5 h6 (by omega) (by omega)
  · exact (parts_out f k l a b c e p q r s w h).mono fun r w' hp => PartsPost.no (by simp only [hopB]; rw [decide_eq_false (by omega)]; rfl) hp.1 hp.2
theorem parts_no {x : Hp} (h : hopB x = false) (w : World) : Calls Try.prog 95 #[hv x] w fun r w' => r = .returned (.tuple #[.slice none 0 0, .bool false]) ∧ Ext w w' :=
  (parts_any x w).mono fun r w' hp => by
    unfold PartsPost at hp
    rwa [if_neg (by rw [h]; simp)] at hp
theorem parts_yes {x : Hp} {n : Nat} (h : hopB x = true) (hn : x.k + x.l = n) (w : World) : Calls Try.prog 95 #[hv x] w fun r w' => ∃ g cap y, r = .returned (.tuple #[.slice (some ⟨g, 0, none⟩) n cap, .bool true]) ∧ w' = ext w y ∧
      (ext w y).ownsRow w.heap.size 187 2 (.slice (some ⟨g, 0, none⟩) n cap) n (prs (ptO x) (ptV x) n) :=
  (parts_any x w).mono fun r w' hp => by
    unfold PartsPost at hp
    rw [if_pos h, show (x.k + x.l).toNat = n by omega] at hp
    obtain ⟨g, cap, hr, ⟨y, rfl⟩, ho⟩ := hp
    exact ⟨g, cap, y, hr, rfl, ho⟩
theorem pt_sign (x : Hp) (j : Nat) : (0 ≤ ptO x j ↔ (j : Int) < x.k) ∧ (ptO x j < 0 ↔ ¬ (j : Int) < x.k) := by
  unfold ptO
  split <;> omega
/-- The cells of a row of pairs, in any later world. -/
theorem prs_cells {w : World} {b g n cap : Nat} {e : TypeId} {o v : Nat → Int} (h : w.ownsRow b e 2 (.slice (some ⟨g, 0, none⟩) n cap) n (prs o v n)) {j : Nat} (hj : j < n) : w.cell? ⟨g, j * 2, none⟩ = some (.int .i64 (o j)) ∧ w.cell? ⟨g, j * 2 + 1, none⟩ = some (.int .i64 (v j)) := by
  obtain ⟨b', off, hb, hc⟩ := (own_rd h).cells (by omega)
  obtain ⟨rfl, rfl⟩ : g = b' ∧ 0 = off := by simpa using hb
  obtain ⟨h1, h2⟩ := prs_get o v hj
  have c1 := hc _ _ h1
  have c2 := hc _ _ h2
  rw [Nat.zero_add] at c1 c2
  exact ⟨c1, c2⟩

theorem parts_no' {x : Hp} (h : hopB x = false) : Hid (∀ w, Calls Try.prog 95 #[.agg #[.int .i64 x.f, .int .i64 x.k, .int .i64 x.l, .int .i64 x.a, .int .i64 x.b, .int .i64 x.c, .int .i64 x.e, .int .i64 x.p, .int .i64 x.q, .int .i64 x.r, .int .i64 x.s]] w fun r w' => r = .returned (.tuple #[.slice none 0 0, .bool false]) ∧ Ext w w') := Lib.hid (parts_no h)
theorem parts_yes' {x : Hp} {n : Nat} (h : hopB x = true) (hn : x.k + x.l = n) : Hid (∀ w, Calls Try.prog 95 #[.agg #[.int .i64 x.f, .int .i64 x.k, .int .i64 x.l, .int .i64 x.a, .int .i64 x.b, .int .i64 x.c, .int .i64 x.e, .int .i64 x.p, .int .i64 x.q, .int .i64 x.r, .int .i64 x.s]] w fun r w' => ∃ g cap y, r = .returned (.tuple #[.slice (some ⟨g, 0, none⟩) n cap, .bool true]) ∧ w' = ext w y ∧
      (ext w y).ownsRow w.heap.size 187 2 (.slice (some ⟨g, 0, none⟩) n cap) n (prs (ptO x) (ptV x) n)) := Lib.hid (parts_yes h hn)

set_option maxHeartbeats 2000000 in
theorem ref2_le_no (x y : Hp) (w : World) (h : hopB x = false ∨ hopB y = false) : Calls Try.prog 96 #[hv x, hv y] w fun r w' => r = .returned (.bool false) ∧ Ext w w' := by
  rw [hv_eq, hv_eq]
  cases hx : hopB x
  · have P1 := parts_no' hx
    cases hy : hopB y
    · have P2 := parts_no' hy
      clear h hx hy
      go_enter Try.func96, Try.ntmps96
      go_wp2_with (first | (go_at_call 95; (with_reducible refine (P1.out _).mono ?_); rintro r w' ⟨rfl, ⟨z1, rfl⟩⟩) | (go_at_call 95; (with_reducible refine (P2.out _).mono ?_); rintro r w' ⟨rfl, ⟨z2, rfl⟩⟩))
      go_returns
      exact ⟨retb rfl rfl, by (repeat' (first | with_reducible exact Ext.refl _ | with_reducible refine Ext.ext ?_ _ | with_reducible refine Ext.alloc ?_ _ | with_reducible refine Ext.drew ?_ | with_reducible refine Ext.drewN ?_ _ | with_reducible assumption))⟩
    · obtain ⟨n, hn⟩ := Int.eq_ofNat_of_zero_le (show 0 ≤ y.k + y.l by have := hopB_bd hy; omega)
      have P2 := parts_yes' hy hn
      clear h hx hy hn
      go_enter Try.func96, Try.ntmps96
      go_wp2_with (first | (go_at_call 95; (with_reducible refine (P1.out _).mono ?_); rintro r w' ⟨rfl, ⟨z1, rfl⟩⟩) | (go_at_call 95; (with_reducible refine (P2.out _).mono ?_); rintro r w' ⟨g2, c2, z2, rfl, rfl, ho2⟩; have HO2 := Lib.hid ho2; clear ho2))
      go_returns
      exact ⟨retb rfl rfl, by (repeat' (first | with_reducible exact Ext.refl _ | with_reducible refine Ext.ext ?_ _ | with_reducible refine Ext.alloc ?_ _ | with_reducible refine Ext.drew ?_ | with_reducible refine Ext.drewN ?_ _ | with_reducible assumption))⟩
  · have hy : hopB y = false := by simpa [hx] using h
    obtain ⟨n, hn⟩ := Int.eq_ofNat_of_zero_le (show 0 ≤ x.k + x.l by have := hopB_bd hx; omega)
    have P1 := parts_yes' hx hn
    have P2 := parts_no' hy
    clear h hx hy hn
    go_enter Try.func96, Try.ntmps96
    go_wp2_with (first | (go_at_call 95; (with_reducible refine (P1.out _).mono ?_); rintro r w' ⟨g1, c1, z1, rfl, rfl, ho1⟩; have HO1 := Lib.hid ho1; clear ho1) | (go_at_call 95; (with_reducible refine (P2.out _).mono ?_); rintro r w' ⟨rfl, ⟨z2, rfl⟩⟩))
    go_returns
    exact ⟨retb rfl rfl, by (repeat' (first | with_reducible exact Ext.refl _ | with_reducible refine Ext.ext ?_ _ | with_reducible refine Ext.alloc ?_ _ | with_reducible refine Ext.drew ?_ | with_reducible refine Ext.drewN ?_ _ | with_reducible assumption))⟩
set_option maxHeartbeats 2000000 in
theorem ref2_le_ne (x y : Hp) (w : World) (hx : hopB x = true) (hy : hopB y = true) (n m : Nat) (hn : x.k + x.l = n) (hm : y.k + y.l = m) (h : x.f ≠ y.f ∨ n ≠ m) : Calls Try.prog 96 #[hv x, hv y] w fun r w' => r = .returned (.bool false) ∧ Ext w w' := by
  rw [hv_eq, hv_eq]
  have P1 := parts_yes' hx hn
  have P2 := parts_yes' hy hm
  clear hx hy hn hm
  by_cases hf : x.f = y.f
  · have hfb : (x.f != y.f) = false := by simp [hf]
    have hnb : ((n : Int) != (m : Int)) = true := by simp; omega
    clear h hf
    go_enter Try.func96, Try.ntmps96
    go_wp2_with (first | (go_at_call 95; (with_reducible refine (P1.out _).mono ?_); rintro r w' ⟨g1, c1, z1, rfl, rfl, ho1⟩; have HO1 := Lib.hid ho1; clear ho1) | (go_at_call 95; (with_reducible refine (P2.out _).mono ?_); rintro r w' ⟨g2, c2, z2, rfl, rfl, ho2⟩; have HO2 := Lib.hid ho2; clear ho2))
    go_returns
    exact ⟨retb rfl rfl, by (repeat' (first | with_reducible exact Ext.refl _ | with_reducible refine Ext.ext ?_ _ | with_reducible refine Ext.alloc ?_ _ | with_reducible refine Ext.drew ?_ | with_reducible refine Ext.drewN ?_ _ | with_reducible assumption))⟩
  · have hfb : (x.f != y.f) = true := by simp [hf]
    clear h hf
    go_enter Try.func96, Try.ntmps96
    go_wp2_with (first | (go_at_call 95; (with_reducible refine (P1.out _).mono ?_); rintro r w' ⟨g1, c1, z1, rfl, rfl, ho1⟩; have HO1 := Lib.hid ho1; clear ho1) | (go_at_call 95; (with_reducible refine (P2.out _).mono ?_); rintro r w' ⟨g2, c2, z2, rfl, rfl, ho2⟩; have HO2 := Lib.hid ho2; clear ho2))
    go_returns
    exact ⟨retb rfl rfl, by (repeat' (first | with_reducible exact Ext.refl _ | with_reducible refine Ext.ext ?_ _ | with_reducible refine Ext.alloc ?_ _ | with_reducible refine Ext.drew ?_ | with_reducible refine Ext.drewN ?_ _ | with_reducible assumption))⟩
set_option maxHeartbeats 4000000 in
theorem ref2_le_in (x y : Hp) (w : World) (hx : hopB x = true) (hy : hopB y = true) (n : Nat) (hf : x.f = y.f) (hn : x.k + x.l = n) (hm : y.k + y.l = n) : Calls Try.prog 96 #[hv x, hv y] w fun r w' => r = .returned (.bool (leTo x y n)) ∧ Ext w w' := by
  have hn4 : n ≤ 4 := by have := hopB_bd hx; omega
  rw [hv_eq, hv_eq]
  have P1 := parts_yes' hx hn
  have P2 := parts_yes' hy hm
  have hfb : (x.f != y.f) = false := by simp [hf]
  clear hx hy hn hm hf
  go_enter Try.func96, Try.ntmps96
  go_wp2_with (first | (go_at_call 95; (with_reducible refine (P1.out _).mono ?_); rintro r w' ⟨g1, c1, z1, rfl, rfl, ho1⟩; have HO1 := Lib.hid ho1; clear ho1) | (go_at_call 95; (with_reducible refine (P2.out _).mono ?_); rintro r w' ⟨g2, c2, z2, rfl, rfl, ho2⟩; have HO2 := Lib.hid ho2; clear ho2))
  go_loopw [9] (fun i wr => ∃ j : Nat, j ≤ n ∧ i = .int .i64 j ∧ leTo x y j = true ∧ ∃ z, wr = ext ((w.alloc (.cells #[.int .i64 x.f, .int .i64 x.k, .int .i64 x.l, .int .i64 x.a, .int .i64 x.b, .int .i64 x.c, .int .i64 x.e, .int .i64 x.p, .int .i64 x.q, .int .i64 x.r, .int .i64 x.s] 82)).alloc (.cells #[.int .i64 y.f, .int .i64 y.k, .int .i64 y.l, .int .i64 y.a, .int .i64 y.b, .int .i64 y.c, .int .i64 y.e, .int .i64 y.p, .int .i64 y.q, .int .i64 y.r, .int .i64 y.s] 82)) (z1.add (z2.add z))) (fun i _ => n - (intOf i).toNat)
  case atStart => exact ⟨0, by omega, rfl, rfl, ⟨[], z2.n⟩, by show _ = ext _ (z1.add ⟨z2.hs ++ [], z2.n⟩); rw [List.append_nil]⟩
  case round =>
    obtain ⟨j, hj, rfl, hle, z, rfl⟩ := hrel
    have HLE := Lib.hid hle
    clear hle
    by_cases hlt : j < n
    · have c1 := prs_cells (own_add HO1.out (z2.add z)) hlt
      have c2 := prs_cells (own_add HO2.out z) hlt
      simp only [ext_ext] at c1 c2
      obtain ⟨c1o, c1v⟩ := c1
      obtain ⟨c2o, c2v⟩ := c2
      obtain ⟨p1, p2⟩ := pt_sign x j
      obtain ⟨p3, p4⟩ := pt_sign y j
      have hok : okH x y j = (!(decide (0 ≤ ptO x j) && decide (ptO y j < 0)) && decide (ptV x j ≤ ptV y j)) := by
        simp only [okH, ptV]
        congr 2
        by_cases h1 : (j : Int) < x.k <;> by_cases h2 : (j : Int) < y.k <;> simp [h1, h2, p1, p4]
      generalize ptO x j = o1 at hok c1o
      generalize ptO y j = o2 at hok c2o
      generalize ptV x j = v1 at hok c1v
      generalize ptV y j = v2 at hok c2v
      clear p1 p2 p3 p4
      have i1 : (0 : Int) ≤ j := by omega
      have i2 : (j : Int) < n := by omega
      have f1 := fun u => cell_add c1o u
      have f2 := fun u => cell_add c1v u
      have f3 := fun u => cell_add c2o u
      have f4 := fun u => cell_add c2v u
      simp only [add_assoc] at f1 f2 f3 f4
      cases hv : okH x y j
      · have hno : leTo x y n = false := leTo_false _ _ j hv n hlt
        have HNO := Lib.hid hno
        rw [hv] at hok
        clear hno hv
        by_cases h1 : 0 ≤ o1
        · have g1 : decide (0 ≤ o1) = true := decide_eq_true h1
          by_cases h2 : o2 < 0
          · have g2 : decide (o2 < 0) = true := decide_eq_true h2
            clear hok
            go_wp2
            refine wp_region_ext (by kernel_rfl) (by kernel_rfl) ?_
            repeat (go_big_quiet_step (fail))
            refine wpQuiet_nil ?_
            intro xK
            go_wp2
            go_returns
            exact ⟨retb rfl HNO.out.symm, by (repeat' (first | with_reducible exact Ext.refl _ | with_reducible refine Ext.ext ?_ _ | with_reducible refine Ext.alloc ?_ _ | with_reducible refine Ext.drew ?_ | with_reducible refine Ext.drewN ?_ _ | with_reducible assumption))⟩
          · have g2 : decide (o2 < 0) = false := decide_eq_false h2
            have h3 : v2 < v1 := by simp [h1, h2] at hok; omega
            have g3 : decide (v2 < v1) = true := decide_eq_true h3
            clear hok
            go_wp2
            refine wp_region_ext (by kernel_rfl) (by kernel_rfl) ?_
            repeat (go_big_quiet_step (fail))
            refine wpQuiet_nil ?_
            intro xK
            go_wp2
            go_returns
            exact ⟨retb rfl HNO.out.symm, by (repeat' (first | with_reducible exact Ext.refl _ | with_reducible refine Ext.ext ?_ _ | with_reducible refine Ext.alloc ?_ _ | with_reducible refine Ext.drew ?_ | with_reducible refine Ext.drewN ?_ _ | with_reducible assumption))⟩
        · have g1 : decide (0 ≤ o1) = false := decide_eq_false h1
          have h3 : v2 < v1 := by simp [h1] at hok; omega
          have g3 : decide (v2 < v1) = true := decide_eq_true h3
          clear hok
          go_wp2
          refine wp_region_ext (by kernel_rfl) (by kernel_rfl) ?_
          repeat (go_big_quiet_step (fail))
          refine wpQuiet_nil ?_
          intro xK
          go_wp2
          go_returns
          exact ⟨retb rfl HNO.out.symm, by (repeat' (first | with_reducible exact Ext.refl _ | with_reducible refine Ext.ext ?_ _ | with_reducible refine Ext.alloc ?_ _ | with_reducible refine Ext.drew ?_ | with_reducible refine Ext.drewN ?_ _ | with_reducible assumption))⟩
      · have hstep : leTo x y (j + 1) = true := by simp [leTo, HLE.out, hv]
        have HS := Lib.hid hstep
        rw [hv] at hok
        clear hstep hv
        have h3 : ¬ v2 < v1 := by simp at hok; omega
        have g3 : decide (v2 < v1) = false := decide_eq_false h3
        by_cases h1 : 0 ≤ o1
        · have g1 : decide (0 ≤ o1) = true := decide_eq_true h1
          have h2 : ¬ o2 < 0 := by simp [h1] at hok; omega
          have g2 : decide (o2 < 0) = false := decide_eq_false h2
          clear hok
          go_wp2
          refine wp_region_ext (by kernel_rfl) (by kernel_rfl) ?_
          repeat (go_big_quiet_step (fail))
          refine wpQuiet_nil ?_
          intro xK
          go_wp2
          go_roundw
          case rel => exact ⟨j + 1, by omega, by go_num, HS.out, by (repeat rw [ext_ext]); (repeat rw [add_assoc]); exact ⟨_, rfl⟩⟩
          case measure => simp [intOf]; omega
        · have g1 : decide (0 ≤ o1) = false := decide_eq_false h1
          clear hok
          go_wp2
          refine wp_region_ext (by kernel_rfl) (by kernel_rfl) ?_
          repeat (go_big_quiet_step (fail))
          refine wpQuiet_nil ?_
          intro xK
          go_wp2
          go_roundw
          case rel => exact ⟨j + 1, by omega, by go_num, HS.out, by (repeat rw [ext_ext]); (repeat rw [add_assoc]); exact ⟨_, rfl⟩⟩
          case measure => simp [intOf]; omega
    · obtain rfl : j = n := by omega
      go_wp2
      go_returns
      exact ⟨retb rfl HLE.out.symm, by (repeat' (first | with_reducible exact Ext.refl _ | with_reducible refine Ext.ext ?_ _ | with_reducible refine Ext.alloc ?_ _ | with_reducible refine Ext.drew ?_ | with_reducible refine Ext.drewN ?_ _ | with_reducible assumption))⟩
theorem ref2_le_any (x y : Hp) (w : World) : Calls Try.prog 96 #[hv x, hv y] w fun r w' => r = .returned (.bool (leHB x y)) ∧ Ext w w' := by
  by_cases h : hopB x = true ∧ hopB y = true
  · obtain ⟨hx, hy⟩ := h
    obtain ⟨n, hn⟩ := Int.eq_ofNat_of_zero_le (show 0 ≤ x.k + x.l by have := hopB_bd hx; omega)
    obtain ⟨m, hm⟩ := Int.eq_ofNat_of_zero_le (show 0 ≤ y.k + y.l by have := hopB_bd hy; omega)
    by_cases hf : x.f ≠ y.f ∨ n ≠ m
    · have : leHB x y = false := by
        unfold leHB
        rw [hx, hy]
        by_cases h1 : x.f = y.f
        · have : n ≠ m := by rcases hf with h | h; exact absurd h1 h; exact h
          rw [decide_eq_false (p := x.k + x.l = y.k + y.l) (by omega)]
          simp
        · simp [h1]
      rw [this]
      exact ref2_le_ne x y w hx hy n m hn hm hf
    · obtain ⟨h1, h2⟩ : x.f = y.f ∧ n = m := by omega
      subst h2
      have : leHB x y = leTo x y n := by
        unfold leHB
        rw [hx, hy, hn, hm, h1]
        simp
      rw [this]
      exact ref2_le_in x y w hx hy n h1 hn hm
  · have : leHB x y = false := by
      unfold leHB
      cases hx : hopB x
      · rfl
      · cases hy : hopB y
        · rfl
        · exact absurd ⟨hx, hy⟩ h
    rw [this]
    exact ref2_le_no x y w (by cases hx : hopB x; exact .inl rfl; cases hy : hopB y; exact .inr rfl; exact absurd ⟨hx, hy⟩ h)
end Go.Proofs.Ytkmgdejpdhlleaa
