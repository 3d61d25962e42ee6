/- State by versions, plain: what comes and what is cut leaves versions as they have to be. -/
import Derived.Test.YtkmgdejpdhlleaaVsQ
namespace Go.Proofs.Ytkmgdejpdhlleaa.Vs
set_option linter.unusedSimpArgs false
set_option linter.unusedVariables false
set_option maxRecDepth 100000
open Go.RowKit

theorem keepL_pre (ev a : Int) : ∀ (l : List En) (s : List Rc) (m : Int) (K : List Vn), ∃ X, keepL ev a l s m K = K ++ X
  | [], _, _, K => ⟨[], by rw [keepL, List.append_nil]⟩
  | e :: l, s, m, K => by
    unfold keepL
    split
    · exact keepL_pre ev a l s m K
    · split
      · obtain ⟨X, h⟩ := keepL_pre ev a l (plus e s) 0 (K ++ [⟨e.at_, plus e s⟩])
        exact ⟨[⟨e.at_, plus e s⟩] ++ X, by rw [h, List.append_assoc]⟩
      · exact keepL_pre ev a l (plus e s) (m + 1) K
def late (a : Int) (l : List En) : List En := l.filter fun e => decide (e.at_ > a)
theorem late_snoc (a : Int) (l : List En) (e : En) : late a (l ++ [e]) = if e.at_ > a then late a l ++ [e] else late a l := by
  unfold late
  rw [List.filter_append]
  split
  · next h => rw [List.filter_cons, if_pos (decide_eq_true h), List.filter_nil]
  · next h => rw [List.filter_cons, if_neg (by simpa using h), List.filter_nil, List.append_nil]
theorem keepL_ok {b : List Rc} {G : List En} {a ev lo hi : Int} (hG : G.Pairwise fun x y => x.at_ ≤ y.at_) (hb : ∀ e ∈ G, lo ≤ e.at_ ∧ e.at_ ≤ hi) : ∀ (l pre : List En) (s : List Rc) (m : Int) (K : List Vn), G = pre ++ l → s = sumsF b (upto a G ++ late a pre) → (∀ k ∈ K, (k.s = sumsF b (upto k.at_ G) ∧ lo - 1 ≤ k.at_ ∧ k.at_ ≤ hi) ∧ ∀ e ∈ l, e.at_ > a → k.at_ < e.at_) → (K.Pairwise fun x y => x.at_ < y.at_) →
    (∀ k ∈ keepL ev a l s m K, (k.s = sumsF b (upto k.at_ G) ∧ lo - 1 ≤ k.at_ ∧ k.at_ ≤ hi) ∧ (k ∈ K ∨ lo ≤ k.at_)) ∧ (keepL ev a l s m K).Pairwise fun x y => x.at_ < y.at_
  | [], _, _, _, K, _, _, hK, hp => ⟨fun k hk => ⟨(hK k hk).1, .inl hk⟩, hp⟩
  | e :: l, pre, s, m, K, hg, hs, hK, hp => by
    have hg' : G = (pre ++ [e]) ++ l := by rw [hg, List.append_assoc]; rfl
    have he : e ∈ G := by rw [hg]; exact List.mem_append_right _ List.mem_cons_self
    have hK' : ∀ k ∈ K, (k.s = sumsF b (upto k.at_ G) ∧ lo - 1 ≤ k.at_ ∧ k.at_ ≤ hi) ∧ ∀ e ∈ l, e.at_ > a → k.at_ < e.at_ := fun k hk => ⟨(hK k hk).1, fun x hx => (hK k hk).2 x (List.mem_cons_of_mem _ hx)⟩
    unfold keepL
    split
    · next h =>
      exact keepL_ok hG hb l (pre ++ [e]) s m K hg' (by rw [late_snoc, if_neg (by omega)]; exact hs) hK' hp
    · next h =>
      have hs' : plus e s = sumsF b (upto a G ++ late a (pre ++ [e])) := by
        rw [late_snoc, if_pos (by omega), ← List.append_assoc, sumsF_snoc, ← hs]
      split
      · next hh =>
        obtain ⟨h1, h2⟩ := hh
        rw [hg] at hG
        obtain ⟨-, hl, hx⟩ := List.pairwise_append.1 hG
        obtain ⟨hl1, hl2⟩ := List.pairwise_cons.1 hl
        have hgt : ∀ x ∈ l, e.at_ < x.at_ := fun x hxm => by
          cases l with
          | nil => cases hxm
          | cons f l =>
            have h3 : f.at_ > e.at_ := of_decide_eq_true h1
            rcases List.mem_cons.1 hxm with rfl | hxm
            · exact h3
            · have := (List.pairwise_cons.1 hl2).1 x hxm
              omega
        rw [← hg] at hG
        have hP : plus e s = sumsF b (upto e.at_ G) := by
          rw [hs']
          have hbt : late a (pre ++ [e]) = betw a e.at_ G := by
            rw [hg']
            unfold late betw
            rw [List.filter_append (pre ++ [e])]
            have h5 : l.filter (fun x => decide (x.at_ > a) && decide (x.at_ ≤ e.at_)) = [] := by
              rw [List.filter_eq_nil_iff]
              intro x hx
              have := hgt x hx
              simp only [Bool.and_eq_true, decide_eq_true_eq, not_and]
              omega
            rw [h5, List.append_nil]
            apply List.filter_congr
            intro x hx2
            have : x.at_ ≤ e.at_ := by
              rcases List.mem_append.1 hx2 with h | h
              · exact hx x h e List.mem_cons_self
              · obtain rfl := List.mem_singleton.1 h
                exact Int.le_refl _
            rw [decide_eq_true this, Bool.and_true]
          rw [hbt]
          exact sumsF_perm (upto_split (by omega) G) b
        have := keepL_ok (ev := ev) hG hb l (pre ++ [e]) (plus e s) 0 (K ++ [⟨e.at_, plus e s⟩]) hg' hs' (fun k hk => by
          rcases List.mem_append.1 hk with hk | hk
          · exact hK' k hk
          · obtain rfl := List.mem_singleton.1 hk
            exact ⟨⟨hP, by have := (hb e he).1; dsimp only; omega, (hb e he).2⟩, fun x hx _ => hgt x hx⟩) (List.pairwise_append.2 ⟨hp, List.pairwise_singleton _ _, fun k hk y hy => by
            obtain rfl := List.mem_singleton.1 hy
            exact (hK k hk).2 e List.mem_cons_self (by omega)⟩)
        refine ⟨fun k hk => ?_, this.2⟩
        obtain ⟨g1, g2⟩ := this.1 k hk
        refine ⟨g1, ?_⟩
        rcases g2 with g2 | g2
        · rcases List.mem_append.1 g2 with g2 | g2
          · exact .inl g2
          · obtain rfl := List.mem_singleton.1 g2
            exact .inr (hb e he).1
        · exact .inr g2
      · exact keepL_ok hG hb l (pre ++ [e]) (plus e s) (m + 1) K hg' hs' hK' hp
theorem lastV_max : ∀ {l : List Vn} {t : Int} {x : Vn}, (l.Pairwise fun a b => a.at_ < b.at_) → (∀ k ∈ l, k.at_ ≤ t) → lastV l t = some x → ∀ k ∈ l, k.at_ ≤ x.at_
  | [], _, _, _, _, h, _, _ => by cases h
  | y :: l, t, x, hp, ht, h, k, hk => by
    obtain ⟨h1, h2⟩ := List.pairwise_cons.1 hp
    unfold lastV at h
    split at h
    · next z e =>
      obtain rfl := Option.some.inj h
      rcases List.mem_cons.1 hk with rfl | hk
      · have := h1 _ (lastV_some e).1; omega
      · exact lastV_max h2 (fun k hk => ht k (List.mem_cons_of_mem _ hk)) e k hk
    · next e =>
      split at h
      · obtain rfl := Option.some.inj h
        rcases List.mem_cons.1 hk with rfl | hk
        · exact Int.le_refl _
        · have := lastV_none e k hk
          have := ht k (List.mem_cons_of_mem _ hk)
          omega
      · next hn => exact absurd (ht y List.mem_cons_self) hn
theorem upto_ins {t : Int} {e : En} {l : List En} : (upto t (insE e l)).Perm (upto t (e :: l)) := (insE_perm e l).filter _
theorem upto_ins_no {t : Int} {e : En} {l : List En} (h : t < e.at_) (b : List Rc) : sumsF b (upto t (insE e l)) = sumsF b (upto t l) := by
  rw [sumsF_perm upto_ins]
  unfold upto
  rw [List.filter_cons, if_neg (by simp; omega)]
theorem upto_ins_yes {t : Int} {e : En} {l : List En} (h : e.at_ ≤ t) (b : List Rc) : sumsF b (upto t (insE e l)) = plus e (sumsF b (upto t l)) := by
  rw [sumsF_perm upto_ins, ← sumsF_snoc]
  refine sumsF_perm ?_ b
  unfold upto
  rw [List.filter_cons, if_pos (decide_eq_true h)]
  exact List.perm_append_singleton _ _ |>.symm
theorem leftK_mem {e : En} {v : Vs} {k : Vn} : k ∈ leftK e v ↔ k ∈ v.kept ∧ k.at_ < e.at_ := by
  unfold leftK
  rw [List.mem_filter]
  simp
theorem Inv.first_left {v : Vs} (h : Inv v) {e : En} (he : v.cut ≤ e.at_) (hc : v.cut > 0) : ∃ k l, leftK e v = k :: l ∧ k.at_ = v.cut - 1 ∧ base v = k.s := by
  obtain ⟨k, l, h1, h2⟩ := h.fst hc
  refine ⟨k, l.filter fun x => !decide (e.at_ ≤ x.at_), ?_, h2, ?_⟩
  · unfold leftK
    rw [h1, List.filter_cons, if_pos (by simp; omega)]
  · unfold base
    rw [if_pos hc, h1]
theorem Inv.came {v : Vs} (h : Inv v) {e : En} (hm : momP e.at_) (he : ¬ e.at_ < v.cut) : Inv (cameS v e) ∧ base (cameS v e) = base v := by
  have hcut := h.cut
  obtain ⟨hm1, hm2⟩ := hm
  have hlp := insE_perm e v.log
  have hlog : ∀ x ∈ insE e v.log, v.cut ≤ x.at_ ∧ x.at_ ≤ 1048576 := fun x hx => by
    rcases List.mem_cons.1 (hlp.mem_iff.1 hx) with rfl | hx
    · exact ⟨by omega, hm2⟩
    · exact h.log x hx
  have hso := insE_sorted e h.lo
  have hls : (leftK e v).Sublist v.kept := List.filter_sublist
  have hlo : (leftK e v).Pairwise fun a b => a.at_ < b.at_ := h.ko.sublist hls
  obtain ⟨F, hF⟩ : ∃ F, fromV (leftK e v) 1048576 = F := ⟨_, rfl⟩
  have hleM : ∀ k ∈ leftK e v, k.at_ ≤ 1048576 := fun k hk => (h.kept k (leftK_mem.1 hk).1).2.2.1
  have hmax : ∀ k ∈ leftK e v, k.at_ ≤ F.at_ := fun k hk => by
    rw [← hF]
    unfold fromV
    cases hl : lastV (leftK e v) 1048576 with
    | none => have := lastV_none hl k hk; have := hleM k hk; omega
    | some x => exact lastV_max hlo hleM hl k hk
  have hkP : ∀ k ∈ leftK e v, k.s = sumsF (base v) (upto k.at_ (insE e v.log)) ∧ v.cut - 1 ≤ k.at_ ∧ k.at_ ≤ 1048576 := fun k hk => by
    obtain ⟨h1, h2⟩ := leftK_mem.1 hk
    obtain ⟨g1, g2, g3, g4⟩ := h.kept k h1
    exact ⟨by rw [upto_ins_no h2]; exact g4, g1, g3⟩
  have hFs : F.s = sumsF (base v) (upto F.at_ (insE e v.log)) := by
    rw [← hF]
    unfold fromV
    cases hl : lastV (leftK e v) 1048576 with
    | some x => exact (hkP x (lastV_some hl).1).1
    | none =>
      have hnc : ¬ v.cut > 0 := fun hc => by
        obtain ⟨k, l, h1, h2, -⟩ := h.first_left (e := e) (by omega) hc
        have h3 : k ∈ leftK e v := by rw [h1]; exact List.mem_cons_self
        have := lastV_none hl k h3
        have := hleM k h3
        omega
      rw [Option.getD_none, show base v = [] from if_neg hnc, upto_none (fun x hx => by have := (hlog x hx).1; dsimp only; omega)]
      rfl
  have key := keepL_ok (b := base v) (a := F.at_) (ev := v.every) hso hlog (insE e v.log) [] F.s 0 (leftK e v) rfl (by
    rw [show late F.at_ [] = [] from rfl, List.append_nil]
    exact hFs) (fun k hk => ⟨hkP k hk, fun x _ hx => by have := hmax k hk; omega⟩) hlo
  obtain ⟨X, hX⟩ := keepL_pre v.every F.at_ (insE e v.log) F.s 0 (leftK e v)
  have hbase : base (cameS v e) = base v := by
    unfold base cameS
    dsimp only
    split
    · next hc =>
      obtain ⟨k, l, h1, h2, h3⟩ := h.first_left (e := e) (by omega) hc
      obtain ⟨k', l', h4, h5⟩ := h.fst hc
      unfold base at h3
      rw [if_pos hc, h4] at h3
      rw [hF, hX, h1, h4]
      exact h3.symm
    · rfl
  refine ⟨⟨h.ev, h.cut, hlog, hso, fun k hk => ?_, ?_, fun hc => ?_, ?_⟩, hbase⟩
  · rw [hbase]
    change k ∈ keepL v.every (fromV (leftK e v) 1048576).at_ (insE e v.log) (fromV (leftK e v) 1048576).s 0 (leftK e v) at hk
    rw [hF] at hk
    obtain ⟨⟨g1, g2, g3⟩, g4⟩ := key.1 k hk
    refine ⟨g2, ?_, g3, g1⟩
    rcases g4 with g4 | g4
    · exact (h.kept k (leftK_mem.1 g4).1).2.1
    · omega
  · show (keepL v.every (fromV (leftK e v) 1048576).at_ (insE e v.log) (fromV (leftK e v) 1048576).s 0 (leftK e v)).Pairwise _
    rw [hF]
    exact key.2
  · obtain ⟨k, l, h1, h2, -⟩ := h.first_left (e := e) (by omega) hc
    refine ⟨k, l ++ X, ?_, h2⟩
    show keepL v.every (fromV (leftK e v) 1048576).at_ (insE e v.log) (fromV (leftK e v) 1048576).s 0 (leftK e v) = _
    rw [hF, hX, h1]
    rfl
  · rw [hbase]; exact h.ord
theorem stS_came {v : Vs} (h : Inv v) {e : En} (hm : momP e.at_) (he : ¬ e.at_ < v.cut) (t : Int) : stS (cameS v e) t = if e.at_ ≤ t then plus e (stS v t) else stS v t := by
  unfold stS
  rw [(h.came hm he).2]
  show sumsF (base v) (upto t (insE e v.log)) = _
  split
  · next h1 => exact upto_ins_yes h1 _
  · next h1 => exact upto_ins_no (by omega) _
/-- What is cut. -/
def cutV (v : Vs) (t : Int) : Vs := ⟨v.log.filter fun x => !decide (x.at_ < t), ⟨t - 1, upS v.kept v.log (t - 1)⟩ :: v.kept.filter fun x => !decide (x.at_ < t), v.every, t, v.rolled, v.again⟩
def cutS (v : Vs) (t : Int) : Vs × Int :=
  if t < 0 ∨ 1048577 < t then (v, 1) else if t < v.cut then (v, 12) else if t = v.cut then (v, 0) else (cutV v t, 0)
theorem cut_base {v : Vs} {t : Int} (ht : 0 < t) : base (cutV v t) = upS v.kept v.log (t - 1) := if_pos ht
theorem Inv.cutv {v : Vs} (h : Inv v) {t : Int} (h1 : v.cut < t) (h2 : t ≤ 1048577) : Inv (cutV v t) ∧ ∀ t', t - 1 ≤ t' → stS (cutV v t) t' = stS v t' := by
  have hcut := h.cut
  have hup := h.up (t := t - 1) (by omega)
  have hb := cut_base (v := v) (t := t) (by omega)
  have hst : ∀ t', t - 1 ≤ t' → sumsF (base (cutV v t)) (upto t' (cutV v t).log) = stS v t' := fun t' ht => by
    rw [hb, hup]
    unfold stS
    rw [← sumsF_app]
    refine sumsF_perm ?_ _
    have hf : upto t' (cutV v t).log = betw (t - 1) t' v.log := by
      show (v.log.filter fun x => !decide (x.at_ < t)).filter _ = _
      rw [List.filter_filter]
      unfold betw
      apply List.filter_congr
      intro x _
      have : (!decide (x.at_ < t)) = decide (x.at_ > t - 1) := by
        rw [Bool.eq_iff_iff]
        simp
        omega
      rw [this, Bool.and_comm]
    rw [hf]
    exact upto_split ht v.log
  refine ⟨⟨h.ev, ⟨by show 0 ≤ t; omega, h2⟩, fun e he => ?_, h.lo.sublist List.filter_sublist, fun k hk => ?_, ?_, fun _ => ⟨_, _, rfl, rfl⟩, ?_⟩, hst⟩
  · obtain ⟨g1, g2⟩ := List.mem_filter.1 he
    have := (h.log e g1).2
    simp at g2
    exact ⟨g2, this⟩
  · rcases List.mem_cons.1 hk with rfl | hk
    · refine ⟨Int.le_refl _, by dsimp only; omega, by dsimp only; omega, ?_⟩
      dsimp only
      rw [hst (t - 1) (Int.le_refl _), ← hup]
    · obtain ⟨g1, g2⟩ := List.mem_filter.1 hk
      simp at g2
      obtain ⟨f1, f2, f3, f4⟩ := h.kept k g1
      refine ⟨by show t - 1 ≤ _; omega, f2, f3, ?_⟩
      rw [hst k.at_ (by omega)]
      exact f4
  · refine List.pairwise_cons.2 ⟨fun k hk => ?_, h.ko.sublist List.filter_sublist⟩
    obtain ⟨g1, g2⟩ := List.mem_filter.1 hk
    simp at g2
    dsimp only
    omega
  · rw [hb, hup]
    exact sumsF_ord _ h.ord
end Go.Proofs.Ytkmgdejpdhlleaa.Vs
