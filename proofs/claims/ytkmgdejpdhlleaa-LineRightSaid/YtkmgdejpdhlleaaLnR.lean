/- The table of least steps, plain: from an input to a sink there is a step just if edges lead there. No program in sight. -/
import Derived.Test.YtkmgdejpdhlleaaPoR
import Derived.Test.YtkmgdejpdhlleaaLnQ
namespace Go.Proofs.Ytkmgdejpdhlleaa.Dq
set_option linter.unusedSimpArgs false
set_option linter.unusedVariables false
set_option maxRecDepth 100000
open Go.RowKit
open Pa Va

theorem stN_le (d k i : Int) : atV (stN d k) i ≤ 1 := by
  have hz : ∀ j : Int, cAt 0 0 0 0 j = 0 := zero_at
  unfold stN
  split
  · show (if i < d then cAt 0 0 0 0 i else cAt 0 0 0 0 (i - d)) ≤ 1
    rw [hz, hz]
    split <;> decide
  split
  · show (if i < d - 1 then cAt 0 0 0 0 i else cAt 0 0 0 0 (i - (d - 1))) ≤ 1
    rw [hz, hz]
    split <;> decide
  split
  · show (if i < d then cAt (if d = 1 then 1 else 0) (if d = 2 then 1 else 0) (if d = 3 then 1 else 0) (if d = 4 then 1 else 0) i else cAt 0 0 0 0 (i - d)) ≤ 1
    rw [hz]
    have h1 : ∀ c : Int, (if d = c then (1 : Int) else 0) ≤ 1 := fun c => by split <;> decide
    unfold cAt
    split
    · split
      · exact h1 1
      split
      · exact h1 2
      split
      · exact h1 3
      · exact h1 4
    · decide
  · show (if i < d then cAt 0 0 0 0 i else cAt 0 0 0 0 (i - d)) ≤ 1
    rw [hz, hz]
    split <;> decide
/-- Where a row has steps, edges lead. -/
theorem edF_path {g : Gr} {fr : Int} {s : Hp} {t : Nat} : ∀ (L : List Hp) (a : List (List Hp) × Bool), (L ≠ [] → ∃ k, Pth g k fr (t : Int)) → (∀ (m : Nat) x, x ∈ rg a.1 m → ∃ k, Pth g k fr (m : Int)) → ∀ (m : Nat) x, x ∈ rg (edF s t L a).1 m → ∃ k, Pth g k fr (m : Int)
  | [], _, _, h => h
  | h :: L, a, hL, ha => by
    unfold edF
    refine edF_path L _ (fun _ => hL (by simp)) ?_
    split
    · intro m x hx
      dsimp only at hx
      by_cases hk : t < a.1.length
      · rw [rg_set hk] at hx
        split at hx
        · next e =>
          subst e
          exact hL (by simp)
        · exact ha m x hx
      · rw [List.set_eq_of_length_le (by omega)] at hx
        exact ha m x hx
    · exact ha
theorem swF_path {g : Gr} {fr : Int} {st : Nat → Hp} : ∀ (es : List (Nat × Nat)) (a : List (List Hp) × Bool), (∀ e ∈ es, ∀ k, Pth g k fr (e.1 : Int) → ∃ k, Pth g k fr (e.2 : Int)) → (∀ (m : Nat) x, x ∈ rg a.1 m → ∃ k, Pth g k fr (m : Int)) → ∀ (m : Nat) x, x ∈ rg (swF st es a).1 m → ∃ k, Pth g k fr (m : Int)
  | [], _, _, h => h
  | e :: es, a, he, ha => by
    unfold swF
    refine swF_path es _ (fun x hx => he x (List.mem_cons_of_mem _ hx)) ?_
    refine edF_path _ a (fun hne => ?_) ha
    obtain ⟨x, hx⟩ := List.exists_mem_of_ne_nil _ hne
    obtain ⟨k, hk⟩ := ha e.1 x hx
    exact he e List.mem_cons_self k hk
theorem itF_path {g : Gr} {fr : Int} (hed : ∀ e ∈ (sgOf g).ed, ∀ k, Pth g k fr (e.1 : Int) → ∃ k, Pth g k fr (e.2 : Int)) : ∀ (f : Nat) (R : List (List Hp)), (∀ (m : Nat) x, x ∈ rg R m → ∃ k, Pth g k fr (m : Int)) → ∀ (m : Nat) x, x ∈ rg (itF (sgOf g) f R) m → ∃ k, Pth g k fr (m : Int)
  | 0, _, h => h
  | f + 1, R, h => by
    have := swF_path (st := (sgOf g).st) (sgOf g).ed (R, false) hed h
    unfold itF
    split
    · exact itF_path hed f _ this
    · exact this
theorem row_path {g : Gr} (hk : Chkd g) {fr : Nat} (hf : fr < g.n.length) {m : Nat} {x : Hp} (hx : x ∈ rg (rowS g fr) m) : ∃ k, Pth g k (fr : Int) (m : Int) := by
  refine itF_path (fun e he k hp => ?_) _ _ (fun m x hx => ?_) m x hx
  · obtain ⟨x, hx, rfl⟩ := List.mem_map.1 he
    obtain ⟨i, hi⟩ := List.getElem?_of_mem hx
    obtain ⟨i1, -⟩ := List.getElem?_eq_some_iff.1 hi
    obtain ⟨⟨f0, f1⟩, t0, t1⟩ := edS_ok (hk.ed i (by omega) (by omega))
    rw [show egAt g i = x by unfold egAt; rw [show ((i : Int)).toNat = i from rfl, hi]; rfl] at f0 f1 t0 t1
    dsimp only at hp ⊢
    rw [show ((x.f.toNat : Nat) : Int) = x.f by omega] at hp
    rw [show ((x.t.toNat : Nat) : Int) = x.t by omega]
    exact ⟨k + 1, hp.snoc hx⟩
  · unfold beg0 at hx
    rw [rg_set (by rw [List.length_replicate]; exact hf)] at hx
    split at hx
    · next e =>
      rw [e]
      exact ⟨0, .nil _⟩
    · unfold rg at hx
      rw [List.getElem?_replicate] at hx
      split at hx <;> cases hx
/-- Where edges lead, a row has a step, and none of its numbers is greater than their number. -/
theorem path_row {g : Gr} (hk : Chkd g) {fr : Int} (f0 : 0 ≤ fr) (f1 : fr < g.n.length) : ∀ (k : Nat) (m : Int), Pth g k fr m → k ≤ 1000 → (0 ≤ m ∧ m < g.n.length) ∧ ∃ z ∈ rg (rowS g fr.toNat) m.toNat, ∀ i : Int, 0 ≤ i → i < z.k + z.l → atV z i ≤ k := by
  intro k m h
  generalize ha : fr = a at h
  induction h with
  | nil a =>
    subst ha
    intro _
    refine ⟨⟨f0, f1⟩, ?_⟩
    obtain ⟨z, hz, hzl⟩ := row_self hk (fr := fr.toNat) (by omega)
    obtain ⟨-, -, -, hg, hv⟩ := (leH_iff _ _).1 hzl
    refine ⟨z, hz, fun i i0 i1 => ?_⟩
    have := (hv i i0 i1).2
    have hz0 : atV (smH (depN g ((fr.toNat : Nat) : Int))) i = 0 := by
      show (if i < depN g ((fr.toNat : Nat) : Int) then cAt 0 0 0 0 i else cAt 0 0 0 0 (i - depN g ((fr.toNat : Nat) : Int))) = 0
      rw [zero_at, zero_at]
      split <;> rfl
    omega
  | @snoc k a e h he ih =>
    intro hk1
    obtain ⟨⟨e0, e1⟩, z, hz, hzv⟩ := ih ha (by omega)
    subst ha
    have hfr : fr.toNat < g.n.length := by omega
    obtain ⟨i, hi⟩ := List.getElem?_of_mem he
    obtain ⟨i1, -⟩ := List.getElem?_eq_some_iff.1 hi
    obtain ⟨-, t0, t1⟩ := edS_ok (hk.ed i (by omega) (by omega))
    rw [show egAt g i = e by unfold egAt; rw [show ((i : Int)).toNat = i from rfl, hi]; rfl] at t0 t1
    refine ⟨⟨t0, t1⟩, ?_⟩
    obtain ⟨E1, E2, E3, E4, E5, -⟩ := sg_ok hk (e.f.toNat, e.t.toNat) (List.mem_map.2 ⟨e, he, rfl⟩)
    dsimp only at E3 E4 E5
    have hEl := (row_ok hk hfr).ok.el _ _ hz
    have hgz : z.k + z.l = ((sgOf g).st e.f.toNat).f := hEl.g.trans E4.symm
    have hb := hopB_bd E3
    have hVb : ∀ i : Int, 0 ≤ i → i < ((sgOf g).st e.f.toNat).k + ((sgOf g).st e.f.toNat).l → atV (thenH z ((sgOf g).st e.f.toNat)) i ≤ ((k + 1 : Nat) : Int) := fun i i0 i1 => by
      rw [then_V hEl.r E3 hgz i0 i1]
      have h1 : atV ((sgOf g).st e.f.toNat) i ≤ 1 := stN_le _ _ i
      split
      · have := hzv i i0 (by omega)
        omega
      · omega
    have hok := then_ok hEl.r E3 hgz fun i i0 i1 => by
      have := hVb i i0 i1
      omega
    have hth : thOk z ((sgOf g).st e.f.toNat) = true := by
      unfold thOk
      rw [hEl.r, E3, decide_eq_true hgz, hok]
      rfl
    obtain ⟨y, hy, hyl⟩ := row_clo hk hfr he hz hth
    have hthR : thR z ((sgOf g).st e.f.toNat) = thenH z ((sgOf g).st e.f.toNat) := if_pos hth
    rw [hthR] at hyl
    obtain ⟨-, -, -, hyg, hyv⟩ := (leH_iff _ _).1 hyl
    obtain ⟨-, -, hfk⟩ := then_fkl hEl.r E3 hgz
    refine ⟨y, hy, fun i i0 i1 => ?_⟩
    have := (hyv i i0 i1).2
    have := hVb i i0 (by omega)
    omega
theorem dep_outer {g : Gr} (hk : Chkd g) {m : Int} (m0 : 0 ≤ m) (m1 : m < g.n.length) (h : (ndAt g m).k = 1 ∨ (ndAt g m).k = 15) : depN g m = 1 := by
  have hn := hk.nd m m0 m1
  unfold nodI at hn
  split at hn
  · cases hn
  split at hn
  · cases hn
  next h2 =>
  simp only [Bool.or_eq_true, not_or, Bool.not_eq_true, Bool.and_eq_false_iff] at h2
  have hs : (ndAt g m).s = 0 := by
    have := h2.1.2
    unfold arB at this
    rcases this with h' | h'
    · rcases h with h | h <;> rw [h] at h' <;> cases h'
    · simpa using h'
  have ht : takI g (ndAt g m) = 0 := by
    unfold takI
    rw [if_neg (by rw [beq_iff_eq]; omega), hs]
  unfold depN
  rw [ht]
  have p1 := hk.p1
  have hsc := hk.sc 0 (by decide) (by omega)
  have hnx := dp_next hk.par hk.p8 (s := 0) (by decide) (by omega)
  unfold scoB at hsc
  rw [if_pos (show ((0 : Int) == 0) = true by decide), Bool.and_eq_true, beq_iff_eq] at hsc
  rw [hnx, hsc.1, dp_neg (by decide)]
  rfl
theorem one_smH {z : Hp} (hr : hopB z = true) (hf : z.f = 1) (hg : z.k + z.l = 1) (hk : 1 ≤ z.k) (h0 : atV z 0 = 0) : z = smH 1 := by
  have b := hopB_bd hr
  refine hop_ext hr (by decide) hf (show z.k = 1 by omega) (show z.k + z.l = 1 from hg) fun i i0 i1 => ?_
  obtain rfl : i = 0 := by omega
  rw [h0]
  rfl
def atT (e : Int) : Tm := ⟨1, e, 0, 0, 0⟩
theorem at_right {e : Int} (h : 0 ≤ e ∧ e ≤ 1048576) : rightB (atT e) = true := (rightB_iff _).2 (by unfold atT; dsimp only; omega)
theorem at_ap {e : Int} (h : 0 ≤ e ∧ e ≤ 1048576) : apOk (smH 1) (atT e) = true ∧ apR (smH 1) (atT e) = atT e := by
  have e1 : apT (smH 1) (atT e) = atT e := by
    show (⟨1 + 0, (if (0 : Int) < 1 then e + 0 else 0), _, _, _⟩ : Tm) = _
    rw [if_pos (by decide), Int.add_zero, Int.add_zero]
    rfl
  have hok : apOk (smH 1) (atT e) = true := by
    unfold apOk
    rw [e1, at_right h, show hopB (smH 1) = true by decide, decide_eq_true (show (atT e).d = (smH 1).f from rfl)]
    rfl
  exact ⟨hok, (if_pos hok).trans e1⟩
theorem at_le {e e' : Int} (h : 0 ≤ e ∧ e ≤ 1048576) (h' : 0 ≤ e' ∧ e' ≤ 1048576) : leB (atT e) (atT e') = decide (e ≤ e') := by
  by_cases hl : e ≤ e'
  · rw [decide_eq_true hl]
    exact (leB_iff _ _).2 ⟨at_right h, at_right h', rfl, hl, Int.le_refl _, Int.le_refl _, Int.le_refl _⟩
  · rw [decide_eq_false hl]
    cases hb : leB (atT e) (atT e')
    · rfl
    · exact absurd ((leB_iff _ _).1 hb).2.2.2.1 hl
/-- What of an input may come to a sink. -/
theorem re_line {g : Gr} (hc : (chkS g).1 = 0) {n m : Int} (n0 : 0 ≤ n) (n1 : n < g.n.length) (m0 : 0 ≤ m) (m1 : m < g.n.length) (hn : (ndAt g n).k = 1) (hm : (ndAt g m).k = 15) {e e' : Int} (he : 0 ≤ e ∧ e ≤ 1048576) (he' : 0 ≤ e' ∧ e' ≤ 1048576) : reS (tbS g) n (atT e) m (atT e') = (decide (e ≤ e') && ldS g n m) := by
  have hk := chk_ok hc
  have hed : ∀ e ∈ g.e, (0 ≤ e.f ∧ e.f < g.n.length) ∧ (0 ≤ e.t ∧ e.t < g.n.length) := fun e he => by
    obtain ⟨i, hi⟩ := List.getElem?_of_mem he
    obtain ⟨i1, -⟩ := List.getElem?_eq_some_iff.1 hi
    have := edS_ok (hk.ed i (by omega) (by omega))
    rwa [show egAt g i = e by unfold egAt; rw [show ((i : Int)).toNat = i from rfl, hi]; rfl] at this
  obtain ⟨hld, hdl⟩ := ld_iff (frm := n) (to := m) hed n0 n1
  have en : ((n.toNat : Nat) : Int) = n := by omega
  have em : ((m.toNat : Nat) : Int) = m := by omega
  have hn' : n.toNat < g.n.length := by omega
  have hsm : ∀ z ∈ rg (rowS g n.toNat) m.toNat, z = smH 1 := fun z hz => by
    have hE := (row_ok hk hn').ok.el _ _ hz
    have d1 : depN g ((n.toNat : Nat) : Int) = 1 := by rw [en]; exact dep_outer hk n0 n1 (.inl hn)
    have d2 : (sgOf g).dep m.toNat = 1 := by
      show depN g ((m.toNat : Nat) : Int) = 1
      rw [em]
      exact dep_outer hk m0 m1 (.inr hm)
    exact one_smH hE.r (hE.f.trans d1) (hE.g.trans d2) hE.k hE.v0
  unfold reS
  rw [tb_at hc n0 n1 m0 m1]
  obtain ⟨a1, a2⟩ := at_ap he
  have hall : (rg (rowS g n.toNat) m.toNat).any (fun h => apOk h (atT e) && leB (apR h (atT e)) (atT e')) = (decide (e ≤ e') && !(rg (rowS g n.toNat) m.toNat).isEmpty) := by
    obtain ⟨L, hL⟩ : ∃ L, rg (rowS g n.toNat) m.toNat = L := ⟨_, rfl⟩
    rw [hL] at hsm ⊢
    cases L with
    | nil => simp
    | cons z l =>
      by_cases hl : e ≤ e'
      · rw [decide_eq_true hl]
        refine List.any_eq_true.2 ⟨z, List.mem_cons_self, ?_⟩
        rw [hsm z List.mem_cons_self, a1, a2, at_le he he', decide_eq_true hl]
        rfl
      · rw [decide_eq_false hl, Bool.false_and]
        refine List.any_eq_false.2 fun y hy => ?_
        rw [hsm y hy, a2, at_le he he', decide_eq_false hl, Bool.and_false]
        decide
  rw [hall]
  congr 1
  cases hb : ldS g n m
  · cases hL : rg (rowS g n.toNat) m.toNat with
    | nil => rfl
    | cons z l =>
      obtain ⟨k, hp⟩ := row_path hk hn' (m := m.toNat) (x := z) (by rw [hL]; exact List.mem_cons_self)
      rw [en, em] at hp
      rw [hdl ⟨k, hp⟩] at hb
      cases hb
  · obtain ⟨k, hk1, hp⟩ := hld hb
    have hn32 := hk.n32
    obtain ⟨-, z, hz, -⟩ := path_row hk n0 n1 k m hp (by omega)
    cases hL : rg (rowS g n.toNat) m.toNat with
    | nil =>
      rw [hL] at hz
      cases hz
    | cons z l => rfl
end Go.Proofs.Ytkmgdejpdhlleaa.Dq
