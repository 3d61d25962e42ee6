/- Deep values: functions that are handed objects and give objects, by their bodies: tags of the callee are turned to the caller's. No program in sight. -/
import Derived.Test.YtkmgdejpdhlleaaDqB
namespace Go.Proofs.Ytkmgdejpdhlleaa.Dq
set_option linter.unusedSimpArgs false
set_option linter.unusedVariables false
set_option maxRecDepth 100000
open Go.RowKit

def renK (m : List (Nat × Nat)) : List Nat → List Nat
  | [] => []
  | k :: l => ((gb m k).getD k) :: renK m l
def renD (m : List (Nat × Nat)) : D → D
  | .fb f ks => .fb f (renK m ks)
  | .lk k n => .lk ((gb m k).getD k) n
  | d => d
def renDs (m : List (Nat × Nat)) : List D → List D
  | [] => []
  | d :: l => renD m d :: renDs m l
def renC (m : List (Nat × Nat)) : Cp → Cp
  | .c d => .c (renD m d)
  | .box k j => .box ((gb m k).getD k) j
  | .ptr cs => .ptr cs
def renCs (m : List (Nat × Nat)) : List Cp → List Cp
  | [] => []
  | d :: l => renC m d :: renCs m l
def renS (m : List (Nat × Nat)) : S1 → S1
  | .c d => .c (renD m d)
  | .agg l => .agg (renDs m l)
  | .own _ _ l => .c (.sl l)
  | .box k j => .box ((gb m k).getD k) j
  | .xp k K i j => .xp ((gb m k).getD k) K i j
  | .fn f ps => .fn f (renCs m ps)
  | x => x
def renSs (m : List (Nat × Nat)) : List S1 → List S1
  | [] => []
  | x :: l => renS m x :: renSs m l
def renV (m : List (Nat × Nat)) : V1 → V1
  | .one x => .one (renS m x)
  | .tup l => .tup (renSs m l)
def renL (m : List (Nat × Nat)) (l : List (List D)) : List (List D) := l.map (renDs m)
/-- The tags that stand in it are known. -/
def rkK (m : List (Nat × Nat)) : List Nat → Prop
  | [] => True
  | k :: l => (gb m k).isSome = true ∧ rkK m l
def rkD (m : List (Nat × Nat)) : D → Prop
  | .fb _ ks => rkK m ks
  | .lk k _ => (gb m k).isSome = true
  | _ => True
def rkDs (m : List (Nat × Nat)) : List D → Prop
  | [] => True
  | d :: l => rkD m d ∧ rkDs m l
def rkL (m : List (Nat × Nat)) (l : List (List D)) : Prop := ∀ cs ∈ l, rkDs m cs
def rkC (m : List (Nat × Nat)) : Cp → Prop
  | .c d => rkD m d
  | .box k _ => (gb m k).isSome = true
  | .ptr _ => True
def rkCs (m : List (Nat × Nat)) : List Cp → Prop
  | [] => True
  | d :: l => rkC m d ∧ rkCs m l
def rkS (m : List (Nat × Nat)) : S1 → Prop
  | .c d => rkD m d
  | .agg l => rkDs m l
  | .box k _ => (gb m k).isSome = true
  | .xp k _ _ _ => (gb m k).isSome = true
  | .fn _ ps => rkCs m ps
  | .tl .. => False
  | _ => True
def rkSs (m : List (Nat × Nat)) : List S1 → Prop
  | [] => True
  | x :: l => rkS m x ∧ rkSs m l
def rkV (m : List (Nat × Nat)) : V1 → Prop
  | .one x => rkS m x
  | .tup l => rkSs m l
section
variable {m : List (Nat × Nat)} {G G' : Gh} {W : World}
theorem renDs_len : ∀ {l : List D}, (renDs m l).length = l.length
  | [] => rfl
  | d :: l => by simp [renDs, renDs_len (l := l)]
/-- What a renaming of tags keeps. -/
structure RenOk (m : List (Nat × Nat)) (G G' : Gh) : Prop where
  β : ∀ k k', gb m k = some k' → G'.β k' = G.β k
  A : ∀ b i, G.A b i → G'.A b i
variable (h : RenOk m G G')
include h
theorem RenOk.at {k : Nat} (hk : (gb m k).isSome = true) : G'.β ((gb m k).getD k) = G.β k := by
  cases e : gb m k with
  | none => rw [e] at hk; cases hk
  | some k' => exact h.β k k' e
theorem renK_ok : ∀ {ks : List Nat} {us : List Value}, FbL G ks us → rkK m ks → FbL G' (renK m ks) us
  | [], us, hf, _ => ⟨hf.1, fun j k u h => by simp [renK] at h⟩
  | k :: ks, us, hf, hk => by
    cases us with
    | nil => have := hf.1; simp at this
    | cons u us =>
      have g := renK_ok (ks := ks) (us := us) ⟨by simpa using hf.1, fun j x u h1 h2 => hf.2 (j + 1) x u (by simpa using h1) (by simpa using h2)⟩ hk.2
      obtain ⟨b, h1, h2⟩ := hf.2 0 k u rfl rfl
      refine ⟨by simp [renK, g.1], fun j x z h3 h4 => ?_⟩
      cases j with
      | zero =>
        obtain rfl : (gb m k).getD k = x := by simpa [renK] using h3
        obtain rfl : u = z := by simpa using h4
        exact ⟨b, (h.at hk.1).trans h1, h2⟩
      | succ j => exact g.2 j x z (by simpa [renK] using h3) (by simpa using h4)
theorem renD_ok {d : D} {v : Value} (hd : DenX G W d v) (hk : rkD m d) : DenX G' W (renD m d) v := by
  cases d with
  | lk k n =>
    obtain ⟨a, N, c, h1, h2⟩ := hd
    exact ⟨a, N, c, (h.at hk).trans h1, h2⟩
  | fb f ks =>
    obtain ⟨h0, us, h1, h2⟩ := hd
    refine ⟨?_, us, h1, renK_ok h h2 hk⟩
    cases ks with
    | nil => exact absurd rfl h0
    | cons k ks => exact nofun
  | _ => exact Den.mono (A := G.A) hd h.A (Kp.refl _ _)
theorem renDs_ok : ∀ {l : List D} {us : List Value}, DenXL G W l us → rkDs m l → DenXL G' W (renDs m l) us
  | [], us, hd, _ => by
    cases us with
    | nil => exact AL.nil
    | cons u us => have := hd.1; simp at this
  | d :: l, us, hd, hk => by
    obtain ⟨u, us', rfl, h1, h2⟩ := AL.cons_inv hd
    exact (AL.single (renD_ok h h1 hk.1)).append (renDs_ok h2 hk.2)
theorem renC_ok {x : Cp} {v : Value} (hd : DenC G W x v) (hk : rkC m x) : DenC G' W (renC m x) v := by
  cases x with
  | c d => exact renD_ok h hd hk
  | box k j => obtain ⟨b, h1, h2⟩ := hd; exact ⟨b, (h.at hk).trans h1, h2⟩
  | ptr cs => obtain ⟨b, o, h1, h2⟩ := hd; exact ⟨b, o, h1, h2.mono h.A (Kp.refl _ _)⟩
theorem renCs_ok : ∀ {ps : List Cp} {us : List Value}, DenCL G W ps us → rkCs m ps → DenCL G' W (renCs m ps) us
  | [], us, hd, _ => ⟨hd.1, fun j x u h => by simp [renCs] at h⟩
  | x :: ps, us, hd, hk => by
    cases us with
    | nil => have := hd.1; simp at this
    | cons u us =>
      have g := renCs_ok (ps := ps) (us := us) ⟨by simpa using hd.1, fun j x u h1 h2 => hd.2 (j + 1) x u (by simpa using h1) (by simpa using h2)⟩ hk.2
      refine ⟨by simp [renCs, g.1], fun j y z h1 h2 => ?_⟩
      cases j with
      | zero =>
        obtain rfl : renC m x = y := by simpa [renCs] using h1
        obtain rfl : u = z := by simpa using h2
        exact renC_ok h (hd.2 0 x u rfl rfl) hk.1
      | succ j => exact g.2 j y z (by simpa [renCs] using h1) (by simpa using h2)
theorem renS_ok {x : S1} {v : Value} (hd : D1 G W x v) (hk : rkS m x) : D1 G' W (renS m x) v := by
  cases x with
  | c d => exact renD_ok h hd hk
  | agg l => obtain ⟨us, h1, h2⟩ := hd; exact ⟨us, h1, renDs_ok h h2 hk⟩
  | own t K l => exact DenX.of (hd.1.mono h.A (Kp.refl _ _))
  | box k j => obtain ⟨b, h1, h2⟩ := hd; exact ⟨b, (h.at hk).trans h1, h2⟩
  | xp k K i j => obtain ⟨b, N, c, h1, h2⟩ := hd; exact ⟨b, N, c, (h.at hk).trans h1, h2⟩
  | ptr cs => obtain ⟨b, o, h1, h2⟩ := hd; exact ⟨b, o, h1, h2.mono h.A (Kp.refl _ _)⟩
  | fn f ps => obtain ⟨us, h1, h2⟩ := hd; exact ⟨us, h1, renCs_ok h h2 hk⟩
  | sn b l => exact ⟨hd.1.mono h.A (Kp.refl _ _), hd.2⟩
  | tl => exact hk.elim
  | nil => exact hd
  | k x => exact hd
theorem renSs_ok : ∀ {l : List S1} {us : List Value}, D1L G W l us → rkSs m l → D1L G' W (renSs m l) us
  | [], us, hd, _ => ⟨hd.1, fun j x u h => by simp [renSs] at h⟩
  | x :: ps, us, hd, hk => by
    cases us with
    | nil => have := hd.1; simp at this
    | cons u us =>
      have g := renSs_ok (l := ps) (us := us) ⟨by simpa using hd.1, fun j x u h1 h2 => hd.2 (j + 1) x u (by simpa using h1) (by simpa using h2)⟩ hk.2
      refine ⟨by simp [renSs, g.1], fun j y z h1 h2 => ?_⟩
      cases j with
      | zero =>
        obtain rfl : renS m x = y := by simpa [renSs] using h1
        obtain rfl : u = z := by simpa using h2
        exact renS_ok h (hd.2 0 x u rfl rfl) hk.1
      | succ j => exact g.2 j y z (by simpa [renSs] using h1) (by simpa using h2)
theorem renV_ok {x : V1} {v : Value} (hd : Vd G W (some x) v) (hk : rkV m x) : Vd G' W (some (renV m x)) v := by
  cases x with
  | one x => exact renS_ok h hd hk
  | tup l => obtain ⟨us, h1, h2⟩ := hd; exact ⟨us, h1, renSs_ok h h2 hk⟩
end
theorem renL_flat {m : List (Nat × Nat)} : ∀ {l : List (List D)}, (renL m l).flatten = renDs m l.flatten
  | [] => rfl
  | x :: l => by
    have ha : ∀ a b : List D, renDs m (a ++ b) = renDs m a ++ renDs m b := fun a b => by
      induction a with
      | nil => rfl
      | cons d a ih => simp [renDs, ih]
    have := renL_flat (m := m) (l := l)
    unfold renL at this ⊢
    rw [List.map_cons, List.flatten_cons, List.flatten_cons, ha, this]
theorem rkL_flat {m : List (Nat × Nat)} : ∀ {l : List (List D)}, rkL m l → rkDs m l.flatten
  | [], _ => trivial
  | x :: l, h => by
    have ha : ∀ a b : List D, rkDs m a → rkDs m b → rkDs m (a ++ b) := fun a b h1 h2 => by
      induction a with
      | nil => exact h2
      | cons d a ih => exact ⟨h1.1, ih h1.2⟩
    rw [List.flatten_cons]
    exact ha _ _ (h x List.mem_cons_self) (rkL_flat fun cs hc => h cs (List.mem_cons_of_mem _ hc))
/-- A function's contract, objects with tags of its own: what it is handed, what it gives. -/
def CalG (P : Program) (f : FuncId) (xs : List S1) (bs : Bt) (x : V1) (bs' : Bt) : Prop :=
  ∀ (M : Nat → Prop) (A0 : Pr) (G : Gh) (W : World) (vs : List Value), GOK M A0 G W → D1L G W xs vs → (∀ k, Hb G W k (gb bs k)) → (∀ t, G.ρ t = none) →
    Calls P f vs.toArray W fun e W' => ∃ v G', e = .returned v ∧ GOK M A0 G' W' ∧ Chg M W W' ∧ Vd G' W' (some x) v ∧ (∀ p ∈ bs', Hb G' W' p.1 (some p.2)) ∧ ∀ k u, 4000 ≤ k → k < 5000 → G.β k = some u → G'.β k = some u
/-- Results, as they are. -/
def unO : S1 → S1
  | .own _ _ l => .c (.sl l)
  | .sn _ l => .c (.sl l)
  | .nil => .c .nl
  | x => x
def resX (P : Program) (σ : St) : List ResultVar → List S1 → Prop
  | [], [] => True
  | rv :: rs, x :: l => ((rvS P σ rv).2 ∧ unO (rvS P σ rv).1 = x) ∧ resX P σ rs l
  | _, _ => False
def objX (σ : St) : Bt → Prop
  | [] => True
  | (t, some o) :: l => (match gb σ.b t with
    | some (some o') => o' = o
    | _ => False) ∧ objX σ l
  | (_, none) :: _ => False
def vL : V1 → List S1
  | .one x => [x]
  | .tup l => l
def v1Ok : V1 → Prop
  | .one _ => True
  | .tup l => l.length ≠ 1
def retG (P : Program) (rs : List ResultVar) (x : V1) (bs' : Bt) : Exit → St → Prop
  | .ret, σ => v1Ok x ∧ resX P σ rs (vL x) ∧ objX σ bs'
  | .normal, σ => v1Ok x ∧ resX P σ rs (vL x) ∧ objX σ bs'
  | _, _ => False
section
variable {P : Program} {Γ : Cx} {N : Nat} {M : Nat → Prop} {A0 : Pr} {w0 : World} {df : Fx} {G : Gh} {σ : St} {a : Act} {W : World}
theorem unO_ok {x : S1} {v : Value} (h : D1 G W x v) : D1 G W (unO x) v := by
  cases x with
  | own t K l => exact DenX.of h.1
  | sn b l => exact DenX.of h.1
  | nil => obtain rfl : v = _ := h; exact DenX.of Den.nl
  | _ => exact h
theorem one_resG (hR : RR M A0 w0 N df G σ a W) {rv : ResultVar} (h1 : (rvS P σ rv).2) : ∃ v, (match rv with
        | ResultVar.tmp t => (pure (a.tmps.getD t undef) : Sem Value)
        | ResultVar.cell ad t => do loadVar t (← asAddr (a.tmps.getD ad undef))).run P W = .ok v W ∧ D1 G W (rvS P σ rv).1 v := by
  cases rv with
  | tmp t => exact ⟨a.eval (.tmp t), rfl, opd_ok (g := true) (x := .tmp t) rfl (hR.s t) h1⟩
  | cell ad t =>
    have d1 := opd_ok (g := true) (x := .tmp ad) (a := a) rfl (hR.s ad)
    unfold rvS at h1 ⊢
    dsimp only at h1 ⊢
    split at h1
    · next k off p e1 =>
      rw [e1] at d1
      split at h1
      · next o hcs =>
        obtain ⟨hp, hu, hs, hi, hout⟩ := h1
        have hbk := hR.b k
        rw [hcs] at hbk
        have hcs' : o.l[0]? = some o.l[0] := List.getElem?_eq_getElem hi
        obtain ⟨u, us, b, K, g1, g2, g3, g4, g5, he, g6, -⟩ := place_ok (x := .box k off) (k := k) (i := 0) (j := off) (q := none) (d1 hp) rfl hbk trivial hcs'
        have hseg := flatten_seg g6 hcs'
        have hd : DenXL G W ((o.l[0]?).getD []) ((us.drop (0 * K)).take K) := by
          rw [hcs']
          have := AL.take (AL.drop g4 (0 * K)) K
          rw [hseg] at this
          exact this
        obtain ⟨v, hv, hd2⟩ := run_loadv (P := P) (W := W) (b := b) (off := 0 * K + off) hu hs (AL.drop hd off) (fun j' u hj => by
          rw [List.getElem?_drop, List.getElem?_take] at hj
          split at hj
          · rw [List.getElem?_drop] at hj
            rw [Nat.add_assoc]
            exact g3.cell g5 hj
          · cases hj) hout
        refine ⟨v, ?_, hd2⟩
        have he' : a.tmps.getD ad undef = .pointer (some ⟨b, 0 * K + off, none⟩) := he
        simp only [he', asAddr]
        simpa [Instr.loadAt, Instr.sureAddr] using hv
      · exact h1.elim
    · exact h1.elim
theorem resX_ok (hR : RR M A0 w0 N df G σ a W) :
    ∀ {rs : List ResultVar} {l : List S1}, resX P σ rs l → ∃ us : List Value, (rs.mapM fun
        | ResultVar.tmp t => (pure (a.tmps.getD t undef) : Sem Value)
        | ResultVar.cell ad t => do loadVar t (← asAddr (a.tmps.getD ad undef))).run P W = .ok us W ∧ D1L G W l us
  | [], [], _ => ⟨[], by simp, rfl, fun j x u h => by simp at h⟩
  | rv :: rs, x :: l, h => by
    obtain ⟨⟨h1, rfl⟩, h3⟩ := h
    obtain ⟨us, k1, k2⟩ := resX_ok hR h3
    obtain ⟨v, hv, hd⟩ := one_resG hR h1
    refine ⟨v :: us, ?_, by simp [k2.1], fun j y u h4 h5 => ?_⟩
    · rw [List.mapM_cons]
      simp only [Sem.run_bind, hv, k1, Result.andThen_ok, Sem.run_pure]
    · cases j with
      | zero =>
        obtain rfl : _ = y := by simpa using h4
        obtain rfl : v = u := by simpa using h5
        exact unO_ok hd
      | succ j => exact k2.2 j y u (by simpa using h4) (by simpa using h5)
  | [], _ :: _, h => h.elim
  | _ :: _, [], h => h.elim
theorem objX_ok (hb : ∀ k, Hb G W k (gb σ.b k)) : ∀ {bs : Bt}, objX σ bs → ∀ p ∈ bs, Hb G W p.1 (some p.2)
  | [], _, p, hp => by cases hp
  | (t, some o) :: l, h, p, hp => by
    rcases List.mem_cons.1 hp with rfl | hp
    · have h1 := h.1
      have h2 := hb t
      split at h1
      · next o' e =>
        subst h1
        rw [e] at h2
        exact h2
      · exact h1.elim
    · exact objX_ok hb h.2 p hp
  | (_, none) :: _, h, _, _ => h.elim
theorem calG_of {f : FuncId} {fn : Func} {c : Code} {xs : List S1} {bs : Bt} {x : V1} {bs' : Bt} (hΓ : Snd P Γ) (hm : P.follows .mixedOrders = true) (hf : P.funcs[f]? = some fn) (hb : fn.body = some c) (hN : fn.ntmps = N) (hn : xs.length ≤ N) (h : DW P Γ N c (retG P fn.results.toList x bs') ⟨XB 0 xs, bs, []⟩) : CalG P f xs bs x bs' := by
  intro M A0 G w vs hG hd hbs hρ
  have hl := hd.1
  refine calls_of_wp hf hb ?_
  have hR : RR M A0 w N ⟨[], fun k => if 4000 ≤ k ∧ k < 5000 then G.β k else none⟩ G ⟨XB 0 xs, bs, []⟩ { tmps := vs.toArray ++ Array.replicate (fn.ntmps - vs.toArray.size) undef, defers := [] } w := by
    refine ⟨hG, Chg.refl _ w, ?_, rfl, fun t => ?_, hbs, fun t => hρ t, fun k u h => ?_⟩
    rotate_left 2
    · change (if 4000 ≤ k ∧ k < 5000 then G.β k else none) = some u at h
      split at h
      · next h1 => exact ⟨h1, h⟩
      · cases h
    · simp
      omega
    · have h1 := (argsS_get (i := 0) hd t).1 t (by omega)
      have h2 : V { tmps := vs.toArray ++ Array.replicate (fn.ntmps - vs.toArray.size) undef, defers := [] } t = (vs[t]?).getD undef := by
        unfold V
        dsimp only
        by_cases ht : t < vs.length
        · rw [Array.getElem?_append_left (by simpa using ht)]
          simp
        · rw [Array.getElem?_append_right (by simpa using ht), List.getElem?_eq_none (by omega)]
          simp only [Array.getElem?_replicate]
          split <;> rfl
      show Hs G w (gs (XB 0 xs) t) _
      rw [h2]
      exact h1
  refine wp_mono (h hΓ hm _ _ w _ _ _ w hR) (fun e a W ⟨σ', G', k1, k2⟩ => ?_)
  have fin : v1Ok x ∧ resX P σ' fn.results.toList (vL x) ∧ objX σ' bs' → bodyPost P fn (fun e w' => ∃ v G', e = .returned v ∧ GOK M A0 G' w' ∧ Chg M w w' ∧ Vd G' w' (some x) v ∧ (∀ p ∈ bs', Hb G' w' p.1 (some p.2)) ∧ ∀ k u, 4000 ≤ k → k < 5000 → G.β k = some u → G'.β k = some u) .ret a W := by
    intro ⟨h0, hres, hobj⟩
    obtain ⟨us, e1, e2⟩ := resX_ok k2 hres
    have hrun : (results fn a.tmps).run P W = .ok (if h : us.toArray.size = 1 then us.toArray[0] else .tuple us.toArray) W := by
      unfold results
      rw [Array.mapM_eq_mapM_toList]
      simp only [Sem.run_bind, Sem.run_pure, map_eq_pure_bind]
      erw [e1]
      rfl
    refine bodyPost_ret hrun k2.df ⟨_, G', rfl, k2.ok, k2.ext, ?_, objX_ok k2.b hobj, fun k u q1 q2 q3 => (k2.p k u (by show (if 4000 ≤ k ∧ k < 5000 then G.β k else none) = some u; rw [if_pos ⟨q1, q2⟩]; exact q3)).2⟩
    cases x with
    | one y =>
      obtain ⟨u, rfl⟩ : ∃ u, us = [u] := by
        have := e2.1
        match us, this with
        | [u], _ => exact ⟨u, rfl⟩
      exact e2.2 0 y u rfl rfl
    | tup l =>
      have hne : ¬ us.toArray.size = 1 := by
        have h1 : l.length ≠ 1 := h0
        have h2 : l.length = us.length := e2.1
        simp
        omega
      rw [dif_neg hne]
      exact ⟨us.toArray, rfl, by simpa [vL] using e2⟩
  cases e with
  | ret => exact fin k1
  | normal => exact fin k1
  | _ => exact k1.elim
end
/-! The caller's side. -/
def refPs : List Cp → List Nat
  | [] => []
  | .c d :: l => Q2 d ++ refPs l
  | .box k _ :: l => k :: refPs l
  | .ptr _ :: l => refPs l
def refT : S1 → List Nat
  | .c d => Q2 d
  | .agg l => Q3 l
  | .box k _ => [k]
  | .xp k _ _ _ => [k]
  | .fn _ ps => refPs ps
  | _ => []
def refTs : List S1 → List Nat
  | [] => []
  | x :: l => refT x ++ refTs l
/-- What stands in a box that is handed on. -/
def refO (bx : Bt) (k : Nat) : List Nat := match gb bx k with
  | some (some o) => if o.K = 0 then Q3 ((o.l[0]?).getD []) else []
  | _ => []
def refA (bx : Bt) : List Nat → List Nat
  | [] => []
  | k :: l => k :: (refO bx k ++ refA bx l)
/-- Tags of the callee's for what is handed on: (caller's, callee's). -/
def locs : Nat → List Nat → List (Nat × Nat)
  | _, [] => []
  | n, k :: l => (k, n) :: locs (n + 1) l
def locN : List Nat → List Nat → List (Nat × Nat)
  | [], _ => []
  | _ :: _, [] => []
  | n :: ns, k :: l => (k, n) :: locN ns l
def swp : List (Nat × Nat) → List (Nat × Nat)
  | [] => []
  | p :: l => (p.2, p.1) :: swp l
def bsOf (bx : Bt) (m : List (Nat × Nat)) : List (Nat × Nat) → Bt
  | [] => []
  | p :: l => (p.2, match gb bx p.1 with
    | some (some o) => some ⟨o.e, o.K, renL m o.l⟩
    | _ => none) :: bsOf bx m l
/-- What is handed on is there, and holds headers of what is handed on only. -/
def insOk (bx : Bt) (m : List (Nat × Nat)) : List (Nat × Nat) → Prop
  | [] => True
  | p :: l => (match gb bx p.1 with
    | some (some o) => rkL m o.l
    | _ => False) ∧ insOk bx m l
/-- The caller's tags for what comes back: what is protected keeps its own. -/
def outsOf (m : List (Nat × Nat)) (d : Nat) : Nat → Bt → List (Nat × Nat)
  | _, [] => []
  | i, p :: l => (p.1, if 4000 ≤ p.1 ∧ p.1 < 5000 then (gb m p.1).getD 0 else d + i) :: outsOf m d (i + 100000) l
/-- One goes back where the other came from. -/
def bijOk (m m' : List (Nat × Nat)) : List (Nat × Nat) → Prop
  | [] => True
  | p :: l => (gb m p.1 = some p.2 ∧ gb m' p.2 = some p.1) ∧ bijOk m m' l
def freshOk (bx : Bt) (m : List (Nat × Nat)) : List (Nat × Nat) → Prop
  | [] => True
  | p :: l => (if 4000 ≤ p.1 ∧ p.1 < 5000 then gb m p.2 = some p.1 else gb bx p.2 = none) ∧ freshOk bx m l
/-- What is protected comes back. -/
def backOk (m : List (Nat × Nat)) : List (Nat × Nat) → Prop
  | [] => True
  | p :: l => (if 4000 ≤ p.2 ∧ p.2 < 5000 then gb m p.2 = some p.1 else True) ∧ backOk m l
def wbOut (m : List (Nat × Nat)) : Bt → Bt
  | [] => []
  | (t, some o) :: l => ((gb m t).getD t, some ⟨o.e, o.K, renL m o.l⟩) :: wbOut m l
  | (t, none) :: l => ((gb m t).getD t, none) :: wbOut m l
def rkB (m : List (Nat × Nat)) : Bt → Prop
  | [] => True
  | (_, some o) :: l => rkL m o.l ∧ rkB m l
  | (_, none) :: _ => False
def deadB : List (Nat × Nat) → Bt
  | [] => []
  | p :: l => if 4000 ≤ p.2 ∧ p.2 < 5000 then deadB l else (p.1, none) :: deadB l
/-- A contract with tags of its own, as the caller uses it. -/
def locW (inv : Bt → List S1 → List (Nat × Nat)) (L : List S1 → Bt → (V1 × Bt) × Prop) : List S1 → Bt → Nat → MRes × Prop := fun args bx d =>
  (⟨renV (outsOf (swp (inv bx args)) d 0 (L (renSs (inv bx args) args) (bsOf bx (inv bx args) (inv bx args))).1.2) (L (renSs (inv bx args) args) (bsOf bx (inv bx args) (inv bx args))).1.1, [], deadB (inv bx args) ++ wbOut (outsOf (swp (inv bx args)) d 0 (L (renSs (inv bx args) args) (bsOf bx (inv bx args) (inv bx args))).1.2) (L (renSs (inv bx args) args) (bsOf bx (inv bx args) (inv bx args))).1.2⟩,
   insOk bx (inv bx args) (inv bx args) ∧ rkSs (inv bx args) args ∧ bijOk (inv bx args) (swp (inv bx args)) (inv bx args) ∧ (L (renSs (inv bx args) args) (bsOf bx (inv bx args) (inv bx args))).2 ∧
    bijOk (outsOf (swp (inv bx args)) d 0 (L (renSs (inv bx args) args) (bsOf bx (inv bx args) (inv bx args))).1.2) (swp (outsOf (swp (inv bx args)) d 0 (L (renSs (inv bx args) args) (bsOf bx (inv bx args) (inv bx args))).1.2)) (outsOf (swp (inv bx args)) d 0 (L (renSs (inv bx args) args) (bsOf bx (inv bx args) (inv bx args))).1.2) ∧
    freshOk bx (inv bx args) (outsOf (swp (inv bx args)) d 0 (L (renSs (inv bx args) args) (bsOf bx (inv bx args) (inv bx args))).1.2) ∧ backOk (outsOf (swp (inv bx args)) d 0 (L (renSs (inv bx args) args) (bsOf bx (inv bx args) (inv bx args))).1.2) (inv bx args) ∧ rkV (outsOf (swp (inv bx args)) d 0 (L (renSs (inv bx args) args) (bsOf bx (inv bx args) (inv bx args))).1.2) (L (renSs (inv bx args) args) (bsOf bx (inv bx args) (inv bx args))).1.1 ∧ rkB (outsOf (swp (inv bx args)) d 0 (L (renSs (inv bx args) args) (bsOf bx (inv bx args) (inv bx args))).1.2) (L (renSs (inv bx args) args) (bsOf bx (inv bx args) (inv bx args))).1.2)
/-- All handed on, tags 5000, 5001 .. -/
def locF (L : List S1 → Bt → (V1 × Bt) × Prop) : List S1 → Bt → Nat → MRes × Prop := locW (fun _ args => locs 5000 (refTs args)) L
/-- Handed on under these tags, with what stands in the boxes; those from 4000 on come back as what they were. -/
def locP (ns : List Nat) (L : List S1 → Bt → (V1 × Bt) × Prop) : List S1 → Bt → Nat → MRes × Prop := locW (fun bx args => locN ns (refA bx (refTs args))) L
theorem swp_mem {k t : Nat} : ∀ {l : List (Nat × Nat)}, (k, t) ∈ swp l ↔ (t, k) ∈ l
  | [] => by simp [swp]
  | p :: l => by
    obtain ⟨x, y⟩ := p
    simp only [swp, List.mem_cons, swp_mem (l := l), Prod.mk.injEq]
    exact ⟨fun h => h.elim (fun h => .inl ⟨h.2, h.1⟩) .inr, fun h => h.elim (fun h => .inl ⟨h.2, h.1⟩) .inr⟩
theorem bij_get {m m' : List (Nat × Nat)} : ∀ {l : List (Nat × Nat)}, bijOk m m' l → ∀ p ∈ l, gb m p.1 = some p.2 ∧ gb m' p.2 = some p.1
  | [], _, p, hp => by cases hp
  | q :: l, h, p, hp => by
    rcases List.mem_cons.1 hp with rfl | hp
    · exact h.1
    · exact bij_get h.2 p hp
theorem ins_get {bx : Bt} {m : List (Nat × Nat)} : ∀ {l : List (Nat × Nat)}, insOk bx m l → ∀ p ∈ l, ∃ o, gb bx p.1 = some (some o) ∧ rkL m o.l
  | [], _, p, hp => by cases hp
  | q :: l, h, p, hp => by
    rcases List.mem_cons.1 hp with rfl | hp
    · have h1 := h.1
      split at h1
      · next o e => exact ⟨o, e, h1⟩
      · exact h1.elim
    · exact ins_get h.2 p hp
theorem fresh_get {bx : Bt} {m : List (Nat × Nat)} : ∀ {l : List (Nat × Nat)}, freshOk bx m l → ∀ p ∈ l, if 4000 ≤ p.1 ∧ p.1 < 5000 then gb m p.2 = some p.1 else gb bx p.2 = none
  | [], _, p, hp => by cases hp
  | q :: l, h, p, hp => by
    rcases List.mem_cons.1 hp with rfl | hp
    · exact h.1
    · exact fresh_get h.2 p hp
theorem back_get {m : List (Nat × Nat)} : ∀ {l : List (Nat × Nat)}, backOk m l → ∀ p ∈ l, 4000 ≤ p.2 ∧ p.2 < 5000 → gb m p.2 = some p.1
  | [], _, p, hp, _ => by cases hp
  | q :: l, h, p, hp, hq => by
    rcases List.mem_cons.1 hp with rfl | hp
    · have := h.1
      rw [if_pos hq] at this
      exact this
    · exact back_get h.2 p hp hq
theorem bsOf_get {bx : Bt} {m : List (Nat × Nat)} : ∀ {l : List (Nat × Nat)} {t : Nat}, gb (bsOf bx m l) t = match gb (swp l) t with
    | some k => some (match gb bx k with
      | some (some o) => some ⟨o.e, o.K, renL m o.l⟩
      | _ => none)
    | none => none
  | [], t => rfl
  | p :: l, t => by
    simp only [bsOf, swp, gb]
    split
    · rfl
    · exact bsOf_get
theorem deadB_mem {k : Nat} {x : Option Ob} : ∀ {l : List (Nat × Nat)}, (k, x) ∈ deadB l ↔ x = none ∧ ∃ t, (k, t) ∈ l ∧ ¬ (4000 ≤ t ∧ t < 5000)
  | [] => by simp [deadB]
  | p :: l => by
    obtain ⟨a, b⟩ := p
    by_cases hb : 4000 ≤ b ∧ b < 5000
    · simp only [deadB, if_pos hb, deadB_mem (l := l), List.mem_cons, Prod.mk.injEq]
      constructor
      · rintro ⟨h, t, ht, hn⟩
        exact ⟨h, t, .inr ht, hn⟩
      · rintro ⟨h, t, ht, hn⟩
        rcases ht with ⟨-, rfl⟩ | ht
        · exact absurd hb hn
        · exact ⟨h, t, ht, hn⟩
    · simp only [deadB, if_neg hb, List.mem_cons, deadB_mem (l := l), Prod.mk.injEq]
      constructor
      · rintro (⟨rfl, rfl⟩ | ⟨h, t, ht, hn⟩)
        · exact ⟨rfl, b, .inl ⟨rfl, rfl⟩, hb⟩
        · exact ⟨h, t, .inr ht, hn⟩
      · rintro ⟨rfl, t, (⟨rfl, rfl⟩ | ht), hn⟩
        · exact .inl ⟨rfl, rfl⟩
        · exact .inr ⟨rfl, t, ht, hn⟩
theorem outsOf_mem {m : List (Nat × Nat)} {d : Nat} : ∀ {l : Bt} {i : Nat} {p : Nat × Nat}, p ∈ outsOf m d i l → ∃ o, (p.1, o) ∈ l
  | [], _, p, h => by simp [outsOf] at h
  | q :: l, i, p, h => by
    rcases List.mem_cons.1 h with rfl | h
    · exact ⟨q.2, List.mem_cons_self⟩
    · obtain ⟨o, ho⟩ := outsOf_mem h
      exact ⟨o, List.mem_cons_of_mem _ ho⟩
theorem outsOf_in {m : List (Nat × Nat)} {d : Nat} : ∀ {l : Bt} {i : Nat} {t : Nat} {o : Option Ob}, (t, o) ∈ l → ∃ k, (t, k) ∈ outsOf m d i l
  | [], _, t, o, h => by cases h
  | q :: l, i, t, o, h => by
    rcases List.mem_cons.1 h with rfl | h
    · exact ⟨_, List.mem_cons_self⟩
    · obtain ⟨k, hk⟩ := outsOf_in (m := m) (d := d) (i := i + 100000) h
      exact ⟨k, List.mem_cons_of_mem _ hk⟩
theorem wbOut_mem {m : List (Nat × Nat)} : ∀ {l : Bt}, rkB m l → ∀ p ∈ wbOut m l, ∃ t o, (t, some o) ∈ l ∧ rkL m o.l ∧ p = ((gb m t).getD t, some ⟨o.e, o.K, renL m o.l⟩)
  | [], _, p, hp => by simp [wbOut] at hp
  | (t, some o) :: l, h, p, hp => by
    rcases List.mem_cons.1 hp with rfl | hp
    · exact ⟨t, o, List.mem_cons_self, h.1, rfl⟩
    · obtain ⟨t', o', h1, h2, h3⟩ := wbOut_mem h.2 p hp
      exact ⟨t', o', List.mem_cons_of_mem _ h1, h2, h3⟩
  | (t, none) :: l, h, p, hp => h.elim
theorem wbOut_tags {m : List (Nat × Nat)} : ∀ {l : Bt} {t : Nat} {o : Option Ob}, (t, o) ∈ l → ((gb m t).getD t) ∈ (wbOut m l).map (·.1)
  | [], t, o, h => by cases h
  | (t', some o') :: l, t, o, h => by
    rcases List.mem_cons.1 h with e | h
    · obtain ⟨rfl, rfl⟩ := Prod.mk.inj e
      exact List.mem_cons_self
    · exact List.mem_cons_of_mem _ (wbOut_tags h)
  | (t', none) :: l, t, o, h => by
    rcases List.mem_cons.1 h with e | h
    · obtain ⟨rfl, rfl⟩ := Prod.mk.inj e
      exact List.mem_cons_self
    · exact List.mem_cons_of_mem _ (wbOut_tags h)
/-- What is handed on, as the callee has it. -/
def ghIn (G : Gh) (inv : List (Nat × Nat)) : Gh := ⟨G.A, fun t => match gb (swp inv) t with
  | some k => G.β k
  | none => none, fun t => match gb (swp inv) t with
  | some k => G.dead k
  | none => False, fun _ => none⟩
/-- What came back, as the caller has it. -/
def ghOut (G G1 : Gh) (inv outs : List (Nat × Nat)) : Gh := ⟨fun b i => G.A b i ∨ G1.A b i, fun k => match gb (swp outs) k with
  | some t => G1.β t
  | none => G.β k, fun k => match gb (swp outs) k with
  | some t => G1.dead t
  | none => G.dead k ∨ (gb inv k).isSome = true, G.ρ⟩
/-- Blocks that the callee may write. -/
def ghM (G : Gh) (W : World) (inv : List (Nat × Nat)) : Nat → Prop := fun b => W.heap.size ≤ b ∨ ∃ k t u, gb inv k = some t ∧ G.β k = some u ∧ blk u = some b
section
variable {M : Nat → Prop} {A0 : Pr} {G G1 : Gh} {W W' : World} {inv outs : List (Nat × Nat)}
theorem swp_get (hbi : bijOk inv (swp inv) inv) {t k : Nat} (h : gb (swp inv) t = some k) : gb inv k = some t := (bij_get hbi _ (swp_mem.1 (gb_mem h))).1
theorem inv_get (hbi : bijOk inv (swp inv) inv) {t k : Nat} (h : gb inv k = some t) : gb (swp inv) t = some k := (bij_get hbi _ (gb_mem h)).2
theorem ghIn_ok (hG : GOK M A0 G W) (hbi : bijOk inv (swp inv) inv) (live : ∀ k t, gb inv k = some t → ¬ G.dead k) : GOK (ghM G W inv) G.A (ghIn G inv) W := by
  refine ⟨fun b h => .inl h, fun b i h => ⟨(hG.lt b i h).1, fun _ => h⟩, fun t u b h hb => ?_, fun t t' u u' b h h' hb hb' _ _ => ?_, fun t u K g h => (by cases h), fun t t' u u' K K' g h => (by cases h)⟩
  · change (match gb (swp inv) t with | some k => G.β k | none => none) = some u at h
    split at h
    · next k e =>
      have h1 := swp_get hbi e
      obtain ⟨g1, g2⟩ := hG.box k u b h hb
      exact ⟨g1, fun _ => ⟨.inr ⟨k, t, u, h1, h, hb⟩, (g2 (live k t h1)).2⟩⟩
    · cases h
  · change (match gb (swp inv) t with | some k => G.β k | none => none) = some u at h
    change (match gb (swp inv) t' with | some k => G.β k | none => none) = some u' at h'
    split at h
    · next k e =>
      split at h'
      · next k' e' =>
        have h1 := swp_get hbi e
        have h2 := swp_get hbi e'
        obtain rfl := hG.boxI k k' u u' b h h' hb hb' (live k t h1) (live k' t' h2)
        rw [h1] at h2
        exact Option.some.inj h2
      · cases h'
    · cases h
theorem ghIn_ren (hbi : bijOk inv (swp inv) inv) : RenOk inv G (ghIn G inv) := ⟨fun k t h => by
  show (match gb (swp inv) t with | some k => G.β k | none => none) = _
  rw [inv_get hbi h], fun _ _ h => h⟩
theorem ghM_M (hG : GOK M A0 G W) (live : ∀ k t, gb inv k = some t → ¬ G.dead k) {b : Nat} (h : ghM G W inv b) : M b := by
  rcases h with h | ⟨k, t, u, h1, h2, h3⟩
  · exact hG.fr b h
  · exact ((hG.box k u b h2 h3).2 (live k t h1)).1
/-- A block of what was not handed on. -/
theorem ghM_not (hG : GOK M A0 G W) (live : ∀ k t, gb inv k = some t → ¬ G.dead k) {k : Nat} {u : Value} {b : Nat} (hk : gb inv k = none) (hu : G.β k = some u) (hb : blk u = some b) (hd : ¬ G.dead k) : ¬ ghM G W inv b := by
  rintro (h | ⟨k', t, u', h1, h2, h3⟩)
  · have := (hG.box k u b hu hb).1; omega
  · obtain rfl := hG.boxI k k' u u' b hu h2 hb h3 hd (live k' t h1)
    rw [hk] at h1
    cases h1
theorem ghM_row (hG : GOK M A0 G W) (live : ∀ k t, gb inv k = some t → ¬ G.dead k) {t K g : Nat} {u : Value} (h : G.ρ t = some (u, K)) (hg : u.ownBlock = some g) : ¬ ghM G W inv g := by
  obtain ⟨-, h2, h3, -⟩ := hG.row t u K g h hg
  rintro (h | ⟨k', t, u', h1, h4, h5⟩)
  · omega
  · exact h3 k' u' h4 (live k' t h1) h5
theorem ghM_A (hG : GOK M A0 G W) (live : ∀ k t, gb inv k = some t → ¬ G.dead k) {b i : Nat} (h : G.A b i) : ¬ ghM G W inv b := by
  rintro (h' | ⟨k', t, u', h1, h4, h5⟩)
  · have := (hG.lt b i h).1; omega
  · exact ((hG.box k' u' b h4 h5).2 (live k' t h1)).2 i h
theorem ghOut_old (hbo : bijOk outs (swp outs) outs) {k t : Nat} (h : gb outs t = some k) : (ghOut G G1 inv outs).β k = G1.β t := by
  show (match gb (swp outs) k with | some t => G1.β t | none => G.β k) = _
  rw [inv_get hbo h]
theorem ghOut_ok (hG : GOK M A0 G W) (h1 : GOK (ghM G W inv) G.A G1 W') (hc : Chg (ghM G W inv) W W') (hbo : bijOk outs (swp outs) outs) (live : ∀ k t, gb inv k = some t → ¬ G.dead k) :
    GOK M A0 (ghOut G G1 inv outs) W' := by
  have low : ∀ b i, G.A b i ∨ G1.A b i → ¬ ghM G W inv b → G.A b i := fun b i h hn => h.elim id fun h => (h1.lt b i h).2 hn
  have hout : ∀ k u, (ghOut G G1 inv outs).β k = some u → (∃ t, gb (swp outs) k = some t ∧ G1.β t = some u) ∨ (gb (swp outs) k = none ∧ G.β k = some u) := fun k u h => by
    change (match gb (swp outs) k with | some t => G1.β t | none => G.β k) = some u at h
    split at h
    · next t e => exact .inl ⟨t, e, h⟩
    · next e => exact .inr ⟨e, h⟩
  have hdd : ∀ k t, gb (swp outs) k = some t → ((ghOut G G1 inv outs).dead k ↔ G1.dead t) := fun k t e => by
    show (match gb (swp outs) k with | some t => G1.dead t | none => G.dead k ∨ (gb inv k).isSome = true) ↔ _
    rw [e]
  have hdo : ∀ k, gb (swp outs) k = none → ((ghOut G G1 inv outs).dead k ↔ (G.dead k ∨ (gb inv k).isSome = true)) := fun k e => by
    show (match gb (swp outs) k with | some t => G1.dead t | none => G.dead k ∨ (gb inv k).isSome = true) ↔ _
    rw [e]
  have hold : ∀ k, gb (swp outs) k = none → ¬ (ghOut G G1 inv outs).dead k → ¬ G.dead k ∧ gb inv k = none := fun k e hn => by
    have := mt (hdo k e).2 hn
    refine ⟨fun h => this (.inl h), ?_⟩
    cases e2 : gb inv k with
    | none => rfl
    | some t => exact absurd (.inr (by rw [e2]; rfl)) this
  refine ⟨fun b h => hG.fr b (Nat.le_trans hc.size h), fun b i h => ⟨?_, fun hn => ?_⟩, fun k u b h hb => ?_, fun k k' u u' b h h' hb hb' hd hd' => ?_, fun t u K g h hg => ?_, hG.rowI⟩
  · rcases h with h | h
    · exact Nat.lt_of_lt_of_le (hG.lt b i h).1 hc.size
    · exact (h1.lt b i h).1
  · exact (hG.lt b i (low b i h fun hm => hn (ghM_M hG live hm))).2 hn
  · rcases hout k u h with ⟨t, e, ht⟩ | ⟨e, ho⟩
    · obtain ⟨g1, g2⟩ := h1.box t u b ht hb
      refine ⟨g1, fun hd => ?_⟩
      obtain ⟨g3, g4⟩ := g2 (mt (hdd k t e).2 hd)
      refine ⟨ghM_M hG live g3, fun i hi => ?_⟩
      rcases hi with hi | hi
      · exact ghM_A hG live hi g3
      · exact g4 i hi
    · obtain ⟨g1, g2⟩ := hG.box k u b ho hb
      refine ⟨Nat.lt_of_lt_of_le g1 hc.size, fun hd => ?_⟩
      obtain ⟨hd1, hd2⟩ := hold k e hd
      obtain ⟨g3, g4⟩ := g2 hd1
      exact ⟨g3, fun i hi => g4 i (low b i hi (ghM_not hG live hd2 ho hb hd1))⟩
  · rcases hout k u h with ⟨t, e, ht⟩ | ⟨e, ho⟩ <;> rcases hout k' u' h' with ⟨t', e', ht'⟩ | ⟨e', ho'⟩
    · obtain rfl := h1.boxI t t' u u' b ht ht' hb hb' (mt (hdd k t e).2 hd) (mt (hdd k' t' e').2 hd')
      have q1 := swp_get hbo e
      have q2 := swp_get hbo e'
      rw [q1] at q2
      exact Option.some.inj q2
    · obtain ⟨hd1, hd2⟩ := hold k' e' hd'
      exact absurd ((h1.box t u b ht hb).2 (mt (hdd k t e).2 hd)).1 (ghM_not hG live hd2 ho' hb' hd1)
    · obtain ⟨hd1, hd2⟩ := hold k e hd
      exact absurd ((h1.box t' u' b ht' hb').2 (mt (hdd k' t' e').2 hd')).1 (ghM_not hG live hd2 ho hb hd1)
    · exact hG.boxI k k' u u' b ho ho' hb hb' (hold k e hd).1 (hold k' e' hd').1
  · obtain ⟨f1, f2, f3, f4⟩ := hG.row t u K g h hg
    have hnm := ghM_row hG live h hg
    refine ⟨f1, Nat.lt_of_lt_of_le f2 hc.size, fun k v hk hd hb => ?_, fun i hi => f4 i (low g i hi hnm)⟩
    rcases hout k v hk with ⟨t', e, ht⟩ | ⟨e, ho⟩
    · exact hnm ((h1.box t' v g ht hb).2 (mt (hdd k t' e).2 hd)).1
    · exact f3 k v ho (hold k e hd).1 hb
theorem ghOut_evo (hG : GOK M A0 G W) (hc : Chg (ghM G W inv) W W') (live : ∀ k t, gb inv k = some t → ¬ G.dead k) (new : ∀ k t, gb (swp outs) k = some t → ∀ u, G.β k = some u → G1.β t = some u) {wb : List Nat} (hw1 : ∀ k t, gb (swp outs) k = some t → k ∈ wb) (hw2 : ∀ k t, gb inv k = some t → k ∈ wb) :
    Evo wb [] G W (ghOut G G1 inv outs) W' := by
  have hno : ∀ k, k ∉ wb → gb (swp outs) k = none ∧ gb inv k = none := fun k hk => by
    constructor
    · cases e : gb (swp outs) k with
      | none => rfl
      | some t => exact absurd (hw1 k t e) hk
    · cases e : gb inv k with
      | none => rfl
      | some t => exact absurd (hw2 k t e) hk
  have hblk : ∀ b, b < W.heap.size → ¬ ghM G W inv b → W'.heap[b]? = W.heap[b]? := fun b hb hn => hc.block b hb hn
  refine ⟨fun b i v hA hv => ?_, fun b i h => .inl h, fun k u h => ?_, fun k hk h => ?_, fun k hk => ?_, fun k u b hk hu hd hb => ?_, fun t u K h => ⟨u, h, Nat.le_refl _, fun _ => rfl⟩, fun t _ h => h, fun t u K _ h => ⟨h, fun g hg => hblk g (hG.row t u K g h hg).2.1 (ghM_row hG live h hg)⟩⟩
  · rw [← hv]
    unfold World.cell?
    simp only [hblk b (hG.lt b i hA).1 (ghM_A hG live hA)]
  · show (match gb (swp outs) k with | some t => G1.β t | none => G.β k) = some u
    split
    · next t e => exact new k t e u h
    · exact h
  · show (match gb (swp outs) k with | some t => G1.β t | none => G.β k) = none
    rw [(hno k hk).1]
    exact h
  · show (match gb (swp outs) k with | some t => G1.dead t | none => G.dead k ∨ (gb inv k).isSome = true) ↔ _
    rw [(hno k hk).1, (hno k hk).2]
    simp
  · exact hblk b (hG.box k u b hu hb).1 (ghM_not hG live (hno k hk).2 hu hb hd)
end
theorem calM_locW {P : Program} {f : FuncId} {iv : Bt → List S1 → List (Nat × Nat)} {L : List S1 → Bt → (V1 × Bt) × Prop} {args : List S1} {bx : Bt} {d : Nat} (hL : ∀ xs bs, (L xs bs).2 → CalG P f xs bs (L xs bs).1.1 (L xs bs).1.2) (h : (locW iv L args bx d).2) : CalM P f args bx (locW iv L args bx d).1 := by
  unfold locW at h ⊢
  dsimp only at h ⊢
  generalize hinv : iv bx args = inv at h ⊢
  generalize hxs : renSs inv args = xs at h ⊢
  generalize hbs : bsOf bx inv inv = bs at h ⊢
  generalize hr : L xs bs = R at h ⊢
  generalize hout : outsOf (swp inv) d 0 R.1.2 = outs at h ⊢
  obtain ⟨hin, hrk, hbi, hpre, hbo, hfr, hbk, hrv, hrb⟩ := h
  have hc := hL xs bs (by rw [hr]; exact hpre)
  rw [hr] at hc
  intro M A0 G W vs hG hd _ hwb
  have hwo : ∀ k t, gb outs t = some k → ∃ x, (k, x) ∈ wbOut outs R.1.2 := fun k t ht => by
    obtain ⟨o, ho⟩ := outsOf_mem (by rw [hout]; exact gb_mem ht)
    have := wbOut_tags (m := outs) ho
    dsimp only at this
    rw [ht, Option.getD_some] at this
    obtain ⟨p, hp, rfl⟩ := List.mem_map.1 this
    exact ⟨p.2, hp⟩
  have hlive : ∀ k t, gb inv k = some t → ∃ o u, gb bx k = some (some o) ∧ rkL inv o.l ∧ G.β k = some u ∧ ¬ G.dead k ∧ Hb G W k (some (some o)) := fun k t hk => by
    have hm := gb_mem hk
    obtain ⟨o, h1, h2⟩ := ins_get hin _ hm
    have h3 : Hb G W k (gb bx k) := by
      by_cases hp : 4000 ≤ t ∧ t < 5000
      · obtain ⟨x, hx⟩ := hwo k t (back_get hbk _ hm hp)
        exact hwb (k, x) (List.mem_append_right _ hx)
      · exact hwb (k, none) (List.mem_append_left _ (deadB_mem.2 ⟨rfl, t, hm, hp⟩))
    dsimp only at h1
    rw [h1] at h3
    obtain ⟨u, us, g1, g2, -⟩ := id h3
    exact ⟨o, u, h1, h2, g1, g2, h3⟩
  have live : ∀ k t, gb inv k = some t → ¬ G.dead k := fun k t hk => by
    obtain ⟨o, u, -, -, -, h5, -⟩ := hlive k t hk
    exact h5
  have hmem : ∀ k t, gb (swp outs) k = some t → (t, k) ∈ outs := fun k t hk => swp_mem.1 (gb_mem hk)
  have htag : ∀ k t, gb (swp outs) k = some t → k ∈ (wbOut outs R.1.2).map (·.1) := fun k t hk => by
    have h1 := hmem k t hk
    obtain ⟨o, ho⟩ := outsOf_mem (by rw [hout]; exact h1)
    have := wbOut_tags (m := outs) ho
    dsimp only at this
    rw [(bij_get hbo _ h1).1] at this
    exact this
  have new0 : ∀ k t, gb (swp outs) k = some t → ¬ (4000 ≤ t ∧ t < 5000) → G.β k = none := fun k t hk hn => by
    obtain ⟨p, hp, hpk⟩ := List.mem_map.1 (htag k t hk)
    have h3 := hwb p (List.mem_append_right _ hp)
    have h4 := fresh_get hfr _ (hmem k t hk)
    dsimp only at h4
    rw [if_neg hn] at h4
    rw [hpk, h4] at h3
    exact h3
  have prot0 : ∀ k t, gb (swp outs) k = some t → 4000 ≤ t ∧ t < 5000 → gb inv k = some t := fun k t hk hn => by
    have h4 := fresh_get hfr _ (hmem k t hk)
    dsimp only at h4
    rw [if_pos hn] at h4
    exact h4
  have hG0 := ghIn_ok (W := W) hG hbi live
  have hd0 : D1L (ghIn G inv) W xs vs := by rw [← hxs]; exact renSs_ok (ghIn_ren hbi) hd hrk
  have hb0 : ∀ t, Hb (ghIn G inv) W t (gb bs t) := fun t => by
    rw [← hbs, bsOf_get]
    cases e : gb (swp inv) t with
    | none =>
      show (match gb (swp inv) t with | some k => G.β k | none => none) = none
      rw [e]
    | some k =>
      have hk := swp_get hbi e
      obtain ⟨o, u, h1, h2, h3, h4, h5⟩ := hlive k t hk
      obtain ⟨u', us, g1, g2, g3, g4, g5⟩ := h5
      dsimp only
      rw [h1]
      have hl : (renL inv o.l).length = o.l.length := List.length_map ..
      refine ⟨u', us, ?_, ?_, ?_, ?_, ?_⟩
      · show (match gb (swp inv) t with | some k => G.β k | none => none) = _
        rw [e]
        exact g1
      · show ¬ (match gb (swp inv) t with | some k => G.dead k | none => False)
        rw [e]
        exact g2
      · dsimp only
        rw [hl]
        exact g3
      · dsimp only
        rw [renL_flat]
        exact renDs_ok (ghIn_ren hbi) g4 (rkL_flat h2)
      · rcases g5 with g5 | g5
        · exact .inl g5
        · refine .inr fun cs hcs => ?_
          obtain ⟨x, hx, rfl⟩ := List.mem_map.1 hcs
          rw [renDs_len]
          exact g5 x hx
  refine (hc _ _ _ W vs hG0 hd0 hb0 (fun _ => rfl)).mono fun e W' he => ?_
  obtain ⟨v, G1, he, g1, g2, g3, g4, g5⟩ := he
  have hkeep : ∀ k t, gb inv k = some t → 4000 ≤ t ∧ t < 5000 → ∀ u, G.β k = some u → G1.β t = some u := fun k t hk hp u hu => g5 t u hp.1 hp.2 (by
    show (match gb (swp inv) t with | some k => G.β k | none => none) = _
    rw [inv_get hbi hk]
    exact hu)
  have hren : RenOk outs G1 (ghOut G G1 inv outs) := ⟨fun t k hk => ghOut_old hbo hk, fun b i h => .inr h⟩
  refine ⟨v, ghOut G G1 inv outs, he, ghOut_ok hG g1 g2 hbo live, g2.weak fun b _ hb => ghM_M hG live hb, ghOut_evo hG g2 live (fun k t hk u hu => ?_) (fun k t hk => ?_) (fun k t hk => ?_), renV_ok hren g3 hrv, fun p hp => ?_⟩
  · by_cases hp : 4000 ≤ t ∧ t < 5000
    · exact hkeep k t (prot0 k t hk hp) hp u hu
    · rw [new0 k t hk hp] at hu; cases hu
  · rw [List.map_append]
    exact List.mem_append_right _ (htag k t hk)
  · rw [List.map_append]
    by_cases hp : 4000 ≤ t ∧ t < 5000
    · obtain ⟨x, hx⟩ := hwo k t (back_get hbk _ (gb_mem hk) hp)
      exact List.mem_append_right _ (List.mem_map.2 ⟨_, hx, rfl⟩)
    · exact List.mem_append_left _ (List.mem_map.2 ⟨(k, none), deadB_mem.2 ⟨rfl, t, gb_mem hk, hp⟩, rfl⟩)
  · rcases List.mem_append.1 hp with hp | hp
    · obtain ⟨k, x⟩ := p
      obtain ⟨rfl, t, ht, hnp⟩ := deadB_mem.1 hp
      have hk := (bij_get hbi _ ht).1
      dsimp only at hk ⊢
      obtain ⟨o, u, -, -, h3, h4, -⟩ := hlive k t hk
      have hno : gb (swp outs) k = none := by
        cases e : gb (swp outs) k with
        | none => rfl
        | some t' =>
          by_cases hp' : 4000 ≤ t' ∧ t' < 5000
          · have := prot0 k t' e hp'
            rw [hk] at this
            obtain rfl := Option.some.inj this
            exact absurd hp' hnp
          · rw [new0 k t' e hp'] at h3; cases h3
      refine ⟨u, ?_, ?_⟩
      · show (match gb (swp outs) k with | some t => G1.β t | none => G.β k) = _
        rw [hno]
        exact h3
      · show (match gb (swp outs) k with | some t => G1.dead t | none => G.dead k ∨ (gb inv k).isSome = true)
        rw [hno]
        exact .inr (by rw [hk]; rfl)
    · obtain ⟨t, o, h1, h2, rfl⟩ := wbOut_mem hrb p hp
      obtain ⟨k, hk⟩ := outsOf_in (m := swp inv) (d := d) (i := 0) h1
      rw [hout] at hk
      obtain ⟨hk1, hk2⟩ := bij_get hbo _ hk
      dsimp only at hk1 hk2 ⊢
      rw [hk1, Option.getD_some]
      obtain ⟨u, us, f1, f2, f3, f4, f5⟩ := g4 _ h1
      have hl : (renL outs o.l).length = o.l.length := List.length_map ..
      refine ⟨u, us, (ghOut_old hbo hk1).trans f1, ?_, ?_, ?_, ?_⟩
      · show ¬ (match gb (swp outs) k with | some t => G1.dead t | none => G.dead k ∨ (gb inv k).isSome = true)
        rw [hk2]
        exact f2
      · dsimp only
        rw [hl]
        exact f3
      · dsimp only
        rw [renL_flat]
        exact renDs_ok hren f4 (rkL_flat h2)
      · rcases f5 with f5 | f5
        · exact .inl f5
        · refine .inr fun cs hcs => ?_
          obtain ⟨x, hx, rfl⟩ := List.mem_map.1 hcs
          rw [renDs_len]
          exact f5 x hx
theorem calM_pr {P : Program} {f : FuncId} {ns : List Nat} {L : List S1 → Bt → (V1 × Bt) × Prop} {args : List S1} {bx : Bt} {d : Nat} (hL : ∀ xs bs, (L xs bs).2 → CalG P f xs bs (L xs bs).1.1 (L xs bs).1.2) (h : (locP ns L args bx d).2) : CalM P f args bx (locP ns L args bx d).1 := calM_locW hL h
theorem DV.ofG {P : Program} {Γ : Cx} {N : Nat} {f : FuncId} {fn : Func} {c : Code} {xs : List S1} {bs : Bt} {x : V1} {bs' : Bt} {rs : List ResultVar} (lv : List Nat) (hΓ : Snd P Γ) (hm : P.follows .mixedOrders = true) (hf : P.funcs[f]? = some fn) (hb : fn.body = some c) (hN : fn.ntmps = N) (hn : Nat.ble xs.length N = true) (hr : fn.results.toList = rs) (h : DV P Γ N lv c (retG P rs x bs') ⟨XB 0 xs, bs, []⟩) : CalG P f xs bs x bs' := by
  subst hr
  exact calG_of hΓ hm hf hb hN (Nat.le_of_ble_eq_true hn) h
section
variable {P : Program} {σ : St} {rs : List ResultVar} {x : V1} {bs : Bt}
theorem retG_ret (h : v1Ok x ∧ resX P σ rs (vL x) ∧ objX σ bs) : retG P rs x bs .ret σ := h
theorem retG_norm (h : v1Ok x ∧ resX P σ rs (vL x) ∧ objX σ bs) : retG P rs x bs .normal σ := h
end
section
variable {α : Type} {C : Cod α} {m : List (Nat × Nat)}
theorem renDs_lf : ∀ {l : List D}, lfs l = true → renDs m l = l
  | [], _ => rfl
  | d :: l, h => by
    have h := (Bool.and_eq_true _ _).mp h
    rw [renDs, renDs_lf h.2]
    cases d <;> first | rfl | cases h.1
theorem rkDs_lf : ∀ {l : List D}, lfs l = true → rkDs m l
  | [], _ => trivial
  | d :: l, h => by
    have h := (Bool.and_eq_true _ _).mp h
    refine ⟨?_, rkDs_lf h.2⟩
    cases d <;> first | trivial | cases h.1
theorem renDs_enc {x : α} : renDs m (C.enc x) = C.enc x := renDs_lf lfs_enc
theorem rkDs_enc {x : α} : rkDs m (C.enc x) = True := eq_true (rkDs_lf lfs_enc)
theorem renL_nil : renL m [] = [] := rfl
theorem renL_cons {x : List D} {l : List (List D)} : renL m (x :: l) = renDs m x :: renL m l := rfl
theorem renL_app {l l' : List (List D)} : renL m (l ++ l') = renL m l ++ renL m l' := List.map_append
theorem renL_encL {l : List α} : renL m (encL C l) = encL C l := by
  induction l with
  | nil => rfl
  | cons x l ih => rw [encL_cons, renL_cons, ih, renDs_enc]
theorem rkL_nil : rkL m [] = True := eq_true nofun
theorem rkL_cons {x : List D} {l : List (List D)} : rkL m (x :: l) = (rkDs m x ∧ rkL m l) := by
  apply propext
  exact ⟨fun h => ⟨h x List.mem_cons_self, fun c hc => h c (List.mem_cons_of_mem _ hc)⟩, fun h c hc => by
    rcases List.mem_cons.1 hc with rfl | hc
    · exact h.1
    · exact h.2 c hc⟩
theorem rkL_app {l l' : List (List D)} : rkL m (l ++ l') = (rkL m l ∧ rkL m l') := by
  apply propext
  exact ⟨fun h => ⟨fun c hc => h c (List.mem_append_left _ hc), fun c hc => h c (List.mem_append_right _ hc)⟩, fun h c hc => (List.mem_append.1 hc).elim (h.1 c) (h.2 c)⟩
theorem rkL_encL {l : List α} : rkL m (encL C l) = True := eq_true fun cs h => by
  obtain ⟨x, -, rfl⟩ := List.mem_map.1 h
  exact rkDs_lf lfs_enc
theorem renL_set {l : List (List D)} {i : Nat} {x : List D} : renL m (l.set i x) = (renL m l).set i (renDs m x) := List.map_set
theorem rkL_set {l : List α} {i : Nat} {x : List D} (h : rkDs m x) : rkL m ((encL C l).set i x) = True := eq_true fun cs hc => by
  rcases List.mem_or_eq_of_mem_set hc with hc | rfl
  · obtain ⟨y, -, rfl⟩ := List.mem_map.1 hc
    exact rkDs_lf lfs_enc
  · exact h
end
end Go.Proofs.Ytkmgdejpdhlleaa.Dq
