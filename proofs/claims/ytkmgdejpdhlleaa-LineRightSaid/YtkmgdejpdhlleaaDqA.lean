/- Deep values: code; a function's contract. No program in sight. -/
import Derived.Test.YtkmgdejpdhlleaaDq9
namespace Go.Proofs.Ytkmgdejpdhlleaa.Dq
set_option linter.unusedSimpArgs false
set_option linter.unusedVariables false
set_option maxRecDepth 100000
open Go.RowKit

/-- Code, told of deep values only. -/
def DW (P : Program) (Γ : Cx) (N : Nat) (c : Code) (Q : Exit → St → Prop) (σ : St) : Prop :=
  Snd P Γ → P.follows .mixedOrders = true → ∀ M A0 w0 df G a W, RR M A0 w0 N df G σ a W → c.wp P (fun e a W => ∃ σ' G', Q e σ' ∧ RR M A0 w0 N df G' σ' a W) a W
def thenD (K : St → Prop) (Q : Exit → St → Prop) : Exit → St → Prop
  | .normal, σ => K σ
  | e, σ => Q e σ
def blockD (id : Nat) (Q : Exit → St → Prop) : Exit → St → Prop
  | .exit id', σ => if id' = id then Q .normal σ else Q (.exit id') σ
  | e, σ => Q e σ
/-- What may be forgotten. -/
def Wk (σ σ' : St) : Prop := ∀ M A0 w0 N df G a W, RR M A0 w0 N df G σ a W → ∃ G', RR M A0 w0 N df G' σ' a W
section
variable {P : Program} {Γ : Cx} {N : Nat} {Q : Exit → St → Prop} {σ σ' : St}
theorem DW.mono {c : Code} {Q' : Exit → St → Prop} (h : DW P Γ N c Q σ) (hq : ∀ e σ, Q e σ → Q' e σ) : DW P Γ N c Q' σ :=
  fun h1 h2 M A0 w0 df G a W hR => wp_mono (h h1 h2 M A0 w0 df G a W hR) (fun e a W ⟨σ', G', k1, k2⟩ => ⟨σ', G', hq _ _ k1, k2⟩)
theorem DW.weak {c : Code} (hw : Wk σ σ') (h : DW P Γ N c Q σ') : DW P Γ N c Q σ := fun h1 h2 M A0 w0 df G a W hR => by
  obtain ⟨G', hR'⟩ := hw _ _ _ _ _ _ _ _ hR
  exact h h1 h2 M A0 w0 df G' a W hR'
theorem DW.skip (h : Q .normal σ) : DW P Γ N .skip Q σ := fun _ _ M A0 w0 df G a W hR => wp_skip ⟨σ, G, h, hR⟩
theorem DW.exit {id : Nat} (h : Q (.exit id) σ) : DW P Γ N (.exit id) Q σ := fun _ _ M A0 w0 df G a W hR => wp_exit ⟨σ, G, h, hR⟩
theorem DW.ret (h : Q .ret σ) : DW P Γ N .ret Q σ := fun _ _ M A0 w0 df G a W hR => wp_ret ⟨σ, G, h, hR⟩
theorem DW.seq {x y : Code} (h : DW P Γ N x (thenD (DW P Γ N y Q) Q) σ) : DW P Γ N (.seq x y) Q σ := fun h1 h2 M A0 w0 df G a W hR => by
  refine wp_seq (wp_mono (h h1 h2 M A0 w0 df G a W hR) (fun e a W ⟨σ', G', k1, k2⟩ => ?_))
  cases e with
  | normal => exact k1 h1 h2 M A0 w0 df G' a W k2
  | _ => exact ⟨σ', G', k1, k2⟩
theorem DW.block {id : Nat} {c : Code} (h : DW P Γ N c (blockD id Q) σ) : DW P Γ N (.block id c) Q σ := fun h1 h2 M A0 w0 df G a W hR => by
  refine wp_block (wp_mono (h h1 h2 M A0 w0 df G a W hR) (fun e a W ⟨σ', G', k1, k2⟩ => ?_))
  cases e with
  | exit id' =>
    unfold Exit.inBlock
    unfold blockD at k1
    dsimp only at k1 ⊢
    split
    · next hid => rw [if_pos hid] at k1; exact ⟨σ', G', k1, k2⟩
    · next hid => rw [if_neg hid] at k1; exact ⟨σ', G', k1, k2⟩
  | _ => exact ⟨σ', G', k1, k2⟩
theorem DW.cond {c : Operand} {x y : Code} {b : Bool} {p : Prop} (hc : opd σ.s true c = (.c (.bool b), p)) (hp : p) (ht : b = true → DW P Γ N x Q σ) (hf : b = false → DW P Γ N y Q σ) : DW P Γ N (.cond c x y) Q σ := fun h1 h2 M A0 w0 df G a W hR => by
  have hok : Okd G W σ.s a c := by
    cases c with
    | tmp t => exact hR.s t
    | _ => trivial
  have d1 := opd_ok (g := true) rfl hok
  rw [hc] at d1
  have hv : a.eval c = .bool b := D1_bool (d1 hp)
  refine wp_cond hv ?_
  cases b
  · exact hf rfl h1 h2 M A0 w0 df G a W hR
  · exact ht rfl h1 h2 M A0 w0 df G a W hR
theorem DW.region {id : Nat} {ops : Array Oper} (hfit : fits ops N = true) (h : wpR P Γ ops ops.toList σ (Q .normal)) : DW P Γ N (.region id ops false) Q σ := fun h1 _ M A0 w0 df G a W hR =>
  wp_region_list (seq_ok (Q := fun e a W => ∃ σ' G', Q e σ' ∧ RR M A0 w0 N df G' σ' a W) h1 hfit (fun σ' G' a' W' k1 k2 => ⟨σ', G', k1, k2⟩) ops.toList σ G a W (fun _ h => h) h hR)
theorem DW.drawn {id : Nat} {ops : Array Oper} (hfit : fits ops N = true) (hac : acyc .any ops = true) (h : wpD P Γ ops ops.toList σ [] (Q .normal)) : DW P Γ N (.region id ops true) Q σ := fun h1 h2 M A0 w0 df G a W hR =>
  drawn_ok h1 hfit h2 hac h hR (fun σ' G' a' W' k1 k2 => ⟨σ', G', k1, k2⟩)
/-- A loop: what holds at its head, by a letter. -/
theorem DW.loop {α : Type} {c : Code} (st : α → St) (I : α → Prop) (μ : α → Nat) (x0 : α) (h0 : I x0) (hw : Wk σ (st x0)) (round : ∀ x, I x → DW P Γ N c (thenD (fun σ' => ∃ x', (I x' ∧ μ x' < μ x) ∧ Wk σ' (st x')) Q) (st x)) : DW P Γ N (.loop c) Q σ := fun h1 h2 M A0 w0 df G a W hR => by
  obtain ⟨G0, hR0⟩ := hw _ _ _ _ _ _ _ _ hR
  have key : ∀ n x G a W, μ x = n → I x → RR M A0 w0 N df G (st x) a W → ∀ b k cs, ∃ e a' w', (∃ σ' G', Q e σ' ∧ RR M A0 w0 N df G' σ' a' w') ∧ Arrives P (lone (b.at a (.code c :: .inLoop c :: k)) cs W) b k cs e a' w' := by
    intro n
    induction n using Nat.strongRecOn with
    | _ n ih =>
      intro x G a W hn hI hRx b k cs
      obtain ⟨e, a₁, w₁, hq, harr⟩ := round x hI h1 h2 M A0 w0 df G a W hRx b (.inLoop c :: k) cs
      obtain ⟨σ', G', k1, k2⟩ := hq
      cases e with
      | normal =>
        obtain ⟨x', ⟨hI', hlt⟩, hwk⟩ := k1
        obtain ⟨G'', hR''⟩ := hwk _ _ _ _ _ _ _ _ k2
        obtain ⟨e₂, a₂, w₂, hq₂, harr₂⟩ := ih (μ x') (hn ▸ hlt) x' G'' a₁ w₁ rfl hI' hR'' b k cs
        exact ⟨e₂, a₂, w₂, hq₂, .of_steps (Steps.trans harr (.one step_inLoop)) harr₂⟩
      | exit id => exact ⟨_, a₁, w₁, ⟨σ', G', k1, k2⟩, .pass (x := .inLoop c) rfl (fun _ _ => .inl (by simp)) harr⟩
      | goto l => exact ⟨_, a₁, w₁, ⟨σ', G', k1, k2⟩, .pass (x := .inLoop c) rfl (fun _ _ => .inl (by simp)) harr⟩
      | ret => exact ⟨_, a₁, w₁, ⟨σ', G', k1, k2⟩, .pass (x := .inLoop c) rfl (fun _ _ => .inl (by simp)) harr⟩
      | panic ch => exact ⟨_, a₁, w₁, ⟨σ', G', k1, k2⟩, .pass (x := .inLoop c) rfl (fun _ _ => .inl (by simp)) harr⟩
      | outgrown => exact ⟨_, a₁, w₁, ⟨σ', G', k1, k2⟩, .pass (x := .inLoop c) rfl (fun _ _ => .inl (by simp)) harr⟩
  intro b k cs
  obtain ⟨e, a', w', hq, harr⟩ := key _ x0 G0 a W rfl h0 hR0 b k cs
  exact ⟨e, a', w', hq, .of_steps (.one step_loop) harr⟩
/-- Which object a tag stands for: another one's name, or a new one without elements. -/
def look (rn : List (Nat × Option Nat)) (t : Nat) : Option Nat := match gb rn t with
  | some x => x
  | none => some t
def XO (rn : List (Nat × Option Nat)) : Bt → Nat → Bool
  | [], _ => false
  | p :: l, k => (look rn p.1 == some k) || XO rn l k
def XP (rn : List (Nat × Option Nat)) : Bt → Bool
  | [] => true
  | p :: l => (match look rn p.1 with
    | some k => !XO rn l k
    | none => true) && XP rn l
section
variable (rn : List (Nat × Option Nat)) (σ σ' : St)
def convK : List Nat → List Nat → Prop
  | [], [] => True
  | k :: ks, t :: ts => (look rn t = some k ∧ (gb σ'.b t).isSome = true) ∧ convK ks ts
  | _, _ => False
def XI : D → D → Prop
  | .fb f ks, .fb f' ks' => f = f' ∧ convK rn σ' ks ks'
  | .fb _ _, _ => False
  | .fz, d => .fz = d
  | .lk k n, .lk t m => look rn t = some k ∧ m = n ∧ (gb σ'.b t).isSome = true
  | .lk k n, d => (QP σ.b (.lk k n)).2 ∧ (QP σ.b (.lk k n)).1 = d ∧ XO rn σ'.b k = false
  | .nl, .nl => True
  | .nl, .lk t m => look rn t = none ∧ m = 0 ∧ (gb σ'.b t).isSome = true
  | .nl, .sl l => l = []
  | .int k n, d => .int k n = d
  | .bool b, d => .bool b = d
  | .sl l, d => .sl l = d
  | .nl, _ => False
def XJ : List D → List D → Prop
  | [], [] => True
  | d :: l, d' :: l' => XI rn σ σ' d d' ∧ XJ l l'
  | _, _ => False
def XK : List (List D) → List (List D) → Prop
  | [cs], [cs'] => XJ rn σ σ' cs cs'
  | _, _ => False
/-- Rows element by element: some words in them may be forgotten or renamed. -/
def convR : List (List D) → List (List D) → Prop
  | [], [] => True
  | cs :: l, cs' :: l' => XJ rn σ σ' cs cs' ∧ convR l l'
  | _, _ => False
def lkOk : D → Prop
  | .fb _ _ => False
  | .lk k _ => look rn k = some k ∧ (gb σ'.b k).isSome = true
  | _ => True
def lkL (l : List (List D)) : Prop := ∀ cs ∈ l, ∀ d ∈ cs, lkOk rn σ' d
def XL (o o' : Ob) : Prop := o.e = o'.e ∧ o.K = o'.K ∧ (if o.K = 0 then XK rn σ σ' o.l o'.l else (o.l = o'.l ∧ lkL rn σ' o.l) ∨ convR rn σ σ' o.l o'.l)
def XM : Cp → Cp → Prop
  | .c d, .c d' => XI rn σ σ' d d'
  | .box k j, .box t j' => look rn t = some k ∧ j = j' ∧ (gb σ'.b t).isSome = true
  | .ptr l, .ptr l' => l = l'
  | _, _ => False
def XN : List Cp → List Cp → Prop
  | [], [] => True
  | d :: l, d' :: l' => XM rn σ σ' d d' ∧ XN l l'
  | _, _ => False
/-- Is a slot's word weaker than another? -/
def XH : S1 → S1 → Prop
  | .own tg' K' l', .own tg K l => tg' = tg ∧ K' = K ∧ l' = l ∧ gb σ'.r tg = gb σ.r tg ∧ (gb σ'.r tg).isSome = true
  | .nil, .own tg K l => [] = l ∧ gb σ.r tg = none ∧ (gb σ'.r tg).map (fun ri => (ri.K, ri.n)) = some (K, 0)
  | .box k' off', .box k off => look rn k = some k' ∧ off' = off ∧ (gb σ'.b k).isSome = true
  | .xp k' K' i' off', .xp k K i off => look rn k = some k' ∧ K' = K ∧ i' = i ∧ off' = off ∧ (gb σ'.b k).isSome = true
  | .c d', .c d => XI rn σ σ' d' d
  | .own _ _ l', .c d => D.sl l' = d
  | .sn _ l', .c d => D.sl l' = d
  | .sn b' l', .sn b l => b' = b ∧ l' = l
  | .nil, .c d => XI rn σ σ' .nl d
  | .c .nl, .nil => True
  | .agg l', .agg l => XJ rn σ σ' l' l
  | .ptr l', .ptr l => l' = l
  | .fn f' l', .fn f l => f' = f ∧ XN rn σ σ' l' l
  | .nil, .nil => True
  | .k v', .k v => v' = v
  | _, _ => False
def XG : SV → SV → Prop
  | _, .top => True
  | .v g' z, .v g y => g' = g ∧ XH rn σ σ' z y
  | _, _ => False
def XC : List (Nat × SV) → Prop
  | [] => True
  | (t, y) :: l => XG rn σ σ' (gs σ.s t) y ∧ XC l
def XD : Bt → Prop
  | [] => True
  | (t, some o') :: l => (match look rn t with
    | some k => match gb σ.b k with
      | some (some o) => XL rn σ σ' o o'
      | _ => False
    | none => o'.l = []) ∧ XD l
  | (t, none) :: l => False
end
/-- Protected objects stay. -/
def XF (rn : List (Nat × Option Nat)) (σ' : St) : Bt → Prop
  | [] => True
  | p :: l => (if 4000 ≤ p.1 ∧ p.1 < 5000 then look rn p.1 = some p.1 ∧ (gb σ'.b p.1).isSome = true else True) ∧ XF rn σ' l
theorem wkP_get {rn : List (Nat × Option Nat)} {σ' : St} : ∀ {l : Bt} {k : Nat} {x : Option Ob}, XF rn σ' l → gb l k = some x → 4000 ≤ k ∧ k < 5000 → look rn k = some k ∧ (gb σ'.b k).isSome = true
  | [], _, _, _, h, _ => by cases h
  | p :: l, k, x, h, hg, hk => by
    unfold gb at hg
    split at hg
    · next e =>
      have := h.1
      rw [e, if_pos hk] at this
      exact this
    · exact wkP_get h.2 hg hk
def XE (σ : St) : List (Nat × RowI) → Prop
  | [] => True
  | (t, ri) :: l => (gb σ.r t = some ri ∨ (gb σ.r t = none ∧ ri.n = 0)) ∧ XE σ l
variable {rn : List (Nat × Option Nat)}
theorem wkS_get {l : List (Nat × SV)} (h : XC rn σ σ' l) (t : Nat) : XG rn σ σ' (gs σ.s t) (gs l t) := by
  induction l with
  | nil => cases σ.s <;> trivial
  | cons x l ih =>
    obtain ⟨k, y⟩ := x
    unfold gs
    by_cases hk : k = t
    · subst hk
      rw [if_pos rfl]
      have := h.1
      cases hs : σ.s <;> (rw [hs] at this; exact this)
    · rw [if_neg hk]
      have := ih h.2
      cases hs : σ.s <;> (rw [hs] at this; exact this)
theorem wkB_get : ∀ {l : Bt} {t : Nat} {x : Option Ob}, XD rn σ σ' l → gb l t = some x → ∃ o', x = some o' ∧ match look rn t with
    | some k => ∃ o, gb σ.b k = some (some o) ∧ XL rn σ σ' o o'
    | none => o'.l = []
  | [], _, _, _, h => by cases h
  | (k, none) :: l, _, _, h, _ => h.elim
  | (k, some y) :: l, t, x, h, hg => by
    unfold gb at hg
    by_cases hk : k = t
    · subst hk
      rw [if_pos rfl] at hg
      obtain rfl := Option.some.inj hg
      refine ⟨y, rfl, ?_⟩
      have := h.1
      cases hl : look rn k with
      | none => rw [hl] at this; exact this
      | some k' =>
        rw [hl] at this
        dsimp only at this ⊢
        cases hb : gb σ.b k' with
        | none => rw [hb] at this; exact this.elim
        | some z =>
          rw [hb] at this
          cases z with
          | none => exact this.elim
          | some o => exact ⟨o, rfl, this⟩
    · rw [if_neg hk] at hg
      exact wkB_get h.2 hg
theorem carried_of : ∀ {l : Bt} {t k : Nat}, (gb l t).isSome = true → look rn t = some k → XO rn l k = true
  | [], _, _, h, _ => by cases h
  | (k', x) :: l, t, k, h, hl => by
    unfold XO
    by_cases hk : k' = t
    · subst hk
      simp [hl]
    · unfold gb at h
      rw [if_neg hk] at h
      rw [carried_of h hl, Bool.or_true]
theorem injB_ok : ∀ {l : Bt} {t t' k : Nat}, XP rn l = true → (gb l t).isSome = true → (gb l t').isSome = true → look rn t = some k → look rn t' = some k → t = t'
  | [], _, _, _, _, h, _, _, _ => by cases h
  | (k', x) :: l, t, t', k, hi, h, h', hl, hl' => by
    unfold XP at hi
    rw [Bool.and_eq_true] at hi
    unfold gb at h h'
    by_cases h1 : k' = t
    · by_cases h2 : k' = t'
      · omega
      · rw [if_neg h2] at h'
        have h3 := hi.1
        dsimp only at h3
        rw [h1, hl] at h3
        dsimp only at h3
        rw [carried_of h' hl'] at h3
        cases h3
    · rw [if_neg h1] at h
      by_cases h2 : k' = t'
      · have h3 := hi.1
        dsimp only at h3
        rw [h2, hl'] at h3
        dsimp only at h3
        rw [carried_of h hl] at h3
        cases h3
      · rw [if_neg h2] at h'
        exact injB_ok hi.2 h h' hl hl'
theorem wkR_get {l : List (Nat × RowI)} (h : XE σ l) (t : Nat) : gb l t = none ∨ gb l t = gb σ.r t ∨ (gb σ.r t = none ∧ ∃ ri, gb l t = some ri ∧ ri.n = 0) := by
  induction l with
  | nil => exact .inl rfl
  | cons x l ih =>
    obtain ⟨k', y⟩ := x
    unfold gb
    by_cases hk : k' = t
    · subst hk
      rw [if_pos rfl]
      rcases h.1 with h1 | ⟨h1, h2⟩
      · cases hs : σ.r <;> (rw [hs] at h1; exact .inr (.inl h1.symm))
      · cases hs : σ.r <;> (rw [hs] at h1; exact .inr (.inr ⟨h1, y, rfl, h2⟩))
    · rw [if_neg hk]
      have := ih h.2
      cases hs : σ.r <;> (rw [hs] at this; exact this)
/-- How what is known is kept, by what it stands for. -/
structure Cv (rn : List (Nat × Option Nat)) (σ σ' : St) (G G' : Gh) (W : World) (Q : Nat → Prop) : Prop where
  A : G'.A = more G.A Q
  β : ∀ t k, (gb σ'.b t).isSome = true → look rn t = some k → G'.β t = G.β k
  n : ∀ t, (gb σ'.b t).isSome = true → look rn t = none → G'.β t = some (.slice none 0 0)
  Q : ∀ k u b, XO rn σ'.b k = false → G.β k = some u → ¬ G.dead k → blk u = some b → Q b
  b : ∀ k, Hb G W k (gb σ.b k)
section
variable {G G' : Gh} {W : World} {Qf : Nat → Prop}
theorem convK_ne : ∀ {ks ts : List Nat}, convK rn σ' ks ts → ks ≠ [] → ts ≠ []
  | [], _, _, h => absurd rfl h
  | _ :: _, _ :: _, _, _ => nofun
  | _ :: _, [], h, _ => h.elim
theorem convK_ok (h : Cv rn σ σ' G G' W Qf) : ∀ {ks ts : List Nat} {us : List Value}, convK rn σ' ks ts → FbL G ks us → FbL G' ts us
  | [], [], us, _, hf => ⟨hf.1, fun j k u h => by simp at h⟩
  | [], _ :: _, _, hc, _ => hc.elim
  | _ :: _, [], _, hc, _ => hc.elim
  | k :: ks, t :: ts, us, hc, hf => by
    cases us with
    | nil => have := hf.1; simp at this
    | cons u us =>
      have g := convK_ok h (us := us) hc.2 ⟨by simpa using hf.1, fun j x u h1 h2 => hf.2 (j + 1) x u (by simpa using h1) (by simpa using h2)⟩
      obtain ⟨b, h1, h2⟩ := hf.2 0 k u rfl rfl
      refine ⟨by simp [g.1], fun j x z h3 h4 => ?_⟩
      cases j with
      | zero =>
        obtain rfl : t = x := by simpa using h3
        obtain rfl : u = z := by simpa using h4
        exact ⟨b, (h.β t k hc.1.2 hc.1.1).trans h1, h2⟩
      | succ j => exact g.2 j x z (by simpa using h3) (by simpa using h4)
theorem convD_ok (h : Cv rn σ σ' G G' W Qf) {d d' : D} {v : Value} (hc : XI rn σ σ' d d') (hd : DenX G W d v) : DenX G' W d' v := by
  have plain : ∀ d, lf d = true → DenX G W d v → DenX G' W d v := fun d hl hd => DenX.of (by rw [h.A]; exact Den.mono (hd.den hl) (fun b i h => .inl h) (Kp.refl _ _))
  have froz : ∀ k n d', d' = (QP σ.b (.lk k n)).1 → (QP σ.b (.lk k n)).2 → XO rn σ'.b k = false → DenX G W (.lk k n) v → DenX G' W d' v := fun k n d' e ho hn hd => by
    subst e
    refine DenX.of ?_
    rw [h.A]
    refine demD_ok hd (fun k' _ => h.b k') (fun k' hk' u b hu hb => ?_) ho
    obtain rfl : k' = k := by simpa [Q2] using hk'
    have hk := h.b k'
    refine h.Q k' u b hn hu ?_ hb
    unfold QP at ho
    dsimp only at ho
    cases hg : gb σ.b k' with
    | none => rw [hg] at ho; exact ho.elim
    | some o =>
      cases o with
      | none => rw [hg] at ho; exact ho.elim
      | some o => rw [hg] at hk; exact hk.choose_spec.choose_spec.2.1
  cases d with
  | lk k n =>
    cases d' with
    | lk t m =>
      obtain ⟨h1, rfl, h2⟩ := hc
      obtain ⟨a, N, c, g1, g2⟩ := hd
      exact ⟨a, N, c, (h.β t k h2 h1).trans g1, g2⟩
    | _ => exact froz k n _ hc.2.1.symm hc.1 hc.2.2 hd
  | nl =>
    cases d' with
    | nl => exact plain _ rfl hd
    | lk t m =>
      obtain ⟨h1, rfl, h2⟩ := hc
      obtain rfl := D1_nl (G := G) (W := W) hd
      exact ⟨none, 0, 0, h.n t h2 h1, Nat.le_refl _, Nat.le_refl _, .inl rfl, rfl⟩
    | sl l => obtain rfl := hc; obtain rfl := D1_nl (G := G) (W := W) hd; exact Den.nil _ _
    | _ => exact hc.elim
  | fb f ks =>
    cases d' with
    | fb f' ks' =>
      obtain ⟨rfl, hk⟩ := hc
      obtain ⟨h0, us, h1, h2⟩ := hd
      exact ⟨convK_ne hk h0, us, h1, convK_ok h hk h2⟩
    | _ => exact hc.elim
  | fz => have hc : D.fz = d' := by cases d' <;> exact hc
          subst hc; exact plain _ rfl hd
  | int k n => have hc : D.int k n = d' := by cases d' <;> exact hc
               subst hc; exact plain _ rfl hd
  | bool b => have hc : D.bool b = d' := by cases d' <;> exact hc
              subst hc; exact plain _ rfl hd
  | sl l => have hc : D.sl l = d' := by cases d' <;> exact hc
            subst hc; exact plain _ rfl hd
theorem convDs_ok (h : Cv rn σ σ' G G' W Qf) : ∀ {ds ds' : List D} {us : List Value}, XJ rn σ σ' ds ds' → DenXL G W ds us → DenXL G' W ds' us
  | [], [], us, _, hd => by
    obtain rfl := List.eq_nil_of_length_eq_zero hd.1.symm
    exact AL.nil
  | d :: ds, d' :: ds', us, hc, hd => by
    obtain ⟨u, us', rfl, h1, h2⟩ := AL.cons_inv hd
    exact (AL.single (convD_ok h hc.1 h1)).append (convDs_ok h hc.2 h2)
  | [], _ :: _, _, hc, _ => hc.elim
  | _ :: _, [], _, hc, _ => hc.elim
theorem lkL_ok (h : Cv rn σ σ' G G' W Qf) {l : List (List D)} {us : List Value} (hl : lkL rn σ' l) (hd : DenXL G W l.flatten us) : DenXL G' W l.flatten us := ⟨hd.1, fun j d u h1 h2 => by
  have hdu := hd.2 j d u h1 h2
  obtain ⟨cs, hcs, hdc⟩ := List.mem_flatten.1 (List.mem_of_getElem? h1)
  have := hl cs hcs d hdc
  cases d with
  | lk k n =>
    obtain ⟨h3, h4⟩ := this
    exact convD_ok h (d := .lk k n) (d' := .lk k n) ⟨h3, rfl, h4⟩ hdu
  | nl => exact convD_ok h (d := .nl) (d' := .nl) trivial hdu
  | int k n => exact convD_ok h (d := .int k n) (d' := .int k n) rfl hdu
  | bool b => exact convD_ok h (d := .bool b) (d' := .bool b) rfl hdu
  | sl m => exact convD_ok h (d := .sl m) (d' := .sl m) rfl hdu
  | fb f ks => exact this.elim
  | fz => exact convD_ok h (d := .fz) (d' := .fz) rfl hdu⟩
theorem convDs_len : ∀ {ds ds' : List D}, XJ rn σ σ' ds ds' → ds.length = ds'.length
  | [], [], _ => rfl
  | d :: ds, d' :: ds', hc => by simp [convDs_len hc.2]
  | [], _ :: _, hc => hc.elim
  | _ :: _, [], hc => hc.elim
theorem convR_ok (h : Cv rn σ σ' G G' W Qf) {K : Nat} : ∀ {l l' : List (List D)} {us : List Value}, convR rn σ σ' l l' → DenXL G W l.flatten us → DenXL G' W l'.flatten us ∧ l.length = l'.length ∧ ((∀ cs ∈ l, cs.length = K) → ∀ cs ∈ l', cs.length = K)
  | [], [], us, _, hd => by
    obtain rfl := List.eq_nil_of_length_eq_zero hd.1.symm
    exact ⟨AL.nil, rfl, fun _ => nofun⟩
  | cs :: l, cs' :: l', us, hc, hd => by
    rw [List.flatten_cons] at hd ⊢
    have hl := hd.1
    rw [List.length_append] at hl
    have h1 := AL.take hd cs.length
    have h2 := AL.drop hd cs.length
    rw [List.take_left'  rfl] at h1
    rw [List.drop_left' rfl] at h2
    obtain ⟨g1, g2, g3⟩ := convR_ok h (K := K) hc.2 h2
    have := (convDs_ok h hc.1 h1).append g1
    rw [List.take_append_drop] at this
    refine ⟨this, by simp [g2], fun hk c hcm => ?_⟩
    rcases List.mem_cons.1 hcm with rfl | hcm
    · rw [← convDs_len hc.1]
      exact hk cs List.mem_cons_self
    · exact g3 (fun x hx => hk x (List.mem_cons_of_mem _ hx)) c hcm
  | [], _ :: _, _, hc, _ => hc.elim
  | _ :: _, [], _, hc, _ => hc.elim
theorem convO_ok (h : Cv rn σ σ' G G' W Qf) {o o' : Ob} (hc : XL rn σ σ' o o') {us : List Value} (hd : DenXL G W o.l.flatten us) : DenXL G' W o'.l.flatten us ∧ o.l.length = o'.l.length ∧ ((∀ cs ∈ o.l, cs.length = o.K) → ∀ cs ∈ o'.l, cs.length = o'.K) := by
  obtain ⟨h1, h2, h3⟩ := hc
  split at h3
  · unfold XK at h3
    split at h3
    · next cs cs' e1 e2 =>
      rw [e1] at hd ⊢
      rw [e2, ← h2]
      rw [flatten_one] at hd ⊢
      refine ⟨convDs_ok h h3 hd, rfl, fun hk c hc' => ?_⟩
      obtain rfl := List.mem_singleton.1 hc'
      rw [← convDs_len h3]
      exact hk cs (List.mem_singleton.2 rfl)
    · exact h3.elim
  · rcases h3 with h3 | h3
    · rw [← h3.1, ← h2]
      exact ⟨lkL_ok h h3.2 hd, rfl, fun hk => hk⟩
    · rw [← h2]
      exact convR_ok h h3 hd
theorem convC_ok (h : Cv rn σ σ' G G' W Qf) {x x' : Cp} {v : Value} (hc : XM rn σ σ' x x') (hd : DenC G W x v) : DenC G' W x' v := by
  cases x with
  | c d => cases x' with
    | c d' => exact convD_ok h hc hd
    | _ => exact hc.elim
  | box k j => cases x' with
    | box t j' => obtain ⟨h1, rfl, h2⟩ := hc; obtain ⟨b, g1, g2⟩ := hd; exact ⟨b, (h.β t k h2 h1).trans g1, g2⟩
    | _ => exact hc.elim
  | ptr l => cases x' with
    | ptr l' => obtain rfl := hc; obtain ⟨b, o, g1, g2⟩ := hd; exact ⟨b, o, g1, g2.mono (fun b i h' => by rw [h.A]; exact .inl h') (Kp.refl _ _)⟩
    | _ => exact hc.elim
theorem convCs_ok (h : Cv rn σ σ' G G' W Qf) : ∀ {ds ds' : List Cp} {us : List Value}, XN rn σ σ' ds ds' → DenCL G W ds us → DenCL G' W ds' us
  | [], [], us, _, hd => ⟨hd.1, fun j x u h1 _ => by simp at h1⟩
  | d :: ds, d' :: ds', us, hc, hd => by
    cases us with
    | nil => have := hd.1; simp at this
    | cons u us =>
      have g2 := convCs_ok h (us := us) hc.2 ⟨by simpa using hd.1, fun j x u h1 h2 => hd.2 (j + 1) x u (by simpa using h1) (by simpa using h2)⟩
      refine ⟨by simp [g2.1], fun j x w h1 h2 => ?_⟩
      cases j with
      | zero =>
        obtain rfl : d' = x := by simpa using h1
        obtain rfl : u = w := by simpa using h2
        exact convC_ok h hc.1 (hd.2 0 d u rfl rfl)
      | succ j => exact g2.2 j x w (by simpa using h1) (by simpa using h2)
  | [], _ :: _, _, hc, _ => hc.elim
  | _ :: _, [], _, hc, _ => hc.elim
end
theorem wk_of (rn : List (Nat × Option Nat)) (hs : XC rn σ σ' σ'.s) (hb : XD rn σ σ' σ'.b) (hi : XP rn σ'.b = true) (hr : XE σ σ'.r) (hp : XF rn σ' σ.b) : Wk σ σ' := by
  intro M A0 w0 N df G a W hR
  have hG := hR.ok
  obtain ⟨Qf, hQf⟩ : ∃ Qf : Nat → Prop, Qf = fun b => ∃ k u, G.β k = some u ∧ blk u = some b ∧ ¬ G.dead k ∧ XO rn σ'.b k = false := ⟨_, rfl⟩
  obtain ⟨G', hG'⟩ : ∃ G' : Gh, G' = { A := more G.A Qf, dead := fun _ => False, β := fun t => match gb σ'.b t with
      | none => none
      | some _ => match look rn t with
        | some k => G.β k
        | none => some (.slice none 0 0), ρ := fun t => match gb σ'.r t with
      | none => none
      | some ri => if gb σ.r t = none then some (.slice none 0 0, ri.K) else G.ρ t } := ⟨_, rfl⟩
  have eA : G'.A = more G.A Qf := by rw [hG']
  have ed : ∀ t, ¬ G'.dead t := fun t => by rw [hG']; exact id
  have eβ : ∀ t, G'.β t = match gb σ'.b t with
      | none => none
      | some _ => match look rn t with
        | some k => G.β k
        | none => some (.slice none 0 0) := fun t => by rw [hG']
  have eρ : ∀ t, G'.ρ t = match gb σ'.r t with
      | none => none
      | some ri => if gb σ.r t = none then some (.slice none 0 0, ri.K) else G.ρ t := fun t => by rw [hG']
  clear hG'
  have live : ∀ t k, (gb σ'.b t).isSome = true → look rn t = some k → ∃ o o' u us, gb σ'.b t = some (some o') ∧ gb σ.b k = some (some o) ∧ XL rn σ σ' o o' ∧ G.β k = some u ∧ ¬ G.dead k ∧ Mem W o.e o.K o.l.length us u ∧ DenXL G W o.l.flatten us ∧ ((∃ b, u = .pointer (some ⟨b, 0, none⟩)) ∨ ∀ cs ∈ o.l, cs.length = o.K) := fun t k ht hk => by
    obtain ⟨x, hx⟩ := Option.isSome_iff_exists.1 ht
    obtain ⟨o', rfl, h1⟩ := wkB_get hb hx
    rw [hk] at h1
    obtain ⟨o, h2, h3⟩ := h1
    have h4 := hR.b k
    rw [h2] at h4
    obtain ⟨u, us, g1, g2, g3, g4, g5⟩ := h4
    exact ⟨o, o', u, us, hx, h2, h3, g1, g2, g3, g4, g5⟩
  have hβ : ∀ t u b, G'.β t = some u → blk u = some b → ∃ k, (gb σ'.b t).isSome = true ∧ look rn t = some k ∧ G.β k = some u ∧ ¬ G.dead k := fun t u b h hb' => by
    rw [eβ] at h
    cases hg : gb σ'.b t with
    | none => rw [hg] at h; cases h
    | some x =>
      rw [hg] at h
      cases hl : look rn t with
      | none => rw [hl] at h; obtain rfl := Option.some.inj h; cases hb'
      | some k =>
        rw [hl] at h
        obtain ⟨o, o', u', us, -, -, -, g1, g2, -⟩ := live t k (by rw [hg]; rfl) hl
        exact ⟨k, rfl, rfl, h, g2⟩
  have hQn : ∀ t u b, G'.β t = some u → blk u = some b → ¬ Qf b := fun t u b h hb' hq => by
    obtain ⟨k, h1, h2, h3, h4⟩ := hβ t u b h hb'
    rw [hQf] at hq
    obtain ⟨k2, u2, g1, g2, g3, g4⟩ := hq
    have := hG.boxI k k2 u u2 b h3 g1 hb' g2 h4 g3
    subst this
    rw [carried_of h1 h2] at g4
    cases g4
  have hQm : ∀ b, Qf b → b < W.heap.size ∧ M b := fun b hq => by
    rw [hQf] at hq
    obtain ⟨k2, u2, g1, g2, g3, g4⟩ := hq
    exact ⟨(hG.box k2 u2 b g1 g2).1, ((hG.box k2 u2 b g1 g2).2 g3).1⟩
  have hcv : Cv rn σ σ' G G' W Qf := by
    refine ⟨eA, fun t k ht hk => ?_, fun t ht hk => ?_, fun k u b h1 h2 h3 h4 => by rw [hQf]; exact ⟨k, u, h2, h4, h3, h1⟩, hR.b⟩
    · obtain ⟨x, hx⟩ := Option.isSome_iff_exists.1 ht
      rw [eβ, hx]
      dsimp only
      rw [hk]
    · obtain ⟨x, hx⟩ := Option.isSome_iff_exists.1 ht
      rw [eβ, hx]
      dsimp only
      rw [hk]
  have hρ : ∀ t u K, G'.ρ t = some (u, K) → u = .slice none 0 0 ∨ G.ρ t = some (u, K) := fun t u K h => by
    rw [eρ] at h
    split at h
    · cases h
    · split at h
      · obtain ⟨rfl, -⟩ := Prod.mk.inj (Option.some.inj h); exact .inl rfl
      · exact .inr h
  have hρ2 : ∀ t, (gb σ'.r t).isSome = true → gb σ.r t ≠ none → G'.ρ t = G.ρ t := fun t h h' => by
    rw [eρ]
    cases hq : gb σ'.r t with
    | none => rw [hq] at h; cases h
    | some ri => dsimp only; rw [if_neg h']
  have h1 : ∀ x y v, XH rn σ σ' x y → D1 G W x v → D1 G' W y v := fun x y v hc hd => by
    have pl : ∀ l, Den G.A W (.sl l) v → Den G'.A W (.sl l) v := fun l h => by rw [eA]; exact Den.mono h (fun b i h => .inl h) (Kp.refl _ _)
    cases y with
    | c d =>
      cases x with
      | c d' => exact convD_ok hcv hc hd
      | own t K l' => obtain rfl := hc; exact pl _ hd.1
      | sn b l' => obtain rfl := hc; exact pl _ hd.1
      | nil => obtain rfl := hd; exact convD_ok hcv (d := .nl) (d' := d) hc (show DenX G W .nl _ from Den.nl)
      | _ => exact hc.elim
    | agg l =>
      cases x with
      | agg l' => obtain ⟨us, g1, g2⟩ := hd; exact ⟨us, g1, convDs_ok hcv hc g2⟩
      | _ => exact hc.elim
    | own tg K l =>
      cases x with
      | own tg' K' l' =>
        obtain ⟨rfl, rfl, rfl, hq, hq2⟩ := hc
        obtain ⟨g1, g2, u, g3, g4, g5⟩ := hd
        refine ⟨pl _ g1, g2, u, ?_, g4, g5⟩
        rw [hρ2 tg' hq2 (fun e => by rw [hq, e] at hq2; cases hq2)]
        exact g3
      | nil =>
        obtain ⟨rfl, hq, hq2⟩ := hc
        obtain rfl := hd
        refine ⟨.nil _ _, nofun, .slice none 0 0, ?_, Nat.le_refl _, fun _ => rfl⟩
        rw [eρ]
        cases hqq : gb σ'.r tg with
        | none => rw [hqq] at hq2; cases hq2
        | some ri =>
          rw [hqq] at hq2
          dsimp only
          rw [if_pos hq]
          have := Option.some.inj hq2
          rw [(Prod.mk.inj this).1]
      | _ => exact hc.elim
    | box k off =>
      cases x with
      | box k' off' =>
        obtain ⟨hl, rfl, hq⟩ := hc
        obtain ⟨b, g1, g2⟩ := hd
        exact ⟨b, (hcv.β k k' hq hl).trans g1, g2⟩
      | _ => exact hc.elim
    | xp k K i off =>
      cases x with
      | xp k' K' i' off' =>
        obtain ⟨hl, rfl, rfl, rfl, hq⟩ := hc
        obtain ⟨b, N, c, g1, g2⟩ := hd
        exact ⟨b, N, c, (hcv.β k k' hq hl).trans g1, g2⟩
      | _ => exact hc.elim
    | ptr cs =>
      cases x with
      | ptr l' => obtain rfl := hc; obtain ⟨b, o, g1, g2⟩ := hd; exact ⟨b, o, g1, g2.mono (fun b i h' => by rw [eA]; exact .inl h') (Kp.refl _ _)⟩
      | _ => exact hc.elim
    | fn f ps =>
      cases x with
      | fn f' ps' => obtain ⟨rfl, hc⟩ := hc; obtain ⟨us, g1, g2⟩ := hd; exact ⟨us, g1, convCs_ok hcv hc g2⟩
      | _ => exact hc.elim
    | sn b l =>
      cases x with
      | sn b' l' => obtain ⟨rfl, rfl⟩ := hc; exact ⟨pl _ hd.1, hd.2⟩
      | _ => exact hc.elim
    | nil =>
      cases x with
      | nil => exact hd
      | c d =>
        cases d with
        | nl => exact D1_nl hd
        | _ => exact hc.elim
      | _ => exact hc.elim
    | k v =>
      cases x with
      | k v' => obtain rfl := hc; exact hd
      | _ => exact hc.elim
    | tl => cases x <;> exact hc.elim
  refine ⟨G', ⟨⟨hG.fr, fun b i h => ?_, fun t u b h hu => ?_, fun t t' u u' b h h' hu hu' _ _ => ?_, fun t u K g h h' => ?_, fun t t' u u' K K' g h h' k k' => ?_⟩, hR.ext, hR.size, hR.df, fun t => ?_, fun t => ?_, fun t => ?_, fun k u h => ?_⟩⟩
  · rw [eA] at h
    rcases h with h | h
    · exact hG.lt b i h
    · exact ⟨(hQm b h).1, fun h' => absurd (hQm b h).2 h'⟩
  · obtain ⟨k, k1, k2, k3, k4⟩ := hβ t u b h hu
    obtain ⟨g1, g2⟩ := hG.box k u b k3 hu
    refine ⟨g1, fun _ => ⟨(g2 k4).1, fun i hi => ?_⟩⟩
    rw [eA] at hi
    rcases hi with hi | hi
    · exact (g2 k4).2 i hi
    · exact hQn t u b h hu hi
  · obtain ⟨k, k1, k2, k3, k4⟩ := hβ t u b h hu
    obtain ⟨k', k1', k2', k3', k4'⟩ := hβ t' u' b h' hu'
    have := hG.boxI k k' u u' b k3 k3' hu hu' k4 k4'
    subst this
    exact injB_ok hi k1 k1' k2 k2'
  · rcases hρ t u K h with rfl | h
    · cases h'
    · obtain ⟨g1, g2, g3, g4⟩ := hG.row t u K g h h'
      refine ⟨g1, g2, fun k v hk _ hv => ?_, fun i hi => ?_⟩
      · obtain ⟨k', k1, k2, k3, k4⟩ := hβ k v g hk hv
        exact g3 k' v k3 k4 hv
      · rw [eA] at hi
        rcases hi with hi | hi
        · exact g4 i hi
        · rw [hQf] at hi
          obtain ⟨k2, u2, f1, f2, f3, f4⟩ := hi
          exact absurd f2 (g3 k2 u2 f1 f3)
  · rcases hρ t u K h with rfl | h
    · cases k
    · rcases hρ t' u' K' h' with rfl | h'
      · cases k'
      · exact hG.rowI t t' u u' K K' g h h' k k'
  · have hc := wkS_get hs t
    have hd := hR.s t
    cases hy : gs σ'.s t with
    | top => trivial
    | v g y =>
      rw [hy] at hc
      cases hz : gs σ.s t with
      | v g' z =>
        rw [hz] at hc hd
        obtain ⟨rfl, hc⟩ := hc
        exact ⟨fun hg => h1 z y _ hc (hd.1 hg), hd.2⟩
      | top => rw [hz] at hc; exact hc.elim
      | tup g' l => rw [hz] at hc; exact hc.elim
    | tup g l =>
      rw [hy] at hc
      cases hz : gs σ.s t <;> (rw [hz] at hc; exact hc.elim)
  · cases hg : gb σ'.b t with
    | none =>
      show G'.β t = none
      rw [eβ, hg]
    | some x =>
      obtain ⟨o', rfl, hw⟩ := wkB_get hb hg
      cases hl : look rn t with
      | none =>
        rw [hl] at hw
        have hl0 : o'.l = [] := hw
        refine ⟨.slice none 0 0, [], hcv.n t (by rw [hg]; rfl) hl, ed t, ?_, ?_, .inr ?_⟩
        · rw [hl0]; exact World.ownsRow_nil _ _ _ _
        · rw [hl0]; exact AL.nil
        · rw [hl0]; exact nofun
      | some k =>
        obtain ⟨o, o'', u, us, e1, e2, e3, g1, g2, g3, g4, g5⟩ := live t k (by rw [hg]; rfl) hl
        obtain rfl : o' = o'' := by rw [hg] at e1; exact Option.some.inj (Option.some.inj e1)
        obtain ⟨f1, f2, f3⟩ := convO_ok hcv e3 g4
        refine ⟨u, us, (hcv.β t k (by rw [hg]; rfl) hl).trans g1, ed t, ?_, f1, g5.imp id f3⟩
        rw [← f2, ← e3.1, ← e3.2.1]
        exact g3
  · rcases wkR_get hr t with h | h | ⟨h, ri, h2, h3⟩
    · rw [h]
      show G'.ρ t = none
      rw [eρ, h]
    · have hd := hR.r t
      rw [h]
      cases hq : gb σ.r t with
      | none =>
        show G'.ρ t = none
        rw [eρ, h, hq]
      | some ri =>
        rw [hq] at hd
        obtain ⟨u, cs, g1, g2, g3⟩ := hd
        exact ⟨u, cs, by rw [hρ2 t (by rw [h, hq]; rfl) (by rw [hq]; simp)]; exact g1, g2, g3⟩
    · rw [h2]
      refine ⟨.slice none 0 0, [], ?_, h3.symm, by rw [h3]; exact World.ownsRow_nil _ _ _ _⟩
      rw [eρ, h2]
      dsimp only
      rw [if_pos h]
  · obtain ⟨h1, h2⟩ := hR.p k u h
    have hk := hR.b k
    cases hg : gb σ.b k with
    | none => rw [hg] at hk; rw [show G.β k = none from hk] at h2; cases h2
    | some x =>
      obtain ⟨k1, k2⟩ := wkP_get hp hg h1
      exact ⟨h1, (hcv.β k k k2 k1).trans h2⟩
/-- Results. -/
def rvS (P : Program) (σ : St) : ResultVar → S1 × Prop
  | .tmp t => opd σ.s true (.tmp t)
  | .cell a t => match opd σ.s true (.tmp a) with
    | (.box k off, p) => match gb σ.b k with
      | some (some o) => ((XW (ag P t) (sz P t) (((o.l[0]?).getD []).drop off)).1, p ∧ un P t = true ∧ 0 < sz P t ∧ 0 < o.l.length ∧ (XW (ag P t) (sz P t) (((o.l[0]?).getD []).drop off)).2)
      | _ => (.k undef, False)
    | _ => (.k undef, False)
def toR (σ : St) (x : S1) : R1 → Prop
  | .c d => (dem σ.b x).1 = .c d ∧ (dem σ.b x).2
  | .agg l => (dem σ.b x).1 = .agg l ∧ (dem σ.b x).2
  | .ptr cs => (dem σ.b x).1 = .ptr cs ∧ (dem σ.b x).2
  | .k v => x = .k v
  | .own e K l => match x with
    | .own t K' l' => K' = K ∧ l' = l ∧ gb σ.r t = some ⟨e, K, l'.length⟩
    | .nil => [] = l
    | _ => False
  | .mu e K l => match x with
    | .c (.lk k n) => match gb σ.b k with
      | some (some o) => o.e = e ∧ o.K = K ∧ o.l.take n = l ∧ n ≤ o.l.length ∧ lfL l
      | _ => False
    | .nil => [] = l
    | .c .nl => [] = l
    | _ => False
def noMu : R1 → Prop
  | .mu _ _ _ => False
  | _ => True
def resL (P : Program) (σ : St) : List ResultVar → List R1 → Prop
  | [], [] => True
  | rv :: rs, x :: l => ((rvS P σ rv).2 ∧ toR σ (rvS P σ rv).1 x ∧ noMu x) ∧ resL P σ rs l
  | _, _ => False
def resOk (P : Program) (σ : St) (rs : List ResultVar) : CR → Prop
  | .one (.mu e K l) => match rs with
    | [rv] => (rvS P σ rv).2 ∧ toR σ (rvS P σ rv).1 (.mu e K l)
    | _ => False
  | .one x => resL P σ rs [x]
  | .tup l => l.length ≠ 1 ∧ resL P σ rs l
def XB : Nat → List S1 → List (Nat × SV)
  | _, [] => []
  | i, x :: l => (i, .v true x) :: XB (i + 1) l
theorem argsS_get {A : Gh} {w : World} : ∀ {args : List S1} {vs : List Value} {i : Nat}, D1L A w args vs → ∀ t, (∀ j, t = i + j → Hs A w (gs (XB i args) t) ((vs[j]?).getD undef)) ∧ (t < i → gs (XB i args) t = .top)
  | [], vs, i, h, t => ⟨fun j _ => trivial, fun _ => rfl⟩
  | x :: args, vs, i, h, t => by
    cases vs with
    | nil => have := h.1; simp at this
    | cons v vs =>
      have ih := argsS_get (args := args) (vs := vs) (i := i + 1) ⟨by simpa using h.1, fun j y u h1 h2 => h.2 (j + 1) y u (by simpa using h1) (by simpa using h2)⟩ t
      refine ⟨fun j hj => ?_, fun ht => ?_⟩
      · cases j with
        | zero =>
          obtain rfl : t = i := by omega
          show Hs A w (if t = t then .v true x else gs (XB (t + 1) args) t) v
          rw [if_pos rfl]
          exact ⟨fun _ => h.2 0 x v rfl rfl, fun h => by cases h⟩
        | succ j =>
          show Hs A w (if i = t then .v true x else gs (XB (i + 1) args) t) _
          rw [if_neg (by omega)]
          have := ih.1 j (by omega)
          simpa using this
      · show (if i = t then SV.v true x else gs (XB (i + 1) args) t) = _
        rw [if_neg (by omega)]
        exact ih.2 (by omega)
def retD (P : Program) (rs : List ResultVar) (res : CR) : Exit → St → Prop
  | .ret, σ => resOk P σ rs res
  | .normal, σ => resOk P σ rs res
  | _, _ => False
/-- New blocks. -/
def newB (w0 W : World) : Nat → Prop := fun b => w0.heap.size ≤ b ∧ b < W.heap.size
section
variable {w0 : World} {A0 : Pr} {G : Gh} {W : World} {df : Fx} {a : Act}
/-- Every object is new. -/
theorem obj_new (hG : GOK (fun b => w0.heap.size ≤ b) A0 G W) (hb : ∀ k, Hb G W k (gb σ.b k)) {k : Nat} (hk : ∃ o, gb σ.b k = some (some o)) {u : Value} {b : Nat} (hu : G.β k = some u) (hbu : blk u = some b) : newB w0 W b := by
  obtain ⟨o, ho⟩ := hk
  have h := hb k
  rw [ho] at h
  obtain ⟨u', us, h1, h2, -⟩ := h
  obtain ⟨g1, g2⟩ := hG.box k u b hu hbu
  exact ⟨(g2 h2).1, g1⟩
/-- An object that is looked at is there. -/
theorem refD_live {d : D} {k : Nat} (ho : (QP σ.b d).2) (hk : k ∈ Q2 d) : ∃ o, gb σ.b k = some (some o) := by
  cases d with
  | lk k' n =>
    obtain rfl : k = k' := by simpa [Q2] using hk
    unfold QP at ho
    dsimp only at ho
    cases hg : gb σ.b k with
    | none => rw [hg] at ho; exact ho.elim
    | some o =>
      cases o with
      | none => rw [hg] at ho; exact ho.elim
      | some o => exact ⟨o, rfl⟩
  | _ => simp [Q2] at hk
theorem refDs_live : ∀ {ds : List D} {k : Nat}, (QR σ.b ds).2 → k ∈ Q3 ds → ∃ o, gb σ.b k = some (some o)
  | [], _, _, h => by simp [Q3] at h
  | d :: ds, k, ho, h => by
    rcases List.mem_append.1 h with h | h
    · exact refD_live ho.1 h
    · exact refDs_live ho.2 h
theorem refB_live {k' i j : Nat} {q : Option Nat} {k : Nat} (ho : (QS σ.b k' i j q).2) (hk : k ∈ Q4 σ.b k' i j) : ∃ o, gb σ.b k = some (some o) := by
  unfold QS at ho
  unfold Q4 at hk
  cases hg : gb σ.b k' with
  | none => rw [hg] at ho; exact ho.elim
  | some o =>
    cases o with
    | none => rw [hg] at ho; exact ho.elim
    | some o =>
      rw [hg] at ho hk
      rcases List.mem_cons.1 hk with rfl | hk
      · exact ⟨o, hg⟩
      · exact refDs_live ho.1 hk
theorem refCs_live : ∀ {ps : List Cp} {k : Nat}, (QU σ.b ps).2 → k ∈ Q6 σ.b ps → ∃ o, gb σ.b k = some (some o)
  | [], _, _, h => by simp [Q6] at h
  | p :: ps, k, ho, h => by
    rcases List.mem_append.1 h with h | h
    · cases p with
      | c d => exact refD_live ho.1 h
      | box k' j => exact refB_live ho.1 h
      | ptr cs => simp [Q5] at h
    · exact refCs_live ho.2 h
theorem refS_live {x : S1} {k : Nat} (ho : (dem σ.b x).2) (hk : k ∈ QZ σ.b x) : ∃ o, gb σ.b k = some (some o) := by
  cases x with
  | c d => exact refD_live ho hk
  | agg l => exact refDs_live ho hk
  | box k' j => exact refB_live ho hk
  | xp k' K i j => exact refB_live ho hk
  | fn f ps => exact refCs_live ho hk
  | _ => simp [QZ] at hk
/-- New blocks that no row which may grow lies in. -/
def freeB (w0 : World) (G : Gh) (W : World) : Nat → Prop := fun b => newB w0 W b ∧ ∀ t u K, G.ρ t = some (u, K) → u.ownBlock ≠ some b
theorem obj_free (hG : GOK (fun b => w0.heap.size ≤ b) A0 G W) (hb : ∀ k, Hb G W k (gb σ.b k)) {k : Nat} (hk : ∃ o, gb σ.b k = some (some o)) {u : Value} {b : Nat} (hu : G.β k = some u) (hbu : blk u = some b) : freeB w0 G W b := by
  refine ⟨obj_new hG hb hk hu hbu, fun t u' K h h' => ?_⟩
  obtain ⟨o, ho⟩ := hk
  have hk' := hb k
  rw [ho] at hk'
  obtain ⟨u2, us, h1, h2, -⟩ := hk'
  exact (hG.row t u' K b h h').2.2.1 k u hu h2 hbu
def resA (A0 : Pr) (w0 : World) (G : Gh) (W : World) : Pr := fun b i => A0 b i ∨ more G.A (freeB w0 G W) b i
theorem toR_ok {x : S1} {r : R1} {v : Value} (hG : GOK (fun b => w0.heap.size ≤ b) A0 G W) (hA : ∀ b i, A0 b i → b < w0.heap.size) (hb : ∀ k, Hb G W k (gb σ.b k)) (hr : ∀ t, Hr G W t (gb σ.r t)) (h : toR σ x r) (hn : noMu r) (hd : D1 G W x v) : RD (resA A0 w0 G W) w0.heap.size W r v := by
  have up : ∀ {d : D} {u : Value}, Den (more G.A (freeB w0 G W)) W d u → Den (resA A0 w0 G W) W d u := fun h => Den.mono h (fun b i h => .inr h) (Kp.refl _ _)
  have hQ : (dem σ.b x).2 → ∀ k ∈ QZ σ.b x, ∀ u b, G.β k = some u → blk u = some b → freeB w0 G W b := fun ho k hk u b hu hbu => obj_free hG hb (refS_live ho hk) hu hbu
  have nolk : ∀ {d : D} {u : Value}, DenX (gh (more G.A (freeB w0 G W))) W d u → Den (more G.A (freeB w0 G W)) W d u := fun {d u} h => by
    cases d with
    | lk k n => obtain ⟨_, _, _, h3, -⟩ := h; cases h3
    | fb f ks =>
      obtain ⟨h0, us, -, h2⟩ := h
      cases ks with
      | nil => exact absurd rfl h0
      | cons k ks =>
        cases hu : us.toList with
        | nil => rw [hu] at h2; have := h2.1; simp at this
        | cons u us' => rw [hu] at h2; obtain ⟨b, h3, -⟩ := h2.2 0 k u rfl rfl; cases h3
    | _ => exact h
  cases r with
  | c d =>
    have := dem_ok (Q := freeB w0 G W) hd (fun k _ => hb k) (hQ h.2) h.2
    rw [h.1] at this
    exact up (nolk this)
  | agg l =>
    have := dem_ok (Q := freeB w0 G W) hd (fun k _ => hb k) (hQ h.2) h.2
    rw [h.1] at this
    obtain ⟨us, h1, h2⟩ := this
    exact ⟨us, h1, h2.1, fun j d u k1 k2 => up (nolk (h2.2 j d u k1 k2))⟩
  | ptr cs =>
    have := dem_ok (Q := freeB w0 G W) hd (fun k _ => hb k) (hQ h.2) h.2
    rw [h.1] at this
    obtain ⟨b, o, h1, h2⟩ := this
    exact ⟨b, o, h1, h2.mono (fun b i h => .inr h) (Kp.refl _ _)⟩
  | k u => obtain rfl := h; exact hd
  | mu e K l => exact hn.elim
  | own e K l =>
    cases x with
    | own t K' l' =>
      obtain ⟨rfl, rfl, hq⟩ := h
      obtain ⟨g1, g2, u, g3, g4, g5⟩ := hd
      have hrt := hr t
      rw [hq] at hrt
      obtain ⟨u', cs, f1, f2, f3⟩ := hrt
      obtain ⟨rfl, -⟩ := Prod.mk.inj (Option.some.inj (g3.symm.trans f1))
      obtain ⟨ad, c, hv⟩ := den_len g1
      have hvu : v = u := g5 (by rw [f2, hv]; rfl)
      refine ⟨Den.mono g1 (fun b i h => .inr (.inl h)) (Kp.refl _ _), g2, ⟨cs, ?_⟩, fun g hg i hi => ?_⟩
      · rw [hvu]
        have f3 : W.ownsRow 0 e K' u l'.length cs := f3
        refine ⟨f3.1, ?_⟩
        rcases f3.2 with h | ⟨g, cap, cur, h1, h2, h3⟩
        · exact .inl h
        · exact .inr ⟨g, cap, cur, h1, (hG.row t u K' g f1 (by rw [h1]; rfl)).1, h3⟩
      · rw [hvu] at hg
        obtain ⟨k1, k2, k3, k4⟩ := hG.row t u K' g f1 hg
        rcases hi with hi | hi | hi
        · have := hA g i hi
          have k1 : w0.heap.size ≤ g := k1
          omega
        · have := k4 i hi
          rwa [f2] at this
        · exact absurd hg (hi.2 t u K' f1)
    | nil =>
      obtain rfl := h
      obtain rfl := hd
      exact ⟨.nil _ _, nofun, ⟨[], World.ownsRow_nil _ _ _ _⟩, fun g hg => by cases hg⟩
    | _ => exact h.elim
theorem one_res (hR : RR (fun b => w0.heap.size ≤ b) A0 w0 N df G σ a W) {rv : ResultVar} (h1 : (rvS P σ rv).2) : ∃ v, (match rv with
        | ResultVar.tmp t => (pure (a.tmps.getD t undef) : Sem Value)
        | ResultVar.cell ad t => do loadVar t (← asAddr (a.tmps.getD ad undef))).run P W = .ok v W ∧ D1 G W (rvS P σ rv).1 v := by
  cases rv with
  | tmp t => exact ⟨a.eval (.tmp t), rfl, opd_ok (g := true) (x := .tmp t) rfl (hR.s t) h1⟩
  | cell ad t =>
    have d1 := opd_ok (g := true) (x := .tmp ad) (a := a) rfl (hR.s ad)
    unfold rvS at h1 ⊢
    dsimp only at h1 ⊢
    split at h1
    · next k off p e1 =>
      rw [e1] at d1
      split at h1
      · next o hcs =>
        obtain ⟨hp, hu, hs, hi, hout⟩ := h1
        have hbk := hR.b k
        rw [hcs] at hbk
        have hcs' : o.l[0]? = some o.l[0] := List.getElem?_eq_getElem hi
        obtain ⟨u, us, b, K, g1, g2, g3, g4, g5, he, g6, -⟩ := place_ok (x := .box k off) (k := k) (i := 0) (j := off) (q := none) (d1 hp) rfl hbk trivial hcs'
        have hseg := flatten_seg g6 hcs'
        have hd : DenXL G W ((o.l[0]?).getD []) ((us.drop (0 * K)).take K) := by
          rw [hcs']
          have := AL.take (AL.drop g4 (0 * K)) K
          rw [hseg] at this
          exact this
        obtain ⟨v, hv, hd2⟩ := run_loadv (P := P) (W := W) (b := b) (off := 0 * K + off) hu hs (AL.drop hd off) (fun j' u hj => by
          rw [List.getElem?_drop, List.getElem?_take] at hj
          split at hj
          · rw [List.getElem?_drop] at hj
            rw [Nat.add_assoc]
            exact g3.cell g5 hj
          · cases hj) hout
        refine ⟨v, ?_, hd2⟩
        have he' : a.tmps.getD ad undef = .pointer (some ⟨b, 0 * K + off, none⟩) := he
        simp only [he', asAddr]
        simpa [Instr.loadAt, Instr.sureAddr] using hv
      · exact h1.elim
    · exact h1.elim
theorem resL_ok (hR : RR (fun b => w0.heap.size ≤ b) A0 w0 N df G σ a W) (hA : ∀ b i, A0 b i → b < w0.heap.size) :
    ∀ {rs : List ResultVar} {l : List R1}, resL P σ rs l → ∃ us : List Value, (rs.mapM fun
        | ResultVar.tmp t => (pure (a.tmps.getD t undef) : Sem Value)
        | ResultVar.cell ad t => do loadVar t (← asAddr (a.tmps.getD ad undef))).run P W = .ok us W ∧ l.length = us.length ∧ ∀ (j : Nat) x u, l[j]? = some x → us[j]? = some u → RD (resA A0 w0 G W) w0.heap.size W x u
  | [], [], _ => ⟨[], by simp, rfl, fun j x u h => by simp at h⟩
  | rv :: rs, x :: l, h => by
    obtain ⟨⟨h1, h2, hnm⟩, h3⟩ := h
    obtain ⟨us, k1, k2, k3⟩ := resL_ok hR hA h3
    obtain ⟨v, hv, hd⟩ := one_res hR h1
    refine ⟨v :: us, ?_, by simp [k2], fun j y u h4 h5 => ?_⟩
    · rw [List.mapM_cons]
      simp only [Sem.run_bind, hv, k1, Result.andThen_ok, Sem.run_pure]
    · cases j with
      | zero =>
        obtain rfl : x = y := by simpa using h4
        obtain rfl : v = u := by simpa using h5
        exact toR_ok hR.ok hA hR.b hR.r h2 hnm hd
      | succ j => exact k3 j y u (by simpa using h4) (by simpa using h5)
  | [], _ :: _, h => h.elim
  | _ :: _, [], h => h.elim
/-- A row of the call's own is handed on. -/
theorem mu_ok (hR : RR (fun b => w0.heap.size ≤ b) A0 w0 N df G σ a W) (hA : ∀ b i, A0 b i → b < w0.heap.size) {x : S1} {e : TypeId} {K : Nat} {l : List (List D)} {v : Value} (h : toR σ x (.mu e K l)) (hd : D1 G W x v) : RD (fun b i => A0 b i ∨ G.A b i) w0.heap.size W (.mu e K l) v := by
  have nl : v = .slice none 0 0 → l = [] → RD (fun b i => A0 b i ∨ G.A b i) w0.heap.size W (.mu e K l) v := fun h1 h2 => by
    subst h1 h2
    exact ⟨nofun, ⟨[], World.ownsRow_nil _ _ _ _, AL.nil⟩, fun g hg => by cases hg⟩
  unfold toR at h
  dsimp only at h
  split at h
  · next k n =>
    split at h
    · next o ho =>
      obtain ⟨rfl, rfl, rfl, hn, hlf⟩ := h
      have hk := hR.b k
      rw [ho] at hk
      obtain ⟨u, us, h1, h2, h3, h4, h5⟩ := hk
      obtain ⟨ad, N', c, g1, g2, g3, g4, rfl⟩ := hd
      obtain rfl := Option.some.inj (h1.symm.trans g1)
      have h3 : W.ownsRow 0 o.e o.K (.slice ad N' c) o.l.length us := h3
      obtain ⟨a', c', e, -, -⟩ := own_form h3
      obtain ⟨-, hN, -⟩ := Value.slice.inj e
      subst hN
      have hcut := own_cut h3 hn
      have hlen : (o.l.take n).length = n := by rw [List.length_take]; omega
      have h5' : ∀ cs ∈ o.l, cs.length = o.K := by
        rcases h5 with ⟨b, e⟩ | h5
        · cases e
        · exact h5
      have hK' : ∀ cs ∈ o.l.take n, cs.length = o.K := fun cs hc => h5' cs (List.mem_of_mem_take hc)
      have hfl : (o.l.take n).flatten = o.l.flatten.take (n * o.K) := by
        have h6 : o.l.flatten = (o.l.take n).flatten ++ (o.l.drop n).flatten := by rw [← List.flatten_append, List.take_append_drop]
        rw [h6, List.take_left' (by rw [flatten_length hK', hlen])]
      have hlfs : lfs (o.l.take n).flatten = true := by
        have : ∀ l : List (List D), lfL l → lfs l.flatten = true := fun l => by
          induction l with
          | nil => intro _; rfl
          | cons x l ih => intro h; rw [List.flatten_cons]; exact lfs_app (h x List.mem_cons_self) (ih fun c hc => h c (List.mem_cons_of_mem _ hc))
        exact this _ hlf
      have hbg : ∀ g, (Value.slice ad n c).ownBlock = some g → w0.heap.size ≤ g ∧ ∀ i, ¬ G.A g i := fun g hg => by
        have hg' : blk (.slice ad o.l.length c) = some g := by cases ad <;> exact hg
        exact (hR.ok.box k _ g h1 hg').2 h2
      refine ⟨hK', ⟨us.take (n * o.K), ?_, ?_⟩, fun g hg i hi => ?_⟩
      · rw [hlen]
        refine ⟨hcut.1, ?_⟩
        rcases hcut.2 with h | ⟨g, cap, cur, q1, q2, q3⟩
        · exact .inl h
        · exact .inr ⟨g, cap, cur, q1, (hbg g (by rw [q1]; rfl)).1, q3⟩
      · have h7 := AL.take h4 (n * o.K)
        rw [← hfl] at h7
        exact DenL.mono (DenXL.den h7 hlfs) (fun b i h => .inr h) (Kp.refl _ _)
      · rcases hi with hi | hi
        · have := hA g i hi; have := (hbg g hg).1; omega
        · exact (hbg g hg).2 i hi
    · exact h.elim
  · exact nl hd h.symm
  · exact nl (D1_nl hd) h.symm
  · exact h.elim
end
/-- A function's contract, from its body. -/
theorem cal_of {f : FuncId} {fn : Func} {c : Code} {args : List S1} {res : CR} (hΓ : Snd P Γ) (hm : P.follows .mixedOrders = true) (hf : P.funcs[f]? = some fn) (hb : fn.body = some c) (hN : fn.ntmps = N) (hn : args.length ≤ N) (h : DW P Γ N c (retD P fn.results.toList res) ⟨XB 0 args, [], []⟩) : Cal P f args res := by
  intro A w vs hA hd
  have hl := hd.1
  refine calls_of_wp hf hb ?_
  have hR : RR (fun b => w.heap.size ≤ b) A w N ⟨[], fun _ => none⟩ (gh A) ⟨XB 0 args, [], []⟩ { tmps := vs.toArray ++ Array.replicate (fn.ntmps - vs.toArray.size) undef, defers := [] } w := by
    refine ⟨⟨fun b h => h, fun b i h => ⟨hA b i h, fun _ => h⟩, fun k u b h => (by cases h), fun k k' u u' b h => (by cases h), fun t u K g h => (by cases h), fun t t' u u' K K' g h => (by cases h)⟩, Chg.refl _ w, ?_, rfl, fun t => ?_, fun k => rfl, fun t => rfl, nofun⟩
    · simp
      omega
    · have h1 := (argsS_get (i := 0) hd t).1 t (by omega)
      have h2 : V { tmps := vs.toArray ++ Array.replicate (fn.ntmps - vs.toArray.size) undef, defers := [] } t = (vs[t]?).getD undef := by
        unfold V
        dsimp only
        by_cases ht : t < vs.length
        · rw [Array.getElem?_append_left (by simpa using ht)]
          simp
        · rw [Array.getElem?_append_right (by simpa using ht), List.getElem?_eq_none (by omega)]
          simp only [Array.getElem?_replicate]
          split <;> rfl
      show Hs (gh A) w (gs (XB 0 args) t) _
      rw [h2]
      exact h1
  refine wp_mono (h hΓ hm _ A w _ _ _ w hR) (fun e a W ⟨σ', G', k1, k2⟩ => ?_)
  have fin : resOk P σ' fn.results.toList res → bodyPost P fn (fun e w' => ∃ v A', e = .returned v ∧ Ext w w' ∧ (∀ b i, A b i → A' b i) ∧ (∀ b i, A' b i → b < w'.heap.size ∧ (b < w.heap.size → A b i)) ∧ RDs A' w.heap.size w' res v) .ret a W := by
    intro hres
    have hlow : ∀ b i, A b i → b < W.heap.size ∧ (b < w.heap.size → A b i) := fun b i h => ⟨Nat.lt_of_lt_of_le (hA b i h) k2.ext.size, fun _ => h⟩
    have hmid : ∀ b i, G'.A b i → b < W.heap.size ∧ (b < w.heap.size → A b i) := fun b i h => ⟨(k2.ok.lt b i h).1, fun hb => (k2.ok.lt b i h).2 (by omega)⟩
    have hA' : ∀ b i, resA A w G' W b i → b < W.heap.size ∧ (b < w.heap.size → A b i) := fun b i h => by
      rcases h with h | h | h
      · exact hlow b i h
      · exact hmid b i h
      · exact ⟨h.1.2, fun hb => by have := h.1.1; omega⟩
    have hA'' : ∀ b i, (A b i ∨ G'.A b i) → b < W.heap.size ∧ (b < w.heap.size → A b i) := fun b i h => h.elim (hlow b i) (hmid b i)
    have hext : Ext w W := k2.ext.toExt
    have run : ∀ us : List Value, (fn.results.toList.mapM fun
        | ResultVar.tmp t => (pure (a.tmps.getD t undef) : Sem Value)
        | ResultVar.cell ad t => do loadVar t (← asAddr (a.tmps.getD ad undef))).run P W = .ok us W → (results fn a.tmps).run P W = .ok (if h : us.toArray.size = 1 then us.toArray[0] else .tuple us.toArray) W := fun us hus => by
      unfold results
      rw [Array.mapM_eq_mapM_toList]
      simp only [Sem.run_bind, Sem.run_pure, map_eq_pure_bind]
      have hus' := hus
      erw [hus']
      rfl
    unfold resOk at hres
    split at hres
    · next e K l =>
      split at hres
      · next rv hrs =>
        obtain ⟨v, hv, hd⟩ := one_res k2 hres.1
        have hrun : (fn.results.toList.mapM fun
            | ResultVar.tmp t => (pure (a.tmps.getD t undef) : Sem Value)
            | ResultVar.cell ad t => do loadVar t (← asAddr (a.tmps.getD ad undef))).run P W = .ok [v] W := by
          rw [hrs, List.mapM_cons]
          simp only [Sem.run_bind, hv, List.mapM_nil, Result.andThen_ok, Sem.run_pure]
        exact bodyPost_ret (run _ hrun) k2.df ⟨_, _, rfl, hext, fun b i h => .inl h, hA'', mu_ok k2 hA hres.2 hd⟩
      · exact hres.elim
    · next x hnm =>
      obtain ⟨us, e1, e2, e3⟩ := resL_ok k2 hA hres
      obtain ⟨u, rfl⟩ : ∃ u, us = [u] := by
        match us, e2 with
        | [u], _ => exact ⟨u, rfl⟩
      exact bodyPost_ret (run _ e1) k2.df ⟨_, _, rfl, hext, fun b i h => .inl h, hA', e3 0 _ u rfl rfl⟩
    · next l =>
      obtain ⟨us, e1, e2, e3⟩ := resL_ok k2 hA hres.2
      have hne : ¬ us.toArray.size = 1 := by
        have := hres.1
        simp
        omega
      have hrun := run _ e1
      rw [dif_neg hne] at hrun
      exact bodyPost_ret hrun k2.df ⟨_, _, rfl, hext, fun b i h => .inl h, hA', us.toArray, rfl, by simpa using e2, fun j x u h4 h5 => e3 j x u h4 (by simpa using h5)⟩
  cases e with
  | ret => exact fin k1
  | normal => exact fin k1
  | _ => exact k1.elim
end
end Go.Proofs.Ytkmgdejpdhlleaa.Dq
