/- Deep values: code; a function's contract. No program in sight. -/
import Derived.Test.YtlhmifkimnmnmaaDp9
namespace Go.Proofs.Ytlhmifkimnmnmaa.Dp
set_option linter.unusedSimpArgs false
set_option linter.unusedVariables false
open Go.RowKit

/-- Code, told of deep values only. -/
def DW (P : Program) (Γ : Cts) (N : Nat) (c : Code) (Q : Exit → St → Prop) (σ : St) : Prop :=
  Snd P Γ → P.follows .mixedOrders = true → ∀ A0 w0 df G a W, RR w0.heap.size A0 w0 N df G σ a W → c.wp P (fun e a W => ∃ σ' G', Q e σ' ∧ RR w0.heap.size A0 w0 N df G' σ' a W) a W
def thenD (K : St → Prop) (Q : Exit → St → Prop) : Exit → St → Prop
  | .normal, σ => K σ
  | e, σ => Q e σ
def blockD (id : Nat) (Q : Exit → St → Prop) : Exit → St → Prop
  | .exit id', σ => if id' = id then Q .normal σ else Q (.exit id') σ
  | e, σ => Q e σ
/-- What may be forgotten. -/
def Wk (σ σ' : St) : Prop := ∀ base A0 w0 N df G a W, RR base A0 w0 N df G σ a W → ∃ G', RR base A0 w0 N df G' σ' a W
section
variable {P : Program} {Γ : Cts} {N : Nat} {Q : Exit → St → Prop} {σ σ' : St}
theorem DW.mono {c : Code} {Q' : Exit → St → Prop} (h : DW P Γ N c Q σ) (hq : ∀ e σ, Q e σ → Q' e σ) : DW P Γ N c Q' σ :=
  fun h1 h2 A0 w0 df G a W hR => wp_mono (h h1 h2 A0 w0 df G a W hR) (fun e a W ⟨σ', G', k1, k2⟩ => ⟨σ', G', hq _ _ k1, k2⟩)
theorem DW.weak {c : Code} (hw : Wk σ σ') (h : DW P Γ N c Q σ') : DW P Γ N c Q σ := fun h1 h2 A0 w0 df G a W hR => by
  obtain ⟨G', hR'⟩ := hw _ _ _ _ _ _ _ _ hR
  exact h h1 h2 A0 w0 df G' a W hR'
theorem DW.skip (h : Q .normal σ) : DW P Γ N .skip Q σ := fun _ _ A0 w0 df G a W hR => wp_skip ⟨σ, G, h, hR⟩
theorem DW.exit {id : Nat} (h : Q (.exit id) σ) : DW P Γ N (.exit id) Q σ := fun _ _ A0 w0 df G a W hR => wp_exit ⟨σ, G, h, hR⟩
theorem DW.ret (h : Q .ret σ) : DW P Γ N .ret Q σ := fun _ _ A0 w0 df G a W hR => wp_ret ⟨σ, G, h, hR⟩
theorem DW.seq {x y : Code} (h : DW P Γ N x (thenD (DW P Γ N y Q) Q) σ) : DW P Γ N (.seq x y) Q σ := fun h1 h2 A0 w0 df G a W hR => by
  refine wp_seq (wp_mono (h h1 h2 A0 w0 df G a W hR) (fun e a W ⟨σ', G', k1, k2⟩ => ?_))
  cases e with
  | normal => exact k1 h1 h2 A0 w0 df G' a W k2
  | _ => exact ⟨σ', G', k1, k2⟩
theorem DW.block {id : Nat} {c : Code} (h : DW P Γ N c (blockD id Q) σ) : DW P Γ N (.block id c) Q σ := fun h1 h2 A0 w0 df G a W hR => by
  refine wp_block (wp_mono (h h1 h2 A0 w0 df G a W hR) (fun e a W ⟨σ', G', k1, k2⟩ => ?_))
  cases e with
  | exit id' =>
    unfold Exit.inBlock
    unfold blockD at k1
    dsimp only at k1 ⊢
    split
    · next hid => rw [if_pos hid] at k1; exact ⟨σ', G', k1, k2⟩
    · next hid => rw [if_neg hid] at k1; exact ⟨σ', G', k1, k2⟩
  | _ => exact ⟨σ', G', k1, k2⟩
theorem DW.cond {c : Operand} {x y : Code} {b : Bool} {p : Prop} (hc : opd σ.s true c = (.c (.bool b), p)) (hp : p) (ht : b = true → DW P Γ N x Q σ) (hf : b = false → DW P Γ N y Q σ) : DW P Γ N (.cond c x y) Q σ := fun h1 h2 A0 w0 df G a W hR => by
  have hok : Okd G W σ.s a c := by
    cases c with
    | tmp t => exact hR.s t
    | _ => trivial
  have d1 := opd_ok (g := true) rfl hok
  rw [hc] at d1
  have hv : a.eval c = .bool b := D1_bool (d1 hp)
  refine wp_cond hv ?_
  cases b
  · exact hf rfl h1 h2 A0 w0 df G a W hR
  · exact ht rfl h1 h2 A0 w0 df G a W hR
theorem DW.region {id : Nat} {ops : Array Oper} (hfit : fits ops N = true) (h : wpR P Γ ops ops.toList σ (Q .normal)) : DW P Γ N (.region id ops false) Q σ := fun h1 _ A0 w0 df G a W hR =>
  wp_region_list (seq_ok (Q := fun e a W => ∃ σ' G', Q e σ' ∧ RR w0.heap.size A0 w0 N df G' σ' a W) h1 rfl hfit (fun σ' G' a' W' k1 k2 => ⟨σ', G', k1, k2⟩) ops.toList σ G a W (fun _ h => h) h hR)
theorem DW.drawn {id : Nat} {ops : Array Oper} (hfit : fits ops N = true) (hac : acyc .any ops = true) (h : wpD P Γ ops ops.toList σ [] (Q .normal)) : DW P Γ N (.region id ops true) Q σ := fun h1 h2 A0 w0 df G a W hR =>
  drawn_ok h1 rfl hfit h2 hac h hR (fun σ' G' a' W' k1 k2 => ⟨σ', G', k1, k2⟩)
/-- A loop: what holds at its head, by a letter. -/
theorem DW.loop {α : Type} {c : Code} (st : α → St) (I : α → Prop) (μ : α → Nat) (x0 : α) (h0 : I x0) (hw : Wk σ (st x0)) (round : ∀ x, I x → DW P Γ N c (thenD (fun σ' => ∃ x', (I x' ∧ μ x' < μ x) ∧ Wk σ' (st x')) Q) (st x)) : DW P Γ N (.loop c) Q σ := fun h1 h2 A0 w0 df G a W hR => by
  obtain ⟨G0, hR0⟩ := hw _ _ _ _ _ _ _ _ hR
  have key : ∀ n x G a W, μ x = n → I x → RR w0.heap.size A0 w0 N df G (st x) a W → ∀ b k cs, ∃ e a' w', (∃ σ' G', Q e σ' ∧ RR w0.heap.size A0 w0 N df G' σ' a' w') ∧ Arrives P (lone (b.at a (.code c :: .inLoop c :: k)) cs W) b k cs e a' w' := by
    intro n
    induction n using Nat.strongRecOn with
    | _ n ih =>
      intro x G a W hn hI hRx b k cs
      obtain ⟨e, a₁, w₁, hq, harr⟩ := round x hI h1 h2 A0 w0 df G a W hRx b (.inLoop c :: k) cs
      obtain ⟨σ', G', k1, k2⟩ := hq
      cases e with
      | normal =>
        obtain ⟨x', ⟨hI', hlt⟩, hwk⟩ := k1
        obtain ⟨G'', hR''⟩ := hwk _ _ _ _ _ _ _ _ k2
        obtain ⟨e₂, a₂, w₂, hq₂, harr₂⟩ := ih (μ x') (hn ▸ hlt) x' G'' a₁ w₁ rfl hI' hR'' b k cs
        exact ⟨e₂, a₂, w₂, hq₂, .of_steps (Steps.trans harr (.one step_inLoop)) harr₂⟩
      | exit id => exact ⟨_, a₁, w₁, ⟨σ', G', k1, k2⟩, .pass (x := .inLoop c) rfl (fun _ _ => .inl (by simp)) harr⟩
      | goto l => exact ⟨_, a₁, w₁, ⟨σ', G', k1, k2⟩, .pass (x := .inLoop c) rfl (fun _ _ => .inl (by simp)) harr⟩
      | ret => exact ⟨_, a₁, w₁, ⟨σ', G', k1, k2⟩, .pass (x := .inLoop c) rfl (fun _ _ => .inl (by simp)) harr⟩
      | panic ch => exact ⟨_, a₁, w₁, ⟨σ', G', k1, k2⟩, .pass (x := .inLoop c) rfl (fun _ _ => .inl (by simp)) harr⟩
      | outgrown => exact ⟨_, a₁, w₁, ⟨σ', G', k1, k2⟩, .pass (x := .inLoop c) rfl (fun _ _ => .inl (by simp)) harr⟩
  intro b k cs
  obtain ⟨e, a', w', hq, harr⟩ := key _ x0 G0 a W rfl h0 hR0 b k cs
  exact ⟨e, a', w', hq, .of_steps (.one step_loop) harr⟩
/-- Is a slot's word weaker than another? -/
def convS (σ σ' : St) : S1 → S1 → Prop
  | .own tg' K' l', .own tg K l => tg' = tg ∧ K' = K ∧ l' = l ∧ gb σ'.r tg = gb σ.r tg ∧ (gb σ'.r tg).isSome = true
  | .nil, .own tg K l => [] = l ∧ gb σ.r tg = none ∧ (gb σ'.r tg).map (fun ri => (ri.K, ri.n)) = some (K, 0)
  | .box k' off', .box k off => k' = k ∧ off' = off ∧ (gb σ'.b k).isSome = true
  | .c d', .c d => d' = d
  | .own _ _ l', .c d => D.sl l' = d
  | .nil, .c d => D.sl [] = d
  | .agg l', .agg l => l' = l
  | .ptr l', .ptr l => l' = l
  | .nil, .nil => True
  | .k v', .k v => v' = v
  | _, _ => False
def convV (σ σ' : St) : SV → SV → Prop
  | _, .top => True
  | .v g' z, .v g y => g' = g ∧ convS σ σ' z y
  | _, _ => False
def wkS (σ σ' : St) : List (Nat × SV) → Prop
  | [] => True
  | (t, y) :: l => convV σ σ' (gs σ.s t) y ∧ wkS σ σ' l
def wkB (σ : St) : List (Nat × List D) → Prop
  | [] => True
  | (k, cs) :: l => gb σ.b k = some cs ∧ wkB σ l
def wkR (σ : St) : List (Nat × RowI) → Prop
  | [] => True
  | (t, ri) :: l => (gb σ.r t = some ri ∨ (gb σ.r t = none ∧ ri.n = 0)) ∧ wkR σ l
theorem wkS_get {l : List (Nat × SV)} (h : wkS σ σ' l) (t : Nat) : convV σ σ' (gs σ.s t) (gs l t) := by
  induction l with
  | nil => trivial
  | cons x l ih =>
    obtain ⟨k, y⟩ := x
    unfold gs
    by_cases hk : k = t
    · subst hk
      rw [if_pos rfl]
      have := h.1
      cases hs : σ.s <;> (rw [hs] at this; exact this)
    · rw [if_neg hk]
      have := ih h.2
      cases hs : σ.s <;> (rw [hs] at this; exact this)
theorem wkB_get {l : List (Nat × List D)} (h : wkB σ l) (k : Nat) : gb l k = none ∨ gb l k = gb σ.b k := by
  induction l with
  | nil => exact .inl rfl
  | cons x l ih =>
    obtain ⟨k', y⟩ := x
    unfold gb
    by_cases hk : k' = k
    · subst hk
      rw [if_pos rfl]
      have := h.1
      cases hs : σ.b <;> (rw [hs] at this; exact .inr this.symm)
    · rw [if_neg hk]
      have := ih h.2
      cases hs : σ.b <;> (rw [hs] at this; exact this)
theorem wkR_get {l : List (Nat × RowI)} (h : wkR σ l) (t : Nat) : gb l t = none ∨ gb l t = gb σ.r t ∨ (gb σ.r t = none ∧ ∃ ri, gb l t = some ri ∧ ri.n = 0) := by
  induction l with
  | nil => exact .inl rfl
  | cons x l ih =>
    obtain ⟨k', y⟩ := x
    unfold gb
    by_cases hk : k' = t
    · subst hk
      rw [if_pos rfl]
      rcases h.1 with h1 | ⟨h1, h2⟩
      · cases hs : σ.r <;> (rw [hs] at h1; exact .inr (.inl h1.symm))
      · cases hs : σ.r <;> (rw [hs] at h1; exact .inr (.inr ⟨h1, y, rfl, h2⟩))
    · rw [if_neg hk]
      have := ih h.2
      cases hs : σ.r <;> (rw [hs] at this; exact this)
theorem wk_of (hs : wkS σ σ' σ'.s) (hb : wkB σ σ'.b) (hr : wkR σ σ'.r) : Wk σ σ' := by
  intro base A0 w0 N df G a W hR
  have hG := hR.ok
  let G' : Gh := { A := G.A, β := fun k => if gb σ'.b k = none then none else G.β k, ρ := fun t => match gb σ'.r t with
    | none => none
    | some ri => if gb σ.r t = none then some (.slice none 0 0, ri.K) else G.ρ t }
  have hβ : ∀ k b, G'.β k = some b → G.β k = some b := fun k b h => by
    change (if gb σ'.b k = none then none else G.β k) = some b at h
    split at h
    · cases h
    · exact h
  have hβ2 : ∀ k, (gb σ'.b k).isSome = true → G'.β k = G.β k := fun k h => by
    show (if gb σ'.b k = none then none else G.β k) = _
    rw [if_neg (fun e => by rw [e] at h; cases h)]
  have hρ : ∀ t u K, G'.ρ t = some (u, K) → u = .slice none 0 0 ∨ G.ρ t = some (u, K) := fun t u K h => by
    change (match gb σ'.r t with
      | none => none
      | some ri => if gb σ.r t = none then some (Value.slice none 0 0, ri.K) else G.ρ t) = some (u, K) at h
    split at h
    · cases h
    · split at h
      · obtain ⟨rfl, -⟩ := Prod.mk.inj (Option.some.inj h); exact .inl rfl
      · exact .inr h
  have hρ2 : ∀ t, (gb σ'.r t).isSome = true → gb σ.r t ≠ none → G'.ρ t = G.ρ t := fun t h h' => by
    show (match gb σ'.r t with
      | none => none
      | some ri => if gb σ.r t = none then some (Value.slice none 0 0, ri.K) else G.ρ t) = _
    cases hq : gb σ'.r t with
    | none => rw [hq] at h; cases h
    | some ri => dsimp only; rw [if_neg h']
  have h1 : ∀ x y v, convS σ σ' x y → D1 G W x v → D1 G' W y v := fun x y v hc hd => by
    cases y with
    | c d =>
      cases x with
      | c d' => obtain rfl := hc; exact hd
      | own t K l' => obtain rfl := hc; exact hd.1
      | nil => obtain rfl := hc; obtain rfl := hd; exact Den.nil _ _
      | _ => exact hc.elim
    | agg l =>
      cases x with
      | agg l' => obtain rfl := hc; exact hd
      | _ => exact hc.elim
    | own tg K l =>
      cases x with
      | own tg' K' l' =>
        obtain ⟨rfl, rfl, rfl, hq, hq2⟩ := hc
        obtain ⟨g1, g2, u, g3, g4, g5⟩ := hd
        refine ⟨g1, g2, u, ?_, g4, g5⟩
        rw [hρ2 tg' hq2 (fun e => by rw [hq, e] at hq2; cases hq2)]
        exact g3
      | nil =>
        obtain ⟨rfl, hq, hq2⟩ := hc
        obtain rfl := hd
        refine ⟨.nil _ _, nofun, .slice none 0 0, ?_, Nat.le_refl _, fun _ => rfl⟩
        show (match gb σ'.r tg with
          | none => none
          | some ri => if gb σ.r tg = none then some (Value.slice none 0 0, ri.K) else G.ρ tg) = _
        cases hqq : gb σ'.r tg with
        | none => rw [hqq] at hq2; cases hq2
        | some ri =>
          rw [hqq] at hq2
          dsimp only
          rw [if_pos hq]
          have := Option.some.inj hq2
          rw [(Prod.mk.inj this).1]
      | _ => exact hc.elim
    | box k off =>
      cases x with
      | box k' off' =>
        obtain ⟨rfl, rfl, hq⟩ := hc
        obtain ⟨b, g1, g2⟩ := hd
        exact ⟨b, by rw [hβ2 k' hq]; exact g1, g2⟩
      | _ => exact hc.elim
    | ptr cs =>
      cases x with
      | ptr l' => obtain rfl := hc; exact hd
      | _ => exact hc.elim
    | nil =>
      cases x with
      | nil => exact hd
      | _ => exact hc.elim
    | k v =>
      cases x with
      | k v' => obtain rfl := hc; exact hd
      | _ => exact hc.elim
  refine ⟨G', ⟨⟨hG.le, hG.lt, fun k b h => hG.box k b (hβ k b h), fun k k' b h h' => hG.boxI k k' b (hβ _ _ h) (hβ _ _ h'), fun t u K g h h' => ?_, fun t t' u u' K K' g h h' k k' => ?_⟩, hR.ext, hR.size, hR.df, fun t => ?_, fun k => ?_, fun t => ?_⟩⟩
  · rcases hρ t u K h with rfl | h
    · cases h'
    · obtain ⟨g1, g2, g3, g4⟩ := hG.row t u K g h h'
      exact ⟨g1, g2, fun k hk => g3 k (hβ _ _ hk), g4⟩
  · rcases hρ t u K h with rfl | h
    · cases k
    · rcases hρ t' u' K' h' with rfl | h'
      · cases k'
      · exact hG.rowI t t' u u' K K' g h h' k k'
  · have hc := wkS_get hs t
    have hd := hR.s t
    cases hy : gs σ'.s t with
    | top => trivial
    | v g y =>
      rw [hy] at hc
      cases hz : gs σ.s t with
      | v g' z =>
        rw [hz] at hc hd
        obtain ⟨rfl, hc⟩ := hc
        exact ⟨fun hg => h1 z y _ hc (hd.1 hg), hd.2⟩
      | top => rw [hz] at hc; exact hc.elim
      | tup g' l => rw [hz] at hc; exact hc.elim
    | tup g l =>
      rw [hy] at hc
      cases hz : gs σ.s t <;> (rw [hz] at hc; exact hc.elim)
  · rcases wkB_get hb k with h | h
    · rw [h]
      show (if gb σ'.b k = none then none else G.β k) = none
      rw [if_pos h]
    · have hd := hR.b k
      rw [h]
      cases hq : gb σ.b k with
      | none =>
        show (if gb σ'.b k = none then none else G.β k) = none
        rw [if_pos (h.trans hq)]
      | some cs =>
        rw [hq] at hd
        obtain ⟨b, g1, g2⟩ := hd
        exact ⟨b, by rw [hβ2 k (by rw [h, hq]; rfl)]; exact g1, g2⟩
  · rcases wkR_get hr t with h | h | ⟨h, ri, h2, h3⟩
    · rw [h]
      show (match gb σ'.r t with
        | none => none
        | some ri => if gb σ.r t = none then some (Value.slice none 0 0, ri.K) else G.ρ t) = none
      rw [h]
    · have hd := hR.r t
      rw [h]
      cases hq : gb σ.r t with
      | none =>
        show (match gb σ'.r t with
          | none => none
          | some ri => if gb σ.r t = none then some (Value.slice none 0 0, ri.K) else G.ρ t) = none
        rw [h, hq]
      | some ri =>
        rw [hq] at hd
        obtain ⟨u, cs, g1, g2, g3⟩ := hd
        exact ⟨u, cs, by rw [hρ2 t (by rw [h, hq]; rfl) (by rw [hq]; simp)]; exact g1, g2, g3⟩
    · rw [h2]
      refine ⟨.slice none 0 0, [], ?_, h3.symm, by rw [h3]; exact World.ownsRow_nil _ _ _ _⟩
      show (match gb σ'.r t with
        | none => none
        | some ri => if gb σ.r t = none then some (Value.slice none 0 0, ri.K) else G.ρ t) = _
      rw [h2]
      dsimp only
      rw [if_pos h]
/-- Results. -/
def rvS (P : Program) (σ : St) : ResultVar → S1 × Prop
  | .tmp t => opd σ.s true (.tmp t)
  | .cell a t => match opd σ.s true (.tmp a) with
    | (.box k off, p) => match gb σ.b k with
      | some cs => ((outS (ag P t) (sz P t) (cs.drop off)).1, p ∧ un P t = true ∧ 0 < sz P t ∧ (outS (ag P t) (sz P t) (cs.drop off)).2)
      | none => (.k undef, False)
    | _ => (.k undef, False)
def toR (r : List (Nat × RowI)) : S1 → R1 → Prop
  | .c d', .c d => d' = d
  | .own _ _ l', .c d => D.sl l' = d
  | .nil, .c d => D.sl [] = d
  | .agg l', .agg l => l' = l
  | .own t K' l', .own e K l => K' = K ∧ l' = l ∧ gb r t = some ⟨e, K, l'.length⟩
  | .nil, .own _ _ l => [] = l
  | _, _ => False
def resL (P : Program) (σ : St) : List ResultVar → List R1 → Prop
  | [], [] => True
  | rv :: rs, x :: l => ((rvS P σ rv).2 ∧ toR σ.r (rvS P σ rv).1 x) ∧ resL P σ rs l
  | _, _ => False
def resOk (P : Program) (σ : St) (rs : List ResultVar) : CR → Prop
  | .one x => resL P σ rs [x]
  | .tup l => l.length ≠ 1 ∧ resL P σ rs l
def argsS : Nat → List S1 → List (Nat × SV)
  | _, [] => []
  | i, x :: l => (i, .v true x) :: argsS (i + 1) l
theorem argsS_get {A : Gh} {w : World} : ∀ {args : List S1} {vs : List Value} {i : Nat}, D1L A w args vs → ∀ t, (∀ j, t = i + j → Hs A w (gs (argsS i args) t) ((vs[j]?).getD undef)) ∧ (t < i → gs (argsS i args) t = .top)
  | [], vs, i, h, t => ⟨fun j _ => trivial, fun _ => rfl⟩
  | x :: args, vs, i, h, t => by
    cases vs with
    | nil => have := h.1; simp at this
    | cons v vs =>
      have ih := argsS_get (args := args) (vs := vs) (i := i + 1) ⟨by simpa using h.1, fun j y u h1 h2 => h.2 (j + 1) y u (by simpa using h1) (by simpa using h2)⟩ t
      refine ⟨fun j hj => ?_, fun ht => ?_⟩
      · cases j with
        | zero =>
          obtain rfl : t = i := by omega
          show Hs A w (if t = t then .v true x else gs (argsS (t + 1) args) t) v
          rw [if_pos rfl]
          exact ⟨fun _ => h.2 0 x v rfl rfl, fun h => by cases h⟩
        | succ j =>
          show Hs A w (if i = t then .v true x else gs (argsS (i + 1) args) t) _
          rw [if_neg (by omega)]
          have := ih.1 j (by omega)
          simpa using this
      · show (if i = t then SV.v true x else gs (argsS (i + 1) args) t) = _
        rw [if_neg (by omega)]
        exact ih.2 (by omega)
def retD (P : Program) (rs : List ResultVar) (res : CR) : Exit → St → Prop
  | .ret, σ => resOk P σ rs res
  | .normal, σ => resOk P σ rs res
  | _, _ => False
theorem toR_ok {base : Nat} {A0 : Pr} {G : Gh} {W : World} {x : S1} {r : R1} {v : Value} (hG : GOK base A0 G W) (hA : ∀ b i, A0 b i → b < base) (hr : ∀ t, Hr base G W t (gb σ.r t)) (h : toR σ.r x r) (hd : D1 G W x v) : RD (fun b i => A0 b i ∨ G.A b i) base W r v := by
  have hm : ∀ b i, G.A b i → (A0 b i ∨ G.A b i) := fun b i h => .inr h
  cases r with
  | c d =>
    cases x with
    | c d' => obtain rfl := h; exact Den.mono hd hm (Kp.refl _ _)
    | own t K l' => obtain rfl := h; exact Den.mono hd.1 hm (Kp.refl _ _)
    | nil => obtain rfl := h; obtain rfl := hd; exact Den.nil _ _
    | _ => exact h.elim
  | agg l =>
    cases x with
    | agg l' => obtain rfl := h; obtain ⟨us, rfl, hd⟩ := hd; exact ⟨us, rfl, hd.mono hm (Kp.refl _ _)⟩
    | _ => exact h.elim
  | own e K l =>
    cases x with
    | own t K' l' =>
      obtain ⟨rfl, rfl, hq⟩ := h
      obtain ⟨g1, g2, u, g3, g4, g5⟩ := hd
      have hrt := hr t
      rw [hq] at hrt
      obtain ⟨u', cs, f1, f2, f3⟩ := hrt
      obtain ⟨rfl, -⟩ := Prod.mk.inj (Option.some.inj (g3.symm.trans f1))
      obtain ⟨ad, c, hv⟩ := den_len g1
      have hvu : v = u := g5 (by rw [f2, hv]; rfl)
      refine ⟨g1.mono hm (Kp.refl _ _), g2, ⟨cs, by rw [hvu]; exact f3⟩, fun g hg i hi => ?_⟩
      rw [hvu] at hg
      obtain ⟨k1, k2, k3, k4⟩ := hG.row t u K' g f1 hg
      rcases hi with hi | hi
      · have := hA g i hi; omega
      · have := k4 i hi
        rwa [f2] at this
    | nil =>
      obtain rfl := h
      obtain rfl := hd
      exact ⟨.nil _ _, nofun, ⟨[], World.ownsRow_nil _ _ _ _⟩, fun g hg => by cases hg⟩
    | _ => exact h.elim
theorem resL_ok {base : Nat} {A0 : Pr} {w0 : World} {df : List Deferred} {G : Gh} {a : Act} {W : World} (hR : RR base A0 w0 N df G σ a W) (hA : ∀ b i, A0 b i → b < base) :
    ∀ {rs : List ResultVar} {l : List R1}, resL P σ rs l → ∃ us : List Value, (rs.mapM fun
        | ResultVar.tmp t => (pure (a.tmps.getD t undef) : Sem Value)
        | ResultVar.cell ad t => do loadVar t (← asAddr (a.tmps.getD ad undef))).run P W = .ok us W ∧ l.length = us.length ∧ ∀ (j : Nat) x u, l[j]? = some x → us[j]? = some u → RD (fun b i => A0 b i ∨ G.A b i) base W x u
  | [], [], _ => ⟨[], by simp, rfl, fun j x u h => by simp at h⟩
  | rv :: rs, x :: l, h => by
    obtain ⟨⟨h1, h2⟩, h3⟩ := h
    obtain ⟨us, k1, k2, k3⟩ := resL_ok hR hA h3
    have one : ∃ v, (match rv with
        | ResultVar.tmp t => (pure (a.tmps.getD t undef) : Sem Value)
        | ResultVar.cell ad t => do loadVar t (← asAddr (a.tmps.getD ad undef))).run P W = .ok v W ∧ D1 G W (rvS P σ rv).1 v := by
      cases rv with
      | tmp t => exact ⟨a.eval (.tmp t), rfl, opd_ok (g := true) (x := .tmp t) rfl (hR.s t) h1⟩
      | cell ad t =>
        have d1 := opd_ok (g := true) (x := .tmp ad) (a := a) rfl (hR.s ad)
        unfold rvS at h1 ⊢
        dsimp only at h1 ⊢
        split at h1
        · next k off p e1 =>
          rw [e1] at d1
          split at h1
          · next cs hcs =>
            obtain ⟨hp, hu, hs, hout⟩ := h1
            obtain ⟨b, hk, he⟩ := d1 hp
            have hbk := hR.b k
            rw [hcs] at hbk
            obtain ⟨b', hk', arr, T, hh, hd⟩ := hbk
            obtain rfl : b = b' := Option.some.inj (hk.symm.trans hk')
            obtain ⟨v, hv, hd2⟩ := run_loadv (P := P) (W := W) (b := b) (off := off) hu hs (hd.drop off) (fun j u hj => by
              rw [List.getElem?_drop] at hj
              rw [cell_of_row _ _ _ _ _ _ hh]
              simpa using hj) hout
            refine ⟨v, ?_, hd2 G rfl⟩
            have he' : a.tmps.getD ad undef = .pointer (some ⟨b, off, none⟩) := he
            simp only [he', asAddr]
            simpa [Instr.loadAt, Instr.sureAddr] using hv
          · exact h1.elim
        · exact h1.elim
    obtain ⟨v, hv, hd⟩ := one
    refine ⟨v :: us, ?_, by simp [k2], fun j y u h4 h5 => ?_⟩
    · rw [List.mapM_cons]
      simp only [Sem.run_bind, hv, k1, Result.andThen_ok, Sem.run_pure]
    · cases j with
      | zero =>
        obtain rfl : x = y := by simpa using h4
        obtain rfl : v = u := by simpa using h5
        exact toR_ok hR.ok hA hR.r h2 hd
      | succ j => exact k3 j y u (by simpa using h4) (by simpa using h5)
  | [], _ :: _, h => h.elim
  | _ :: _, [], h => h.elim
/-- A function's contract, from its body. -/
theorem cal_of {f : FuncId} {fn : Func} {c : Code} {args : List S1} {res : CR} (hΓ : Snd P Γ) (hm : P.follows .mixedOrders = true) (hf : P.funcs[f]? = some fn) (hb : fn.body = some c) (hN : fn.ntmps = N) (hn : args.length ≤ N) (h : DW P Γ N c (retD P fn.results.toList res) ⟨argsS 0 args, [], []⟩) : Cal P f args res := by
  intro A w vs hA hd
  have hl := hd.1
  refine calls_of_wp hf hb ?_
  have hR : RR w.heap.size A w N [] (gh A) ⟨argsS 0 args, [], []⟩ { tmps := vs.toArray ++ Array.replicate (fn.ntmps - vs.toArray.size) undef, defers := [] } w := by
    refine ⟨⟨Nat.le_refl _, fun b i h => ⟨hA b i h, fun _ => h⟩, fun k b h => (by cases h), fun k k' b h => (by cases h), fun t u K g h => (by cases h), fun t t' u u' K K' g h => (by cases h)⟩, Ext.refl w, ?_, rfl, fun t => ?_, fun k => rfl, fun t => rfl⟩
    · simp
      omega
    · have h1 := (argsS_get (i := 0) hd t).1 t (by omega)
      have h2 : V { tmps := vs.toArray ++ Array.replicate (fn.ntmps - vs.toArray.size) undef, defers := [] } t = (vs[t]?).getD undef := by
        unfold V
        dsimp only
        by_cases ht : t < vs.length
        · rw [Array.getElem?_append_left (by simpa using ht)]
          simp
        · rw [Array.getElem?_append_right (by simpa using ht), List.getElem?_eq_none (by omega)]
          simp only [Array.getElem?_replicate]
          split <;> rfl
      show Hs (gh A) w (gs (argsS 0 args) t) _
      rw [h2]
      exact h1
  refine wp_mono (h hΓ hm A w [] _ _ w hR) (fun e a W ⟨σ', G', k1, k2⟩ => ?_)
  have fin : resOk P σ' fn.results.toList res → bodyPost P fn (fun e w' => ∃ v A', e = .returned v ∧ Ext w w' ∧ (∀ b i, A b i → A' b i) ∧ (∀ b i, A' b i → b < w'.heap.size ∧ (b < w.heap.size → A b i)) ∧ RDs A' w.heap.size w' res v) .ret a W := by
    intro hres
    have hA' : ∀ b i, (A b i ∨ G'.A b i) → b < W.heap.size ∧ (b < w.heap.size → A b i) := fun b i h => by
      rcases h with h | h
      · exact ⟨Nat.lt_of_lt_of_le (hA b i h) k2.ok.le, fun _ => h⟩
      · exact k2.ok.lt b i h
    have run : ∀ us : List Value, (fn.results.toList.mapM fun
        | ResultVar.tmp t => (pure (a.tmps.getD t undef) : Sem Value)
        | ResultVar.cell ad t => do loadVar t (← asAddr (a.tmps.getD ad undef))).run P W = .ok us W → (results fn a.tmps).run P W = .ok (if h : us.toArray.size = 1 then us.toArray[0] else .tuple us.toArray) W := fun us hus => by
      unfold results
      rw [Array.mapM_eq_mapM_toList]
      simp only [Sem.run_bind, Sem.run_pure, map_eq_pure_bind]
      have hus' := hus
      erw [hus']
      rfl
    cases res with
    | one x =>
      obtain ⟨us, e1, e2, e3⟩ := resL_ok k2 hA hres
      obtain ⟨u, rfl⟩ : ∃ u, us = [u] := by
        match us, e2 with
        | [u], _ => exact ⟨u, rfl⟩
      exact bodyPost_ret (run _ e1) k2.df ⟨_, _, rfl, k2.ext, fun b i h => .inl h, hA', e3 0 x u rfl rfl⟩
    | tup l =>
      obtain ⟨us, e1, e2, e3⟩ := resL_ok k2 hA hres.2
      have hne : ¬ us.toArray.size = 1 := by
        have := hres.1
        simp
        omega
      have hrun := run _ e1
      rw [dif_neg hne] at hrun
      exact bodyPost_ret hrun k2.df ⟨_, _, rfl, k2.ext, fun b i h => .inl h, hA', us.toArray, rfl, by simpa using e2, fun j x u h4 h5 => e3 j x u h4 (by simpa using h5)⟩
  cases e with
  | ret => exact fin k1
  | normal => exact fin k1
  | _ => exact k1.elim
end
end Go.Proofs.Ytlhmifkimnmnmaa.Dp
