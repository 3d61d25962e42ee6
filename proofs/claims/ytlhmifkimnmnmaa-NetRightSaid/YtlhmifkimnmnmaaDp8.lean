/- Deep values: all operations; a region in the text's order. No program in sight. -/
import Derived.Test.YtlhmifkimnmnmaaDp7
namespace Go.Proofs.Ytlhmifkimnmnmaa.Dp
set_option linter.unusedSimpArgs false
set_option linter.unusedVariables false
open Go.RowKit

def evCallee (P : Program) (Γ : Cts) (σ : St) (ug g : Bool) (d : Nat) : Callee → List Operand → List TypeId → Ev
  | .builtin .append, [x, y], [t, t'] => if t = t' then evApp P σ.s σ.r ug g d t x y else bad
  | .builtin .len, [x], [t] => evLen P σ.s g t x
  | .builtin .min, [x, y], _ => evMm σ.s g false x y
  | .builtin .max, [x, y], _ => evMm σ.s g true x y
  | .value (.func f), xs, _ => evCall P Γ σ.s σ.r ug g d f xs
  | _, _, _ => bad
def ev (P : Program) (Γ : Cts) (σ : St) (ug g : Bool) (d : Nat) : Op → Ev
  | .move x => evMove σ.s g x
  | .assign x => evMove σ.s g x
  | .pick c x y => evPick σ.s g c x y
  | .alloc t => evAlloc P σ.b g d t
  | .box _ x => evBox σ.s σ.b g d x
  | .build t ps => evBuild P σ.s g t ps.toList
  | .buildSlice t n ps => evLit P σ.s σ.r ug g d t n ps.toList
  | .load t x => evLoad P σ.s σ.b g t x
  | .store t x y => evStore P σ.s σ.b g t x y
  | .binOp op t x y _ => evBin P σ.s g op t x y
  | .unOp op _ x => evUn σ.s g op x
  | .convert s t x => evConv P σ.s g s t x
  | .slice t x lo hi none => evSlice P σ.s g t x lo hi
  | .fieldAddr t x f => evFieldAddr P σ.s g t x f
  | .field t x f => evField P σ.s g t x f
  | .indexAddr t x i => evIndexAddr P σ.s g t x i
  | .index t x i => evIndex P σ.s g t x i
  | .extract t i => evExtract σ.s g t i
  | .call c => evCallee P Γ σ ug g d c.callee c.args.toList c.argTypes.toList
  | _ => bad
section
variable {P : Program} {Γ : Cts} {base : Nat} {A0 : Pr} {w0 : World} {G : Gh} {a : Act} {W : World} {o : Oper} {σ : St} {ug g : Bool} {d : Nat}
theorem toArray_of {α : Type} {xs : Array α} {l : List α} (h : xs.toList = l) : xs = l.toArray := by subst h; simp
theorem ok_ev (hΓ : Snd P Γ) (hw : base = w0.heap.size) (hg : g = true) (hG : GOK base A0 G W) (hx : Ext w0 W) (h1 : ∀ x ∈ o.op.operands.toList, Okd G W σ.s a x) (hb : ∀ k ∈ (ev P Γ σ ug g d o.op).rb, Hb G W k (gb σ.b k)) (hwb : ∀ p ∈ (ev P Γ σ ug g d o.op).wb, Hb G W p.1 (gb σ.b p.1)) (hwr : ∀ p ∈ (ev P Γ σ ug g d o.op).wr, Hr base G W p.1 (gb σ.r p.1)) (hob : (ev P Γ σ ug g d o.op).ob) : DoesW P base A0 w0 G a W o (ev P Γ σ ug g d o.op) := by
  cases ho : o.op with
  | move x => rw [ho] at h1 hob; exact (ok_move hg hG hx (.inl ho) (h1 x (by simp [Op.operands])) hob).w
  | assign x => rw [ho] at h1 hob; exact (ok_move hg hG hx (.inr ho) (h1 x (by simp [Op.operands])) hob).w
  | pick c x y => rw [ho] at h1 hob; exact (ok_pick hg hG hx ho (h1 c (by simp [Op.operands])) (h1 x (by simp [Op.operands])) (h1 y (by simp [Op.operands])) hob).w
  | alloc t => rw [ho] at hwb hob; exact (ok_alloc hG hx ho hwb hob).w
  | box t x => rw [ho] at h1 hwb hob; exact (ok_box hg hG hx ho (h1 x (by simp [Op.operands])) hwb hob).w
  | build t ps => rw [ho] at h1 hob; exact (ok_build hg hG hx ho (fun p hp => h1 p.2 (by simp only [Op.operands, List.mem_map]; exact ⟨p, hp, rfl⟩)) hob).w
  | buildSlice t n ps => rw [ho] at h1 hwr hob; exact (ok_lit hg hG hx ho (fun p hp => h1 p.2 (by simp only [Op.operands, List.mem_map]; exact ⟨p, hp, rfl⟩)) hwr hob).w
  | load t x => rw [ho] at h1 hb hob; exact (ok_load hg hG hx ho (h1 x (by simp [Op.operands])) hb hob).w
  | store t x y => rw [ho] at h1 hwb hob; exact (ok_store hg hG hx hw ho (h1 x (by simp [Op.operands])) (h1 y (by simp [Op.operands])) hwb hob).w
  | binOp op t x y t' => rw [ho] at h1 hob; exact (ok_bin hg hG hx ho (h1 x (by simp [Op.operands])) (h1 y (by simp [Op.operands])) hob).w
  | unOp op t x => rw [ho] at h1 hob; exact (ok_un hg hG hx ho (h1 x (by simp [Op.operands])) hob).w
  | convert s t x => rw [ho] at h1 hob; exact (ok_conv hg hG hx ho (h1 x (by simp [Op.operands])) hob).w
  | slice t x lo hi mx =>
    cases mx with
    | none => rw [ho] at h1 hob; exact (ok_slice hg hG hx ho (h1 x (by simp [Op.operands])) (fun y hy => h1 y (by subst hy; simp [Op.operands])) (fun y hy => h1 y (by subst hy; simp [Op.operands])) hob).w
    | some m => rw [ho] at hob; exact hob.elim
  | fieldAddr t x f => rw [ho] at h1 hob; exact (ok_fieldAddr hg hG hx ho (h1 x (by simp [Op.operands])) hob).w
  | field t x f => rw [ho] at h1 hob; exact (ok_field hg hG hx ho (h1 x (by simp [Op.operands])) hob).w
  | indexAddr t x i => rw [ho] at h1 hob; exact (ok_indexAddr hg hG hx ho (h1 x (by simp [Op.operands])) (h1 i (by simp [Op.operands])) hob).w
  | index t x i => rw [ho] at h1 hob; exact (ok_index hg hG hx ho (h1 x (by simp [Op.operands])) (h1 i (by simp [Op.operands])) hob).w
  | extract t i => rw [ho] at h1 hob; exact (ok_extract hg hG hx ho (h1 t (by simp [Op.operands])) hob).w
  | call c =>
    rw [ho] at h1 hwr hob
    obtain ⟨callee, xs, ts⟩ := c
    change ∀ p ∈ (evCallee P Γ σ ug g d callee xs.toList ts.toList).wr, _ at hwr
    change (evCallee P Γ σ ug g d callee xs.toList ts.toList).ob at hob
    show DoesW P base A0 w0 G a W o (evCallee P Γ σ ug g d callee xs.toList ts.toList)
    unfold evCallee at hob hwr ⊢
    split at hob
    · next x y t t' hxs hts =>
      simp only [hxs, hts] at hwr
      split at hob
      · next htt =>
        subst htt
        simp only [if_true] at hwr ⊢
        rw [toArray_of hxs, toArray_of hts] at ho
        rw [toArray_of hxs] at h1
        exact (ok_app hg hG hx hw ho (h1 x (by simp [Op.operands, Call.operands])) (h1 y (by simp [Op.operands, Call.operands])) hwr hob).w
      · exact hob.elim
    · next x t hxs hts =>
      rw [toArray_of hxs, toArray_of hts] at ho
      rw [toArray_of hxs] at h1
      exact (ok_len hg hG hx ho (h1 x (by simp [Op.operands, Call.operands])) hob).w
    · next x y hxs =>
      rw [toArray_of hxs] at ho h1
      exact (ok_mm hg hG hx (mx := false) ho (h1 x (by simp [Op.operands, Call.operands])) (h1 y (by simp [Op.operands, Call.operands])) hob).w
    · next x y hxs =>
      rw [toArray_of hxs] at ho h1
      exact (ok_mm hg hG hx (mx := true) ho (h1 x (by simp [Op.operands, Call.operands])) (h1 y (by simp [Op.operands, Call.operands])) hob).w
    · next f xs' =>
      exact ok_call hg hG hx hΓ ho (fun x hx' => h1 x (by simp only [Op.operands, Call.operands]; simp; right; simpa using hx')) hwr hob
    · exact hob.elim
  | _ => rw [ho] at hob; exact hob.elim
/-- The guard's word. -/
def gd (ops : Array Oper) (σ : St) (o : Oper) : Bool × Prop := match o.guard with
  | none => (true, True)
  | some (j, want) => match (ops[j]?).bind (·.dst) with
    | some t => match gs σ.s t with
      | .v g' (.c (.bool b)) => (g' && (if want then b else !b), True)
      | _ => (false, False)
    | none => (false, False)
def sv (g : Bool) : Option V1 → SV
  | some (.one x) => .v g x
  | some (.tup l) => .tup g l
  | none => .top
def evO (P : Program) (Γ : Cts) (ops : Array Oper) (σ : St) (o : Oper) : Ev := ev P Γ σ o.guard.isNone (gd ops σ o).1 (o.dst.getD 0) o.op
def nx (P : Program) (Γ : Cts) (ops : Array Oper) (σ : St) (o : Oper) : St :=
  ⟨match o.dst with
    | some d => (d, sv (gd ops σ o).1 (evO P Γ ops σ o).x) :: σ.s
    | none => σ.s, (evO P Γ ops σ o).wb ++ σ.b, (evO P Γ ops σ o).wr ++ σ.r⟩
def obl (P : Program) (Γ : Cts) (ops : Array Oper) (σ : St) (o : Oper) : Prop :=
  (gd ops σ o).2 ∧ ((gd ops σ o).1 = true → (evO P Γ ops σ o).ob) ∧ (((evO P Γ ops σ o).wb.isEmpty && (evO P Γ ops σ o).wr.isEmpty) = true ∨ (gd ops σ o).1 = true)
def lookO (ops : Array Oper) (o : Oper) : List Nat :=
  (o.op.operands.toList.filterMap fun | .tmp t => some t | _ => none) ++ (match o.guard with
    | some (g, _) => ((ops[g]?).bind (·.dst)).toList
    | none => [])
theorem undef_of {v : Value} (h : v = undef) : ∀ b, v ≠ .bool b := fun b e => by
  rw [h] at e
  cases e
/-- One operation of a region. -/
theorem step_ok {ops : Array Oper} (hΓ : Snd P Γ) (hw : base = w0.heap.size) (hG : GOK base A0 G W) (hx : Ext w0 W) (hs : ∀ t ∈ lookO ops o, Hs G W (gs σ.s t) (V a t)) (hb : ∀ k ∈ (evO P Γ ops σ o).rb, Hb G W k (gb σ.b k)) (hwb : ∀ p ∈ (evO P Γ ops σ o).wb, Hb G W p.1 (gb σ.b p.1)) (hwr : ∀ p ∈ (evO P Γ ops σ o).wr, Hr base G W p.1 (gb σ.r p.1)) (hob : obl P Γ ops σ o)
    (K : Act → World → Prop) (Q : Exit → Act → World → Prop)
    (k : ∀ v W' G', GOK base A0 G' W' → Ext w0 W' → Evo ((evO P Γ ops σ o).wb.map (·.1)) ((evO P Γ ops σ o).wr.map (·.1)) G W G' W' → Hs G' W' (sv (gd ops σ o).1 (evO P Γ ops σ o).x) v → (∀ p ∈ (evO P Γ ops σ o).wb, Hb G' W' p.1 (some p.2)) → (∀ p ∈ (evO P Γ ops σ o).wr, Hr base G' W' p.1 (some p.2)) → K (a.put o.dst v) W') :
    if Region.wanted o (yielded ops a.tmps) = true then o.wp P a W K Q else K (a.put o.dst undef) W := by
  obtain ⟨o1, o2, o3⟩ := hob
  have hwant : Region.wanted o (yielded ops a.tmps) = (gd ops σ o).1 := by
    unfold gd at o1 ⊢
    unfold Region.wanted
    cases hgd : o.guard with
    | none => rfl
    | some jw =>
      obtain ⟨j, want⟩ := jw
      rw [hgd] at o1
      dsimp only at o1 ⊢
      cases ht : (ops[j]?).bind (·.dst) with
      | none => rw [ht] at o1; exact o1.elim
      | some t =>
        have h1 := hs t (by unfold lookO; rw [hgd]; simp [ht])
        rw [ht] at o1
        dsimp only at o1 ⊢
        unfold yielded
        rw [ht]
        dsimp only [Option.bind_some]
        cases hsv : gs σ.s t with
        | top => rw [hsv] at o1; exact o1.elim
        | tup g' l => rw [hsv] at o1; exact o1.elim
        | v g' x =>
          rw [hsv] at o1 h1
          cases x with
          | c dd =>
            cases dd with
            | bool b =>
              dsimp only
              cases g' with
              | true =>
                have h2 : V a t = .bool b := D1_bool (h1.1 rfl)
                have h3 : a.tmps[t]? = some (.bool b) := by
                  unfold V at h2
                  cases h4 : a.tmps[t]? with
                  | none => rw [h4] at h2; cases h2
                  | some u => rw [h4] at h2; obtain rfl : u = .bool b := h2; rfl
                rw [h3]
                cases b <;> cases want <;> rfl
              | false =>
                have h2 : V a t = undef := h1.2 rfl
                have h3 : ∀ b, a.tmps[t]? ≠ some (.bool b) := fun b e => by
                  unfold V at h2
                  rw [e] at h2
                  cases h2
                cases h4 : a.tmps[t]? with
                | none => rfl
                | some u =>
                  cases u with
                  | bool b => exact absurd h4 (h3 b)
                  | _ => rfl
            | int | sl => exact o1.elim
          | _ => exact o1.elim
  rw [hwant]
  cases hgv : (gd ops σ o).1 with
  | true =>
    rw [if_pos rfl]
    have hE := ok_ev (P := P) (Γ := Γ) (σ := σ) (ug := o.guard.isNone) (g := (gd ops σ o).1) (d := o.dst.getD 0) (o := o) (a := a) hΓ hw hgv hG hx (fun x hx' => by
      cases x with
      | tmp t => exact hs t (by unfold lookO; simp only [List.mem_append, List.mem_filterMap]; exact .inl ⟨_, hx', rfl⟩)
      | _ => trivial) hb hwb hwr (o2 hgv)
    refine hE K Q (fun v W' G' k1 k2 k3 k4 k5 k6 => k v W' G' k1 k2 k3 ?_ k5 k6)
    change Vd G' W' (evO P Γ ops σ o).x v at k4
    rw [hgv]
    cases hxv : (evO P Γ ops σ o).x with
    | none => trivial
    | some y =>
      rw [hxv] at k4
      cases y with
      | one x => exact ⟨fun _ => k4, fun h => by cases h⟩
      | tup l => exact ⟨fun _ => k4, fun h => by cases h⟩
  | false =>
    rw [if_neg (by decide)]
    have h3 := o3.resolve_right (by rw [hgv]; decide)
    simp only [Bool.and_eq_true, List.isEmpty_iff] at h3
    refine k undef W G hG hx ?_ ?_ ?_ ?_
    · rw [h3.1, h3.2]; exact Evo.refl _ _
    · rw [hgv]
      cases hxv : (evO P Γ ops σ o).x with
      | none => trivial
      | some y => cases y <;> exact ⟨fun h => (by cases h), fun _ => rfl⟩
    · rw [h3.1]; exact nofun
    · rw [h3.2]; exact nofun
/-- All that is known. -/
structure RR (base : Nat) (A0 : Pr) (w0 : World) (N : Nat) (df : List Deferred) (G : Gh) (σ : St) (a : Act) (W : World) : Prop where
  ok : GOK base A0 G W
  ext : Ext w0 W
  size : a.tmps.size = N
  df : a.defers = df
  s : ∀ t, Hs G W (gs σ.s t) (V a t)
  b : ∀ k, Hb G W k (gb σ.b k)
  r : ∀ t, Hr base G W t (gb σ.r t)
theorem gb_app {α : Type} : ∀ (l m : List (Nat × α)) (k : Nat), gb (l ++ m) k = match gb l k with
    | some x => some x
    | none => gb m k
  | [], m, k => rfl
  | (k', x) :: l, m, k => by
    simp only [List.cons_append, gb]
    split
    · rfl
    · exact gb_app l m k
theorem gb_none {α : Type} : ∀ {l : List (Nat × α)} {k : Nat}, k ∉ l.map (·.1) → gb l k = none
  | [], _, _ => rfl
  | (k', x) :: l, k, h => by
    simp only [List.map_cons, List.mem_cons, not_or] at h
    unfold gb
    rw [if_neg (fun e => h.1 e.symm)]
    exact gb_none h.2
theorem gb_some {α : Type} : ∀ {l : List (Nat × α)} {k : Nat}, k ∈ l.map (·.1) → ∃ x, gb l k = some x ∧ (k, x) ∈ l
  | (k', x) :: l, k, h => by
    unfold gb
    by_cases hk : k' = k
    · subst hk
      rw [if_pos rfl]
      exact ⟨x, rfl, List.mem_cons_self⟩
    · rw [if_neg hk]
      have : k ∈ l.map (·.1) := by
        rcases List.mem_cons.1 h with h | h
        · exact absurd h.symm hk
        · exact h
      obtain ⟨y, h1, h2⟩ := gb_some this
      exact ⟨y, h1, List.mem_cons_of_mem _ h2⟩
/-- A region in the text's order. -/
def wpR (P : Program) (Γ : Cts) (ops : Array Oper) : List Oper → St → (St → Prop) → Prop
  | [], σ, K => K σ
  | o :: rest, σ, K => obl P Γ ops σ o ∧ wpR P Γ ops rest (nx P Γ ops σ o) K
theorem seq_ok {ops : Array Oper} {Q : Exit → Act → World → Prop} {N : Nat} {df : List Deferred} {K : St → Prop} (hΓ : Snd P Γ) (hw : base = w0.heap.size) (hfit : fits ops N = true) (hK : ∀ σ G a W, K σ → RR base A0 w0 N df G σ a W → Q .normal a W) :
    ∀ (rest : List Oper) (σ : St) (G : Gh) (a : Act) (W : World), (∀ o ∈ rest, o ∈ ops.toList) → wpR P Γ ops rest σ K → RR base A0 w0 N df G σ a W → wpList P ops Q rest a W
  | [], σ, G, a, W, _, h, hR => hK σ G a W h hR
  | o :: rest, σ, G, a, W, hm, h, hR => by
    obtain ⟨hob, hrest⟩ := h
    have hdl : ∀ d, o.dst = some d → d < a.tmps.size := fun d hd => by
      unfold fits at hfit
      rw [List.all_eq_true] at hfit
      have := hfit o (hm o List.mem_cons_self)
      rw [hd] at this
      rw [hR.size]
      simpa using this
    have hst := step_ok (o := o) (a := a) (σ := σ) (ops := ops) hΓ hw hR.ok hR.ext (fun t _ => hR.s t) (fun k _ => hR.b k) (fun p _ => hR.b p.1) (fun p _ => hR.r p.1) hob (wpList P ops Q rest) Q (fun v W' G' k1 k2 k3 k4 k5 k6 => by
      refine seq_ok hΓ hw hfit hK rest _ G' _ W' (fun o' ho' => hm o' (List.mem_cons_of_mem _ ho')) hrest ⟨k1, k2, ?_, ?_, fun t => ?_, fun k => ?_, fun t => ?_⟩
      · rw [← hR.size]; cases o.dst <;> simp [Act.put]
      · rw [← hR.df]; cases o.dst <;> rfl
      · unfold nx
        dsimp only
        cases hd : o.dst with
        | none => exact (hR.s t).evo k3
        | some d =>
          dsimp only
          rw [V_put (hdl d hd)]
          unfold gs
          by_cases htd : d = t
          · subst htd
            rw [if_pos rfl, if_pos rfl]
            exact k4
          · rw [if_neg htd, if_neg (fun e => htd e.symm)]
            exact (hR.s t).evo k3
      · unfold nx
        dsimp only
        rw [gb_app]
        by_cases hk : k ∈ (evO P Γ ops σ o).wb.map (·.1)
        · obtain ⟨x, h1, h2⟩ := gb_some hk
          rw [h1]
          exact k5 _ h2
        · rw [gb_none hk]
          exact (hR.b k).evo k3 hk
      · unfold nx
        dsimp only
        rw [gb_app]
        by_cases hk : t ∈ (evO P Γ ops σ o).wr.map (·.1)
        · obtain ⟨x, h1, h2⟩ := gb_some hk
          rw [h1]
          exact k6 _ h2
        · rw [gb_none hk]
          exact (hR.r t).evo k3 hk)
    unfold wpList
    split
    · next hwd => rw [if_pos hwd] at hst; exact .inl hst
    · next hwd => rw [if_neg hwd] at hst; exact hst
end
end Go.Proofs.Ytlhmifkimnmnmaa.Dp
