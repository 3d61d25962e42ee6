/- Deep values: all operations; a region in the text's order. No program in sight. -/
import Derived.Test.YtmngjifcgfnogaaDq7
namespace Go.Proofs.Ytmngjifcgfnogaa.Dq
set_option linter.unusedSimpArgs false
set_option linter.unusedVariables false
set_option maxRecDepth 100000
open Go.RowKit

def toCp : S1 × Prop → Cp × Prop
  | (.c d, p) => (.c d, p)
  | (.box k j, p) => (.box k j, p)
  | (.ptr cs, p) => (.ptr cs, p)
  | (.nil, p) => (.c .nl, p)
  | _ => (.c .nl, False)
def ofCp : Cp → S1
  | .c d => .c d
  | .box k j => .box k j
  | .ptr cs => .ptr cs
def cpsOb : List (Cp × Prop) → Prop
  | [] => True
  | x :: l => x.2 ∧ cpsOb l
def evFn (s : List (Nat × SV)) (g : Bool) : Fn → List Operand → List Operand → Ev
  | .func f, [], cs => { x := some (.one (.fn f ((cs.map fun c => toCp (opd s g c)).map (·.1)))), ob := cpsOb (cs.map fun c => toCp (opd s g c)) }
  | _, _, _ => bad
def nilOk : S1 → Bool
  | .box _ _ => true
  | .xp _ _ _ _ => true
  | .ptr _ => true
  | .fn _ _ => true
  | _ => false
def evNil (s : List (Nat × SV)) (g : Bool) (x : Operand) : Ev := { x := some (.one (opd s g x).1), ob := (opd s g x).2 ∧ nilOk (opd s g x).1 = true }
def evCallee (P : Program) (Γ : Cx) (σ : St) (ug g : Bool) (d : Nat) : Callee → List Operand → List TypeId → Ev
  | .builtin .append, [x, y], [t, t'] => if t = t' then evApp P σ.s σ.b σ.r (Γ.xl.contains d) ug g d t x y else bad
  | .builtin .len, [x], [t] => evLen P σ.s g t x
  | .builtin .min, [x, y], _ => evMm σ.s g false x y
  | .builtin .max, [x, y], _ => evMm σ.s g true x y
  | .value (.func f), xs, _ => evCall P Γ σ.b σ.r ug g d f (xs.map (opd σ.s g))
  | .value (.tmp t), xs, _ => match opd σ.s g (.tmp t) with
    | (.fn f ps, p) => let e := evCall P Γ σ.b σ.r ug g d f (xs.map (opd σ.s g) ++ ps.map fun c => (ofCp c, True))
      { x := e.x, ob := p ∧ e.ob, rb := e.rb, wb := e.wb, rr := e.rr, wr := e.wr }
    | _ => bad
  | _, _, _ => bad
def ev (P : Program) (Γ : Cx) (σ : St) (ug g : Bool) (d : Nat) : Op → Ev
  | .move x => evMove σ.s g x
  | .assign x => evMove σ.s g x
  | .pick c x y => evPick σ.s g c x y
  | .alloc t => evAlloc P σ.b g d t
  | .box _ x => evBox σ.s σ.b g d x
  | .build t ps => evBuild P σ.s g t ps.toList
  | .buildSlice t n ps => evLit P σ.s σ.b σ.r (Γ.xl.contains d) ug g d t n ps.toList
  | .load t x => evLoad P σ.s σ.b g t x
  | .store t x y => evStore P σ.s σ.b g t x y
  | .binOp op t x y _ => evBin P σ.s g op t x y
  | .unOp op _ x => evUn σ.s g op x
  | .convert s t x => evConv P σ.s g s t x
  | .slice t x lo hi none => evSlice P σ.s g t x lo hi
  | .fieldAddr t x f => evFieldAddr P σ.s g t x f
  | .field t x f => evField P σ.s g t x f
  | .indexAddr t x i => evIndexAddr P σ.s g t x i
  | .index t x i => evIndex P σ.s g t x i
  | .extract t i => evExtract σ.s g t i
  | .call c => evCallee P Γ σ ug g d c.callee c.args.toList c.argTypes.toList
  | .makeSlice t x y => if Γ.xl.contains (d + 1000000) then evMakeP P σ.s g t x y else evMake P σ.s σ.b g d t x y
  | .makeFunc f first cs => evFn σ.s g f first.toList cs.toList
  | .nilCheck x => evNil σ.s g x
  | _ => bad
section
variable {P : Program} {Γ : Cx} {M : Nat → Prop} {A0 : Pr} {w0 : World} {G : Gh} {a : Act} {W : World} {o : Oper} {σ : St} {ug g : Bool} {d : Nat}
theorem toArray_of {α : Type} {xs : Array α} {l : List α} (h : xs.toList = l) : xs = l.toArray := by subst h; simp
theorem ok_fn {f : Fn} {first cs : Array Operand} (hg : g = true) (hG : GOK M A0 G W) (hx : Chg M w0 W) (ho : o.op = .makeFunc f first cs) (h1 : ∀ x ∈ cs.toList, Okd G W σ.s a x) (hob : (evFn σ.s g f first.toList cs.toList).ob) : Does P M A0 w0 G a W o (evFn σ.s g f first.toList cs.toList) := by
  unfold evFn at hob ⊢
  split at hob
  · next cs' f' hf =>
    have h2 : first = #[] := by
      apply Array.toList_inj.1
      exact hf
    subst h2
    refine does_pure hG hx (v := .func (.func f') #[] (cs.map a.eval)) (by simp [execOp, ho, Instr.makeFunc]) ⟨_, rfl, ?_⟩
    rw [Array.toList_map]
    generalize cs.toList = l at h1 hob ⊢
    induction l with
    | nil => exact ⟨rfl, fun j x u h => by simp at h⟩
    | cons c l ih =>
      have g2 := ih (fun x hx => h1 x (List.mem_cons_of_mem _ hx)) hob.2
      refine ⟨by simp, fun j x u k1 k2 => ?_⟩
      cases j with
      | zero =>
        obtain rfl : (toCp (opd σ.s g c)).1 = x := by simpa using k1
        obtain rfl : a.eval c = u := by simpa using k2
        have hob1 : (toCp (opd σ.s g c)).2 := hob.1
        have hd := opd_ok hg (h1 c List.mem_cons_self)
        generalize opd σ.s g c = z at hob1 hd
        obtain ⟨z, p⟩ := z
        cases z with
        | c d => exact hd hob1
        | box k j => exact hd hob1
        | ptr cs => exact hd hob1
        | nil => obtain h3 := hd hob1; show DenX G W .nl _; rw [show a.eval c = .slice none 0 0 from h3]; exact Den.nl
        | _ => exact hob1.elim
      | succ j => exact g2.2 j x u (by simpa using k1) (by simpa using k2)
  · exact hob.elim
theorem ok_nil {x : Operand} (hg : g = true) (hG : GOK M A0 G W) (hx : Chg M w0 W) (ho : o.op = .nilCheck x) (h1 : Okd G W σ.s a x) (hob : (evNil σ.s g x).ob) : Does P M A0 w0 G a W o (evNil σ.s g x) := by
  obtain ⟨hp, hn⟩ := hob
  have hd := opd_ok hg h1 hp
  refine does_pure hG hx (v := a.eval x) ?_ hd
  generalize (opd σ.s g x).1 = z at hn hd
  cases z with
  | box k j => obtain ⟨b, -, h⟩ := hd; simp [execOp, ho, h]
  | xp k K i j => obtain ⟨b, N, c, -, h⟩ := hd; simp [execOp, ho, h]
  | ptr cs => obtain ⟨b, c, h, -⟩ := hd; simp [execOp, ho, h]
  | fn f ps => obtain ⟨us, h, -⟩ := hd; simp [execOp, ho, h]
  | _ => cases hn
theorem d1l_map (hg : g = true) : ∀ {xs : List Operand}, (∀ x ∈ xs, Okd G W σ.s a x) → argsD (xs.map (opd σ.s g)) → D1L G W ((xs.map (opd σ.s g)).map (·.1)) (xs.map a.eval)
  | [], _, _ => ⟨rfl, fun j x u h => by simp at h⟩
  | x :: xs, h, ho => by
    have g2 := d1l_map hg (xs := xs) (fun y hy => h y (List.mem_cons_of_mem _ hy)) ho.2
    refine ⟨by simp, fun j y u h4 h5 => ?_⟩
    cases j with
    | zero =>
      obtain rfl : (opd σ.s g x).1 = y := by simpa using h4
      obtain rfl : a.eval x = u := by simpa using h5
      exact opd_ok hg (h x List.mem_cons_self) ho.1
    | succ j => exact g2.2 j y u (by simpa using h4) (by simpa using h5)
theorem d1l_app {l l' : List S1} {us us' : List Value} (h : D1L G W l us) (h' : D1L G W l' us') : D1L G W (l ++ l') (us ++ us') := by
  refine ⟨by simp [h.1, h'.1], fun j x u h1 h2 => ?_⟩
  have hl := h.1
  by_cases hj : j < l.length
  · rw [List.getElem?_append_left hj] at h1
    rw [List.getElem?_append_left (by omega)] at h2
    exact h.2 j x u h1 h2
  · rw [List.getElem?_append_right (by omega)] at h1
    rw [List.getElem?_append_right (by omega), ← hl] at h2
    exact h'.2 _ x u h1 h2
theorem d1l_cps {ps : List Cp} {us : List Value} (h : DenCL G W ps us) : D1L G W (ps.map ofCp) us := ⟨by rw [List.length_map]; exact h.1, fun j x u h1 h2 => by
  rw [List.getElem?_map] at h1
  cases hp : ps[j]? with
  | none => rw [hp] at h1; cases h1
  | some c =>
    rw [hp] at h1
    obtain rfl := Option.some.inj h1
    have := h.2 j c u hp h2
    cases c with
    | c d => exact this
    | box k j => exact this
    | ptr cs => exact this⟩
theorem argsD_app : ∀ {l m : List (S1 × Prop)}, argsD (l ++ m) → argsD l
  | [], _, _ => trivial
  | x :: l, m, h => ⟨h.1, argsD_app (l := l) h.2⟩
theorem enters {f : FuncId} {vs : List Value} (hf : isFn P f = true) (h : ∀ fn, P.funcs[f]? = some fn → ¬ fn.name = "runtime.NumGoroutine" → ¬ fn.body = none → (execOp a.eval o).run P W = .ok (.enter f vs.toArray) W) : Enters P a W o f vs := by
  unfold isFn at hf
  cases hf' : P.funcs[f]? with
  | none => rw [hf'] at hf; cases hf
  | some fn =>
    rw [hf'] at hf
    simp only [Bool.and_eq_true, Bool.not_eq_true'] at hf
    exact h fn hf' (by simpa using hf.1) (fun h => by rw [h] at hf; simp at hf)
theorem ok_ev (hΓ : Snd P Γ) (hg : g = true) (hG : GOK M A0 G W) (hx : Chg M w0 W) (h1 : ∀ x ∈ o.op.operands.toList, Okd G W σ.s a x) (hb : ∀ k ∈ (ev P Γ σ ug g d o.op).rb, Hb G W k (gb σ.b k)) (hwb : ∀ p ∈ (ev P Γ σ ug g d o.op).wb, Hb G W p.1 (gb σ.b p.1)) (hwr : ∀ p ∈ (ev P Γ σ ug g d o.op).wr, Hr G W p.1 (gb σ.r p.1)) (hob : (ev P Γ σ ug g d o.op).ob) : DoesW P M A0 w0 G a W o (ev P Γ σ ug g d o.op) := by
  cases ho : o.op with
  | move x => rw [ho] at h1 hob; exact (ok_move hg hG hx (.inl ho) (h1 x (by simp [Op.operands])) hob).w
  | assign x => rw [ho] at h1 hob; exact (ok_move hg hG hx (.inr ho) (h1 x (by simp [Op.operands])) hob).w
  | pick c x y => rw [ho] at h1 hob; exact (ok_pick hg hG hx ho (h1 c (by simp [Op.operands])) (h1 x (by simp [Op.operands])) (h1 y (by simp [Op.operands])) hob).w
  | alloc t => rw [ho] at hwb hob; exact (ok_alloc hG hx ho hwb hob).w
  | box t x => rw [ho] at h1 hwb hob; exact (ok_box hg hG hx ho (h1 x (by simp [Op.operands])) hwb hob).w
  | build t ps => rw [ho] at h1 hob; exact (ok_build hg hG hx ho (fun p hp => h1 p.2 (by simp only [Op.operands, List.mem_map]; exact ⟨p, hp, rfl⟩)) hob).w
  | buildSlice t n ps => rw [ho] at h1 hwb hwr hob; exact (ok_lit hg hG hx ho (fun p hp => h1 p.2 (by simp only [Op.operands, List.mem_map]; exact ⟨p, hp, rfl⟩)) hwb hwr hob).w
  | load t x => rw [ho] at h1 hb hob; exact (ok_load hg hG hx ho (h1 x (by simp [Op.operands])) hb hob).w
  | store t x y => rw [ho] at h1 hwb hob; exact (ok_store hg hG hx ho (h1 x (by simp [Op.operands])) (h1 y (by simp [Op.operands])) hwb hob).w
  | binOp op t x y t' => rw [ho] at h1 hob; exact (ok_bin hg hG hx ho (h1 x (by simp [Op.operands])) (h1 y (by simp [Op.operands])) hob).w
  | unOp op t x => rw [ho] at h1 hob; exact (ok_un hg hG hx ho (h1 x (by simp [Op.operands])) hob).w
  | convert s t x => rw [ho] at h1 hob; exact (ok_conv hg hG hx ho (h1 x (by simp [Op.operands])) hob).w
  | slice t x lo hi mx =>
    cases mx with
    | none => rw [ho] at h1 hob; exact (ok_slice hg hG hx ho (h1 x (by simp [Op.operands])) (fun y hy => h1 y (by subst hy; simp [Op.operands])) (fun y hy => h1 y (by subst hy; simp [Op.operands])) hob).w
    | some m => rw [ho] at hob; exact hob.elim
  | fieldAddr t x f => rw [ho] at h1 hob; exact (ok_fieldAddr hg hG hx ho (h1 x (by simp [Op.operands])) hob).w
  | field t x f => rw [ho] at h1 hob; exact (ok_field hg hG hx ho (h1 x (by simp [Op.operands])) hob).w
  | indexAddr t x i => rw [ho] at h1 hob; exact (ok_indexAddr hg hG hx ho (h1 x (by simp [Op.operands])) (h1 i (by simp [Op.operands])) hob).w
  | index t x i => rw [ho] at h1 hob; exact (ok_index hg hG hx ho (h1 x (by simp [Op.operands])) (h1 i (by simp [Op.operands])) hob).w
  | extract t i => rw [ho] at h1 hob; exact (ok_extract hg hG hx ho (h1 t (by simp [Op.operands])) hob).w
  | makeSlice t x y =>
    rw [ho] at h1 hwb hob
    by_cases hxl : Γ.xl.contains (d + 1000000) = true
    · simp only [ev, hxl, if_true] at hwb hob ⊢
      exact (ok_makeP hg hG hx ho (h1 x (by simp [Op.operands])) (h1 y (by simp [Op.operands])) hob).w
    · simp only [ev, hxl, if_false, Bool.false_eq_true] at hwb hob ⊢
      exact (ok_make hg hG hx ho (h1 x (by simp [Op.operands])) (h1 y (by simp [Op.operands])) hwb hob).w
  | makeFunc f first cs => rw [ho] at h1 hob; exact (ok_fn hg hG hx ho (fun x hx' => h1 x (by simp only [Op.operands]; simp; right; simpa using hx')) hob).w
  | nilCheck x => rw [ho] at h1 hob; exact (ok_nil hg hG hx ho (h1 x (by simp [Op.operands])) hob).w
  | call c =>
    rw [ho] at h1 hb hwb hwr hob
    obtain ⟨callee, xs, ts⟩ := c
    change ∀ k ∈ (evCallee P Γ σ ug g d callee xs.toList ts.toList).rb, _ at hb
    change ∀ p ∈ (evCallee P Γ σ ug g d callee xs.toList ts.toList).wb, _ at hwb
    change ∀ p ∈ (evCallee P Γ σ ug g d callee xs.toList ts.toList).wr, _ at hwr
    change (evCallee P Γ σ ug g d callee xs.toList ts.toList).ob at hob
    show DoesW P M A0 w0 G a W o (evCallee P Γ σ ug g d callee xs.toList ts.toList)
    unfold evCallee at hob hwr hwb hb ⊢
    split at hob
    · next x y t t' hxs hts =>
      simp only [hxs, hts] at hwr hwb hb
      split at hob
      · next htt =>
        subst htt
        simp only [if_true] at hwr hwb hb ⊢
        rw [toArray_of hxs, toArray_of hts] at ho
        rw [toArray_of hxs] at h1
        exact (ok_app hg hG hx ho (h1 x (by simp [Op.operands, Call.operands])) (h1 y (by simp [Op.operands, Call.operands])) hb hwb hwr hob).w
      · exact hob.elim
    · next x t hxs hts =>
      rw [toArray_of hxs, toArray_of hts] at ho
      rw [toArray_of hxs] at h1
      exact (ok_len hg hG hx ho (h1 x (by simp [Op.operands, Call.operands])) hob).w
    · next x y hxs =>
      rw [toArray_of hxs] at ho h1
      exact (ok_mm hg hG hx (mx := false) ho (h1 x (by simp [Op.operands, Call.operands])) (h1 y (by simp [Op.operands, Call.operands])) hob).w
    · next x y hxs =>
      rw [toArray_of hxs] at ho h1
      exact (ok_mm hg hG hx (mx := true) ho (h1 x (by simp [Op.operands, Call.operands])) (h1 y (by simp [Op.operands, Call.operands])) hob).w
    · next f xs' =>
      have hxs : ∀ x ∈ xs.toList, Okd G W σ.s a x := fun x hx' => h1 x (by simp only [Op.operands, Call.operands]; simp; right; simpa using hx')
      refine ok_call (vs := xs.toList.map a.eval) hG hx hΓ (fun hfn had => ⟨enters hfn fun fn hf n1 n2 => ?_, d1l_map hg hxs had⟩) hb hwb hwr hob
      simp [execOp, ho, resolve, Deferred.ofValue, Act.eval, invoke, callFunc, hf, n1, n2]
      apply Array.toList_inj.1
      simp
    · next xs' t =>
      have hxs : ∀ x ∈ xs.toList, Okd G W σ.s a x := fun x hx' => h1 x (by simp only [Op.operands, Call.operands]; simp; right; simpa using hx')
      have ht : Okd G W σ.s a (.tmp t) := h1 _ (by simp [Op.operands, Call.operands])
      split at hob
      · next f ps p hop =>
        simp only [hop] at hwr hwb hb
        obtain ⟨hp, hob⟩ := hob
        have hd := opd_ok hg ht (by rw [hop]; exact hp)
        rw [hop] at hd
        obtain ⟨us, he, hcp⟩ := hd
        have := ok_call (P := P) (A0 := A0) (w0 := w0) (a := a) (o := o) (vs := xs.toList.map a.eval ++ us.toList) hG hx hΓ (fun hfn had => ⟨enters hfn fun fn hf n1 n2 => (by
          simp [execOp, ho, resolve, Deferred.ofValue, he, invoke, callFunc, hf, n1, n2]
          try (apply Array.toList_inj.1; simp)), by
          have e2 : ((ps.map fun c => ((ofCp c, True) : S1 × Prop)).map (·.1)) = ps.map ofCp := by rw [List.map_map]; rfl
          rw [List.map_append, e2]
          exact d1l_app (d1l_map hg hxs (argsD_app had)) (d1l_cps hcp)⟩) hb hwb hwr hob
        exact this
      · exact hob.elim
    · exact hob.elim
  | _ => rw [ho] at hob; exact hob.elim
/-- The guard's word. -/
def gd (ops : Array Oper) (σ : St) (o : Oper) : Bool × Prop := match o.guard with
  | none => (true, True)
  | some (j, want) => match (ops[j]?).bind (·.dst) with
    | some t => match gs σ.s t with
      | .v g' (.c (.bool b)) => (g' && (if want then b else !b), True)
      | _ => (false, False)
    | none => (false, False)
def sv (g : Bool) : Option V1 → SV
  | some (.one x) => .v g x
  | some (.tup l) => .tup g l
  | none => .top
def evO (P : Program) (Γ : Cx) (ops : Array Oper) (σ : St) (o : Oper) : Ev := ev P Γ σ o.guard.isNone (gd ops σ o).1 (o.dst.getD 0) o.op
def nx (P : Program) (Γ : Cx) (ops : Array Oper) (σ : St) (o : Oper) : St :=
  ⟨match o.dst with
    | some d => (d, sv (gd ops σ o).1 (evO P Γ ops σ o).x) :: σ.s
    | none => σ.s, (evO P Γ ops σ o).wb ++ σ.b, (evO P Γ ops σ o).wr ++ σ.r⟩
def obl (P : Program) (Γ : Cx) (ops : Array Oper) (σ : St) (o : Oper) : Prop :=
  (gd ops σ o).2 ∧ ((gd ops σ o).1 = true → (evO P Γ ops σ o).ob) ∧ (((evO P Γ ops σ o).wb.isEmpty && (evO P Γ ops σ o).wr.isEmpty) = true ∨ (gd ops σ o).1 = true)
def lookO (ops : Array Oper) (o : Oper) : List Nat :=
  (o.op.operands.toList.filterMap fun | .tmp t => some t | _ => none) ++ (match o.guard with
    | some (g, _) => ((ops[g]?).bind (·.dst)).toList
    | none => [])
theorem undef_of {v : Value} (h : v = undef) : ∀ b, v ≠ .bool b := fun b e => by
  rw [h] at e
  cases e
/-- One operation of a region. -/
theorem step_ok {ops : Array Oper} (hΓ : Snd P Γ) (hG : GOK M A0 G W) (hx : Chg M w0 W) (hs : ∀ t ∈ lookO ops o, Hs G W (gs σ.s t) (V a t)) (hb : ∀ k ∈ (evO P Γ ops σ o).rb, Hb G W k (gb σ.b k)) (hwb : ∀ p ∈ (evO P Γ ops σ o).wb, Hb G W p.1 (gb σ.b p.1)) (hwr : ∀ p ∈ (evO P Γ ops σ o).wr, Hr G W p.1 (gb σ.r p.1)) (hob : obl P Γ ops σ o)
    (K : Act → World → Prop) (Q : Exit → Act → World → Prop)
    (k : ∀ v W' G', GOK M A0 G' W' → Chg M w0 W' → Evo ((evO P Γ ops σ o).wb.map (·.1)) ((evO P Γ ops σ o).wr.map (·.1)) G W G' W' → Hs G' W' (sv (gd ops σ o).1 (evO P Γ ops σ o).x) v → (∀ p ∈ (evO P Γ ops σ o).wb, Hb G' W' p.1 (some p.2)) → (∀ p ∈ (evO P Γ ops σ o).wr, Hr G' W' p.1 (some p.2)) → K (a.put o.dst v) W') :
    if Region.wanted o (yielded ops a.tmps) = true then o.wp P a W K Q else K (a.put o.dst undef) W := by
  obtain ⟨o1, o2, o3⟩ := hob
  have hwant : Region.wanted o (yielded ops a.tmps) = (gd ops σ o).1 := by
    unfold gd at o1 ⊢
    unfold Region.wanted
    cases hgd : o.guard with
    | none => rfl
    | some jw =>
      obtain ⟨j, want⟩ := jw
      rw [hgd] at o1
      dsimp only at o1 ⊢
      cases ht : (ops[j]?).bind (·.dst) with
      | none => rw [ht] at o1; exact o1.elim
      | some t =>
        have h1 := hs t (by unfold lookO; rw [hgd]; simp [ht])
        rw [ht] at o1
        dsimp only at o1 ⊢
        unfold yielded
        rw [ht]
        dsimp only [Option.bind_some]
        cases hsv : gs σ.s t with
        | top => rw [hsv] at o1; exact o1.elim
        | tup g' l => rw [hsv] at o1; exact o1.elim
        | v g' x =>
          rw [hsv] at o1 h1
          cases x with
          | c dd =>
            cases dd with
            | bool b =>
              dsimp only
              cases g' with
              | true =>
                have h2 : V a t = .bool b := D1_bool (h1.1 rfl)
                have h3 : a.tmps[t]? = some (.bool b) := by
                  unfold V at h2
                  cases h4 : a.tmps[t]? with
                  | none => rw [h4] at h2; cases h2
                  | some u => rw [h4] at h2; obtain rfl : u = .bool b := h2; rfl
                rw [h3]
                cases b <;> cases want <;> rfl
              | false =>
                have h2 : V a t = undef := h1.2 rfl
                have h3 : ∀ b, a.tmps[t]? ≠ some (.bool b) := fun b e => by
                  unfold V at h2
                  rw [e] at h2
                  cases h2
                cases h4 : a.tmps[t]? with
                | none => rfl
                | some u =>
                  cases u with
                  | bool b => exact absurd h4 (h3 b)
                  | _ => rfl
            | int | sl | nl | lk => exact o1.elim
          | _ => exact o1.elim
  rw [hwant]
  cases hgv : (gd ops σ o).1 with
  | true =>
    rw [if_pos rfl]
    have hE := ok_ev (P := P) (Γ := Γ) (σ := σ) (ug := o.guard.isNone) (g := (gd ops σ o).1) (d := o.dst.getD 0) (o := o) (a := a) hΓ hgv hG hx (fun x hx' => by
      cases x with
      | tmp t => exact hs t (by unfold lookO; simp only [List.mem_append, List.mem_filterMap]; exact .inl ⟨_, hx', rfl⟩)
      | _ => trivial) hb hwb hwr (o2 hgv)
    refine hE K Q (fun v W' G' k1 k2 k3 k4 k5 k6 => k v W' G' k1 k2 k3 ?_ k5 k6)
    change Vd G' W' (evO P Γ ops σ o).x v at k4
    rw [hgv]
    cases hxv : (evO P Γ ops σ o).x with
    | none => trivial
    | some y =>
      rw [hxv] at k4
      cases y with
      | one x => exact ⟨fun _ => k4, fun h => by cases h⟩
      | tup l => exact ⟨fun _ => k4, fun h => by cases h⟩
  | false =>
    rw [if_neg (by decide)]
    have h3 := o3.resolve_right (by rw [hgv]; decide)
    simp only [Bool.and_eq_true, List.isEmpty_iff] at h3
    refine k undef W G hG hx ?_ ?_ ?_ ?_
    · rw [h3.1, h3.2]; exact Evo.refl _ _
    · rw [hgv]
      cases hxv : (evO P Γ ops σ o).x with
      | none => trivial
      | some y => cases y <;> exact ⟨fun h => (by cases h), fun _ => rfl⟩
    · rw [h3.1]; exact nofun
    · rw [h3.2]; exact nofun
/-- All that is known. -/
structure RR (M : Nat → Prop) (A0 : Pr) (w0 : World) (N : Nat) (df : List Deferred) (G : Gh) (σ : St) (a : Act) (W : World) : Prop where
  ok : GOK M A0 G W
  ext : Chg M w0 W
  size : a.tmps.size = N
  df : a.defers = df
  s : ∀ t, Hs G W (gs σ.s t) (V a t)
  b : ∀ k, Hb G W k (gb σ.b k)
  r : ∀ t, Hr G W t (gb σ.r t)
theorem gb_app {α : Type} : ∀ (l m : List (Nat × α)) (k : Nat), gb (l ++ m) k = match gb l k with
    | some x => some x
    | none => gb m k
  | [], m, k => rfl
  | (k', x) :: l, m, k => by
    simp only [List.cons_append, gb]
    split
    · rfl
    · exact gb_app l m k
theorem gb_none {α : Type} : ∀ {l : List (Nat × α)} {k : Nat}, k ∉ l.map (·.1) → gb l k = none
  | [], _, _ => rfl
  | (k', x) :: l, k, h => by
    simp only [List.map_cons, List.mem_cons, not_or] at h
    unfold gb
    rw [if_neg (fun e => h.1 e.symm)]
    exact gb_none h.2
theorem gb_some {α : Type} : ∀ {l : List (Nat × α)} {k : Nat}, k ∈ l.map (·.1) → ∃ x, gb l k = some x ∧ (k, x) ∈ l
  | (k', x) :: l, k, h => by
    unfold gb
    by_cases hk : k' = k
    · subst hk
      rw [if_pos rfl]
      exact ⟨x, rfl, List.mem_cons_self⟩
    · rw [if_neg hk]
      have : k ∈ l.map (·.1) := by
        rcases List.mem_cons.1 h with h | h
        · exact absurd h.symm hk
        · exact h
      obtain ⟨y, h1, h2⟩ := gb_some this
      exact ⟨y, h1, List.mem_cons_of_mem _ h2⟩
/-- A region in the text's order. -/
def wpR (P : Program) (Γ : Cx) (ops : Array Oper) : List Oper → St → (St → Prop) → Prop
  | [], σ, K => K σ
  | o :: rest, σ, K => obl P Γ ops σ o ∧ wpR P Γ ops rest (nx P Γ ops σ o) K
theorem seq_ok {ops : Array Oper} {Q : Exit → Act → World → Prop} {N : Nat} {df : List Deferred} {K : St → Prop} (hΓ : Snd P Γ) (hfit : fits ops N = true) (hK : ∀ σ G a W, K σ → RR M A0 w0 N df G σ a W → Q .normal a W) :
    ∀ (rest : List Oper) (σ : St) (G : Gh) (a : Act) (W : World), (∀ o ∈ rest, o ∈ ops.toList) → wpR P Γ ops rest σ K → RR M A0 w0 N df G σ a W → wpList P ops Q rest a W
  | [], σ, G, a, W, _, h, hR => hK σ G a W h hR
  | o :: rest, σ, G, a, W, hm, h, hR => by
    obtain ⟨hob, hrest⟩ := h
    have hdl : ∀ d, o.dst = some d → d < a.tmps.size := fun d hd => by
      unfold fits at hfit
      rw [List.all_eq_true] at hfit
      have := hfit o (hm o List.mem_cons_self)
      rw [hd] at this
      rw [hR.size]
      simpa using this
    have hst := step_ok (o := o) (a := a) (σ := σ) (ops := ops) hΓ hR.ok hR.ext (fun t _ => hR.s t) (fun k _ => hR.b k) (fun p _ => hR.b p.1) (fun p _ => hR.r p.1) hob (wpList P ops Q rest) Q (fun v W' G' k1 k2 k3 k4 k5 k6 => by
      refine seq_ok hΓ hfit hK rest _ G' _ W' (fun o' ho' => hm o' (List.mem_cons_of_mem _ ho')) hrest ⟨k1, k2, ?_, ?_, fun t => ?_, fun k => ?_, fun t => ?_⟩
      · rw [← hR.size]; cases o.dst <;> simp [Act.put]
      · rw [← hR.df]; cases o.dst <;> rfl
      · unfold nx
        dsimp only
        cases hd : o.dst with
        | none => exact (hR.s t).evo k3
        | some d =>
          dsimp only
          rw [V_put (hdl d hd)]
          unfold gs
          by_cases htd : d = t
          · subst htd
            rw [if_pos rfl, if_pos rfl]
            exact k4
          · rw [if_neg htd, if_neg (fun e => htd e.symm)]
            exact (hR.s t).evo k3
      · unfold nx
        dsimp only
        rw [gb_app]
        by_cases hk : k ∈ (evO P Γ ops σ o).wb.map (·.1)
        · obtain ⟨x, h1, h2⟩ := gb_some hk
          rw [h1]
          exact k5 _ h2
        · rw [gb_none hk]
          exact (hR.b k).evo k3 hk
      · unfold nx
        dsimp only
        rw [gb_app]
        by_cases hk : t ∈ (evO P Γ ops σ o).wr.map (·.1)
        · obtain ⟨x, h1, h2⟩ := gb_some hk
          rw [h1]
          exact k6 _ h2
        · rw [gb_none hk]
          exact (hR.r t).evo k3 hk)
    unfold wpList
    split
    · next hwd => rw [if_pos hwd] at hst; exact .inl hst
    · next hwd => rw [if_neg hwd] at hst; exact hst
end
end Go.Proofs.Ytmngjifcgfnogaa.Dq
