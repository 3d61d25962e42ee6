/- Deep values: calls; all operations. No program in sight. -/
import Derived.Test.YtlhmifkimnmnmaaDp6
namespace Go.Proofs.Ytlhmifkimnmnmaa.Dp
set_option linter.unusedSimpArgs false
set_option linter.unusedVariables false
open Go.RowKit

/-- What a call gives. -/
inductive R1 where
  | c (d : D)
  | agg (l : List D)
  | own (e : TypeId) (K : Nat) (l : List (List D))
inductive CR where
  | one (x : R1)
  | tup (l : List R1)
def RD (A : Pr) (base : Nat) (w : World) : R1 → Value → Prop
  | .c d, v => Den A w d v
  | .agg l, v => ∃ us, v = .agg us ∧ DenL A w l us.toList
  | .own e K l, v => Den A w (.sl l) v ∧ (∀ cs ∈ l, cs.length = K) ∧ (∃ cs, w.ownsRow base e K v l.length cs) ∧ ∀ g, v.ownBlock = some g → ∀ i, A g i → i < l.length * K
def RDs (A : Pr) (base : Nat) (w : World) : CR → Value → Prop
  | .one x, v => RD A base w x v
  | .tup l, v => ∃ us, v = .tuple us ∧ l.length = us.size ∧ ∀ (j : Nat) x u, l[j]? = some x → us[j]? = some u → RD A base w x u
def gh (A : Pr) : Gh := ⟨A, fun _ => none, fun _ => none⟩
/-- A function's contract. -/
def Cal (P : Program) (f : FuncId) (args : List S1) (res : CR) : Prop :=
  ∀ (A : Pr) (w : World) (vs : List Value), (∀ b i, A b i → b < w.heap.size) → D1L (gh A) w args vs →
    Calls P f vs.toArray w fun e w' => ∃ v A', e = .returned v ∧ Ext w w' ∧ (∀ b i, A b i → A' b i) ∧ (∀ b i, A' b i → b < w'.heap.size ∧ (b < w.heap.size → A b i)) ∧ RDs A' w.heap.size w' res v
abbrev Cts := List (FuncId × (List S1 → CR × Prop))
def Snd (P : Program) (Γ : Cts) : Prop := ∀ p ∈ Γ, ∀ args, (p.2 args).2 → Cal P p.1 args (p.2 args).1
def isFn (P : Program) (f : FuncId) : Bool := match P.funcs[f]? with
  | some fn => !(fn.name == "runtime.NumGoroutine") && !fn.body.isNone
  | none => false
def dem : S1 → S1
  | .own _ _ l => .c (.sl l)
  | .nil => .c (.sl [])
  | x => x
def noBox : S1 → Bool
  | .box _ _ => false
  | _ => true
def cv (ug : Bool) (d : Nat) : R1 → S1
  | .c x => .c x
  | .agg l => .agg l
  | .own _ K l => if ug then .own d K l else .c (.sl l)
def isOwn : R1 → Bool
  | .own _ _ _ => true
  | _ => false
def cvL (ug : Bool) (d : Nat) : List R1 → List S1
  | [] => []
  | x :: l => cv ug d x :: cvL (ug && !isOwn x) d l
def wrL (ug : Bool) (d : Nat) : List R1 → List (Nat × RowI)
  | [] => []
  | .own e K l :: r => if ug then [(d, ⟨e, K, l.length⟩)] else wrL ug d r
  | _ :: r => wrL ug d r
def argsOb : List (S1 × Prop) → Prop
  | [] => True
  | x :: l => (x.2 ∧ noBox x.1 = true) ∧ argsOb l
def evCall (P : Program) (Γ : Cts) (s : List (Nat × SV)) (rx : List (Nat × RowI)) (ug : Bool) (g : Bool) (d : Nat) (f : FuncId) (xs : List Operand) : Ev := match gb Γ f with
  | some F => match (F (xs.map fun x => dem (opd s g x).1)).1 with
    | .one x => { x := some (.one (cv ug d x)), ob := isFn P f = true ∧ argsOb (xs.map (opd s g)) ∧ (F (xs.map fun x => dem (opd s g x).1)).2 ∧ ((wrL ug d [x]).isEmpty = true ∨ gb rx d = none), wr := wrL ug d [x] }
    | .tup l => { x := some (.tup (cvL ug d l)), ob := isFn P f = true ∧ argsOb (xs.map (opd s g)) ∧ (F (xs.map fun x => dem (opd s g x).1)).2 ∧ ((wrL ug d l).isEmpty = true ∨ gb rx d = none), wr := wrL ug d l }
  | none => bad
section
variable {P : Program} {base : Nat} {A0 : Pr} {w0 : World} {G : Gh} {a : Act} {W : World} {o : Oper}
theorem gb_mem {α : Type} : ∀ {l : List (Nat × α)} {k : Nat} {x : α}, gb l k = some x → (k, x) ∈ l
  | (k', y) :: l, k, x, h => by
    unfold gb at h
    split at h
    · next hk => subst hk; obtain rfl := Option.some.inj h; exact List.mem_cons_self
    · exact List.mem_cons_of_mem _ (gb_mem h)
  | [], _, _, h => by cases h
theorem dem_ok {x : S1} {v : Value} (h : D1 G W x v) (hn : noBox x = true) : D1 (gh G.A) W (dem x) v := by
  cases x with
  | c d => exact h
  | agg l => exact h
  | own t K l => exact h.1
  | box k off => cases hn
  | ptr cs => exact h
  | nil => obtain rfl := h; exact Den.nil _ _
  | k x => exact h
/-- What an operation does: calls too. -/
def DoesW (P : Program) (base : Nat) (A0 : Pr) (w0 : World) (G : Gh) (a : Act) (W : World) (o : Oper) (e : Ev) : Prop :=
  ∀ (K : Act → World → Prop) (Q : Exit → Act → World → Prop), (∀ v W' G', GOK base A0 G' W' → Ext w0 W' → Evo (e.wb.map (·.1)) (e.wr.map (·.1)) G W G' W' → Vd G' W' e.x v → (∀ p ∈ e.wb, Hb G' W' p.1 (some p.2)) → (∀ p ∈ e.wr, Hr base G' W' p.1 (some p.2)) → K (a.put o.dst v) W') → o.wp P a W K Q
theorem Does.w {e : Ev} (h : Does P base A0 w0 G a W o e) : DoesW P base A0 w0 G a W o e := by
  intro K Q k
  obtain ⟨v, W', G', n, hr, hn, h1, h2, h3, h4, h5, h6⟩ := h
  unfold Oper.wp
  rw [hr]
  have := k v W' G' h1 h2 h3 h4 h5 h6
  rcases hn with rfl | ⟨rfl, rfl⟩ <;> exact this
theorem wrL_own {ug : Bool} {d : Nat} : ∀ {l : List R1}, (wrL ug d l).isEmpty = true → ∀ x ∈ l, isOwn x = true → ug = false
  | .own e K l :: r, h, x, hx, ho => by
    cases ug
    · rfl
    · simp [wrL] at h
  | .c _ :: r, h, x, hx, ho => by
    rcases List.mem_cons.1 hx with rfl | hx
    · cases ho
    · exact wrL_own (l := r) h x hx ho
  | .agg _ :: r, h, x, hx, ho => by
    rcases List.mem_cons.1 hx with rfl | hx
    · cases ho
    · exact wrL_own (l := r) h x hx ho
/-- Results, as the caller has them. -/
theorem cvL_plain {A : Pr} {b : Nat} {G' : Gh} {W' : World} (hA : G'.A = A) {d : Nat} {x : R1} {v : Value} (h : RD A b W' x v) : D1 G' W' (cv false d x) v := by
  subst hA
  cases x with
  | c x => exact h
  | agg l => exact h
  | own e K l => exact h.1
theorem cvL_len {ug : Bool} {d : Nat} : ∀ {l : List R1}, (cvL ug d l).length = l.length
  | [] => rfl
  | x :: l => by simp [cvL, cvL_len (l := l)]
theorem cvL_false {d : Nat} : ∀ {l : List R1} {j : Nat} {y : S1}, (cvL false d l)[j]? = some y → ∃ x, l[j]? = some x ∧ y = cv false d x
  | [], j, y, h => by simp [cvL] at h
  | x :: l, 0, y, h => ⟨x, rfl, by simpa [cvL] using h.symm⟩
  | x :: l, j + 1, y, h => by
    simp only [cvL, Bool.false_and, List.getElem?_cons_succ] at h
    obtain ⟨x', h1, h2⟩ := cvL_false h
    exact ⟨x', by simpa using h1, h2⟩
/-- The one that may grow, if there is one. -/
theorem own_split {ug : Bool} {d : Nat} : ∀ (l : List R1), ((wrL ug d l) = [] ∧ ∀ (j : Nat) y, (cvL ug d l)[j]? = some y → ∃ x, l[j]? = some x ∧ y = cv false d x) ∨
    (∃ (i : Nat) (e : TypeId) (K : Nat) (ls : List (List D)), l[i]? = some (.own e K ls) ∧ wrL ug d l = [(d, ⟨e, K, ls.length⟩)] ∧ ∀ (j : Nat) y, (cvL ug d l)[j]? = some y → (j = i ∧ y = .own d K ls) ∨ ∃ x, l[j]? = some x ∧ y = cv false d x)
  | [] => .inl ⟨rfl, fun j y h => by simp [cvL] at h⟩
  | x :: l => by
    cases ug with
    | false =>
      refine .inl ⟨?_, fun j y h => cvL_false h⟩
      have : ∀ l : List R1, wrL false d l = [] := fun l => by
        induction l with
        | nil => rfl
        | cons x l ih => cases x <;> simp [wrL, ih]
      exact this _
    | true =>
      cases x with
      | own e K ls =>
        refine .inr ⟨0, e, K, ls, rfl, by simp [wrL], fun j y h => ?_⟩
        cases j with
        | zero => exact .inl ⟨rfl, by simpa [cvL, cv] using h.symm⟩
        | succ j =>
          simp only [cvL, isOwn, Bool.not_true, Bool.and_false, List.getElem?_cons_succ] at h
          obtain ⟨x', h1, h2⟩ := cvL_false h
          exact .inr ⟨x', by simpa using h1, h2⟩
      | c z =>
        rcases own_split (ug := true) (d := d) l with ⟨h1, h2⟩ | ⟨i, e, K, ls, h1, h2, h3⟩
        · refine .inl ⟨by simpa [wrL] using h1, fun j y h => ?_⟩
          cases j with
          | zero => exact ⟨.c z, rfl, by simpa [cvL, cv] using h.symm⟩
          | succ j =>
            obtain ⟨x', g1, g2⟩ := h2 j y (by simpa [cvL, isOwn] using h)
            exact ⟨x', by simpa using g1, g2⟩
        · refine .inr ⟨i + 1, e, K, ls, by simpa using h1, by simpa [wrL] using h2, fun j y h => ?_⟩
          cases j with
          | zero => exact .inr ⟨.c z, rfl, by simpa [cvL, cv] using h.symm⟩
          | succ j =>
            rcases h3 j y (by simpa [cvL, isOwn] using h) with ⟨rfl, g⟩ | ⟨x', g1, g2⟩
            · exact .inl ⟨rfl, g⟩
            · exact .inr ⟨x', by simpa using g1, g2⟩
      | agg z =>
        rcases own_split (ug := true) (d := d) l with ⟨h1, h2⟩ | ⟨i, e, K, ls, h1, h2, h3⟩
        · refine .inl ⟨by simpa [wrL] using h1, fun j y h => ?_⟩
          cases j with
          | zero => exact ⟨.agg z, rfl, by simpa [cvL, cv] using h.symm⟩
          | succ j =>
            obtain ⟨x', g1, g2⟩ := h2 j y (by simpa [cvL, isOwn] using h)
            exact ⟨x', by simpa using g1, g2⟩
        · refine .inr ⟨i + 1, e, K, ls, by simpa using h1, by simpa [wrL] using h2, fun j y h => ?_⟩
          cases j with
          | zero => exact .inr ⟨.agg z, rfl, by simpa [cvL, cv] using h.symm⟩
          | succ j =>
            rcases h3 j y (by simpa [cvL, isOwn] using h) with ⟨rfl, g⟩ | ⟨x', g1, g2⟩
            · exact .inl ⟨rfl, g⟩
            · exact .inr ⟨x', by simpa using g1, g2⟩
/-- Behind a call: what is known of memory. -/
theorem call_ghost (hG : GOK base A0 G W) {W' : World} {A' : Pr} (hx : Ext W W') (h1 : ∀ b i, G.A b i → A' b i) (h2 : ∀ b i, A' b i → b < W'.heap.size ∧ (b < W.heap.size → G.A b i)) :
    GOK base A0 { G with A := A' } W' ∧ Evo [] [] G W { G with A := A' } W' := by
  have hG' := hG.ext hx
  have hE := Evo.ext hG hx
  refine ⟨⟨hG'.le, fun b i h => ⟨(h2 b i h).1, fun hb => ?_⟩, fun k b hk => ⟨(hG'.box k b hk).1, (hG'.box k b hk).2.1, fun i h => ?_⟩, hG'.boxI, fun t u K g k1 k2 => ⟨(hG'.row t u K g k1 k2).1, (hG'.row t u K g k1 k2).2.1, (hG'.row t u K g k1 k2).2.2.1, fun i h => ?_⟩, hG'.rowI⟩, ⟨hE.keep, h1, hE.β, hE.β0, hE.box, hE.ρ, hE.ρ0, hE.row⟩⟩
  · exact (hG.lt b i ((h2 b i h).2 (Nat.lt_of_lt_of_le hb hG.le))).2 hb
  · exact (hG.box k b hk).2.2 i ((h2 b i h).2 (hG.box k b hk).2.1)
  · exact (hG.row t u K g k1 k2).2.2.2 i ((h2 g i h).2 (hG.row t u K g k1 k2).2.1)
theorem call_own (hG : GOK base A0 G W) {W' : World} {A' : Pr} (hx : Ext W W') (h1 : ∀ b i, G.A b i → A' b i) (h2 : ∀ b i, A' b i → b < W'.heap.size ∧ (b < W.heap.size → G.A b i)) {d : Nat} (hρ : G.ρ d = none) {e : TypeId} {K : Nat} {l : List (List D)} {v : Value} (h : RD A' W.heap.size W' (.own e K l) v) :
    GOK base A0 { A := A', β := G.β, ρ := fun t => if t = d then some (v, K) else G.ρ t } W' ∧ Evo [] [d] G W { A := A', β := G.β, ρ := fun t => if t = d then some (v, K) else G.ρ t } W' ∧ Hr base { A := A', β := G.β, ρ := fun t => if t = d then some (v, K) else G.ρ t } W' d (some ⟨e, K, l.length⟩) ∧ D1 { A := A', β := G.β, ρ := fun t => if t = d then some (v, K) else G.ρ t } W' (.own d K l) v := by
  obtain ⟨k1, k2⟩ := call_ghost hG hx h1 h2
  obtain ⟨g1, g2, ⟨cs, g3⟩, g4⟩ := h
  obtain ⟨ad, c, hv⟩ := den_len g1
  have hsl : slen v = l.length := by rw [hv]; rfl
  obtain ⟨m1, m2⟩ := tag_row k1 (d := d) hρ (own_base g3 hG.le) hsl (fun g hgg => by
    have := (g3.lt g hgg).1
    refine ⟨fun k hk => ?_, fun t u' K' h h' => ?_, g4 g hgg⟩
    · have := (hG.box k g hk).2.1; omega
    · have := (hG.row t u' K' g h h').2.1; omega)
  exact ⟨m1, evo_tag k2 hρ _, m2, g1, g2, v, by simp, Nat.le_refl _, fun _ => rfl⟩
variable {s : List (Nat × SV)} {rx : List (Nat × RowI)} {g : Bool} (hg : g = true) (hG : GOK base A0 G W) (hx : Ext w0 W)
include hg hG hx
omit hG hx in
theorem args_ok {xs : List Operand} (h : ∀ x ∈ xs, Okd G W s a x) (hob : argsOb (xs.map (opd s g))) : D1L (gh G.A) W (xs.map fun x => dem (opd s g x).1) (xs.map a.eval) := by
  induction xs with
  | nil => exact ⟨rfl, fun j x u h => by simp at h⟩
  | cons x xs ih =>
    obtain ⟨⟨h1, h2⟩, h3⟩ := hob
    obtain ⟨g1, g2⟩ := ih (fun y hy => h y (List.mem_cons_of_mem _ hy)) h3
    refine ⟨by simp, fun j y u h4 h5 => ?_⟩
    cases j with
    | zero =>
      obtain rfl : dem (opd s g x).1 = y := by simpa using h4
      obtain rfl : a.eval x = u := by simpa using h5
      exact dem_ok (opd_ok hg (h x List.mem_cons_self) h1) h2
    | succ j => exact g2 j y u (by simpa using h4) (by simpa using h5)
theorem ok_call {Γ : Cts} (hΓ : Snd P Γ) {f : FuncId} {xs : Array Operand} {ts : Array TypeId} {d : Nat} {ug : Bool} (ho : o.op = .call { callee := .value (.func f), args := xs, argTypes := ts }) (h1 : ∀ x ∈ xs.toList, Okd G W s a x) (hr : ∀ p ∈ (evCall P Γ s rx ug g d f xs.toList).wr, Hr base G W p.1 (gb rx p.1)) (hob : (evCall P Γ s rx ug g d f xs.toList).ob) : DoesW P base A0 w0 G a W o (evCall P Γ s rx ug g d f xs.toList) := by
  have fin : ∀ (F : List S1 → CR × Prop) (e : Ev) (r : CR), gb Γ f = some F → isFn P f = true → argsOb (xs.toList.map (opd s g)) → (F (xs.toList.map fun x => dem (opd s g x).1)).2 → (F (xs.toList.map fun x => dem (opd s g x).1)).1 = r →
      (∀ v W' A', Ext W W' → (∀ b i, G.A b i → A' b i) → (∀ b i, A' b i → b < W'.heap.size ∧ (b < W.heap.size → G.A b i)) → RDs A' W.heap.size W' r v → ∃ G', GOK base A0 G' W' ∧ Evo (e.wb.map (·.1)) (e.wr.map (·.1)) G W G' W' ∧ Vd G' W' e.x v ∧ (∀ p ∈ e.wb, Hb G' W' p.1 (some p.2)) ∧ ∀ p ∈ e.wr, Hr base G' W' p.1 (some p.2)) → DoesW P base A0 w0 G a W o e := by
    intro F e r hF hfn hao hpre hres hk K Q k
    have hcal := hΓ _ (gb_mem hF) _ hpre
    dsimp only at hcal
    rw [hres] at hcal
    have hC := hcal G.A W (xs.toList.map a.eval) (fun b i h => (hG.lt b i h).1) (args_ok hg h1 hao)
    unfold isFn at hfn
    cases hf : P.funcs[f]? with
    | none => rw [hf] at hfn; cases hfn
    | some fn =>
      rw [hf] at hfn
      simp only [Bool.and_eq_true, Bool.not_eq_true'] at hfn
      have hrun : (execOp a.eval o).run P W = .ok (.enter f (xs.toList.map a.eval).toArray) W := by
        have n1 : ¬ fn.name = "runtime.NumGoroutine" := by simpa using hfn.1
        have n2 : ¬ fn.body = Option.none := fun h => by rw [h] at hfn; simp at hfn
        simp [execOp, ho, resolve, Deferred.ofValue, Act.eval, invoke, callFunc, hf, n1, n2]
        apply Array.toList_inj.1
        simp
      unfold Oper.wp
      rw [hrun, Oper.upon_enter]
      refine hC.mono (fun e' w' he => ?_)
      obtain ⟨v, A', rfl, hxe, k1, k2, k3⟩ := he
      obtain ⟨G', m1, m2, m3, m4, m5⟩ := hk v w' A' hxe k1 k2 k3
      exact k v w' G' m1 (hx.trans hxe) m2 m3 m4 m5
  unfold evCall at hob hr ⊢
  split at hob
  · next F hF =>
    simp only [hF] at hr
    split at hob
    · next x hres =>
      simp only [hres] at hr
      obtain ⟨b1, b2, b3, b4⟩ := hob
      refine fin F _ (.one x) hF b1 b2 b3 hres (fun v W' A' hxe k1 k2 k3 => ?_)
      rcases own_split (ug := ug) (d := d) [x] with ⟨e1, e2⟩ | ⟨i, e, K, ls, e1, e2, e3⟩
      · obtain ⟨m1, m2⟩ := call_ghost hG hxe k1 k2
        obtain ⟨x', e3, e4⟩ := e2 0 (cv ug d x) rfl
        obtain rfl : x = x' := by simpa using e3
        refine ⟨_, m1, ?_, ?_, nofun, ?_⟩
        · dsimp only; rw [e1]; exact m2
        · show D1 _ _ (cv ug d x) v
          rw [e4]
          exact cvL_plain rfl k3
        · dsimp only; rw [e1]; exact nofun
      · have hi : i = 0 := by
          have := (List.getElem?_eq_some_iff.1 e1).1
          simpa using this
        subst hi
        obtain rfl : x = .own e K ls := by simpa using e1
        have hρ := hr _ (by rw [e2]; exact List.mem_singleton.2 rfl)
        dsimp only at hρ
        rw [b4.resolve_left (by rw [e2]; simp)] at hρ
        obtain ⟨m1, m2, m3, m4⟩ := call_own hG hxe k1 k2 hρ k3
        have hug : ug = true := by
          cases ug
          · simp [wrL] at e2
          · rfl
        subst hug
        refine ⟨_, m1, ?_, m4, nofun, ?_⟩
        · dsimp only; rw [e2]; exact m2
        · dsimp only; rw [e2]; intro p hp; obtain rfl := List.mem_singleton.1 hp; exact m3
    · next l hres =>
      simp only [hres] at hr
      obtain ⟨b1, b2, b3, b4⟩ := hob
      refine fin F _ (.tup l) hF b1 b2 b3 hres (fun v W' A' hxe k1 k2 k3 => ?_)
      obtain ⟨us, rfl, hlen, hel⟩ := k3
      rcases own_split (ug := ug) (d := d) l with ⟨e1, e2⟩ | ⟨i, e, K, ls, e1, e2, e3⟩
      · obtain ⟨m1, m2⟩ := call_ghost hG hxe k1 k2
        refine ⟨_, m1, ?_, ⟨us, rfl, by rw [cvL_len, hlen]; simp, fun j y u h4 h5 => ?_⟩, nofun, ?_⟩
        · dsimp only; rw [e1]; exact m2
        · obtain ⟨x', e3, rfl⟩ := e2 j y h4
          exact cvL_plain rfl (hel j x' u e3 (by simpa using h5))
        · dsimp only; rw [e1]; exact nofun
      · have hρ := hr _ (by rw [e2]; exact List.mem_singleton.2 rfl)
        dsimp only at hρ
        rw [b4.resolve_left (by rw [e2]; simp)] at hρ
        have hlt := (List.getElem?_eq_some_iff.1 e1).1
        have hu : us[i]? = some us[i] := Array.getElem?_eq_getElem (by omega)
        obtain ⟨m1, m2, m3, m4⟩ := call_own hG hxe k1 k2 hρ (hel i _ _ e1 hu)
        refine ⟨_, m1, ?_, ⟨us, rfl, by rw [cvL_len, hlen]; simp, fun j y u h4 h5 => ?_⟩, nofun, ?_⟩
        · dsimp only; rw [e2]; exact m2
        · rcases e3 j y h4 with ⟨rfl, rfl⟩ | ⟨x', e4, rfl⟩
          · have h6 : us[j]? = some u := by simpa using h5
            rw [hu] at h6
            obtain rfl := Option.some.inj h6
            exact m4
          · exact cvL_plain rfl (hel j x' u e4 (by simpa using h5))
        · dsimp only; rw [e2]; intro p hp; obtain rfl := List.mem_singleton.1 hp; exact m3
  · exact hob.elim
end
end Go.Proofs.Ytlhmifkimnmnmaa.Dp
