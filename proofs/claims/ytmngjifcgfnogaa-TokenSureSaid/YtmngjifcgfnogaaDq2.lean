/- Deep values: what an operation makes of them. No program in sight. -/
import Derived.Test.YtmngjifcgfnogaaDq1
namespace Go.Proofs.Ytmngjifcgfnogaa.Dq
set_option linter.unusedSimpArgs false
set_option linter.unusedVariables false
set_option maxRecDepth 100000
open Go.RowKit

section
variable (P : Program)
def sz (t : TypeId) : Nat := P.cellsOf t
def ag (t : TypeId) : Bool := match P.underlying t with
  | some (.struct _) | some (.array _ _) => true
  | _ => false
def un (t : TypeId) : Bool := (P.underlying t).isSome
def fo (t : TypeId) (f : Nat) : Option (Nat × TypeId) := match P.underlying t with
  | some (.struct fs) => (fs[f]?).map fun f => (f.offset, f.type)
  | _ => none
def isSl (t : TypeId) : Option TypeId := match P.underlying t with
  | some (.slice e) => some e
  | _ => none
def isAr (t : TypeId) : Option (Nat × TypeId) := match P.underlying t with
  | some (.array n e) => some (n, e)
  | _ => none
def ik (t : TypeId) : Option IntKind := match P.underlying t with
  | some (.int k) => some k
  | _ => none
def isB (t : TypeId) : Bool := match P.underlying t with
  | some .bool => true
  | _ => false
def byt (t : TypeId) : Nat := P.bytesOf t
def zD : Value → Option D
  | .int k n => some (.int k n)
  | .bool b => some (.bool b)
  | .slice none 0 0 => some .nl
  | _ => none
def zr (t : TypeId) : Option (List D) := ((P.info? t).bind (·.zero)).bind fun z => z.cells.toList.mapM zD
end
theorem run_sz {P : Program} {t : TypeId} (h : 0 < sz P t) (w : World) : (sizeOf t).run P w = .ok (sz P t) w := by
  unfold sz Program.cellsOf at *
  cases hi : P.info? t with
  | none => rw [hi] at h; simp at h
  | some i => simp [sizeOf, typeInfo, hi]
theorem run_ag {P : Program} {t : TypeId} (h : un P t = true) (w : World) : (isAgg t).run P w = .ok (ag P t) w := by
  unfold un at h
  unfold ag
  cases hu : P.underlying t with
  | none => rw [hu] at h; cases h
  | some d =>
    simp only [isAgg, Sem.run_bind, run_underlying hu, Result.andThen_ok]
    cases d <;> rfl
/-- Of two lists of plain cells: are they the same? -/
def eqF : List D → List D → Bool
  | [], [] => true
  | .int k n :: l, .int k' m :: l' => (k == k' && n == m) && eqF l l'
  | .bool a :: l, .bool b :: l' => (a == b) && eqF l l'
  | _, _ => false
def plainD : D → Bool
  | .int _ _ | .bool _ => true
  | _ => false
def EqOk (P : Program) (t : TypeId) (l l' : List D) : Prop := ∀ (G : Gh) (w : World) (us vs : Array Value) (x y : Operand), DenXL G w l us.toList → DenXL G w l' vs.toList →
  (eqGuard .eql t x y (.agg us) (.agg vs)).run P w = .ok () w ∧ (eqGuard .neq t x y (.agg us) (.agg vs)).run P w = .ok () w ∧ (Op.equal t (.agg us) (.agg vs)).run P w = .ok (eqF l l') w
inductive V1 where
  | one (x : S1)
  | tup (l : List S1)
structure Ev where
  x : Option V1
  ob : Prop
  rb : List Nat := []
  wb : Bt := []
  rr : List Nat := []
  wr : List (Nat × RowI) := []
structure St where
  s : List (Nat × SV)
  b : Bt
  r : List (Nat × RowI)
def gs : List (Nat × SV) → Nat → SV
  | [], _ => .top
  | (k, v) :: l, t => if k = t then v else gs l t
def gb {α : Type} : List (Nat × α) → Nat → Option α
  | [], _ => none
  | (k, v) :: l, t => if k = t then some v else gb l t
def cst : Value → S1
  | .int k n => .c (.int k n)
  | .bool b => .c (.bool b)
  | .slice none 0 0 => .nil
  | v => .k v
def opd (s : List (Nat × SV)) (g : Bool) : Operand → S1 × Prop
  | .tmp t => match gs s t with
    | .v g' x => (x, g = true → g' = true)
    | _ => (.k undef, False)
  | .const v => (cst v, True)
  | .func f => (.fn f [], True)
  | .global _ => (.k undef, False)
def cellsS : S1 → List D
  | .c d => [d]
  | .agg l => l
  | .own _ _ l => [.sl l]
  | .sn _ l => [.sl l]
  | .nil => [.nl]
  | _ => []
def okS : S1 → Bool
  | .c _ | .agg _ | .own .. | .sn .. | .nil => true
  | _ => false
/-- Nil as a list without elements. -/
def deNl : D → D
  | .nl => .sl []
  | d => d
def deNls : List D → List D
  | [] => []
  | d :: l => deNl d :: deNls l
def asSl : S1 → Option (List (List D))
  | .c (.sl l) => some l
  | .own _ _ l => some l
  | .sn _ l => some l
  | .nil => some []
  | .c .nl => some []
  | _ => none
def setAt (cs : List D) (off : Nat) (xs : List D) : List D := cs.take off ++ xs ++ cs.drop (off + xs.length)
/-- What a slot's operand is told of. -/
def Okd (G : Gh) (W : World) (s : List (Nat × SV)) (a : Act) : Operand → Prop
  | .tmp t => Hs G W (gs s t) (V a t)
  | _ => True
theorem opd_ok {G : Gh} {W : World} {s : List (Nat × SV)} {a : Act} {x : Operand} {g : Bool} (hg : g = true) (h : Okd G W s a x) (ho : (opd s g x).2) : D1 G W (opd s g x).1 (a.eval x) := by
  cases x with
  | tmp t =>
    rw [V_eval]
    change Hs G W (gs s t) (V a t) at h
    change (match gs s t with
      | .v g' x => (x, g = true → g' = true)
      | _ => ((.k undef, False) : S1 × Prop)).2 at ho
    change D1 G W (match gs s t with
      | .v g' x => (x, g = true → g' = true)
      | _ => ((.k undef, False) : S1 × Prop)).1 (V a t)
    cases he : gs s t with
    | v g' x =>
      rw [he] at h ho
      exact h.1 (ho hg)
    | top => rw [he] at ho; exact ho.elim
    | tup g' l => rw [he] at ho; exact ho.elim
  | const v =>
    show D1 G W (cst v) v
    unfold cst
    split
    · exact Den.int _ _
    · exact Den.bool _
    · rfl
    · rfl
  | func f => exact ⟨#[], rfl, rfl, fun j x u h => by simp at h⟩
  | global g => exact ho.elim
theorem D1_int {G : Gh} {W : World} {k : IntKind} {n : Int} {v : Value} (h : D1 G W (.c (.int k n)) v) : v = .int k n := by
  change Den G.A W (.int k n) v at h
  generalize hd : D.int k n = d at h
  cases h <;> cases hd
  rfl
theorem D1_bool {G : Gh} {W : World} {b : Bool} {v : Value} (h : D1 G W (.c (.bool b)) v) : v = .bool b := by
  change Den G.A W (.bool b) v at h
  generalize hd : D.bool b = d at h
  cases h <;> cases hd
  rfl
theorem D1_nl {G : Gh} {W : World} {v : Value} (h : D1 G W (.c .nl) v) : v = .slice none 0 0 := by
  change Den G.A W .nl v at h
  generalize hd : D.nl = d at h
  cases h <;> cases hd
  rfl
theorem cellsS_ok {G : Gh} {W : World} {x : S1} {v : Value} (h : D1 G W x v) (ho : okS x = true) : DenXL G W (cellsS x) v.cells.toList := by
  cases x with
  | c d => rw [DenX.cells h]; exact AL.single h
  | agg l => obtain ⟨us, rfl, h⟩ := h; exact h
  | own t K l => rw [Den.cells h.1]; exact AL.single (R := DenX G W) (show DenX G W (.sl l) v from h.1)
  | sn b l => rw [Den.cells h.1]; exact AL.single (R := DenX G W) (show DenX G W (.sl l) v from h.1)
  | nil => obtain rfl := h; exact AL.single (R := DenX G W) (show DenX G W .nl _ from Den.nl)
  | box | ptr | k | xp | fn => cases ho
theorem deNl_ok {G : Gh} {W : World} {d : D} {v : Value} (h : DenX G W d v) : DenX G W (deNl d) v := by
  cases d with
  | nl => obtain rfl := D1_nl h; exact Den.nil _ _
  | _ => exact h
theorem deNls_len : ∀ {l : List D}, (deNls l).length = l.length
  | [] => rfl
  | d :: l => by simp [deNls, deNls_len (l := l)]
theorem deNls_ok {G : Gh} {W : World} : ∀ {l : List D} {us : List Value}, DenXL G W l us → DenXL G W (deNls l) us
  | [], us, h => h
  | d :: l, us, h => by
    obtain ⟨u, us', rfl, h1, h2⟩ := AL.cons_inv h
    exact (AL.single (deNl_ok h1)).append (deNls_ok h2)
theorem asSl_ok {G : Gh} {W : World} {x : S1} {v : Value} {l : List (List D)} (h : D1 G W x v) (ho : asSl x = some l) : Den G.A W (.sl l) v := by
  unfold asSl at ho
  split at ho
  · obtain rfl := Option.some.inj ho; exact h
  · obtain rfl := Option.some.inj ho; exact h.1
  · obtain rfl := Option.some.inj ho; exact h.1
  · obtain rfl := Option.some.inj ho; obtain rfl := h; exact .nil _ _
  · obtain rfl := Option.some.inj ho; obtain rfl := D1_nl h; exact .nil _ _
  · cases ho
def Vd (G : Gh) (W : World) : Option V1 → Value → Prop
  | none, v => v = undef
  | some (.one x), v => D1 G W x v
  | some (.tup l), v => ∃ us, v = .tuple us ∧ D1L G W l us.toList
/-- What an operation does. -/
def Does (P : Program) (M : Nat → Prop) (A0 : Pr) (w0 : World) (G : Gh) (a : Act) (W : World) (o : Oper) (e : Ev) : Prop :=
  ∃ v W' G' n, (execOp a.eval o).run P W = .ok n W' ∧ (n = .value v ∨ (n = .skip ∧ v = undef)) ∧ GOK M A0 G' W' ∧ Chg M w0 W' ∧ Evo (e.wb.map (·.1)) (e.wr.map (·.1)) G W G' W' ∧ Vd G' W' e.x v ∧ (∀ p ∈ e.wb, Hb G' W' p.1 (some p.2)) ∧ ∀ p ∈ e.wr, Hr G' W' p.1 (some p.2)
section
variable {P : Program} {M : Nat → Prop} {A0 : Pr} {w0 : World} {G : Gh} {a : Act} {W : World} {o : Oper}
theorem does_pure (hG : GOK M A0 G W) (hx : Chg M w0 W) {v : Value} {x : V1} {ob : Prop} {rb rr : List Nat} (hr : (execOp a.eval o).run P W = .ok (.value v) W) (h : Vd G W (some x) v) : Does P M A0 w0 G a W o { x := some x, ob := ob, rb := rb, rr := rr } :=
  ⟨v, W, G, _, hr, .inl rfl, hG, hx, Evo.refl _ _, h, nofun, nofun⟩
variable {s : List (Nat × SV)} {g : Bool} (hg : g = true) (hG : GOK M A0 G W) (hx : Chg M w0 W)
include hg hG hx
def evMove (s : List (Nat × SV)) (g : Bool) (x : Operand) : Ev := match x with
  | .tmp t => match gs s t with
    | .tup g' l => { x := some (.tup l), ob := g = true → g' = true }
    | _ => { x := some (.one (opd s g x).1), ob := (opd s g x).2 }
  | x => { x := some (.one (opd s g x).1), ob := (opd s g x).2 }
theorem ok_move {x : Operand} (ho : o.op = .move x ∨ o.op = .assign x) (h : Okd G W s a x) (hob : (evMove s g x).ob) : Does P M A0 w0 G a W o (evMove s g x) := by
  have hrun : (execOp a.eval o).run P W = .ok (.value (a.eval x)) W := by rcases ho with ho | ho <;> simp [execOp, ho]
  cases x with
  | tmp t =>
    unfold evMove at hob ⊢
    dsimp only at hob ⊢
    split at hob
    · next g' l he =>
      change Hs G W (gs s t) (V a t) at h
      rw [he] at h
      exact does_pure hG hx hrun (by rw [V_eval]; exact h.1 (hob hg))
    · exact does_pure hG hx hrun (opd_ok hg h hob)
  | const v => exact does_pure hG hx hrun (opd_ok hg h hob)
  | func f => exact does_pure hG hx hrun (opd_ok hg h hob)
  | global v => exact does_pure hG hx hrun (opd_ok hg h hob)
def evPick (s : List (Nat × SV)) (g : Bool) (c x y : Operand) : Ev := match opd s g c with
  | (.c (.bool b), p) => match opd s (g && b) x, opd s (g && !b) y with
    | (.c (.bool u), q), (.c (.bool v), r) => { x := some (.one (.c (.bool (bif b then u else v)))), ob := p ∧ q ∧ r }
    | _, _ => { x := none, ob := False }
  | _ => { x := none, ob := False }
theorem ok_pick {c x y : Operand} (ho : o.op = .pick c x y) (hc : Okd G W s a c) (hx' : Okd G W s a x) (hy : Okd G W s a y) (hob : (evPick s g c x y).ob) : Does P M A0 w0 G a W o (evPick s g c x y) := by
  subst hg
  unfold evPick at hob ⊢
  split at hob
  · next b p hcv =>
    have h1 := opd_ok (g := true) rfl hc
    rw [hcv] at h1
    split at hob
    · next u q v r hu hv =>
      obtain ⟨h2, h3, h4⟩ := hob
      have e1 : a.eval c = .bool b := D1_bool (h1 h2)
      cases b
      · have h6 := opd_ok (g := true && !false) rfl hy (by rw [hv]; exact h4)
        rw [hv] at h6
        have e2 : a.eval y = .bool v := D1_bool h6
        exact does_pure hG hx (v := .bool v) (by simp [execOp, ho, e1, e2, asBool]) (Den.bool _)
      · have h6 := opd_ok (g := true && true) rfl hx' (by rw [hu]; exact h3)
        rw [hu] at h6
        have e2 : a.eval x = .bool u := D1_bool h6
        exact does_pure hG hx (v := .bool u) (by simp [execOp, ho, e1, e2, asBool]) (Den.bool _)
    · exact hob.elim
  · exact hob.elim
end
end Go.Proofs.Ytmngjifcgfnogaa.Dq
