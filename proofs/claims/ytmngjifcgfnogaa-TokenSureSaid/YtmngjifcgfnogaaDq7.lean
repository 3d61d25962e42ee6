/- Deep values: calls; all operations. No program in sight. -/
import Derived.Test.YtmngjifcgfnogaaDq6
namespace Go.Proofs.Ytmngjifcgfnogaa.Dq
set_option linter.unusedSimpArgs false
set_option linter.unusedVariables false
set_option maxRecDepth 100000
open Go.RowKit

/-- What a call gives. -/
inductive R1 where
  | c (d : D)
  | agg (l : List D)
  | own (e : TypeId) (K : Nat) (l : List (List D))
  | mu (e : TypeId) (K : Nat) (l : List (List D))
  | ptr (cs : List D)
  | k (v : Value)
inductive CR where
  | one (x : R1)
  | tup (l : List R1)
def RD (A : Pr) (base : Nat) (w : World) : R1 → Value → Prop
  | .c d, v => Den A w d v
  | .agg l, v => ∃ us, v = .agg us ∧ DenL A w l us.toList
  | .own e K l, v => Den A w (.sl l) v ∧ (∀ cs ∈ l, cs.length = K) ∧ (∃ cs, w.ownsRow base e K v l.length cs) ∧ ∀ g, v.ownBlock = some g → ∀ i, A g i → i < l.length * K
  | .mu e K l, v => (∀ cs ∈ l, cs.length = K) ∧ (∃ us, w.ownsRow base e K v l.length us ∧ DenL A w l.flatten us) ∧ ∀ g, v.ownBlock = some g → ∀ i, ¬ A g i
  | .ptr cs, v => ∃ b o, v = .pointer (some ⟨b, o, none⟩) ∧ At A w b o cs
  | .k x, v => v = x
def RDs (A : Pr) (base : Nat) (w : World) : CR → Value → Prop
  | .one x, v => RD A base w x v
  | .tup l, v => ∃ us, v = .tuple us ∧ l.length = us.size ∧ ∀ (j : Nat) x u, l[j]? = some x → us[j]? = some u → RD A base w x u
/-- A function's contract. -/
def Cal (P : Program) (f : FuncId) (args : List S1) (res : CR) : Prop :=
  ∀ (A : Pr) (w : World) (vs : List Value), (∀ b i, A b i → b < w.heap.size) → D1L (gh A) w args vs →
    Calls P f vs.toArray w fun e w' => ∃ v A', e = .returned v ∧ Ext w w' ∧ (∀ b i, A b i → A' b i) ∧ (∀ b i, A' b i → b < w'.heap.size ∧ (b < w.heap.size → A b i)) ∧ RDs A' w.heap.size w' res v
abbrev Cts := List (FuncId × (List S1 → CR × Prop))
/-- What a call that writes objects gives. -/
structure MRes where
  x : V1
  rb : List Nat
  wb : Bt
abbrev Ctm := List (FuncId × (List S1 → Bt → Nat → MRes × Prop))
def CalM (P : Program) (f : FuncId) (args : List S1) (bx : Bt) (r : MRes) : Prop :=
  ∀ (M : Nat → Prop) (A0 : Pr) (G : Gh) (W : World) (vs : List Value), GOK M A0 G W → D1L G W args vs → (∀ k ∈ r.rb, Hb G W k (gb bx k)) → (∀ p ∈ r.wb, Hb G W p.1 (gb bx p.1)) →
    Calls P f vs.toArray W fun e W' => ∃ v G', e = .returned v ∧ GOK M A0 G' W' ∧ Chg M W W' ∧ Evo (r.wb.map (·.1)) [] G W G' W' ∧ Vd G' W' (some r.x) v ∧ ∀ p ∈ r.wb, Hb G' W' p.1 (some p.2)
structure Cx where
  c : Cts
  m : Ctm := []
  xl : List Nat := []
def SndC (P : Program) (Γ : Cts) : Prop := ∀ p ∈ Γ, ∀ args, (p.2 args).2 → Cal P p.1 args (p.2 args).1
def SndM (P : Program) (Γ : Ctm) : Prop := ∀ p ∈ Γ, ∀ args bx d, (p.2 args bx d).2 → CalM P p.1 args bx (p.2 args bx d).1
structure Snd (P : Program) (Γ : Cx) : Prop where
  c : SndC P Γ.c
  m : SndM P Γ.m
def isFn (P : Program) (f : FuncId) : Bool := match P.funcs[f]? with
  | some fn => !(fn.name == "runtime.NumGoroutine") && !fn.body.isNone
  | none => false
def lfL (l : List (List D)) : Prop := ∀ cs ∈ l, lfs cs = true
/-- A word as others may read it: headers of objects as what they hold. -/
def demD (bx : Bt) : D → D × Prop
  | .lk k n => match gb bx k with
    | some (some o) => (.sl (o.l.take n), n ≤ o.l.length ∧ lfL (o.l.take n))
    | _ => (.nl, False)
  | .nl => (.sl [], True)
  | d => (d, True)
/-- No header of an object, no nil. -/
def lf0 : D → Bool
  | .lk _ _ => false
  | .nl => false
  | _ => true
def lf0s : List D → Bool
  | [] => true
  | d :: l => lf0 d && lf0s l
theorem lf0s_lfs : ∀ {l : List D}, lf0s l = true → lfs l = true
  | [], _ => rfl
  | d :: l, h => by
    have h := (Bool.and_eq_true _ _).mp h
    refine (Bool.and_eq_true _ _).mpr ⟨?_, lf0s_lfs h.2⟩
    cases d <;> first | rfl | exact h.1
def demDs (bx : Bt) : List D → List D × Prop
  | [] => ([], True)
  | d :: l => ((demD bx d).1 :: (demDs bx l).1, (demD bx d).2 ∧ (demDs bx l).2)
def refD : D → List Nat
  | .lk k _ => [k]
  | _ => []
def refDs : List D → List Nat
  | [] => []
  | d :: l => refD d ++ refDs l
def demB (bx : Bt) (k i j : Nat) (q : Option Nat) : List D × Prop := match gb bx k with
  | some (some o) => ((demDs bx (((o.l[i]?).getD []).drop j)).1, (demDs bx (((o.l[i]?).getD []).drop j)).2 ∧ i < o.l.length ∧ pOk q o)
  | _ => ([], False)
def refB (bx : Bt) (k i j : Nat) : List Nat := k :: (match gb bx k with
  | some (some o) => refDs (((o.l[i]?).getD []).drop j)
  | _ => [])
def demC (bx : Bt) : Cp → Cp × Prop
  | .c d => (.c (demD bx d).1, (demD bx d).2)
  | .box k j => (.ptr (demB bx k 0 j none).1, (demB bx k 0 j none).2)
  | .ptr cs => (.ptr cs, True)
def refC (bx : Bt) : Cp → List Nat
  | .c d => refD d
  | .box k j => refB bx k 0 j
  | .ptr _ => []
def demCs (bx : Bt) : List Cp → List Cp × Prop
  | [] => ([], True)
  | d :: l => ((demC bx d).1 :: (demCs bx l).1, (demC bx d).2 ∧ (demCs bx l).2)
def refCs (bx : Bt) : List Cp → List Nat
  | [] => []
  | d :: l => refC bx d ++ refCs bx l
def dem (bx : Bt) : S1 → S1 × Prop
  | .c d => (.c (demD bx d).1, (demD bx d).2)
  | .agg l => (.agg (demDs bx l).1, (demDs bx l).2)
  | .own _ _ l => (.c (.sl l), True)
  | .sn _ l => (.c (.sl l), True)
  | .nil => (.c (.sl []), True)
  | .box k j => (.ptr (demB bx k 0 j none).1, (demB bx k 0 j none).2)
  | .xp k K i j => (.ptr (demB bx k i j (some K)).1, (demB bx k i j (some K)).2)
  | .fn f ps => (.fn f (demCs bx ps).1, (demCs bx ps).2)
  | .ptr cs => (.ptr cs, True)
  | .k v => (.k v, True)
def refS (bx : Bt) : S1 → List Nat
  | .c d => refD d
  | .agg l => refDs l
  | .box k j => refB bx k 0 j
  | .xp k _ i j => refB bx k i j
  | .fn _ ps => refCs bx ps
  | _ => []
def isShC : Cp → Bool
  | .c d => !lf d
  | .box _ _ => true
  | .ptr _ => false
def isSh : S1 → Bool
  | .c d => !lf d
  | .agg l => !lfs l
  | .box _ _ => true
  | .xp _ _ _ _ => true
  | .fn _ ps => ps.any isShC
  | _ => false
def refL (bx : Bt) : List (S1 × Prop) → List Nat
  | [] => []
  | x :: l => refS bx x.1 ++ refL bx l
def anySh : List (S1 × Prop) → Bool
  | [] => false
  | x :: l => isSh x.1 || anySh l
def plains : List D → Bool
  | [] => true
  | d :: l => plainD d && plains l
def plainL (l : List (List D)) : Prop := ∀ cs ∈ l, plains cs = true
def plainR : R1 → Prop
  | .c d => plainD d = true
  | .agg l => plains l = true
  | .own _ _ l => plainL l
  | .mu _ _ l => plainL l
  | .ptr _ => False
  | .k _ => True
def plainRs : List R1 → Prop
  | [] => True
  | x :: l => plainR x ∧ plainRs l
def cv (ug : Bool) (d : Nat) : R1 → S1
  | .c x => .c x
  | .agg l => .agg l
  | .own _ K l => if ug then .own d K l else .c (.sl l)
  | .mu _ _ l => .c (.lk d l.length)
  | .ptr cs => .ptr cs
  | .k v => .k v
def isOwn : R1 → Bool
  | .own _ _ _ => true
  | _ => false
def noMut : List R1 → Prop
  | [] => True
  | .mu _ _ _ :: _ => False
  | _ :: l => noMut l
def cvL (ug : Bool) (d : Nat) : List R1 → List S1
  | [] => []
  | x :: l => cv ug d x :: cvL (ug && !isOwn x) d l
def wrL (ug : Bool) (d : Nat) : List R1 → List (Nat × RowI)
  | [] => []
  | .own e K l :: r => if ug then [(d, ⟨e, K, l.length⟩)] else wrL ug d r
  | _ :: r => wrL ug d r
def argsD : List (S1 × Prop) → Prop
  | [] => True
  | x :: l => x.2 ∧ argsD l
def argsOb (bx : Bt) : List (S1 × Prop) → Prop
  | [] => True
  | x :: l => (x.2 ∧ (dem bx x.1).2) ∧ argsOb bx l
def demL (bx : Bt) : List (S1 × Prop) → List S1
  | [] => []
  | x :: l => (dem bx x.1).1 :: demL bx l
def evCallF (P : Program) (F : List S1 → CR × Prop) (bx : Bt) (rx : List (Nat × RowI)) (ug g : Bool) (d : Nat) (f : FuncId) (xs : List (S1 × Prop)) : Ev := match (F (demL bx xs)).1 with
  | .one (.mu e K l) => { x := some (.one (.c (.lk d l.length))), ob := isFn P f = true ∧ g = true ∧ argsOb bx xs ∧ (F (demL bx xs)).2 ∧ (anySh xs = true → plainL l) ∧ gb bx d = none, rb := refL bx xs, wb := [(d, some ⟨e, K, l⟩)] }
  | .one x => { x := some (.one (cv ug d x)), ob := isFn P f = true ∧ argsOb bx xs ∧ (F (demL bx xs)).2 ∧ ((wrL ug d [x]).isEmpty = true ∨ gb rx d = none) ∧ (anySh xs = true → plainR x), rb := refL bx xs, wr := wrL ug d [x] }
  | .tup l => { x := some (.tup (cvL ug d l)), ob := isFn P f = true ∧ argsOb bx xs ∧ (F (demL bx xs)).2 ∧ ((wrL ug d l).isEmpty = true ∨ gb rx d = none) ∧ (anySh xs = true → plainRs l) ∧ noMut l, rb := refL bx xs, wr := wrL ug d l }
def evCall (P : Program) (Γ : Cx) (bx : Bt) (rx : List (Nat × RowI)) (ug g : Bool) (d : Nat) (f : FuncId) (xs : List (S1 × Prop)) : Ev := match gb Γ.m f with
  | some F => { x := some (F (xs.map (·.1)) bx d).1.x, ob := isFn P f = true ∧ g = true ∧ argsD xs ∧ (F (xs.map (·.1)) bx d).2, rb := (F (xs.map (·.1)) bx d).1.rb, wb := (F (xs.map (·.1)) bx d).1.wb }
  | none => match gb Γ.c f with
    | some F => evCallF P F bx rx ug g d f xs
    | none => bad
section
variable {P : Program} {M : Nat → Prop} {A0 : Pr} {w0 : World} {G : Gh} {a : Act} {W : World} {o : Oper}
theorem gb_mem {α : Type} : ∀ {l : List (Nat × α)} {k : Nat} {x : α}, gb l k = some x → (k, x) ∈ l
  | (k', y) :: l, k, x, h => by
    unfold gb at h
    split at h
    · next hk => subst hk; obtain rfl := Option.some.inj h; exact List.mem_cons_self
    · exact List.mem_cons_of_mem _ (gb_mem h)
  | [], _, _, h => by cases h
/-- Cells that others may read too. -/
def more (A : Pr) (Q : Nat → Prop) : Pr := fun b i => A b i ∨ Q b
theorem demD_ok {bx : Bt} {d : D} {v : Value} {Q : Nat → Prop} (h : DenX G W d v) (hb : ∀ k ∈ refD d, Hb G W k (gb bx k)) (hQ : ∀ k ∈ refD d, ∀ u b, G.β k = some u → blk u = some b → Q b) (ho : (demD bx d).2) : Den (more G.A Q) W (demD bx d).1 v := by
  cases d with
  | lk k n =>
    unfold demD at ho ⊢
    dsimp only at ho ⊢
    have hk := hb k (by simp [refD])
    cases hg : gb bx k with
    | none => rw [hg] at ho; exact ho.elim
    | some o =>
      cases o with
      | none => rw [hg] at ho; exact ho.elim
      | some o =>
        rw [hg] at ho hk
        dsimp only at ho ⊢
        obtain ⟨hn, hlf⟩ := ho
        obtain ⟨u, us, h1, h2, h3, h4, h5⟩ := hk
        obtain ⟨a, N, c, g1, g2, g3, g4, rfl⟩ := h
        obtain rfl := Option.some.inj (h1.symm.trans g1)
        have h3 : W.ownsRow 0 o.e o.K (.slice a N c) o.l.length us := h3
        obtain ⟨a', c', e, -, -⟩ := own_form h3
        obtain ⟨-, hN, -⟩ := Value.slice.inj e
        subst hN
        have hcut := own_cut h3 hn
        have hlen : (o.l.take n).length = n := by rw [List.length_take]; omega
        have h5' : ∀ cs ∈ o.l, cs.length = o.K := by
          rcases h5 with ⟨b, e⟩ | h5
          · cases e
          · exact h5
        have hK' : ∀ cs ∈ o.l.take n, cs.length = o.K := fun cs hc => h5' cs (List.mem_of_mem_take hc)
        have hfl : (o.l.take n).flatten = o.l.flatten.take (n * o.K) := by
          have h6 : o.l.flatten = (o.l.take n).flatten ++ (o.l.drop n).flatten := by rw [← List.flatten_append, List.take_append_drop]
          rw [h6, List.take_left' (by rw [flatten_length hK', hlen])]
        have hlfs : lfs (o.l.take n).flatten = true := by
          have : ∀ l : List (List D), lfL l → lfs l.flatten = true := fun l => by
            induction l with
            | nil => intro _; rfl
            | cons x l ih => intro h; rw [List.flatten_cons]; exact lfs_app (h x List.mem_cons_self) (ih fun c hc => h c (List.mem_cons_of_mem _ hc))
          exact this _ hlf
        have hd : DenL (more G.A Q) W (o.l.take n).flatten (us.take (n * o.K)) := by
          have h7 := AL.take h4 (n * o.K)
          rw [← hfl] at h7
          exact DenL.mono (DenXL.den h7 hlfs) (fun b i h => .inl h) (Kp.refl _ _)
        have := den_of_cells (A := more G.A Q) (a := a) (c := c) hK' (by rw [hlen]; omega) hd (fun hne => by
          rcases g4 with g4 | ⟨b, rfl⟩
          · exact absurd (List.eq_nil_of_length_eq_zero (by rw [hlen]; omega)) hne
          · refine ⟨b, 0, rfl, fun i u hu => ⟨.inr (hQ k (by simp [refD]) _ b h1 rfl), ?_⟩⟩
            have := World.ownsRow.cells hcut (g := b) rfl i u hu
            rwa [addr_add'] at this)
        rwa [hlen] at this
  | nl => obtain rfl := D1_nl (G := G) (W := W) h; exact .nil _ _
  | _ => exact Den.mono (A := G.A) h (fun b i h => .inl h) (Kp.refl _ _)
theorem demDs_ok {bx : Bt} {Q : Nat → Prop} : ∀ {ds : List D} {us : List Value}, DenXL G W ds us → (∀ k ∈ refDs ds, Hb G W k (gb bx k)) → (∀ k ∈ refDs ds, ∀ u b, G.β k = some u → blk u = some b → Q b) → (demDs bx ds).2 → DenL (more G.A Q) W (demDs bx ds).1 us
  | [], us, h, _, _, _ => by
    obtain rfl := List.eq_nil_of_length_eq_zero h.1.symm
    exact AL.nil
  | d :: ds, us, h, hb, hQ, ho => by
    obtain ⟨u, us', rfl, h1, h2⟩ := AL.cons_inv h
    have g1 := demD_ok (bx := bx) h1 (fun k hk => hb k (List.mem_append_left _ hk)) (fun k hk => hQ k (List.mem_append_left _ hk)) ho.1
    have g2 := demDs_ok h2 (fun k hk => hb k (List.mem_append_right _ hk)) (fun k hk => hQ k (List.mem_append_right _ hk)) ho.2
    exact (AL.single g1).append g2
theorem demDs_len {bx : Bt} : ∀ {ds : List D}, (demDs bx ds).1.length = ds.length
  | [] => rfl
  | d :: ds => by simp [demDs, demDs_len (ds := ds)]
theorem demDs_lf {bx : Bt} : ∀ {ds : List D}, lf0s ds = true → demDs bx ds = (ds, True)
  | [], _ => rfl
  | d :: ds, h => by
    have h := (Bool.and_eq_true _ _).mp h
    have : demD bx d = (d, True) := by
      cases d with
      | lk k n => cases h.1
      | nl => cases h.1
      | _ => rfl
    simp [demDs, demDs_lf (ds := ds) h.2, this]
theorem demD_ns {bx : Bt} {d : D} {v : Value} (h : DenX G W d v) (hl : lf d = true) : Den G.A W (demD bx d).1 v := by
  cases d with
  | lk k n => cases hl
  | nl => obtain rfl := D1_nl (G := G) (W := W) h; exact .nil _ _
  | _ => exact h
theorem demDs_ns {bx : Bt} : ∀ {ds : List D} {us : List Value}, DenXL G W ds us → lfs ds = true → DenL G.A W (demDs bx ds).1 us
  | [], us, h, _ => by
    obtain rfl := List.eq_nil_of_length_eq_zero h.1.symm
    exact AL.nil
  | d :: ds, us, h, hl => by
    obtain ⟨u, us', rfl, h1, h2⟩ := AL.cons_inv h
    have hl := (Bool.and_eq_true _ _).mp hl
    exact (AL.single (demD_ns (bx := bx) h1 hl.1)).append (demDs_ns h2 hl.2)
theorem demB_ok {bx : Bt} {x : S1} {v : Value} {k i j : Nat} {q : Option Nat} {Q : Nat → Prop} (h : D1 G W x v) (hp : asP x = some (k, i, j, q)) (hb : ∀ k' ∈ refB bx k i j, Hb G W k' (gb bx k')) (hQ : ∀ k' ∈ refB bx k i j, ∀ u b, G.β k' = some u → blk u = some b → Q b) (ho : (demB bx k i j q).2) :
    ∃ b o, v = .pointer (some ⟨b, o, none⟩) ∧ At (more G.A Q) W b o (demB bx k i j q).1 := by
  unfold demB at ho ⊢
  unfold refB at hb hQ
  have hk := hb k List.mem_cons_self
  cases hg : gb bx k with
  | none => rw [hg] at ho; exact ho.elim
  | some o =>
    cases o with
    | none => rw [hg] at ho; exact ho.elim
    | some o =>
      rw [hg] at ho hk hb hQ
      dsimp only at ho hb hQ ⊢
      obtain ⟨h1, hi, hq⟩ := ho
      have hcs : o.l[i]? = some o.l[i] := List.getElem?_eq_getElem hi
      obtain ⟨u, us, b, K, g1, g2, g3, g4, g5, he, g6, -⟩ := place_ok h hp hk hq hcs
      have hseg := flatten_seg g6 hcs
      have hd : DenXL G W (((o.l[i]?).getD []).drop j) (((us.drop (i * K)).take K).drop j) := by
        rw [hcs]
        have := AL.drop (AL.take (AL.drop g4 (i * K)) K) j
        rw [hseg] at this
        exact this
      have hd2 := demDs_ok (bx := bx) (Q := Q) hd (fun k' hk' => hb k' (List.mem_cons_of_mem _ hk')) (fun k' hk' => hQ k' (List.mem_cons_of_mem _ hk')) h1
      refine ⟨b, _, he, fun j' d hd' => ?_⟩
      obtain ⟨w, hw, hdw⟩ := AL.get hd2 hd'
      have hw' := hw
      rw [List.getElem?_drop, List.getElem?_take] at hw
      split at hw
      · rw [List.getElem?_drop] at hw
        refine ⟨.inr (hQ k List.mem_cons_self u b g1 g5), w, ?_, hdw⟩
        rw [Nat.add_assoc]
        exact g3.cell g5 hw
      · cases hw
theorem demC_ok {bx : Bt} {x : Cp} {v : Value} {Q : Nat → Prop} (h : DenC G W x v) (hb : ∀ k ∈ refC bx x, Hb G W k (gb bx k)) (hQ : ∀ k ∈ refC bx x, ∀ u b, G.β k = some u → blk u = some b → Q b) (ho : (demC bx x).2) : DenC (gh (more G.A Q)) W (demC bx x).1 v := by
  cases x with
  | c d => exact DenX.of (demD_ok h hb hQ ho)
  | box k j => exact demB_ok (x := .box k j) (k := k) (i := 0) (j := j) (q := none) h rfl hb hQ ho
  | ptr cs => obtain ⟨b, o, h1, h2⟩ := h; exact ⟨b, o, h1, h2.mono (fun b i h => .inl h) (Kp.refl _ _)⟩
theorem demCs_ok {bx : Bt} {Q : Nat → Prop} : ∀ {ps : List Cp} {us : List Value}, DenCL G W ps us → (∀ k ∈ refCs bx ps, Hb G W k (gb bx k)) → (∀ k ∈ refCs bx ps, ∀ u b, G.β k = some u → blk u = some b → Q b) → (demCs bx ps).2 → DenCL (gh (more G.A Q)) W (demCs bx ps).1 us
  | [], us, h, _, _, _ => by
    obtain rfl := List.eq_nil_of_length_eq_zero h.1.symm
    exact ⟨rfl, fun j x u h => by simp [demCs] at h⟩
  | x :: ps, us, h, hb, hQ, ho => by
    cases us with
    | nil => have := h.1; simp at this
    | cons u us =>
      have g1 := demC_ok (bx := bx) (h.2 0 x u rfl rfl) (fun k hk => hb k (List.mem_append_left _ hk)) (fun k hk => hQ k (List.mem_append_left _ hk)) ho.1
      have g2 := demCs_ok (us := us) (ps := ps) ⟨by simpa using h.1, fun j y w h1 h2 => h.2 (j + 1) y w (by simpa using h1) (by simpa using h2)⟩ (fun k hk => hb k (List.mem_append_right _ hk)) (fun k hk => hQ k (List.mem_append_right _ hk)) ho.2
      refine ⟨by simp [demCs, g2.1], fun j y w h1 h2 => ?_⟩
      cases j with
      | zero =>
        obtain rfl : (demC bx x).1 = y := by simpa [demCs] using h1
        obtain rfl : u = w := by simpa using h2
        exact g1
      | succ j => exact g2.2 j y w (by simpa [demCs] using h1) (by simpa using h2)
theorem dem_ok {bx : Bt} {x : S1} {v : Value} {Q : Nat → Prop} (h : D1 G W x v) (hb : ∀ k ∈ refS bx x, Hb G W k (gb bx k)) (hQ : ∀ k ∈ refS bx x, ∀ u b, G.β k = some u → blk u = some b → Q b) (ho : (dem bx x).2) : D1 (gh (more G.A Q)) W (dem bx x).1 v := by
  cases x with
  | c d =>
    cases d with
    | nl => exact DenX.of (G := gh (more G.A Q)) (demD_ok (d := .nl) h hb hQ ho)
    | lk k n => exact DenX.of (G := gh (more G.A Q)) (demD_ok (d := .lk k n) h hb hQ ho)
    | int k n => exact DenX.of (G := gh (more G.A Q)) (demD_ok (d := .int k n) h hb hQ ho)
    | bool b => exact DenX.of (G := gh (more G.A Q)) (demD_ok (d := .bool b) h hb hQ ho)
    | sl l => exact DenX.of (G := gh (more G.A Q)) (demD_ok (d := .sl l) h hb hQ ho)
  | agg l => obtain ⟨us, rfl, h⟩ := h; exact ⟨us, rfl, DenXL.of (demDs_ok h hb hQ ho)⟩
  | own t K l => exact Den.mono h.1 (fun b i h => .inl h) (Kp.refl _ _)
  | sn b l => exact Den.mono h.1 (fun b i h => .inl h) (Kp.refl _ _)
  | nil => obtain rfl := h; exact Den.nil _ _
  | box k j => exact demB_ok (x := .box k j) (k := k) (i := 0) (j := j) (q := none) h rfl hb hQ ho
  | xp k K i j => exact demB_ok (x := .xp k K i j) (k := k) (i := i) (j := j) (q := some K) h rfl hb hQ ho
  | fn f ps => obtain ⟨us, h1, h2⟩ := h; exact ⟨us, h1, demCs_ok h2 hb hQ ho⟩
  | ptr cs => obtain ⟨b, o, h1, h2⟩ := h; exact ⟨b, o, h1, h2.mono (fun b i h => .inl h) (Kp.refl _ _)⟩
  | k x => exact h
/-- Nothing is shared: nothing more is read. -/
theorem dem_ns {bx : Bt} {x : S1} {v : Value} (h : D1 G W x v) (hn : isSh x = false) : D1 (gh G.A) W (dem bx x).1 v := by
  have hD : ∀ d u, lf d = true → DenX G W d u → DenX (gh G.A) W (demD bx d).1 u := fun d u hl h => DenX.of (G := gh G.A) (demD_ns (G := G) h hl)
  cases x with
  | c d =>
    exact hD d v (by simpa [isSh] using hn) h
  | agg l =>
    obtain ⟨us, rfl, h⟩ := h
    have hl : lfs l = true := by simpa [isSh] using hn
    exact ⟨us, rfl, DenXL.of (G := gh G.A) (demDs_ns (G := G) h hl)⟩
  | own t K l => exact h.1
  | sn b l => exact h.1
  | nil => obtain rfl := h; exact Den.nil _ _
  | box k j => cases hn
  | xp k K i j => cases hn
  | fn f ps =>
    obtain ⟨us, h1, h2⟩ := h
    have hn' : ps.any isShC = false := hn
    refine ⟨us, h1, ?_⟩
    clear h1 hn
    obtain ⟨us⟩ := us
    revert h2
    revert us hn'
    induction ps with
    | nil => intro _ us h; exact ⟨by simpa [demCs] using h.1, fun j x u h1 h2 => by simp [demCs] at h1⟩
    | cons x ps ih =>
      intro hn us h
      rw [List.any_cons, Bool.or_eq_false_iff] at hn
      cases us with
      | nil => have := h.1; simp at this
      | cons u us =>
        have h0 := h.2 0 x u rfl rfl
        have g2 := ih hn.2 us ⟨by simpa using h.1, fun j y w h1 h2 => h.2 (j + 1) y w (by simpa using h1) (by simpa using h2)⟩
        refine ⟨by have := g2.1; simpa [demCs] using this, fun j y w h1 h2 => ?_⟩
        cases j with
        | zero =>
          obtain rfl : (demC bx x).1 = y := by simpa [demCs] using h1
          obtain rfl : u = w := by simpa using h2
          cases x with
          | c d => exact hD d _ (by simpa [isShC] using hn.1) h0
          | box k j => cases hn.1
          | ptr cs => exact h0
        | succ j => exact g2.2 j y w (by simpa [demCs] using h1) (by simpa using h2)
  | ptr cs => exact h
  | k x => exact h
/-- What an operation does: calls too. -/
def DoesW (P : Program) (M : Nat → Prop) (A0 : Pr) (w0 : World) (G : Gh) (a : Act) (W : World) (o : Oper) (e : Ev) : Prop :=
  ∀ (K : Act → World → Prop) (Q : Exit → Act → World → Prop), (∀ v W' G', GOK M A0 G' W' → Chg M w0 W' → Evo (e.wb.map (·.1)) (e.wr.map (·.1)) G W G' W' → Vd G' W' e.x v → (∀ p ∈ e.wb, Hb G' W' p.1 (some p.2)) → (∀ p ∈ e.wr, Hr G' W' p.1 (some p.2)) → K (a.put o.dst v) W') → o.wp P a W K Q
theorem Does.w {e : Ev} (h : Does P M A0 w0 G a W o e) : DoesW P M A0 w0 G a W o e := by
  intro K Q k
  obtain ⟨v, W', G', n, hr, hn, h1, h2, h3, h4, h5, h6⟩ := h
  unfold Oper.wp
  rw [hr]
  have := k v W' G' h1 h2 h3 h4 h5 h6
  rcases hn with rfl | ⟨rfl, rfl⟩ <;> exact this
/-- Results, as the caller has them. -/
theorem cvL_plain {A : Pr} {b : Nat} {G' : Gh} {W' : World} (hA : G'.A = A) {d : Nat} {x : R1} {v : Value} (hm : ∀ e K l, x ≠ .mu e K l) (h : RD A b W' x v) : D1 G' W' (cv false d x) v := by
  subst hA
  cases x with
  | c x => exact DenX.of h
  | agg l => obtain ⟨us, h1, h2⟩ := h; exact ⟨us, h1, DenXL.of h2⟩
  | own e K l => exact h.1
  | mu e K l => exact absurd rfl (hm e K l)
  | ptr cs => exact h
  | k x => exact h
theorem noMut_get : ∀ {l : List R1} {j : Nat} {x : R1}, noMut l → l[j]? = some x → ∀ e K m, x ≠ .mu e K m
  | [], _, _, _, h, _, _, _ => by simp at h
  | y :: l, 0, x, hn, h, e, K, m => by
    obtain rfl : y = x := by simpa using h
    intro e'
    rw [e'] at hn
    exact hn
  | y :: l, j + 1, x, hn, h, e, K, m => by
    refine noMut_get (l := l) ?_ (by simpa using h) e K m
    cases y <;> first | exact hn | exact hn.elim
theorem cvL_len {ug : Bool} {d : Nat} : ∀ {l : List R1}, (cvL ug d l).length = l.length
  | [] => rfl
  | x :: l => by simp [cvL, cvL_len (l := l)]
theorem cvL_false {d : Nat} : ∀ {l : List R1} {j : Nat} {y : S1}, (cvL false d l)[j]? = some y → ∃ x, l[j]? = some x ∧ y = cv false d x
  | [], j, y, h => by simp [cvL] at h
  | x :: l, 0, y, h => ⟨x, rfl, by simpa [cvL] using h.symm⟩
  | x :: l, j + 1, y, h => by
    simp only [cvL, Bool.false_and, List.getElem?_cons_succ] at h
    obtain ⟨x', h1, h2⟩ := cvL_false h
    exact ⟨x', by simpa using h1, h2⟩
/-- The one that may grow, if there is one. -/
theorem own_split {ug : Bool} {d : Nat} : ∀ (l : List R1), ((wrL ug d l) = [] ∧ ∀ (j : Nat) y, (cvL ug d l)[j]? = some y → ∃ x, l[j]? = some x ∧ y = cv false d x) ∨
    (∃ (i : Nat) (e : TypeId) (K : Nat) (ls : List (List D)), l[i]? = some (.own e K ls) ∧ wrL ug d l = [(d, ⟨e, K, ls.length⟩)] ∧ ∀ (j : Nat) y, (cvL ug d l)[j]? = some y → (j = i ∧ y = .own d K ls) ∨ ∃ x, l[j]? = some x ∧ y = cv false d x)
  | [] => .inl ⟨rfl, fun j y h => by simp [cvL] at h⟩
  | x :: l => by
    cases ug with
    | false =>
      refine .inl ⟨?_, fun j y h => cvL_false h⟩
      have : ∀ l : List R1, wrL false d l = [] := fun l => by
        induction l with
        | nil => rfl
        | cons x l ih => cases x <;> simp [wrL, ih]
      exact this _
    | true =>
      cases x with
      | own e K ls =>
        refine .inr ⟨0, e, K, ls, rfl, by simp [wrL], fun j y h => ?_⟩
        cases j with
        | zero => exact .inl ⟨rfl, by simpa [cvL, cv] using h.symm⟩
        | succ j =>
          simp only [cvL, isOwn, Bool.not_true, Bool.and_false, List.getElem?_cons_succ] at h
          obtain ⟨x', h1, h2⟩ := cvL_false h
          exact .inr ⟨x', by simpa using h1, h2⟩
      | c z =>
        rcases own_split (ug := true) (d := d) l with ⟨h1, h2⟩ | ⟨i, e, K, ls, h1, h2, h3⟩
        · refine .inl ⟨by simpa [wrL] using h1, fun j y h => ?_⟩
          cases j with
          | zero => exact ⟨.c z, rfl, by simpa [cvL, cv] using h.symm⟩
          | succ j =>
            obtain ⟨x', g1, g2⟩ := h2 j y (by simpa [cvL, isOwn] using h)
            exact ⟨x', by simpa using g1, g2⟩
        · refine .inr ⟨i + 1, e, K, ls, by simpa using h1, by simpa [wrL] using h2, fun j y h => ?_⟩
          cases j with
          | zero => exact .inr ⟨.c z, rfl, by simpa [cvL, cv] using h.symm⟩
          | succ j =>
            rcases h3 j y (by simpa [cvL, isOwn] using h) with ⟨rfl, g⟩ | ⟨x', g1, g2⟩
            · exact .inl ⟨rfl, g⟩
            · exact .inr ⟨x', by simpa using g1, g2⟩
      | agg z =>
        rcases own_split (ug := true) (d := d) l with ⟨h1, h2⟩ | ⟨i, e, K, ls, h1, h2, h3⟩
        · refine .inl ⟨by simpa [wrL] using h1, fun j y h => ?_⟩
          cases j with
          | zero => exact ⟨.agg z, rfl, by simpa [cvL, cv] using h.symm⟩
          | succ j =>
            obtain ⟨x', g1, g2⟩ := h2 j y (by simpa [cvL, isOwn] using h)
            exact ⟨x', by simpa using g1, g2⟩
        · refine .inr ⟨i + 1, e, K, ls, by simpa using h1, by simpa [wrL] using h2, fun j y h => ?_⟩
          cases j with
          | zero => exact .inr ⟨.agg z, rfl, by simpa [cvL, cv] using h.symm⟩
          | succ j =>
            rcases h3 j y (by simpa [cvL, isOwn] using h) with ⟨rfl, g⟩ | ⟨x', g1, g2⟩
            · exact .inl ⟨rfl, g⟩
            · exact .inr ⟨x', by simpa using g1, g2⟩
      | ptr z =>
        rcases own_split (ug := true) (d := d) l with ⟨h1, h2⟩ | ⟨i, e, K, ls, h1, h2, h3⟩
        · refine .inl ⟨by simpa [wrL] using h1, fun j y h => ?_⟩
          cases j with
          | zero => exact ⟨.ptr z, rfl, by simpa [cvL, cv] using h.symm⟩
          | succ j =>
            obtain ⟨x', g1, g2⟩ := h2 j y (by simpa [cvL, isOwn] using h)
            exact ⟨x', by simpa using g1, g2⟩
        · refine .inr ⟨i + 1, e, K, ls, by simpa using h1, by simpa [wrL] using h2, fun j y h => ?_⟩
          cases j with
          | zero => exact .inr ⟨.ptr z, rfl, by simpa [cvL, cv] using h.symm⟩
          | succ j =>
            rcases h3 j y (by simpa [cvL, isOwn] using h) with ⟨rfl, g⟩ | ⟨x', g1, g2⟩
            · exact .inl ⟨rfl, g⟩
            · exact .inr ⟨x', by simpa using g1, g2⟩
      | k z =>
        rcases own_split (ug := true) (d := d) l with ⟨h1, h2⟩ | ⟨i, e, K, ls, h1, h2, h3⟩
        · refine .inl ⟨by simpa [wrL] using h1, fun j y h => ?_⟩
          cases j with
          | zero => exact ⟨.k z, rfl, by simpa [cvL, cv] using h.symm⟩
          | succ j =>
            obtain ⟨x', g1, g2⟩ := h2 j y (by simpa [cvL, isOwn] using h)
            exact ⟨x', by simpa using g1, g2⟩
        · refine .inr ⟨i + 1, e, K, ls, by simpa using h1, by simpa [wrL] using h2, fun j y h => ?_⟩
          cases j with
          | zero => exact .inr ⟨.k z, rfl, by simpa [cvL, cv] using h.symm⟩
          | succ j =>
            rcases h3 j y (by simpa [cvL, isOwn] using h) with ⟨rfl, g⟩ | ⟨x', g1, g2⟩
            · exact .inl ⟨rfl, g⟩
            · exact .inr ⟨x', by simpa using g1, g2⟩
      | mu z1 z2 z3 =>
        rcases own_split (ug := true) (d := d) l with ⟨h1, h2⟩ | ⟨i, e, K, ls, h1, h2, h3⟩
        · refine .inl ⟨by simpa [wrL] using h1, fun j y h => ?_⟩
          cases j with
          | zero => exact ⟨.mu z1 z2 z3, rfl, by simpa [cvL, cv] using h.symm⟩
          | succ j =>
            obtain ⟨x', g1, g2⟩ := h2 j y (by simpa [cvL, isOwn] using h)
            exact ⟨x', by simpa using g1, g2⟩
        · refine .inr ⟨i + 1, e, K, ls, by simpa using h1, by simpa [wrL] using h2, fun j y h => ?_⟩
          cases j with
          | zero => exact .inr ⟨.mu z1 z2 z3, rfl, by simpa [cvL, cv] using h.symm⟩
          | succ j =>
            rcases h3 j y (by simpa [cvL, isOwn] using h) with ⟨rfl, g⟩ | ⟨x', g1, g2⟩
            · exact .inl ⟨rfl, g⟩
            · exact .inr ⟨x', by simpa using g1, g2⟩
/-- Behind a call: what is known of memory. -/
theorem call_ghost (hG : GOK M A0 G W) {W' : World} {A' : Pr} (hx : Ext W W') (h1 : ∀ b i, G.A b i → A' b i) (h2 : ∀ b i, A' b i → b < W'.heap.size ∧ (b < W.heap.size → G.A b i)) :
    GOK M A0 { G with A := A' } W' ∧ Evo [] [] G W { G with A := A' } W' := by
  have hG' := hG.ext hx
  have hE := Evo.ext hG hx
  refine ⟨⟨hG'.fr, fun b i h => ⟨(h2 b i h).1, fun hb => ?_⟩, fun k u b hk hu => ⟨(hG'.box k u b hk hu).1, fun hnd => ⟨((hG'.box k u b hk hu).2 hnd).1, fun i h => ?_⟩⟩, hG'.boxI, fun t u K g k1 k2 => ⟨(hG'.row t u K g k1 k2).1, (hG'.row t u K g k1 k2).2.1, (hG'.row t u K g k1 k2).2.2.1, fun i h => ?_⟩, hG'.rowI⟩, ⟨hE.keep, h1, hE.β, hE.β0, hE.dd, hE.box, hE.ρ, hE.ρ0, hE.row⟩⟩
  · by_cases hlt : b < W.heap.size
    · exact (hG.lt b i ((h2 b i h).2 hlt)).2 hb
    · exact absurd (hG.fr b (by omega)) hb
  · exact ((hG.box k u b hk hu).2 hnd).2 i ((h2 b i h).2 (hG.box k u b hk hu).1)
  · exact (hG.row t u K g k1 k2).2.2.2 i ((h2 g i h).2 (hG.row t u K g k1 k2).2.1)
theorem call_own (hG : GOK M A0 G W) {W' : World} {A' : Pr} (hx : Ext W W') (h1 : ∀ b i, G.A b i → A' b i) (h2 : ∀ b i, A' b i → b < W'.heap.size ∧ (b < W.heap.size → G.A b i)) {d : Nat} (hρ : G.ρ d = none) {e : TypeId} {K : Nat} {l : List (List D)} {v : Value} (h : RD A' W.heap.size W' (.own e K l) v) :
    GOK M A0 { A := A', β := G.β, dead := G.dead, ρ := fun t => if t = d then some (v, K) else G.ρ t } W' ∧ Evo [] [d] G W { A := A', β := G.β, dead := G.dead, ρ := fun t => if t = d then some (v, K) else G.ρ t } W' ∧ Hr { A := A', β := G.β, dead := G.dead, ρ := fun t => if t = d then some (v, K) else G.ρ t } W' d (some ⟨e, K, l.length⟩) ∧ D1 { A := A', β := G.β, dead := G.dead, ρ := fun t => if t = d then some (v, K) else G.ρ t } W' (.own d K l) v := by
  obtain ⟨k1, k2⟩ := call_ghost hG hx h1 h2
  obtain ⟨g1, g2, ⟨cs, g3⟩, g4⟩ := h
  obtain ⟨ad, c, hv⟩ := den_len g1
  have hsl : slen v = l.length := by rw [hv]; rfl
  obtain ⟨m1, m2⟩ := tag_row k1 (d := d) hρ (own_zero g3) hsl (fun g hgg => by
    have := (g3.lt g hgg).1
    refine ⟨hG.fr g this, fun k v hk _ hv => ?_, fun t u' K' h h' => ?_, g4 g hgg⟩
    · have := (hG.box k v g hk hv).1; omega
    · have := (hG.row t u' K' g h h').2.1; omega)
  exact ⟨m1, evo_tag k2 hρ _, m2, g1, g2, v, by simp, Nat.le_refl _, fun _ => rfl⟩
/-- What was only lent is not kept. -/
def lentA (A A' : Pr) (n : Nat) : Pr := fun b i => A b i ∨ (A' b i ∧ n ≤ b)
theorem den_plain {A A' : Pr} {d : D} {v : Value} {W : World} (h : Den A W d v) (hp : plainD d = true) : Den A' W d v := by
  cases h with
  | int k n => exact .int k n
  | bool b => exact .bool b
  | _ => cases hp
theorem plains_get : ∀ {l : List D} {j : Nat} {d : D}, plains l = true → l[j]? = some d → plainD d = true
  | [], _, _, _, h => by simp at h
  | x :: l, 0, d, hl, h => by
    obtain rfl : x = d := by simpa using h
    exact ((Bool.and_eq_true _ _).mp hl).1
  | x :: l, j + 1, d, hl, h => plains_get ((Bool.and_eq_true _ _).mp hl).2 (by simpa using h)
theorem denL_plain {A A' : Pr} {ds : List D} {us : List Value} {W : World} (h : DenL A W ds us) (hp : plains ds = true) : DenL A' W ds us := ⟨h.1, fun j d u h1 h2 => den_plain (h.2 j d u h1 h2) (plains_get hp h1)⟩
theorem plains_flat : ∀ {l : List (List D)}, plainL l → plains l.flatten = true
  | [], _ => rfl
  | x :: l, h => by
    have : ∀ (a b : List D), plains a = true → plains b = true → plains (a ++ b) = true := fun a b => by
      induction a with
      | nil => intro _ h; exact h
      | cons d a ih => intro h h'; rw [List.cons_append]; have h := (Bool.and_eq_true _ _).mp h; exact (Bool.and_eq_true _ _).mpr ⟨h.1, ih h.2 h'⟩
    rw [List.flatten_cons]
    exact this _ _ (h x List.mem_cons_self) (plains_flat fun c hc => h c (List.mem_cons_of_mem _ hc))
theorem rd_lent {A A' : Pr} {n : Nat} {x : R1} {v : Value} {W : World} (hA : ∀ b i, A b i → b < n) (h : RD A' n W x v) (hp : plainR x) : RD (lentA A A' n) n W x v := by
  cases x with
  | c d => exact den_plain h hp
  | agg l => obtain ⟨us, h1, h2⟩ := h; exact ⟨us, h1, denL_plain h2 hp⟩
  | own e K l =>
    obtain ⟨h1, h2, ⟨cs, h3⟩, h4⟩ := h
    have hge : ∀ g, v.ownBlock = some g → n ≤ g := fun g hg => (h3.lt g hg).1
    refine ⟨?_, h2, ⟨cs, h3⟩, fun g hg i hi => ?_⟩
    · obtain ⟨a, c, us, hv, hrd, hdl, hcap, hA2⟩ := cells_of_den h1 h2
      subst hv
      refine den_of_cells h2 hcap (denL_plain hdl (plains_flat hp)) (fun hne => ?_)
      obtain ⟨b, off, rfl, hc⟩ := hrd.cells (by cases l with | nil => exact absurd rfl hne | cons x l => simp)
      refine ⟨b, off, rfl, fun i u hu => ⟨.inr ⟨hA2 b off i rfl ?_, hge b rfl⟩, hc i u hu⟩⟩
      rw [← hrd.len]
      exact (List.getElem?_eq_some_iff.1 hu).1
    · rcases hi with hi | ⟨hi, -⟩
      · have := hA g i hi; have := hge g hg; omega
      · exact h4 g hg i hi
  | mu e K l =>
    obtain ⟨h1, ⟨us, h2, h3⟩, h4⟩ := h
    refine ⟨h1, ⟨us, h2, denL_plain h3 (plains_flat hp)⟩, fun g hg i hi => ?_⟩
    rcases hi with hi | ⟨hi, -⟩
    · have := hA g i hi; have := (h2.lt g hg).1; omega
    · exact h4 g hg i hi
  | ptr cs => exact hp.elim
  | k x => exact h
variable {bx : Bt} {rx : List (Nat × RowI)} {g : Bool} (hg : g = true) (hG : GOK M A0 G W) (hx : Chg M w0 W)
include hg hG hx
omit hg hx in
theorem args_ok {Q : Nat → Prop} : ∀ {xs : List (S1 × Prop)} {vs : List Value}, D1L G W (xs.map (·.1)) vs → argsOb bx xs → (∀ k ∈ refL bx xs, Hb G W k (gb bx k)) → (∀ b, b < W.heap.size → Q b) → D1L (gh (more G.A Q)) W (demL bx xs) vs
  | [], vs, h, _, _, _ => by
    obtain rfl := List.eq_nil_of_length_eq_zero h.1.symm
    exact ⟨rfl, fun j x u h => by simp [demL] at h⟩
  | x :: xs, vs, h, ho, hb, hQ => by
    cases vs with
    | nil => have := h.1; simp at this
    | cons v vs =>
      have g1 := dem_ok (bx := bx) (Q := Q) (h.2 0 x.1 v rfl rfl) (fun k hk => hb k (List.mem_append_left _ hk)) (fun k _ u b hu hb => hQ b (hG.box k u b hu hb).1) ho.1.2
      have g2 := args_ok (xs := xs) (vs := vs) ⟨by simpa using h.1, fun j y w h1 h2 => h.2 (j + 1) y w (by simpa using h1) (by simpa using h2)⟩ ho.2 (fun k hk => hb k (List.mem_append_right _ hk)) hQ
      refine ⟨by simp [demL, g2.1], fun j y w h1 h2 => ?_⟩
      cases j with
      | zero =>
        obtain rfl : (dem bx x.1).1 = y := by simpa [demL] using h1
        obtain rfl : v = w := by simpa using h2
        exact g1
      | succ j => exact g2.2 j y w (by simpa [demL] using h1) (by simpa using h2)
omit hg hG hx in
theorem args_ns : ∀ {xs : List (S1 × Prop)} {vs : List Value}, D1L G W (xs.map (·.1)) vs → anySh xs = false → D1L (gh G.A) W (demL bx xs) vs
  | [], vs, h, _ => by
    obtain rfl := List.eq_nil_of_length_eq_zero h.1.symm
    exact ⟨rfl, fun j x u h => by simp [demL] at h⟩
  | x :: xs, vs, h, hn => by
    cases vs with
    | nil => have := h.1; simp at this
    | cons v vs =>
      have hn := (Bool.or_eq_false_iff).mp hn
      have g1 := dem_ns (bx := bx) (h.2 0 x.1 v rfl rfl) hn.1
      have g2 := args_ns (xs := xs) (vs := vs) ⟨by simpa using h.1, fun j y w h1 h2 => h.2 (j + 1) y w (by simpa using h1) (by simpa using h2)⟩ hn.2
      refine ⟨by simp [demL, g2.1], fun j y w h1 h2 => ?_⟩
      cases j with
      | zero =>
        obtain rfl : (dem bx x.1).1 = y := by simpa [demL] using h1
        obtain rfl : v = w := by simpa using h2
        exact g1
      | succ j => exact g2.2 j y w (by simpa [demL] using h1) (by simpa using h2)
/-- How a call runs. -/
def Enters (P : Program) (a : Act) (W : World) (o : Oper) (f : FuncId) (vs : List Value) : Prop := (execOp a.eval o).run P W = .ok (.enter f vs.toArray) W
omit hg in
theorem ok_call {Γ : Cx} (hΓ : Snd P Γ) {f : FuncId} {xs : List (S1 × Prop)} {vs : List Value} {d : Nat} {ug : Bool} (hrun : isFn P f = true → argsD xs → Enters P a W o f vs ∧ D1L G W (xs.map (·.1)) vs) (hrb : ∀ k ∈ (evCall P Γ bx rx ug g d f xs).rb, Hb G W k (gb bx k)) (hwb : ∀ p ∈ (evCall P Γ bx rx ug g d f xs).wb, Hb G W p.1 (gb bx p.1)) (hr : ∀ p ∈ (evCall P Γ bx rx ug g d f xs).wr, Hr G W p.1 (gb rx p.1)) (hob : (evCall P Γ bx rx ug g d f xs).ob) : DoesW P M A0 w0 G a W o (evCall P Γ bx rx ug g d f xs) := by
  have obD : ∀ {xs : List (S1 × Prop)}, argsOb bx xs → argsD xs := fun {xs} => by
    induction xs with
    | nil => intro _; trivial
    | cons x xs ih => intro h; exact ⟨h.1.1, ih h.2⟩
  have fin : ∀ (F : List S1 → CR × Prop) (e : Ev) (r : CR), gb Γ.c f = some F → isFn P f = true → argsOb bx xs → (∀ k ∈ refL bx xs, Hb G W k (gb bx k)) → (F (demL bx xs)).2 → (F (demL bx xs)).1 = r → (anySh xs = true → match r with
        | .one x => plainR x
        | .tup l => plainRs l) →
      (∀ v W' A', Ext W W' → (∀ b i, G.A b i → A' b i) → (∀ b i, A' b i → b < W'.heap.size ∧ (b < W.heap.size → G.A b i)) → RDs A' W.heap.size W' r v → ∃ G', GOK M A0 G' W' ∧ Evo (e.wb.map (·.1)) (e.wr.map (·.1)) G W G' W' ∧ Vd G' W' e.x v ∧ (∀ p ∈ e.wb, Hb G' W' p.1 (some p.2)) ∧ ∀ p ∈ e.wr, Hr G' W' p.1 (some p.2)) → DoesW P M A0 w0 G a W o e := by
    intro F e r hF hfn hao href hpre hres hpl hk K Q k
    obtain ⟨hent, hargs⟩ := hrun hfn (obD hao)
    have hcal := hΓ.c _ (gb_mem hF) _ hpre
    dsimp only at hcal
    rw [hres] at hcal
    unfold Oper.wp
    rw [show (execOp a.eval o).run P W = _ from hent, Oper.upon_enter]
    have go : ∀ (A2 : Pr), (∀ b i, A2 b i → b < W.heap.size) → D1L (gh A2) W (demL bx xs) vs → (∀ v W' A', Ext W W' → (∀ b i, A2 b i → A' b i) → (∀ b i, A' b i → b < W'.heap.size ∧ (b < W.heap.size → A2 b i)) → RDs A' W.heap.size W' r v → ∃ A3, (∀ b i, G.A b i → A3 b i) ∧ (∀ b i, A3 b i → b < W'.heap.size ∧ (b < W.heap.size → G.A b i)) ∧ RDs A3 W.heap.size W' r v) → Calls P f vs.toArray W _ := fun A2 hA2 hd2 hto => (hcal A2 W vs hA2 hd2).mono (R' := fun e' w' => match e' with
        | .returned v => K (a.put o.dst v) w'
        | _ => False) (fun e' w' he => by
      obtain ⟨v, A', rfl, hxe, k1, k2, k3⟩ := he
      obtain ⟨A3, j1, j2, j3⟩ := hto v w' A' hxe k1 k2 k3
      obtain ⟨G', m1, m2, m3, m4, m5⟩ := hk v w' A3 hxe j1 j2 j3
      exact k v w' G' m1 (hx.on hxe) m2 m3 m4 m5)
    have goal : Calls P f vs.toArray W (fun e' w' => match e' with
        | .returned v => K (a.put o.dst v) w'
        | _ => False) := by
      cases hsh : anySh xs
      · exact go G.A (fun b i h => (hG.lt b i h).1) (args_ns hargs hsh) (fun v W' A' _ k1 k2 k3 => ⟨A', k1, k2, k3⟩)
      · refine go (more G.A (fun b => b < W.heap.size)) (fun b i h => by rcases h with h | h; exact (hG.lt b i h).1; exact h) (args_ok hG hargs hao href (fun b h => h)) (fun v W' A' hxe k1 k2 k3 => ?_)
        have hlow : ∀ b i, G.A b i → b < W.heap.size := fun b i h => (hG.lt b i h).1
        refine ⟨lentA G.A A' W.heap.size, fun b i h => .inl h, fun b i h => ?_, ?_⟩
        · rcases h with h | ⟨h, h'⟩
          · exact ⟨Nat.lt_of_lt_of_le (hlow b i h) hxe.below.size, fun _ => h⟩
          · exact ⟨(k2 b i h).1, fun hb => by omega⟩
        · have hp := hpl hsh
          cases r with
          | one x => exact rd_lent hlow k3 hp
          | tup l =>
            obtain ⟨us, h1, h2, h3⟩ := k3
            refine ⟨us, h1, h2, fun j x u hj hu => rd_lent hlow (h3 j x u hj hu) ?_⟩
            have : ∀ {l : List R1} {j : Nat} {x : R1}, plainRs l → l[j]? = some x → plainR x := fun {l} => by
              induction l with
              | nil => intro j x _ h; simp at h
              | cons y l ih =>
                intro j x hp h
                cases j with
                | zero => obtain rfl : y = x := by simpa using h
                          exact hp.1
                | succ j => exact ih hp.2 (by simpa using h)
            exact this hp hj
    exact goal.mono fun e' w' he => by
      cases e' with
      | returned v => exact he
      | _ => exact he.elim
  unfold evCall at hob hr hrb hwb ⊢
  split at hob
  · next F hF =>
    simp only [hF] at hrb hwb hr
    obtain ⟨hfn, -, had, hpre⟩ := hob
    obtain ⟨hent, hargs⟩ := hrun hfn had
    intro K Q k
    unfold Oper.wp
    rw [show (execOp a.eval o).run P W = _ from hent, Oper.upon_enter]
    refine (hΓ.m _ (gb_mem hF) _ _ _ hpre M A0 G W vs hG hargs hrb hwb).mono fun e' w' he => ?_
    obtain ⟨v, G', rfl, m1, m2, m3, m4, m5⟩ := he
    exact k v w' G' m1 (hx.trans m2) m3 m4 m5 nofun
  · next hFm =>
    simp only [hFm] at hrb hwb hr
    split at hob
    · next F hF =>
      simp only [hF] at hr hrb hwb
      unfold evCallF at hob hr hrb hwb ⊢
      split at hob
      · next e K l hres =>
        simp only [hres] at hr hrb hwb
        obtain ⟨b1, -, b2, b3, b4, b5⟩ := hob
        refine fin F _ (.one (.mu e K l)) hF b1 b2 hrb b3 hres b4 (fun v W' A' hxe k1 k2 k3 => ?_)
        obtain ⟨g1, ⟨us, g2, g3⟩, g4⟩ := k3
        have hβ := hwb _ (List.mem_singleton.2 rfl)
        dsimp only at hβ
        rw [b5] at hβ
        obtain ⟨m1, m2⟩ := call_ghost hG hxe k1 k2
        have hfm := own_form (own_zero g2)
        obtain ⟨ad, c, hv, hc1, hc2⟩ := hfm
        have hvb : v.ownBlock = blk v := by subst hv; cases ad <;> rfl
        have hnew : ∀ b, blk v = some b → W.heap.size ≤ b ∧ b < W'.heap.size := fun b hb => g2.lt b (hvb.trans hb)
        -- the new object in W', whose ghost is the call's
        have hE2 : Evo [d] [] G W (putβ { G with A := A' } d v) W' := by
          refine ⟨m2.keep, m2.sub, fun k u hk => ?_, fun k hk h => ?_, fun k hk => ?_, fun k u b _ => m2.box k u b (by simp), m2.ρ, m2.ρ0, m2.row⟩
          · show (if k = d then _ else _) = _
            rw [if_neg (fun e => by rw [e, hβ] at hk; cases hk)]
            exact hk
          · show (if k = d then _ else _) = _
            rw [if_neg (by simpa using hk)]
            exact h
          · have : k ≠ d := by simpa using hk
            exact ⟨fun h => h.2, fun h => ⟨this, h⟩⟩
        refine ⟨putβ { G with A := A' } d v, ⟨fun b hb => m1.fr b hb, m1.lt, ?_, ?_, ?_, m1.rowI⟩, hE2, ⟨ad, l.length, c, by show (if d = d then _ else _) = _; rw [if_pos rfl, hv], Nat.le_refl _, hc1, hc2, hv⟩, fun p hp => ?_, nofun⟩
        · intro k u b hk hb
          change (if k = d then _ else _) = _ at hk
          split at hk
          · obtain rfl := Option.some.inj hk
            exact ⟨(hnew b hb).2, fun _ => ⟨hG.fr b (hnew b hb).1, g4 b (hvb.trans hb)⟩⟩
          · next hkd =>
            obtain ⟨h1, h2⟩ := m1.box k u b hk hb
            exact ⟨h1, fun hdd => h2 (fun h => hdd ⟨hkd, h⟩)⟩
        · intro k k' u u' b hk hk' hb hb' hdk hdk'
          change (if k = d then _ else _) = _ at hk
          change (if k' = d then _ else _) = _ at hk'
          split at hk <;> split at hk'
          · omega
          · obtain rfl := Option.some.inj hk
            have h1 := (hG.box k' u' b hk' hb').1
            have := (hnew b hb).1
            omega
          · obtain rfl := Option.some.inj hk'
            have h1 := (hG.box k u b hk hb).1
            have := (hnew b hb').1
            omega
          · next h1 h2 => exact hG.boxI k k' u u' b hk hk' hb hb' (fun h => hdk ⟨h1, h⟩) (fun h => hdk' ⟨h2, h⟩)
        · intro t u K' g' h1 h2
          obtain ⟨f1, f2, f3, f4⟩ := m1.row t u K' g' h1 h2
          refine ⟨f1, f2, fun k z hk hnd hz => ?_, f4⟩
          change (if k = d then _ else _) = _ at hk
          split at hk
          · obtain rfl := Option.some.inj hk
            have h3 := (hG.row t u K' g' h1 h2).2.1
            have := (hnew g' hz).1
            omega
          · next hkd => exact f3 k z hk (fun h => hnd ⟨hkd, h⟩) hz
        · obtain rfl := List.mem_singleton.1 hp
          refine ⟨v, us, by show (if d = d then _ else _) = _; rw [if_pos rfl], fun h => h.1 rfl, ?_, DenXL.of g3, .inr g1⟩
          subst hv
          exact own_zero g2
      · next x hnm hres =>
        simp only [hres] at hr hrb hwb
        obtain ⟨b1, b2, b3, b4, b5⟩ := hob
        refine fin F _ (.one x) hF b1 b2 hrb b3 hres b5 (fun v W' A' hxe k1 k2 k3 => ?_)
        rcases own_split (ug := ug) (d := d) [x] with ⟨e1, e2⟩ | ⟨i, e, K, ls, e1, e2, e3⟩
        · obtain ⟨m1, m2⟩ := call_ghost hG hxe k1 k2
          obtain ⟨x', e3, e4⟩ := e2 0 (cv ug d x) rfl
          obtain rfl : x = x' := by simpa using e3
          refine ⟨_, m1, ?_, ?_, nofun, ?_⟩
          · dsimp only; rw [e1]; exact m2
          · show D1 _ _ (cv ug d x) v
            rw [e4]
            exact cvL_plain rfl (fun e K l h => hnm e K l h) k3
          · dsimp only; rw [e1]; exact nofun
        · have hi : i = 0 := by
            have := (List.getElem?_eq_some_iff.1 e1).1
            simpa using this
          subst hi
          obtain rfl : x = .own e K ls := by simpa using e1
          have hρ := hr _ (by rw [e2]; exact List.mem_singleton.2 rfl)
          dsimp only at hρ
          rw [b4.resolve_left (by rw [e2]; simp)] at hρ
          obtain ⟨m1, m2, m3, m4⟩ := call_own hG hxe k1 k2 hρ k3
          have hug : ug = true := by
            cases ug
            · simp [wrL] at e2
            · rfl
          subst hug
          refine ⟨_, m1, ?_, m4, nofun, ?_⟩
          · dsimp only; rw [e2]; exact m2
          · dsimp only; rw [e2]; intro p hp; obtain rfl := List.mem_singleton.1 hp; exact m3
      · next l hres =>
        simp only [hres] at hr hrb hwb
        obtain ⟨b1, b2, b3, b4, b5, b6⟩ := hob
        refine fin F _ (.tup l) hF b1 b2 hrb b3 hres b5 (fun v W' A' hxe k1 k2 k3 => ?_)
        obtain ⟨us, rfl, hlen, hel⟩ := k3
        rcases own_split (ug := ug) (d := d) l with ⟨e1, e2⟩ | ⟨i, e, K, ls, e1, e2, e3⟩
        · obtain ⟨m1, m2⟩ := call_ghost hG hxe k1 k2
          refine ⟨_, m1, ?_, ⟨us, rfl, by rw [cvL_len, hlen]; simp, fun j y u h4 h5 => ?_⟩, nofun, ?_⟩
          · dsimp only; rw [e1]; exact m2
          · obtain ⟨x', e3, rfl⟩ := e2 j y h4
            exact cvL_plain rfl (noMut_get b6 e3) (hel j x' u e3 (by simpa using h5))
          · dsimp only; rw [e1]; exact nofun
        · have hρ := hr _ (by rw [e2]; exact List.mem_singleton.2 rfl)
          dsimp only at hρ
          rw [b4.resolve_left (by rw [e2]; simp)] at hρ
          have hlt := (List.getElem?_eq_some_iff.1 e1).1
          have hu : us[i]? = some us[i] := Array.getElem?_eq_getElem (by omega)
          obtain ⟨m1, m2, m3, m4⟩ := call_own hG hxe k1 k2 hρ (hel i _ _ e1 hu)
          refine ⟨_, m1, ?_, ⟨us, rfl, by rw [cvL_len, hlen]; simp, fun j y u h4 h5 => ?_⟩, nofun, ?_⟩
          · dsimp only; rw [e2]; exact m2
          · rcases e3 j y h4 with ⟨rfl, rfl⟩ | ⟨x', e4, rfl⟩
            · have h6 : us[j]? = some u := by simpa using h5
              rw [hu] at h6
              obtain rfl := Option.some.inj h6
              exact m4
            · exact cvL_plain rfl (noMut_get b6 e4) (hel j x' u e4 (by simpa using h5))
          · dsimp only; rw [e2]; intro p hp; obtain rfl := List.mem_singleton.1 hp; exact m3
    · exact hob.elim
end
end Go.Proofs.Ytmngjifcgfnogaa.Dq
