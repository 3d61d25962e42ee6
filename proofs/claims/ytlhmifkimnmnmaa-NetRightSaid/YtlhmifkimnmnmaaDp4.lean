/- Deep values: operations that read, write and make memory. No program in sight. -/
import Derived.Test.YtlhmifkimnmnmaaDp3
import Derived.Great.BuildSlice
namespace Go.Proofs.Ytlhmifkimnmnmaa.Dp
set_option linter.unusedSimpArgs false
set_option linter.unusedVariables false
open Go.RowKit

section
variable {P : Program} {base : Nat} {A0 : Pr} {w0 : World} {G : Gh} {a : Act} {W : World} {o : Oper}
theorem info_of_sz {t : TypeId} (h : 0 < sz P t) : ∃ i, P.info? t = some i ∧ i.size = sz P t := by
  unfold sz Program.cellsOf at *
  cases hi : P.info? t with
  | none => rw [hi] at h; simp at h
  | some i => exact ⟨i, rfl, by simp⟩
theorem zD_ok {v : Value} {d : D} (h : zD v = some d) (A : Pr) (w : World) : Den A w d v := by
  unfold zD at h
  split at h
  · obtain rfl := Option.some.inj h; exact .int _ _
  · obtain rfl := Option.some.inj h; exact .bool _
  · obtain rfl := Option.some.inj h; exact .nil _ _
  · cases h
theorem zDs_ok (A : Pr) (w : World) : ∀ {vs : List Value} {ds : List D}, vs.mapM zD = some ds → DenL A w ds vs
  | [], ds, h => by
    obtain rfl : [] = ds := by simpa using h
    exact DenL.nil
  | v :: vs, ds, h => by
    rw [List.mapM_cons] at h
    cases hv : zD v with
    | none => rw [hv] at h; cases h
    | some d =>
      cases hvs : vs.mapM zD with
      | none => rw [hv, hvs] at h; cases h
      | some ds' =>
        rw [hv, hvs] at h
        obtain rfl : d :: ds' = ds := by simpa using h
        exact (DenL.single (zD_ok hv A w)).append (zDs_ok A w hvs)
theorem zr_ok {t : TypeId} {ds : List D} (h : zr P t = some ds) : ∃ i z, P.info? t = some i ∧ i.zero = some z ∧ ∀ A w, DenL A w ds z.cells.toList := by
  unfold zr at h
  cases hi : P.info? t with
  | none => rw [hi] at h; cases h
  | some i =>
    rw [hi] at h
    cases hz : i.zero with
    | none => simp [hz] at h
    | some z =>
      simp only [Option.bind_some, hz] at h
      exact ⟨i, z, rfl, hz, fun A w => zDs_ok A w h⟩
theorem upd_ρ {ρ : Nat → Option (Value × Nat)} {d t : Nat} {x : Option (Value × Nat)} : (fun t => if t = d then x else ρ t) t = if t = d then x else ρ t := rfl
/-- A new row: what it reads as. -/
theorem new_row (hG : GOK base A0 G W) {us : Array Value} {T : TypeId} {K : Nat} {ls : List (List D)} (hK : ∀ cs ∈ ls, cs.length = K) (hd : DenL G.A W ls.flatten us.toList) :
    GOK base A0 { G with A := fun b i => G.A b i ∨ (b = W.heap.size ∧ i < us.size) } (W.alloc (.cells us T)) ∧ Evo [] [] G W { G with A := fun b i => G.A b i ∨ (b = W.heap.size ∧ i < us.size) } (W.alloc (.cells us T)) ∧
    ∀ c, ls.length ≤ c → Den (fun b i => G.A b i ∨ (b = W.heap.size ∧ i < us.size)) (W.alloc (.cells us T)) (.sl ls) (.slice (some ⟨W.heap.size, 0, none⟩) ls.length c) := by
  have hx : Ext W (W.alloc (.cells us T)) := (Ext.refl W).alloc _
  have hG' := hG.ext hx
  have hE := Evo.ext hG hx
  refine ⟨⟨hG'.le, ?_, ?_, hG'.boxI, ?_, hG'.rowI⟩, ⟨hE.keep, fun b i h => .inl h, hE.β, hE.β0, hE.box, hE.ρ, hE.ρ0, hE.row⟩, fun c hc => ?_⟩
  · rintro b i (h | ⟨rfl, h⟩)
    · exact hG'.lt b i h
    · have := hG.le
      exact ⟨by simp, fun h => by omega⟩
  · intro k b hk
    obtain ⟨h1, h2, h3⟩ := hG'.box k b hk
    have h4 := (hG.box k b hk).2.1
    refine ⟨h1, h2, fun i => ?_⟩
    rintro (h | ⟨rfl, h⟩)
    · exact h3 i h
    · omega
  · intro t u K' g h1 h2
    obtain ⟨g1, g2, g3, g4⟩ := hG'.row t u K' g h1 h2
    have g5 := (hG.row t u K' g h1 h2).2.1
    refine ⟨g1, g2, g3, fun i => ?_⟩
    rintro (h | ⟨rfl, h⟩)
    · exact g4 i h
    · omega
  · refine den_of_cells hK hc (hd.mono (fun b i h => .inl h) hE.keep) (fun _ => ⟨_, 0, rfl, fun i u hu => ?_⟩)
    have hlt := (List.getElem?_eq_some_iff.1 hu).1
    refine ⟨.inr ⟨rfl, by simpa using hlt⟩, ?_⟩
    rw [cell_of_row _ _ _ _ _ _ (heap_alloc_new W _), Nat.zero_add]
    simpa using hu
/-- A row gets a tag: it may grow. -/
theorem tag_row {A' : Pr} (hG : GOK base A0 { G with A := A' } W) {e : TypeId} {K n d : Nat} {u : Value} {cs : List Value} (hd : G.ρ d = none) (ho : W.ownsRow base e K u n cs) (hn : slen u = n)
    (hfresh : ∀ g, u.ownBlock = some g → (∀ k, G.β k ≠ some g) ∧ (∀ t u' K', G.ρ t = some (u', K') → u'.ownBlock ≠ some g) ∧ ∀ i, A' g i → i < n * K) :
    GOK base A0 { A := A', β := G.β, ρ := fun t => if t = d then some (u, K) else G.ρ t } W ∧ Hr base { A := A', β := G.β, ρ := fun t => if t = d then some (u, K) else G.ρ t } W d (some ⟨e, K, n⟩) := by
  refine ⟨⟨hG.le, hG.lt, hG.box, hG.boxI, ?_, ?_⟩, ⟨u, cs, by simp, hn, ho⟩⟩
  · intro t u' K' g h1 h2
    dsimp only at h1
    split at h1
    · obtain ⟨rfl, rfl⟩ := Prod.mk.inj (Option.some.inj h1)
      obtain ⟨f1, -, f3⟩ := hfresh g h2
      have := ho.lt g h2
      exact ⟨this.1, this.2, f1, fun i hi => by rw [hn]; exact f3 i hi⟩
    · exact hG.row t u' K' g h1 h2
  · intro t t' u1 u2 K1 K2 g h1 h2 h3 h4
    dsimp only at h1 h2
    split at h1 <;> split at h2
    · omega
    · obtain ⟨rfl, rfl⟩ := Prod.mk.inj (Option.some.inj h1)
      exact absurd h4 ((hfresh g h3).2.1 t' u2 K2 h2)
    · obtain ⟨rfl, rfl⟩ := Prod.mk.inj (Option.some.inj h2)
      exact absurd h3 ((hfresh g h4).2.1 t u1 K1 h1)
    · exact hG.rowI t t' u1 u2 K1 K2 g h1 h2 h3 h4
theorem evo_tag {A' : Pr} {W' : World} (hE : Evo [] [] G W { G with A := A' } W') {d : Nat} (hd : G.ρ d = none) (x : Value × Nat) : Evo [] [d] G W { A := A', β := G.β, ρ := fun t => if t = d then some x else G.ρ t } W' := by
  refine ⟨hE.keep, hE.sub, hE.β, hE.β0, hE.box, fun t u K h => ?_, fun t ht h => ?_, fun t u K ht h => ?_⟩
  · have hne : t ≠ d := fun e => by rw [e, hd] at h; cases h
    refine ⟨u, ?_, Nat.le_refl _, fun _ => rfl⟩
    dsimp only
    rw [if_neg hne]
    exact h
  · dsimp only
    rw [if_neg (by simpa using ht)]
    exact h
  · obtain ⟨-, h2⟩ := hE.row t u K (by simp) h
    refine ⟨?_, h2⟩
    dsimp only
    rw [if_neg (by simpa using ht)]
    exact h
/-- A new box. -/
theorem new_box (hG : GOK base A0 G W) {us : Array Value} {T : TypeId} {ds : List D} {d : Nat} (hd : DenL G.A W ds us.toList) (hβ : G.β d = none) :
    GOK base A0 { G with β := fun k => if k = d then some W.heap.size else G.β k } (W.alloc (.cells us T)) ∧ Evo [d] [] G W { G with β := fun k => if k = d then some W.heap.size else G.β k } (W.alloc (.cells us T)) ∧
    Hb { G with β := fun k => if k = d then some W.heap.size else G.β k } (W.alloc (.cells us T)) d (some ds) ∧ D1 { G with β := fun k => if k = d then some W.heap.size else G.β k } (W.alloc (.cells us T)) (.box d 0) (.pointer (some ⟨W.heap.size, 0, none⟩)) := by
  have hx : Ext W (W.alloc (.cells us T)) := (Ext.refl W).alloc _
  have hG' := hG.ext hx
  have hE := Evo.ext hG hx
  refine ⟨⟨hG'.le, hG'.lt, ?_, ?_, ?_, hG'.rowI⟩, ⟨hE.keep, fun b i h => h, ?_, ?_, ?_, hE.ρ, hE.ρ0, hE.row⟩, ⟨W.heap.size, by simp, us, T, heap_alloc_new W _, hd.mono (fun _ _ h => h) hE.keep⟩, ⟨W.heap.size, by simp, rfl⟩⟩
  · intro k b hk
    dsimp only at hk
    split at hk
    · obtain rfl := Option.some.inj hk
      exact ⟨hG.le, by simp, fun i h => by have := (hG.lt _ i h).1; omega⟩
    · exact hG'.box k b hk
  · intro k k' b hk hk'
    dsimp only at hk hk'
    split at hk <;> split at hk'
    · omega
    · obtain rfl := Option.some.inj hk
      have := (hG.box k' _ hk').2.1
      omega
    · obtain rfl := Option.some.inj hk'
      have := (hG.box k _ hk).2.1
      omega
    · exact hG.boxI k k' b hk hk'
  · intro t u K g h1 h2
    obtain ⟨g1, g2, g3, g4⟩ := hG'.row t u K g h1 h2
    have g5 := (hG.row t u K g h1 h2).2.1
    refine ⟨g1, g2, fun k hk => ?_, g4⟩
    dsimp only at hk
    split at hk
    · obtain rfl := Option.some.inj hk
      omega
    · exact g3 k hk
  · intro k b hk
    dsimp only
    rw [if_neg (fun e => by rw [e, hβ] at hk; cases hk)]
    exact hk
  · intro k hk h
    dsimp only
    rw [if_neg (by simpa using hk)]
    exact h
  · intro k b hk h
    exact hE.box k b (by simp) h
/-- Cells are loaded. -/
theorem run_loadv {A : Pr} {t : TypeId} {b off : Nat} {ds : List D} {us : List Value} (hu : un P t = true) (hs : 0 < sz P t) (hd : DenL A W ds us) (hc : ∀ (j : Nat) u, us[j]? = some u → W.cell? ⟨b, off + j, none⟩ = some u) (ho : (outS (ag P t) (sz P t) ds).2) :
    ∃ v, (Instr.loadAt t (.pointer (some ⟨b, off, none⟩))).run P W = .ok v W ∧ ∀ G : Gh, G.A = A → D1 G W (outS (ag P t) (sz P t) ds).1 v := by
  unfold outS at ho ⊢
  cases hag : ag P t
  · rw [hag] at ho
    simp only [Bool.false_eq_true, if_false] at ho ⊢
    cases ds with
    | nil => exact ho.elim
    | cons d ds =>
      obtain ⟨u, h2, h3⟩ := hd.get (j := 0) rfl
      have h4 := hc 0 u h2
      rw [Nat.add_zero] at h4
      exact ⟨u, by simp [Instr.loadAt, Instr.sureAddr, loadVar, run_ag hu, hag, h4], fun G hG => by subst hG; exact h3⟩
  · rw [hag] at ho
    simp only [if_true] at ho ⊢
    have hl := hd.1
    have hlen : (us.take (sz P t)).length = sz P t := by rw [List.length_take]; omega
    have hrun := run_loadCells_list (P := P) W ⟨b, off, none⟩ (us.take (sz P t)) (fun j u hj => by
      rw [List.getElem?_take] at hj
      split at hj
      · rw [addr_add']; exact hc j u hj
      · cases hj)
    rw [hlen] at hrun
    refine ⟨.agg (us.take (sz P t)).toArray, by simp [Instr.loadAt, Instr.sureAddr, loadVar, run_ag hu, hag, run_sz hs, hrun], fun G hG => ?_⟩
    subst hG
    exact ⟨_, rfl, by simpa using hd.take (sz P t)⟩
variable {s : List (Nat × SV)} {bx : List (Nat × List D)} {g : Bool} (hg : g = true) (hG : GOK base A0 G W) (hx : Ext w0 W)
def evLoad (P : Program) (s : List (Nat × SV)) (bx : List (Nat × List D)) (g : Bool) (t : TypeId) (x : Operand) : Ev := match opd s g x with
  | (.box k off, p) => match gb bx k with
    | some cs => { x := some (.one (outS (ag P t) (sz P t) (cs.drop off)).1), ob := p ∧ un P t = true ∧ 0 < sz P t ∧ (outS (ag P t) (sz P t) (cs.drop off)).2, rb := [k] }
    | none => bad
  | (.ptr cs, p) => { x := some (.one (outS (ag P t) (sz P t) cs).1), ob := p ∧ un P t = true ∧ 0 < sz P t ∧ (outS (ag P t) (sz P t) cs).2 }
  | _ => bad
include hg hG hx
theorem ok_load {t : TypeId} {x : Operand} (ho : o.op = .load t x) (h1 : Okd G W s a x) (hb : ∀ k ∈ (evLoad P s bx g t x).rb, Hb G W k (gb bx k)) (hob : (evLoad P s bx g t x).ob) : Does P base A0 w0 G a W o (evLoad P s bx g t x) := by
  have d1 := opd_ok hg h1
  unfold evLoad at hob hb ⊢
  split at hob
  · next k off p e1 =>
    rw [e1] at d1
    split at hob
    · next cs hcs =>
      simp only [e1, hcs] at hb
      obtain ⟨hp, hu, hs, hout⟩ := hob
      obtain ⟨b, hk, he⟩ := d1 hp
      have hbk := hb k List.mem_cons_self
      rw [hcs] at hbk
      obtain ⟨b', hk', arr, T, hh, hd⟩ := hbk
      obtain rfl : b = b' := Option.some.inj (hk.symm.trans hk')
      obtain ⟨v, hv, hd2⟩ := run_loadv (P := P) (W := W) (b := b) (off := off) hu hs (hd.drop off) (fun j u hj => by
        rw [List.getElem?_drop] at hj
        rw [cell_of_row _ _ _ _ _ _ hh]
        simpa using hj) hout
      exact does_pure hG hx (v := v) (by simp [execOp, ho, he, hv]) (hd2 G rfl)
    · exact hob.elim
  · next cs p e1 =>
    rw [e1] at d1
    obtain ⟨hp, hu, hs, hout⟩ := hob
    obtain ⟨b, off, he, hat⟩ := d1 hp
    obtain ⟨us, hd, hc⟩ := hat.cells
    obtain ⟨v, hv, hd2⟩ := run_loadv (P := P) (W := W) (b := b) (off := off) hu hs hd hc hout
    exact does_pure hG hx (v := v) (by simp [execOp, ho, he, hv]) (hd2 G rfl)
  · exact hob.elim
def evAlloc (P : Program) (bx : List (Nat × List D)) (g : Bool) (d : Nat) (t : TypeId) : Ev := match zr P t with
  | some z => { x := some (.one (.box d 0)), ob := gb bx d = none ∧ g = true, wb := [(d, z)] }
  | none => bad
omit hg in
theorem ok_alloc {t : TypeId} {d : Nat} (ho : o.op = .alloc t) (hb : ∀ p ∈ (evAlloc P bx g d t).wb, Hb G W p.1 (gb bx p.1)) (hob : (evAlloc P bx g d t).ob) : Does P base A0 w0 G a W o (evAlloc P bx g d t) := by
  unfold evAlloc at hob hb ⊢
  split at hob
  · next z hz =>
    obtain ⟨i, zv, hi, hzv, hd⟩ := zr_ok hz
    simp only [hz] at hb
    have hβ := hb (d, z) (List.mem_singleton.2 rfl)
    dsimp only at hβ
    rw [hob.1] at hβ
    obtain ⟨g1, g2, g3, g4⟩ := new_box hG (T := t) (hd G.A W) hβ
    refine ⟨_, _, _, _, ?_, .inl rfl, g1, hx.alloc _, g2, g4, fun p hp => ?_, nofun⟩
    · simp [execOp, ho, Instr.alloc, zeroValue, typeInfo, hi, hzv, newVar, newRow] <;> rfl
    · obtain rfl := List.mem_singleton.1 hp
      exact g3
  · exact hob.elim
def evBox (s : List (Nat × SV)) (bx : List (Nat × List D)) (g : Bool) (d : Nat) (x : Operand) : Ev := { x := some (.one (.box d 0)), ob := gb bx d = none ∧ g = true ∧ (opd s g x).2 ∧ okS (opd s g x).1 = true, wb := [(d, cellsS (opd s g x).1)] }
theorem ok_box {t : TypeId} {d : Nat} {x : Operand} (ho : o.op = .box t x) (h1 : Okd G W s a x) (hb : ∀ p ∈ (evBox s bx g d x).wb, Hb G W p.1 (gb bx p.1)) (hob : (evBox s bx g d x).ob) : Does P base A0 w0 G a W o (evBox s bx g d x) := by
  obtain ⟨hn, -, hp, hok⟩ := hob
  have d1 := cellsS_ok (opd_ok hg h1 hp) hok
  have hβ := hb (d, cellsS (opd s g x).1) (by simp [evBox])
  dsimp only at hβ
  rw [hn] at hβ
  obtain ⟨g1, g2, g3, g4⟩ := new_box hG (T := t) d1 hβ
  refine ⟨_, _, _, _, ?_, .inl rfl, g1, hx.alloc _, g2, g4, fun p hp => ?_, nofun⟩
  · simp [execOp, ho, Instr.box, newVar, newRow] <;> rfl
  · obtain rfl := List.mem_singleton.1 hp
    exact g3
def evStore (P : Program) (s : List (Nat × SV)) (bx : List (Nat × List D)) (g : Bool) (t : TypeId) (x y : Operand) : Ev := match opd s g x with
  | (.box k off, p) => match gb bx k with
    | some cs => { x := none, ob := g = true ∧ p ∧ (opd s g y).2 ∧ okS (opd s g y).1 = true ∧ (cellsS (opd s g y).1).length = sz P t ∧ 0 < sz P t ∧ off + sz P t ≤ cs.length, wb := [(k, setAt cs off (cellsS (opd s g y).1))] }
    | none => bad
  | _ => bad
theorem ok_store {t : TypeId} {x y : Operand} (hw : base = w0.heap.size) (ho : o.op = .store t x y) (h1 : Okd G W s a x) (h2 : Okd G W s a y) (hb : ∀ p ∈ (evStore P s bx g t x y).wb, Hb G W p.1 (gb bx p.1)) (hob : (evStore P s bx g t x y).ob) : Does P base A0 w0 G a W o (evStore P s bx g t x y) := by
  have d1 := opd_ok hg h1
  unfold evStore at hob hb ⊢
  split at hob
  · next k off p e1 =>
    rw [e1] at d1
    split at hob
    · next cs hcs =>
      simp only [e1, hcs] at hb
      obtain ⟨-, hp, hq, hok, hlen, hs, hfit⟩ := hob
      have d2 := cellsS_ok (opd_ok hg h2 hq) hok
      obtain ⟨b, hk, he⟩ := d1 hp
      have hbk := hb _ (List.mem_singleton.2 rfl)
      dsimp only at hbk
      rw [hcs] at hbk
      obtain ⟨b', hk', arr, T, hh, hd⟩ := hbk
      obtain rfl : b = b' := Option.some.inj (hk.symm.trans hk')
      obtain ⟨hb1, hb2, hb3⟩ := hG.box k b hk
      have hl2 := d2.1
      have hal : cs.length = arr.size := by simpa using hd.1
      have hrun := run_storeCells_at P b off T (a.eval y).cells.toList 0 arr W hh (by rw [Nat.add_zero, ← hl2, hlen, ← hal]; exact hfit) d2.one
      rw [Nat.add_zero] at hrun
      obtain ⟨vs, hvs⟩ : ∃ vs, vs = (arr.toList.take off ++ (a.eval y).cells.toList ++ arr.toList.drop (off + (a.eval y).cells.toList.length)).toArray := ⟨_, rfl⟩
      rw [← hvs] at hrun
      have hother : ∀ b', b' ≠ b → (W.setRow b vs).heap[b']? = W.heap[b']? := fun b' hne => setRow_other W b b' _ hne
      have hself : (W.setRow b vs).heap[b]? = some (.cells vs T (0, 0)) := setRow_heap W b arr _ T _ hh
      have hsize : (W.setRow b vs).heap.size = W.heap.size := by simp [World.setRow]
      have hkeep : Kp G.A W (W.setRow b vs) := fun b' i v hA hc => by
        rw [World.cell?_of_block (a := ⟨b', i, none⟩) (hother b' (fun e => hb3 i (e ▸ hA)))]
        exact hc
      have hxt : Ext w0 (W.setRow b vs) := hx.grown (row := some b) ⟨rfl, rfl, rfl, by rw [hsize]; exact Nat.le_refl _, fun k' hk' hne => hother k' (fun e => hne (by rw [e]))⟩ (fun k' hk' => by cases hk'; omega)
      have hDL : DenL G.A (W.setRow b vs) (setAt cs off (cellsS (opd s g y).1)) vs.toList := by
        have h3 := (((hd.take off).append d2).append (hd.drop (off + (cellsS (opd s g y).1).length))).mono (fun _ _ h => h) hkeep
        have e3 : vs.toList = arr.toList.take off ++ (a.eval y).cells.toList ++ arr.toList.drop (off + (cellsS (opd s g y).1).length) := by rw [hvs, hl2]
        rw [e3]
        exact h3
      refine ⟨undef, W.setRow b vs, G, .skip, ?_, .inr ⟨rfl, rfl⟩, ⟨by rw [hsize]; exact hG.le, fun b i h => by rw [hsize]; exact hG.lt b i h, fun k b h => by rw [hsize]; exact hG.box k b h, hG.boxI, fun t u K g h h' => by rw [hsize]; exact hG.row t u K g h h', hG.rowI⟩, hxt, ⟨hkeep, fun _ _ h => h, fun _ _ h => h, fun _ _ h => h, fun k' b' hk1 hk2 => hother b' (fun e => hk1 (List.mem_singleton.2 (hG.boxI k' k b (e ▸ hk2) hk))), fun t u K h => ⟨u, h, Nat.le_refl _, fun _ => rfl⟩, fun _ _ h => h, fun t u K _ h => ⟨h, fun g' hg' => hother g' (fun e => (hG.row t u K g' h hg').2.2.1 k (by rw [e]; exact hk))⟩⟩, rfl, fun p hp => ?_, nofun⟩
      · have hsz2 : (a.eval y).cells.size = sz P t := by rw [← hlen, hl2]; simp
        have hrun' : (storeCells ⟨b, off, none⟩ (a.eval y).cells.toList).run P W = .ok () (W.setRow b vs) := hrun
        simp [execOp, ho, he, Instr.storeAt, Instr.sureAddr, storeVar, run_sz hs, hsz2, hrun']
      · obtain rfl := List.mem_singleton.1 hp
        exact ⟨b, hk, vs, T, hself, hDL⟩
    · exact hob.elim
  · exact hob.elim
end
end Go.Proofs.Ytlhmifkimnmnmaa.Dp
