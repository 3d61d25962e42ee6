/- Deep values: literals, slices, append, len, make. No program in sight. -/
import Derived.Test.YtmngjifcgfnogaaDq4
import Derived.Laws.MakeOwn
namespace Go.Proofs.Ytmngjifcgfnogaa.Dq
set_option linter.unusedSimpArgs false
set_option linter.unusedVariables false
set_option maxRecDepth 100000
open Go.RowKit

/-- Places of a literal's parts. -/
def plc (P : Program) (t : TypeId) : Option (List (Nat × Nat)) := match P.underlying t with
  | some (.struct fs) => fs.toList.mapM fun f => (P.info? f.type).map fun i => (f.offset, i.size)
  | some (.array n e) => (P.info? e).map fun i => (List.range n).map fun j => (j * i.size, i.size)
  | _ => none
def fillD (pl : List (Nat × Nat)) : List D → List (Nat × (S1 × Prop)) → List D × Prop
  | cs, [] => (cs, True)
  | cs, (i, x) :: rest => match pl[i]? with
    | some (off, n) => let r := fillD pl (setAt cs off (cellsS x.1)) rest
      (r.1, x.2 ∧ okS x.1 = true ∧ (cellsS x.1).length = n ∧ off + n ≤ cs.length ∧ r.2)
    | none => (cs, False)
section
variable {P : Program} {M : Nat → Prop} {A0 : Pr} {w0 : World} {G : Gh} {a : Act} {W : World} {o : Oper}
theorem setAt_foldl : ∀ (vs : List Value) (k off : Nat) (cells : Array Value), off + k + vs.length ≤ cells.size →
    ((vs.zipIdx k).foldl (fun (cs : Array Value) (p : Value × Nat) => cs.setIfInBounds (off + p.2) p.1) cells).toList = cells.toList.take (off + k) ++ vs ++ cells.toList.drop (off + k + vs.length)
  | [], k, off, cells, _ => by simp
  | v :: vs, k, off, cells, h => by
    simp only [List.length_cons] at h
    rw [List.zipIdx_cons, List.foldl_cons, setAt_foldl vs (k + 1) off _ (by simp; omega)]
    have hlt : off + k < cells.toList.length := by simp; omega
    rw [Array.toList_setIfInBounds]
    have e1 : (cells.toList.set (off + k) v).take (off + (k + 1)) = cells.toList.take (off + k) ++ [v] := by
      rw [show off + (k + 1) = off + k + 1 by omega, List.take_set, List.take_add_one, List.getElem?_eq_getElem hlt, List.set_append_right _ _ (by simp; omega)]
      have hm : min (off + k) cells.size = off + k := Nat.min_eq_left (by simp at hlt; omega)
      simp [hm]
    have e2 : (cells.toList.set (off + k) v).drop (off + (k + 1) + vs.length) = cells.toList.drop (off + k + (v :: vs).length) := by
      rw [List.drop_set_of_lt (by omega)]
      congr 1
      simp only [List.length_cons]
      omega
    rw [e1, e2]
    simp
theorem fill_ok (place : Nat → Option (Nat × Nat)) (pl : List (Nat × Nat)) (hp : ∀ i x, pl[i]? = some x → place i = some x) : ∀ (parts : List (Nat × (S1 × Prop))) (vs : List (Nat × Value)) (ds : List D) (cells : Array Value),
    DenXL G W ds cells.toList → parts.map (·.1) = vs.map (·.1) → (∀ (j : Nat) p v, parts[j]? = some p → vs[j]? = some v → p.2.2 → okS p.2.1 = true → DenXL G W (cellsS p.2.1) v.2.cells.toList) → (fillD pl ds parts).2 →
    ∃ r, Instr.fill place cells vs = some r ∧ DenXL G W (fillD pl ds parts).1 r.toList
  | [], vs, ds, cells, hd, hm, _, _ => by
    obtain rfl : vs = [] := by simpa using hm.symm
    exact ⟨cells, rfl, hd⟩
  | (i, x) :: parts, vs, ds, cells, hd, hm, hv, hob => by
    cases vs with
    | nil => simp at hm
    | cons v vs =>
      simp only [List.map_cons, List.cons.injEq] at hm
      obtain ⟨hi, hm⟩ := hm
      obtain ⟨vi, v⟩ := v
      dsimp only at hi
      subst hi
      unfold fillD at hob ⊢
      cases hpl : pl[i]? with
      | none => rw [hpl] at hob; exact hob.elim
      | some x' =>
        obtain ⟨off, n⟩ := x'
        rw [hpl] at hob
        dsimp only at hob ⊢
        obtain ⟨h1, h2, h3, h4, h5⟩ := hob
        have hdv := hv 0 _ _ rfl rfl h1 h2
        dsimp only at hdv
        have hl := hdv.1
        have hl2 := hd.1
        have hsz : v.cells.size = n := by rw [← h3, hl]; simp
        have hsz2 : cells.size = ds.length := by rw [hl2]; simp
        have e := setAt_foldl v.cells.toList 0 off cells (by simp; omega)
        have e' : (v.cells.zipIdx.foldl (fun (cs : Array Value) (p : Value × Nat) => cs.setIfInBounds (off + p.2) p.1) cells).toList = cells.toList.take off ++ v.cells.toList ++ cells.toList.drop (off + v.cells.toList.length) := by
          rw [← Array.foldl_toList, Array.toList_zipIdx]
          simpa using e
        have hd' : DenXL G W (setAt ds off (cellsS x.1)) (v.cells.zipIdx.foldl (fun (cs : Array Value) (p : Value × Nat) => cs.setIfInBounds (off + p.2) p.1) cells).toList := by
          rw [e', setAt, hl]
          exact ((hd.take off).append hdv).append (hd.drop _)
        obtain ⟨r, hr1, hr2⟩ := fill_ok place pl hp parts vs _ _ hd' hm (fun j p v h h' => hv (j + 1) p v (by simpa using h) (by simpa using h')) h5
        refine ⟨r, ?_, hr2⟩
        unfold Instr.fill
        rw [hp _ _ hpl]
        dsimp only
        rw [if_neg (by rw [hsz]; simp; omega)]
        exact hr1
variable {s : List (Nat × SV)} {bx : Bt} {rx : List (Nat × RowI)} {g : Bool} (hg : g = true) (hG : GOK M A0 G W) (hx : Chg M w0 W)
def evBuild (P : Program) (s : List (Nat × SV)) (g : Bool) (t : TypeId) (ps : List (Nat × Operand)) : Ev := match plc P t, zr P t with
  | some pl, some z => { x := some (.one (.agg (fillD pl z (ps.map fun p => (p.1, opd s g p.2))).1)), ob := (fillD pl z (ps.map fun p => (p.1, opd s g p.2))).2 }
  | _, _ => bad
theorem built_ok {t : TypeId} {pl : List (Nat × Nat)} {z : List D} (hpl : plc P t = some pl) (hz : zr P t = some z) (parts : List (Nat × (S1 × Prop))) (vs : List (Nat × Value)) (hm : parts.map (·.1) = vs.map (·.1)) (hv : ∀ (j : Nat) p v, parts[j]? = some p → vs[j]? = some v → p.2.2 → okS p.2.1 = true → DenXL G W (cellsS p.2.1) v.2.cells.toList) (hob : (fillD pl z parts).2) :
    ∃ r, P.built t vs = some r ∧ DenXL G W (fillD pl z parts).1 r.toList := by
  obtain ⟨i, zv, hi, hzv, hd⟩ := zr_ok hz
  unfold plc at hpl
  unfold Program.built
  rw [hi]
  split at hpl
  · next fs hu =>
    rw [hu]
    simp only [hzv, hpl]
    exact fill_ok _ pl (fun i x h => by simpa using h) parts vs z _ (DenXL.of (hd G.A W)) hm hv hob
  · next n e hu =>
    rw [hu]
    cases hie : P.info? e with
    | none => rw [hie] at hpl; cases hpl
    | some ie =>
      rw [hie] at hpl
      obtain rfl := Option.some.inj hpl
      simp only [hzv, hie]
      refine fill_ok _ _ (fun i x h => ?_) parts vs z _ (DenXL.of (hd G.A W)) hm hv hob
      rw [List.getElem?_map] at h
      by_cases hlt : i < n
      · rw [List.getElem?_range hlt] at h
        simpa using h
      · rw [List.getElem?_eq_none (by simpa using hlt)] at h
        cases h
  · cases hpl
include hg hG hx
theorem ok_build {t : TypeId} {ps : Array (Nat × Operand)} (ho : o.op = .build t ps) (h1 : ∀ p ∈ ps.toList, Okd G W s a p.2) (hob : (evBuild P s g t ps.toList).ob) : Does P M A0 w0 G a W o (evBuild P s g t ps.toList) := by
  unfold evBuild at hob ⊢
  split at hob
  · next pl z hpl hz =>
    obtain ⟨r, hr, hd⟩ := built_ok (G := G) (W := W) hpl hz (ps.toList.map fun p => (p.1, opd s g p.2)) (ps.toList.map fun p => (p.1, a.eval p.2)) (by simp) (fun j p v h h' hp hok => by
      rw [List.getElem?_map] at h h'
      cases hj : ps.toList[j]? with
      | none => rw [hj] at h; cases h
      | some q =>
        rw [hj] at h h'
        obtain rfl := Option.some.inj h
        obtain rfl := Option.some.inj h'
        exact cellsS_ok (opd_ok hg (h1 q (List.mem_of_getElem? hj)) hp) hok) hob
    have hrun := run_build (P := P) W t (ps.map fun (i, x) => (i, a.eval x)) r (by rw [Array.toList_map]; exact hr)
    exact does_pure hG hx (v := .agg r) (by simp [execOp, ho, hrun]) ⟨_, rfl, hd⟩
  · exact hob.elim
/-- A slice literal, all of whose elements are given, in order. -/
def elsD : List (S1 × Prop) → List (List D)
  | [] => []
  | x :: l => deNls (cellsS x.1) :: elsD l
def elsOb (K : Nat) : List (S1 × Prop) → Prop
  | [] => True
  | x :: l => (x.2 ∧ okS x.1 = true ∧ (cellsS x.1).length = K) ∧ elsOb K l
def elsLf : List (S1 × Prop) → Prop
  | [] => True
  | x :: l => lfs (deNls (cellsS x.1)) = true ∧ elsLf l
def evLit (P : Program) (s : List (Nat × SV)) (bx : Bt) (rx : List (Nat × RowI)) (xl ug : Bool) (g : Bool) (d : Nat) (t : TypeId) (n : Nat) (ps : List (Nat × Operand)) : Ev := match isSl P t with
  | some e => if xl then { x := some (.one (.c (.lk d n))), ob := gb bx d = none ∧ g = true ∧ ps.map (·.1) = List.range n ∧ (zr P e).isSome = true ∧ 0 < sz P e ∧ n * sz P e ≤ 100000 ∧ elsOb (sz P e) (ps.map fun p => opd s g p.2), wb := [(d, some ⟨e, sz P e, elsD (ps.map fun p => opd s g p.2)⟩)] }
    else if ug then { x := some (.one (.own d (sz P e) (elsD (ps.map fun p => opd s g p.2)))), ob := gb rx d = none ∧ ps.map (·.1) = List.range n ∧ (zr P e).isSome = true ∧ 0 < sz P e ∧ n * sz P e ≤ 100000 ∧ elsOb (sz P e) (ps.map fun p => opd s g p.2) ∧ elsLf (ps.map fun p => opd s g p.2), wr := [(d, ⟨e, sz P e, n⟩)] }
    else { x := some (.one (.c (.sl (elsD (ps.map fun p => opd s g p.2))))), ob := ps.map (·.1) = List.range n ∧ (zr P e).isSome = true ∧ 0 < sz P e ∧ n * sz P e ≤ 100000 ∧ elsOb (sz P e) (ps.map fun p => opd s g p.2) ∧ elsLf (ps.map fun p => opd s g p.2) }
  | none => bad
omit hg hG hx in
theorem lfs_app : ∀ {l m : List D}, lfs l = true → lfs m = true → lfs (l ++ m) = true
  | [], m, _, h => h
  | d :: l, m, h, h' => by
    rw [List.cons_append]
    have h := (Bool.and_eq_true _ _).mp h
    exact (Bool.and_eq_true _ _).mpr ⟨h.1, lfs_app h.2 h'⟩
omit hg hG hx in
theorem els_lf : ∀ {xs : List (S1 × Prop)}, elsLf xs → lfs (elsD xs).flatten = true
  | [], _ => rfl
  | x :: xs, h => by
    simp only [elsD, List.flatten_cons]
    exact lfs_app h.1 (els_lf h.2)
omit hg hG hx in
theorem els_ok {G : Gh} {K : Nat} : ∀ (xs : List (S1 × Prop)) (vs : List Value), (∀ (j : Nat) p v, xs[j]? = some p → vs[j]? = some v → p.2 → D1 G W p.1 v) → xs.length = vs.length → elsOb K xs →
    (∀ cs ∈ elsD xs, cs.length = K) ∧ DenXL G W (elsD xs).flatten (vs.flatMap fun v => v.cells.toList) ∧ (∀ v ∈ vs, v.cells.size = K) ∧ (elsD xs).length = xs.length
  | [], vs, _, hl, _ => by
    obtain rfl : vs = [] := List.eq_nil_of_length_eq_zero hl.symm
    exact ⟨nofun, AL.nil, nofun, rfl⟩
  | x :: xs, vs, h, hl, hob => by
    cases vs with
    | nil => simp at hl
    | cons v vs =>
      obtain ⟨⟨h1, h2, h3⟩, h4⟩ := hob
      obtain ⟨g1, g2, g3, g4⟩ := els_ok xs vs (fun j p v' k k' => h (j + 1) p v' (by simpa using k) (by simpa using k')) (by simpa using hl) h4
      have hd0 := cellsS_ok (h 0 x v rfl rfl h1) h2
      have hd := deNls_ok hd0
      rw [← deNls_len] at h3
      refine ⟨fun cs hc => ?_, ?_, fun u hu => ?_, by simp [elsD, g4]⟩
      · rcases List.mem_cons.1 hc with rfl | hc
        · exact h3
        · exact g1 cs hc
      · simp only [elsD, List.flatten_cons, List.flatMap_cons]
        exact hd.append g2
      · rcases List.mem_cons.1 hu with rfl | hu
        · rw [← h3, hd.1]; simp
        · exact g3 u hu
theorem ok_lit {t : TypeId} {n d : Nat} {xl ug : Bool} {ps : Array (Nat × Operand)} (ho : o.op = .buildSlice t n ps) (h1 : ∀ p ∈ ps.toList, Okd G W s a p.2) (hb : ∀ p ∈ (evLit P s bx rx xl ug g d t n ps.toList).wb, Hb G W p.1 (gb bx p.1)) (hr : ∀ p ∈ (evLit P s bx rx xl ug g d t n ps.toList).wr, Hr G W p.1 (gb rx p.1)) (hob : (evLit P s bx rx xl ug g d t n ps.toList).ob) : Does P M A0 w0 G a W o (evLit P s bx rx xl ug g d t n ps.toList) := by
  have core : ∀ e, isSl P t = some e → ps.toList.map (·.1) = List.range n → (zr P e).isSome = true → 0 < sz P e → n * sz P e ≤ 100000 → elsOb (sz P e) (ps.toList.map fun p => opd s g p.2) →
      ∃ us : Array Value, (execOp a.eval o).run P W = .ok (.value (.slice (some ⟨W.heap.size, 0, none⟩) n n)) (W.alloc (.cells us e)) ∧ us.size = n * sz P e ∧ (elsD (ps.toList.map fun p => opd s g p.2)).length = n ∧ (∀ cs ∈ elsD (ps.toList.map fun p => opd s g p.2), cs.length = sz P e) ∧ DenXL G W (elsD (ps.toList.map fun p => opd s g p.2)).flatten us.toList := by
    intro e hsl hm hz hs hn hels
    obtain ⟨z, hz⟩ := Option.isSome_iff_exists.1 hz
    obtain ⟨i, zv, hi, hzv, -⟩ := zr_ok hz
    obtain ⟨i', hi', his⟩ := info_of_sz hs
    obtain rfl : i = i' := Option.some.inj (hi.symm.trans hi')
    have hlen : ps.toList.length = n := by have := congrArg List.length hm; simpa using this
    obtain ⟨g1, g2, g3, g4⟩ := els_ok (W := W) (G := G) (K := sz P e) (ps.toList.map fun p => opd s g p.2) (ps.toList.map fun p => a.eval p.2) (fun j p v h h' hp => by
      rw [List.getElem?_map] at h h'
      cases hj : ps.toList[j]? with
      | none => rw [hj] at h; cases h
      | some q =>
        rw [hj] at h h'
        obtain rfl := Option.some.inj h
        obtain rfl := Option.some.inj h'
        exact opd_ok hg (h1 q (List.mem_of_getElem? hj)) hp) (by simp) hels
    have hflat : ((ps.toList.map fun p => a.eval p.2).flatMap fun v => v.cells.toList).length = n * sz P e := by
      have := g2.1
      rw [← this, flatten_length g1, g4, List.length_map, hlen]
    refine ⟨((ps.toList.map fun p => a.eval p.2).flatMap fun v => v.cells.toList).toArray, ?_, by simpa using hflat, by rw [g4, List.length_map, hlen], g1, by simpa using g2⟩
    by_cases h0 : n = 0
    · subst h0
      have hps : ps = #[] := by
        apply Array.toList_inj.1
        exact List.eq_nil_of_length_eq_zero hlen
      subst hps
      simp [execOp, ho, Instr.buildSlice, run_underlying (isSl_spec hsl), run_sz hs, Instr.fill, newRow, show Array.range 0 = #[] from rfl]
      try rfl
    · have hpos : ¬ n * i.size = 0 := by
        rw [his]
        exact Nat.mul_ne_zero h0 (by omega)
      have hparts : (ps.map fun (i, x) => (i, a.eval x)).toList = ((ps.toList.map fun p => a.eval p.2).zipIdx 0).map fun x => (x.2, x.1) := by
        rw [Array.toList_map]
        apply List.ext_getElem?
        intro j
        rw [List.getElem?_map, List.getElem?_map, List.getElem?_zipIdx, List.getElem?_map]
        cases hj : ps.toList[j]? with
        | none => rfl
        | some q =>
          have : (ps.toList.map (·.1))[j]? = some q.1 := by rw [List.getElem?_map, hj]; rfl
          rw [hm] at this
          have hlt : j < n := by
            have := (List.getElem?_eq_some_iff.1 this).1
            simpa using this
          rw [List.getElem?_range hlt] at this
          obtain rfl := Option.some.inj this
          simp
      have hfill := Go.Great.fill_whole (s := i.size) (by omega) (ps.toList.map fun p => a.eval p.2) ((Array.range (n * i.size)).map (zv.cells[· % zv.cells.size]!)) (by rw [his]; exact g3) (by simp [hlen])
      have hrun := run_buildSlice (P := P) W t e n (ps.map fun (i, x) => (i, a.eval x)) _ i zv (isSl_spec hsl) hi hzv (by rw [his]; omega) hpos (by rw [hparts]; exact hfill)
      simp [execOp, ho, hrun]
  unfold evLit at hob hr hb ⊢
  split at hob
  · next e hsl =>
    simp only [hsl] at hr hb
    have nle : 0 < sz P e → n * sz P e ≤ 100000 → n ≤ maxLen := fun hs hn => by
      have := Nat.le_mul_of_pos_right n hs
      unfold maxLen
      omega
    cases xl
    · simp only [Bool.false_eq_true, if_false] at hob hr hb ⊢
      cases ug
      · simp only [Bool.false_eq_true, if_false] at hob hr ⊢
        obtain ⟨hm, hz, hs, hn, hels, hlf⟩ := hob
        obtain ⟨us, hrun, hsz, hl, hK, hd⟩ := core e hsl hm hz hs hn hels
        obtain ⟨k1, k2, k3⟩ := new_row hG (T := e) hK (hd.den (els_lf hlf))
        have k4 := k3 n (Nat.le_of_eq hl)
        rw [hl] at k4
        exact ⟨_, _, _, _, hrun, .inl rfl, k1, hx.on ((Ext.refl _).alloc _), k2, k4, nofun, nofun⟩
      · simp only [if_true] at hob hr ⊢
        obtain ⟨hrx, hm, hz, hs, hn, hels, hlf⟩ := hob
        obtain ⟨us, hrun, hsz, hl, hK, hd⟩ := core e hsl hm hz hs hn hels
        obtain ⟨k1, k2, k3⟩ := new_row hG (T := e) hK (hd.den (els_lf hlf))
        have k4 := k3 n (Nat.le_of_eq hl)
        rw [hl] at k4
        have hρ := hr _ (List.mem_singleton.2 rfl)
        dsimp only at hρ
        rw [hrx] at hρ
        have hrow : (W.alloc (.cells us e)).ownsRow 0 e (sz P e) (.slice (some ⟨W.heap.size, 0, none⟩) n n) n us.toList := ⟨by simpa using hsz, .inr ⟨W.heap.size, n, us, rfl, Nat.zero_le _, heap_alloc_new W _, Nat.le_refl _, nle hs hn, hsz, by rw [List.take_of_length_le (by simp [hsz])]⟩⟩
        obtain ⟨m1, m2⟩ := tag_row k1 (d := d) (u := .slice (some ⟨W.heap.size, 0, none⟩) n n) hρ hrow rfl (fun g hgg => by
          obtain rfl : W.heap.size = g := Option.some.inj hgg
          refine ⟨hG.fr _ (Nat.le_refl _), fun k v hk _ hb => ?_, fun t u' K' h h' => ?_, fun i hi => ?_⟩
          · have := (hG.box k v _ hk hb).1; omega
          · have := (hG.row t u' K' _ h h').2.1; omega
          · rcases hi with hi | ⟨-, hi⟩
            · have := (hG.lt _ i hi).1; omega
            · omega)
        refine ⟨_, _, _, _, hrun, .inl rfl, m1, hx.on ((Ext.refl _).alloc _), evo_tag k2 hρ _, ⟨k4, hK, _, by dsimp only; rw [if_pos rfl], Nat.le_refl _, fun _ => rfl⟩, nofun, fun p hp => ?_⟩
        obtain rfl := List.mem_singleton.1 hp
        exact m2
    · simp only [if_true] at hob hr hb ⊢
      obtain ⟨hbx, -, hm, hz, hs, hn, hels⟩ := hob
      obtain ⟨us, hrun, hsz, hl, hK, hd⟩ := core e hsl hm hz hs hn hels
      have hβ := hb _ (List.mem_singleton.2 rfl)
      dsimp only at hβ
      rw [hbx] at hβ
      have hx' : Ext W (W.alloc (.cells us e)) := (Ext.refl W).alloc _
      have hrow : (W.alloc (.cells us e)).ownsRow 0 e (sz P e) (.slice (some ⟨W.heap.size, 0, none⟩) n n) n us.toList := ⟨by simpa using hsz, .inr ⟨W.heap.size, n, us, rfl, Nat.zero_le _, heap_alloc_new W _, Nat.le_refl _, nle hs hn, hsz, by rw [List.take_of_length_le (by simp [hsz])]⟩⟩
      obtain ⟨g1, g2, g3, g4⟩ := new_obj hG (W' := W.alloc (.cells us e)) (Chg.ext hx') (fun b hb => hx'.below.block b hb) (u := .slice (some ⟨W.heap.size, 0, none⟩) n n) (d := d) (o := ⟨e, sz P e, elsD (ps.toList.map fun p => opd s g p.2)⟩) (us := us.toList)
        (fun b hb => by obtain rfl : W.heap.size = b := Option.some.inj hb; exact ⟨Nat.le_refl _, by simp⟩) hβ (by show World.ownsRow _ _ _ _ _ _ _; rw [hl]; exact hrow) hd (.inr hK)
      refine ⟨_, _, _, _, hrun, .inl rfl, g1, hx.on hx', g2, ⟨_, n, n, g4, Nat.le_refl _, Nat.le_refl _, .inr ⟨_, rfl⟩, rfl⟩, fun p hp => ?_, nofun⟩
      obtain rfl := List.mem_singleton.1 hp
      exact g3
  · exact hob.elim
end
end Go.Proofs.Ytmngjifcgfnogaa.Dq
