/- Deep values: operations that read, write and make memory. No program in sight. -/
import Derived.Test.YtmngjifcgfnogaaDq3
import Derived.Great.BuildSlice
import Derived.Laws.OwnMore
namespace Go.Proofs.Ytmngjifcgfnogaa.Dq
set_option linter.unusedSimpArgs false
set_option linter.unusedVariables false
set_option maxRecDepth 100000
open Go.RowKit

section
variable {P : Program} {M : Nat → Prop} {A0 : Pr} {w0 : World} {G : Gh} {a : Act} {W : World} {o : Oper}
theorem info_of_sz {t : TypeId} (h : 0 < sz P t) : ∃ i, P.info? t = some i ∧ i.size = sz P t := by
  unfold sz Program.cellsOf at *
  cases hi : P.info? t with
  | none => rw [hi] at h; simp at h
  | some i => exact ⟨i, rfl, by simp⟩
theorem zD_ok {v : Value} {d : D} (h : zD v = some d) (A : Pr) (w : World) : Den A w d v := by
  unfold zD at h
  split at h
  · obtain rfl := Option.some.inj h; exact .int _ _
  · obtain rfl := Option.some.inj h; exact .bool _
  · obtain rfl := Option.some.inj h; exact .nl
  · cases h
theorem zDs_ok (A : Pr) (w : World) : ∀ {vs : List Value} {ds : List D}, vs.mapM zD = some ds → DenL A w ds vs
  | [], ds, h => by
    obtain rfl : [] = ds := by simpa using h
    exact DenL.nil
  | v :: vs, ds, h => by
    rw [List.mapM_cons] at h
    cases hv : zD v with
    | none => rw [hv] at h; cases h
    | some d =>
      cases hvs : vs.mapM zD with
      | none => rw [hv, hvs] at h; cases h
      | some ds' =>
        rw [hv, hvs] at h
        obtain rfl : d :: ds' = ds := by simpa using h
        exact (DenL.single (zD_ok hv A w)).append (zDs_ok A w hvs)
theorem zr_ok {t : TypeId} {ds : List D} (h : zr P t = some ds) : ∃ i z, P.info? t = some i ∧ i.zero = some z ∧ ∀ A w, DenL A w ds z.cells.toList := by
  unfold zr at h
  cases hi : P.info? t with
  | none => rw [hi] at h; cases h
  | some i =>
    rw [hi] at h
    cases hz : i.zero with
    | none => simp [hz] at h
    | some z =>
      simp only [Option.bind_some, hz] at h
      exact ⟨i, z, rfl, hz, fun A w => zDs_ok A w h⟩
theorem upd_ρ {ρ : Nat → Option (Value × Nat)} {d t : Nat} {x : Option (Value × Nat)} : (fun t => if t = d then x else ρ t) t = if t = d then x else ρ t := rfl
/-- A new row: what it reads as. -/
theorem new_row (hG : GOK M A0 G W) {us : Array Value} {T : TypeId} {K : Nat} {ls : List (List D)} (hK : ∀ cs ∈ ls, cs.length = K) (hd : DenL G.A W ls.flatten us.toList) :
    GOK M A0 { G with A := fun b i => G.A b i ∨ (b = W.heap.size ∧ i < us.size) } (W.alloc (.cells us T)) ∧ Evo [] [] G W { G with A := fun b i => G.A b i ∨ (b = W.heap.size ∧ i < us.size) } (W.alloc (.cells us T)) ∧
    ∀ c, ls.length ≤ c → Den (fun b i => G.A b i ∨ (b = W.heap.size ∧ i < us.size)) (W.alloc (.cells us T)) (.sl ls) (.slice (some ⟨W.heap.size, 0, none⟩) ls.length c) := by
  have hx : Ext W (W.alloc (.cells us T)) := (Ext.refl W).alloc _
  have hG' := hG.ext hx
  have hE := Evo.ext hG hx
  refine ⟨⟨hG'.fr, ?_, ?_, hG'.boxI, ?_, hG'.rowI⟩, ⟨hE.keep, fun b i h => .inl h, hE.β, hE.β0, hE.dd, hE.box, hE.ρ, hE.ρ0, hE.row⟩, fun c hc => ?_⟩
  · rintro b i (h | ⟨rfl, h⟩)
    · exact hG'.lt b i h
    · exact ⟨by simp, fun h => absurd (hG.fr _ (Nat.le_refl _)) h⟩
  · intro k u b hk hu
    obtain ⟨h1, h2⟩ := hG'.box k u b hk hu
    have h4 := (hG.box k u b hk hu).1
    refine ⟨h1, fun hd => ⟨(h2 hd).1, fun i => ?_⟩⟩
    rintro (h | ⟨rfl, h⟩)
    · exact (h2 hd).2 i h
    · omega
  · intro t u K' g h1 h2
    obtain ⟨g1, g2, g3, g4⟩ := hG'.row t u K' g h1 h2
    have g5 := (hG.row t u K' g h1 h2).2.1
    refine ⟨g1, g2, g3, fun i => ?_⟩
    rintro (h | ⟨rfl, h⟩)
    · exact g4 i h
    · omega
  · refine den_of_cells hK hc (hd.mono (fun b i h => .inl h) hE.keep) (fun _ => ⟨_, 0, rfl, fun i u hu => ?_⟩)
    have hlt := (List.getElem?_eq_some_iff.1 hu).1
    refine ⟨.inr ⟨rfl, by simpa using hlt⟩, ?_⟩
    rw [cell_of_row _ _ _ _ _ _ (heap_alloc_new W _), Nat.zero_add]
    simpa using hu
/-- A row gets a tag: it may grow. -/
theorem tag_row {A' : Pr} (hG : GOK M A0 { G with A := A' } W) {e : TypeId} {K n d : Nat} {u : Value} {cs : List Value} (hd : G.ρ d = none) (ho : W.ownsRow 0 e K u n cs) (hn : slen u = n)
    (hfresh : ∀ g, u.ownBlock = some g → M g ∧ (∀ k v, G.β k = some v → ¬ G.dead k → blk v ≠ some g) ∧ (∀ t u' K', G.ρ t = some (u', K') → u'.ownBlock ≠ some g) ∧ ∀ i, A' g i → i < n * K) :
    GOK M A0 { A := A', β := G.β, dead := G.dead, ρ := fun t => if t = d then some (u, K) else G.ρ t } W ∧ Hr { A := A', β := G.β, dead := G.dead, ρ := fun t => if t = d then some (u, K) else G.ρ t } W d (some ⟨e, K, n⟩) := by
  refine ⟨⟨hG.fr, hG.lt, hG.box, hG.boxI, ?_, ?_⟩, ⟨u, cs, by simp, hn, ho⟩⟩
  · intro t u' K' g h1 h2
    dsimp only at h1
    split at h1
    · obtain ⟨rfl, rfl⟩ := Prod.mk.inj (Option.some.inj h1)
      obtain ⟨f0, f1, -, f3⟩ := hfresh g h2
      have := ho.lt g h2
      exact ⟨f0, this.2, f1, fun i hi => by rw [hn]; exact f3 i hi⟩
    · exact hG.row t u' K' g h1 h2
  · intro t t' u1 u2 K1 K2 g h1 h2 h3 h4
    dsimp only at h1 h2
    split at h1 <;> split at h2
    · omega
    · obtain ⟨rfl, rfl⟩ := Prod.mk.inj (Option.some.inj h1)
      exact absurd h4 ((hfresh g h3).2.2.1 t' u2 K2 h2)
    · obtain ⟨rfl, rfl⟩ := Prod.mk.inj (Option.some.inj h2)
      exact absurd h3 ((hfresh g h4).2.2.1 t u1 K1 h1)
    · exact hG.rowI t t' u1 u2 K1 K2 g h1 h2 h3 h4
theorem evo_tag {A' : Pr} {W' : World} (hE : Evo [] [] G W { G with A := A' } W') {d : Nat} (hd : G.ρ d = none) (x : Value × Nat) : Evo [] [d] G W { A := A', β := G.β, dead := G.dead, ρ := fun t => if t = d then some x else G.ρ t } W' := by
  refine ⟨hE.keep, hE.sub, hE.β, hE.β0, hE.dd, hE.box, fun t u K h => ?_, fun t ht h => ?_, fun t u K ht h => ?_⟩
  · have hne : t ≠ d := fun e => by rw [e, hd] at h; cases h
    refine ⟨u, ?_, Nat.le_refl _, fun _ => rfl⟩
    dsimp only
    rw [if_neg hne]
    exact h
  · dsimp only
    rw [if_neg (by simpa using ht)]
    exact h
  · obtain ⟨-, h2⟩ := hE.row t u K (by simp) h
    refine ⟨?_, h2⟩
    dsimp only
    rw [if_neg (by simpa using ht)]
    exact h
def putβ (G : Gh) (d : Nat) (u : Value) : Gh := { G with β := fun k => if k = d then some u else G.β k, dead := fun k => k ≠ d ∧ G.dead k }
/-- A new object: its block is new. -/
theorem new_obj (hG : GOK M A0 G W) {W' : World} (hx : Chg M W W') (hsame : ∀ b, b < W.heap.size → W'.heap[b]? = W.heap[b]?) {u : Value} {d : Nat} {o : Ob} {us : List Value} (hu : ∀ b, blk u = some b → W.heap.size ≤ b ∧ b < W'.heap.size) (hβ : G.β d = none)
    (hm : Mem W' o.e o.K o.l.length us u) (hd : DenXL G W o.l.flatten us) (hK : (∃ b, u = .pointer (some ⟨b, 0, none⟩)) ∨ ∀ cs ∈ o.l, cs.length = o.K) :
    GOK M A0 (putβ G d u) W' ∧ Evo [d] [] G W (putβ G d u) W' ∧ Hb (putβ G d u) W' d (some (some o)) ∧ (putβ G d u).β d = some u := by
  have hkp : Kp G.A W W' := fun b i v hA hc => by
    rw [World.cell?_of_block (a := ⟨b, i, none⟩) (hsame b (hG.lt b i hA).1)]
    exact hc
  have hE : Evo [d] [] G W (putβ G d u) W' := by
    refine ⟨hkp, fun b i h => h, fun k v hk => ?_, fun k hk h => ?_, fun k hk => ?_, fun k v b hk h _ hb => hsame b (hG.box k v b h hb).1, fun t u K h => ⟨u, h, Nat.le_refl _, fun _ => rfl⟩, fun _ _ h => h, fun t u K _ h => ⟨h, fun g hg => hsame g (hG.row t u K g h hg).2.1⟩⟩
    · show (if k = d then _ else _) = _
      rw [if_neg (fun e => by rw [e, hβ] at hk; cases hk)]
      exact hk
    · show (if k = d then _ else _) = _
      rw [if_neg (by simpa using hk)]
      exact h
    · have : k ≠ d := by simpa using hk
      exact ⟨fun h => h.2, fun h => ⟨this, h⟩⟩
  have hnew : ∀ k v b, G.β k = some v → blk v = some b → blk u = some b → False := fun k v b hk hb hb' => by
    have h1 := (hG.box k v b hk hb).1
    have h2 := (hu b hb').1
    omega
  refine ⟨⟨fun b hb => hG.fr b (Nat.le_trans hx.size hb), fun b i h => ⟨Nat.lt_of_lt_of_le (hG.lt b i h).1 hx.size, (hG.lt b i h).2⟩, ?_, ?_, ?_, hG.rowI⟩, hE, ⟨u, us, by show (if d = d then _ else _) = _; rw [if_pos rfl], fun h => h.1 rfl, hm, hd.evo hE, hK⟩, by show (if d = d then _ else _) = _; rw [if_pos rfl]⟩
  · intro k v b hk hb
    change (if k = d then _ else _) = _ at hk
    split at hk
    · next hkd =>
      obtain rfl := Option.some.inj hk
      have := hu b hb
      exact ⟨this.2, fun _ => ⟨hG.fr b this.1, fun i hi => by have := (hG.lt b i hi).1; omega⟩⟩
    · next hkd =>
      obtain ⟨h1, h2⟩ := hG.box k v b hk hb
      exact ⟨Nat.lt_of_lt_of_le h1 hx.size, fun hdd => h2 (fun h => hdd ⟨hkd, h⟩)⟩
  · intro k k' v v' b hk hk' hb hb' hdk hdk'
    change (if k = d then _ else _) = _ at hk
    change (if k' = d then _ else _) = _ at hk'
    split at hk <;> split at hk'
    · omega
    · obtain rfl := Option.some.inj hk
      exact (hnew _ _ b hk' hb' hb).elim
    · obtain rfl := Option.some.inj hk'
      exact (hnew _ _ b hk hb hb').elim
    · next h1 h2 => exact hG.boxI k k' v v' b hk hk' hb hb' (fun h => hdk ⟨h1, h⟩) (fun h => hdk' ⟨h2, h⟩)
  · intro t v K g h1 h2
    obtain ⟨g1, g2, g3, g4⟩ := hG.row t v K g h1 h2
    refine ⟨g1, Nat.lt_of_lt_of_le g2 hx.size, fun k v' hk hdd hb => ?_, g4⟩
    change (if k = d then _ else _) = _ at hk
    split at hk
    · obtain rfl := Option.some.inj hk
      have := (hu g hb).1
      omega
    · next hkd => exact g3 k v' hk (fun h => hdd ⟨hkd, h⟩) hb
theorem flatten_one {α : Type} (l : List α) : [l].flatten = l := by simp
/-- A new box. -/
theorem new_box (hG : GOK M A0 G W) {us : Array Value} {T : TypeId} {ds : List D} {d : Nat} (hd : DenXL G W ds us.toList) (hβ : G.β d = none) :
    GOK M A0 (putβ G d (.pointer (some ⟨W.heap.size, 0, none⟩))) (W.alloc (.cells us T)) ∧ Evo [d] [] G W (putβ G d (.pointer (some ⟨W.heap.size, 0, none⟩))) (W.alloc (.cells us T)) ∧
    Hb (putβ G d (.pointer (some ⟨W.heap.size, 0, none⟩))) (W.alloc (.cells us T)) d (some (some ⟨0, 0, [ds]⟩)) ∧ D1 (putβ G d (.pointer (some ⟨W.heap.size, 0, none⟩))) (W.alloc (.cells us T)) (.box d 0) (.pointer (some ⟨W.heap.size, 0, none⟩)) := by
  have hx : Ext W (W.alloc (.cells us T)) := (Ext.refl W).alloc _
  obtain ⟨h1, h2, h3, h4⟩ := new_obj hG (W' := W.alloc (.cells us T)) (Chg.ext hx) (fun b hb => hx.below.block b hb) (u := .pointer (some ⟨W.heap.size, 0, none⟩)) (d := d) (o := ⟨0, 0, [ds]⟩) (us := us.toList) (fun b hb => by obtain rfl : W.heap.size = b := Option.some.inj hb; exact ⟨Nat.le_refl _, by simp⟩) hβ ⟨rfl, us, T, heap_alloc_new W _, rfl⟩ (by rw [flatten_one]; exact hd) (.inl ⟨_, rfl⟩)
  exact ⟨h1, h2, h3, _, h4, rfl⟩
/-- Cells are loaded. -/
theorem run_loadv {t : TypeId} {b off : Nat} {ds : List D} {us : List Value} (hu : un P t = true) (hs : 0 < sz P t) (hd : DenXL G W ds us) (hc : ∀ (j : Nat) u, us[j]? = some u → W.cell? ⟨b, off + j, none⟩ = some u) (ho : (outS (ag P t) (sz P t) ds).2) :
    ∃ v, (Instr.loadAt t (.pointer (some ⟨b, off, none⟩))).run P W = .ok v W ∧ D1 G W (outS (ag P t) (sz P t) ds).1 v := by
  unfold outS at ho ⊢
  cases hag : ag P t
  · rw [hag] at ho
    simp only [Bool.false_eq_true, if_false] at ho ⊢
    cases ds with
    | nil => exact ho.elim
    | cons d ds =>
      obtain ⟨u, h2, h3⟩ := AL.get hd (j := 0) rfl
      have h4 := hc 0 u h2
      rw [Nat.add_zero] at h4
      exact ⟨u, by simp [Instr.loadAt, Instr.sureAddr, loadVar, run_ag hu, hag, h4], outS_c h3⟩
  · rw [hag] at ho
    simp only [if_true] at ho ⊢
    have hl := hd.1
    have hlen : (us.take (sz P t)).length = sz P t := by rw [List.length_take]; omega
    have hrun := run_loadCells_list (P := P) W ⟨b, off, none⟩ (us.take (sz P t)) (fun j u hj => by
      rw [List.getElem?_take] at hj
      split at hj
      · rw [addr_add']; exact hc j u hj
      · cases hj)
    rw [hlen] at hrun
    refine ⟨.agg (us.take (sz P t)).toArray, by simp [Instr.loadAt, Instr.sureAddr, loadVar, run_ag hu, hag, run_sz hs, hrun], ?_⟩
    exact ⟨_, rfl, by simpa using AL.take hd (sz P t)⟩
/-- The cells of an object in memory. -/
theorem Mem.cell {e : TypeId} {K n : Nat} {us : List Value} {u : Value} (h : Mem W e K n us u) {b : Nat} (hb : blk u = some b) {j : Nat} {v : Value} (hj : us[j]? = some v) : W.cell? ⟨b, j, none⟩ = some v := by
  unfold Mem at h
  split at h
  · next b' =>
    obtain rfl : b' = b := Option.some.inj hb
    obtain ⟨-, arr, T, h1, rfl⟩ := h
    rw [cell_of_row _ _ _ _ _ _ h1]
    simpa using hj
  · rcases h.2 with ⟨rfl, h0⟩ | ⟨g, cap, cur, rfl, -, hg, -, -, hcs, ht⟩
    · cases hb
    · obtain rfl : g = b := Option.some.inj hb
      rw [cell_of_row _ _ _ _ _ _ hg]
      rw [← ht, List.getElem?_take] at hj
      split at hj
      · simpa using hj
      · cases hj
/-- Cells of an object are written. -/
theorem Mem.write {e : TypeId} {K n : Nat} {us : List Value} {u : Value} (h : Mem W e K n us u) {b : Nat} (hb : blk u = some b) {off : Nat} {cs : List Value} (hfit : off + cs.length ≤ us.length) (h1 : ∀ v ∈ cs, v.oneCell' = true) :
    ∃ vs, (storeCells ⟨b, off, none⟩ cs).run P W = .ok () (W.setRow b vs) ∧ Mem (W.setRow b vs) e K n (us.take off ++ cs ++ us.drop (off + cs.length)) u := by
  unfold Mem at h
  split at h
  · next b' =>
    obtain rfl : b' = b := Option.some.inj hb
    obtain ⟨h0, arr, T, hh, rfl⟩ := h
    have hrun := run_storeCells_at P b' off T cs 0 arr W hh (by rw [Nat.add_zero]; simpa using hfit) h1
    rw [Nat.add_zero] at hrun
    exact ⟨_, hrun, h0, _, T, setRow_heap W b' arr _ T _ hh, by simp⟩
  · rcases h.2 with ⟨rfl, h0⟩ | ⟨g, cap, cur, rfl, hbg, hg, hnc, hcm, hcs, ht⟩
    · cases hb
    · obtain rfl : g = b := Option.some.inj hb
      have hul : us.length = n * K := h.1
      have hnk : n * K ≤ cap * K := Nat.mul_le_mul_right K hnc
      have hrun := run_storeCells_at P g off e cs 0 cur W hg (by rw [Nat.add_zero]; omega) h1
      rw [Nat.add_zero] at hrun
      refine ⟨_, hrun, ?_⟩
      show World.ownsRow _ _ _ _ _ _ _
      refine ⟨by simp only [List.length_append, List.length_take, List.length_drop]; omega, .inr ⟨g, cap, _, rfl, hbg, setRow_heap W g cur _ e _ hg, hnc, hcm, by simp only [List.size_toArray, List.length_append, List.length_take, List.length_drop, Array.length_toList]; omega, ?_⟩⟩
      rw [← ht]
      simp only []
      apply List.ext_getElem?
      intro i
      have hcl : cur.toList.length = cap * K := by simpa using hcs
      simp only [List.getElem?_take, List.getElem?_append, List.getElem?_drop, List.length_take, List.length_append]
      have hfit' : off + cs.length ≤ n * K := by omega
      by_cases hi : i < n * K
      · rw [if_pos hi]
        by_cases h3 : i < off
        · rw [if_pos (by omega), if_pos (by omega), if_pos (by omega), if_pos (by omega), if_pos h3, if_pos (by omega)]
          try rw [if_pos hi]
        · by_cases h4 : i < off + cs.length
          · rw [if_pos (by omega), if_neg (by omega), if_pos (by omega), if_neg (by omega)]
            congr 1
            omega
          · rw [if_neg (by omega), if_neg (by omega), if_pos (by omega)]
            congr 1
            omega
      · rw [if_neg hi, if_neg (by omega), if_neg (by omega)]
theorem flatten_seg {K : Nat} {l : List (List D)} {i : Nat} {cs : List D} (hK : ∀ cs ∈ l, cs.length = K) (hi : l[i]? = some cs) : (l.flatten.drop (i * K)).take K = cs := by
  apply List.ext_getElem?
  intro j
  rw [List.getElem?_take, List.getElem?_drop]
  have hc := hK cs (List.mem_of_getElem? hi)
  split
  · next hj => exact flatten_get i j hK hi hj
  · rw [List.getElem?_eq_none (by omega)]
theorem flatten_upd {K : Nat} : ∀ {l : List (List D)} {i j : Nat} {cs xs : List D}, (∀ cs ∈ l, cs.length = K) → l[i]? = some cs → j + xs.length ≤ K → (l.set i (setAt cs j xs)).flatten = setAt l.flatten (i * K + j) xs
  | [], i, j, cs, xs, _, h, _ => by simp at h
  | x :: l, 0, j, cs, xs, hK, h, hj => by
    obtain rfl : x = cs := by simpa using h
    have hx := hK x List.mem_cons_self
    simp only [List.set_cons_zero, List.flatten_cons, setAt, Nat.zero_mul, Nat.zero_add]
    rw [List.take_append_of_le_length (by omega), List.drop_append_of_le_length (by omega), List.append_assoc, List.append_assoc]
  | x :: l, i + 1, j, cs, xs, hK, h, hj => by
    have hx := hK x List.mem_cons_self
    have ih := flatten_upd (fun cs hc => hK cs (List.mem_cons_of_mem _ hc)) (show l[i]? = some cs by simpa using h) hj
    rw [List.set_cons_succ, List.flatten_cons, ih, List.flatten_cons]
    unfold setAt
    rw [show (i + 1) * K + j = x.length + (i * K + j) by rw [Nat.succ_mul]; omega, List.take_length_add_append, show x.length + (i * K + j) + xs.length = x.length + (i * K + j + xs.length) by omega, List.drop_length_add_append]
    simp only [List.append_assoc]
theorem setAt_length {cs xs : List D} {j : Nat} (h : j + xs.length ≤ cs.length) : (setAt cs j xs).length = cs.length := by
  unfold setAt
  simp only [List.length_append, List.length_take, List.length_drop]
  omega
theorem AL.setAt {R : D → Value → Prop} {ds es : List D} {us vs : List Value} (h : AL R ds us) (k : AL R es vs) (off : Nat) : AL R (Dq.setAt ds off es) (us.take off ++ vs ++ us.drop (off + vs.length)) := by
  unfold Dq.setAt
  rw [← k.1]
  exact ((h.take off).append k).append (h.drop _)
/-- A place in an object. -/
def asP : S1 → Option (Nat × Nat × Nat × Option Nat)
  | .box k j => some (k, 0, j, none)
  | .xp k K i j => some (k, i, j, some K)
  | _ => none
def pOk (kK : Option Nat) (o : Ob) : Prop := match kK with
  | none => True
  | some K => o.K = K
/-- Where a place lies. -/
theorem place_ok {x : S1} {v : Value} {k i j : Nat} {q : Option Nat} {o : Ob} (h : D1 G W x v) (hp : asP x = some (k, i, j, q)) (hb : Hb G W k (some (some o))) (hq : pOk q o) {cs : List D} (hi : o.l[i]? = some cs) :
    ∃ u us b K, G.β k = some u ∧ ¬ G.dead k ∧ Mem W o.e o.K o.l.length us u ∧ DenXL G W o.l.flatten us ∧ blk u = some b ∧ v = .pointer (some ⟨b, i * K + j, none⟩) ∧ (∀ c ∈ o.l, c.length = K) ∧ ((∃ b, u = .pointer (some ⟨b, 0, none⟩)) ∨ ∀ cs ∈ o.l, cs.length = o.K) := by
  obtain ⟨u, us, h1, h2, h3, h4, h5⟩ := hb
  cases x with
  | box k' j' =>
    obtain ⟨rfl, rfl, rfl, rfl⟩ : k' = k ∧ 0 = i ∧ j' = j ∧ none = q := by simpa [asP] using hp
    obtain ⟨b, g1, rfl⟩ := h
    obtain rfl := Option.some.inj (g1.symm.trans h1)
    have hl : o.l.length = 1 := h3.1
    have ho : o.l = [cs] := by
      match hol : o.l, hl with
      | [c], _ => rw [hol] at hi; obtain rfl : c = cs := by simpa using hi
                  rfl
    exact ⟨_, us, b, cs.length, h1, h2, h3, h4, rfl, by rw [Nat.zero_mul, Nat.zero_add], by rw [ho]; simp, h5⟩
  | xp k' K i' j' =>
    obtain ⟨rfl, rfl, rfl, rfl⟩ : k' = k ∧ i' = i ∧ j' = j ∧ some K = q := by simpa [asP] using hp
    obtain ⟨b, N, c, g1, rfl⟩ := h
    obtain rfl := Option.some.inj (g1.symm.trans h1)
    have hq : o.K = K := hq
    subst hq
    have h5' : ∀ cs ∈ o.l, cs.length = o.K := by
      rcases h5 with ⟨b', e⟩ | h5
      · cases e
      · exact h5
    exact ⟨_, us, b, o.K, h1, h2, h3, h4, rfl, rfl, h5', h5⟩
  | _ => cases hp
variable {s : List (Nat × SV)} {bx : Bt} {g : Bool} (hg : g = true) (hG : GOK M A0 G W) (hx : Chg M w0 W)
def evLoad (P : Program) (s : List (Nat × SV)) (bx : Bt) (g : Bool) (t : TypeId) (x : Operand) : Ev := match asP (opd s g x).1 with
  | some (k, i, j, q) => match gb bx k with
    | some (some o) => { x := some (.one (outS (ag P t) (sz P t) (((o.l[i]?).getD []).drop j)).1), ob := (opd s g x).2 ∧ un P t = true ∧ 0 < sz P t ∧ i < o.l.length ∧ pOk q o ∧ (outS (ag P t) (sz P t) (((o.l[i]?).getD []).drop j)).2, rb := [k] }
    | _ => bad
  | none => match opd s g x with
    | (.ptr cs, p) => { x := some (.one (outS (ag P t) (sz P t) cs).1), ob := p ∧ un P t = true ∧ 0 < sz P t ∧ (outS (ag P t) (sz P t) cs).2 }
    | _ => bad
include hg hG hx
theorem ok_load {t : TypeId} {x : Operand} (ho : o.op = .load t x) (h1 : Okd G W s a x) (hb : ∀ k ∈ (evLoad P s bx g t x).rb, Hb G W k (gb bx k)) (hob : (evLoad P s bx g t x).ob) : Does P M A0 w0 G a W o (evLoad P s bx g t x) := by
  have d1 := opd_ok hg h1
  unfold evLoad at hob hb ⊢
  split at hob
  · next k i j q e1 =>
    split at hob
    · next ob hcs =>
      simp only [e1, hcs] at hb
      obtain ⟨hp, hu, hs, hi, hq, hout⟩ := hob
      have hbk := hb k List.mem_cons_self
      have hcs' : ob.l[i]? = some ob.l[i] := List.getElem?_eq_getElem hi
      obtain ⟨u, us, b, K, g1, g2, g3, g4, g5, he, g6, -⟩ := place_ok (d1 hp) e1 (hcs ▸ hbk) hq hcs'
      have hseg := flatten_seg g6 hcs'
      have hd : DenXL G W ((ob.l[i]?).getD []) ((us.drop (i * K)).take K) := by
        rw [hcs']
        have := AL.take (AL.drop g4 (i * K)) K
        rw [hseg] at this
        exact this
      obtain ⟨v, hv, hd2⟩ := run_loadv (P := P) (W := W) (b := b) (off := i * K + j) hu hs (AL.drop hd j) (fun j' u hj => by
        rw [List.getElem?_drop, List.getElem?_take] at hj
        split at hj
        · rw [List.getElem?_drop] at hj
          rw [Nat.add_assoc]
          exact g3.cell g5 hj
        · cases hj) hout
      exact does_pure hG hx (v := v) (by simp [execOp, ho, he, hv]) hd2
    · exact hob.elim
  · split at hob
    · next cs p e1 =>
      rw [e1] at d1
      obtain ⟨hp, hu, hs, hout⟩ := hob
      obtain ⟨b, off, he, hat⟩ := d1 hp
      obtain ⟨us, hd, hc⟩ := hat.cells
      obtain ⟨v, hv, hd2⟩ := run_loadv (P := P) (W := W) (b := b) (off := off) hu hs (DenXL.of hd) hc hout
      exact does_pure hG hx (v := v) (by simp [execOp, ho, he, hv]) hd2
    · exact hob.elim
def evAlloc (P : Program) (bx : Bt) (g : Bool) (d : Nat) (t : TypeId) : Ev := match zr P t with
  | some z => { x := some (.one (.box d 0)), ob := gb bx d = none ∧ g = true, wb := [(d, some ⟨0, 0, [z]⟩)] }
  | none => bad
omit hg in
theorem ok_alloc {t : TypeId} {d : Nat} (ho : o.op = .alloc t) (hb : ∀ p ∈ (evAlloc P bx g d t).wb, Hb G W p.1 (gb bx p.1)) (hob : (evAlloc P bx g d t).ob) : Does P M A0 w0 G a W o (evAlloc P bx g d t) := by
  unfold evAlloc at hob hb ⊢
  split at hob
  · next z hz =>
    obtain ⟨i, zv, hi, hzv, hd⟩ := zr_ok hz
    simp only [hz] at hb
    have hβ := hb (d, some ⟨0, 0, [z]⟩) (List.mem_singleton.2 rfl)
    dsimp only at hβ
    rw [hob.1] at hβ
    obtain ⟨g1, g2, g3, g4⟩ := new_box hG (T := t) (DenXL.of (hd G.A W)) hβ
    refine ⟨_, _, _, _, ?_, .inl rfl, g1, hx.on ((Ext.refl _).alloc _), g2, g4, fun p hp => ?_, nofun⟩
    · simp [execOp, ho, Instr.alloc, zeroValue, typeInfo, hi, hzv, newVar, newRow] <;> rfl
    · obtain rfl := List.mem_singleton.1 hp
      exact g3
  · exact hob.elim
def evBox (s : List (Nat × SV)) (bx : Bt) (g : Bool) (d : Nat) (x : Operand) : Ev := { x := some (.one (.box d 0)), ob := gb bx d = none ∧ g = true ∧ (opd s g x).2 ∧ okS (opd s g x).1 = true, wb := [(d, some ⟨0, 0, [cellsS (opd s g x).1]⟩)] }
theorem ok_box {t : TypeId} {d : Nat} {x : Operand} (ho : o.op = .box t x) (h1 : Okd G W s a x) (hb : ∀ p ∈ (evBox s bx g d x).wb, Hb G W p.1 (gb bx p.1)) (hob : (evBox s bx g d x).ob) : Does P M A0 w0 G a W o (evBox s bx g d x) := by
  obtain ⟨hn, -, hp, hok⟩ := hob
  have d1 := cellsS_ok (opd_ok hg h1 hp) hok
  have hβ := hb (d, some ⟨0, 0, [cellsS (opd s g x).1]⟩) (by simp [evBox])
  dsimp only at hβ
  rw [hn] at hβ
  obtain ⟨g1, g2, g3, g4⟩ := new_box hG (T := t) d1 hβ
  refine ⟨_, _, _, _, ?_, .inl rfl, g1, hx.on ((Ext.refl _).alloc _), g2, g4, fun p hp => ?_, nofun⟩
  · simp [execOp, ho, Instr.box, newVar, newRow] <;> rfl
  · obtain rfl := List.mem_singleton.1 hp
    exact g3
def stC (q : Option Nat) (cs : List D) : List D := match q with
  | none => cs
  | some _ => deNls cs
omit hg hG hx in
theorem stC_len {q : Option Nat} {cs : List D} : (stC q cs).length = cs.length := by cases q; rfl; exact deNls_len
omit hg hG hx in
theorem stC_ok {q : Option Nat} {cs : List D} {us : List Value} (h : DenXL G W cs us) : DenXL G W (stC q cs) us := by cases q; exact h; exact deNls_ok h
def evStore (P : Program) (s : List (Nat × SV)) (bx : Bt) (g : Bool) (t : TypeId) (x y : Operand) : Ev := match asP (opd s g x).1 with
  | some (k, i, j, q) => match gb bx k with
    | some (some o) => { x := none, ob := g = true ∧ (opd s g x).2 ∧ (opd s g y).2 ∧ okS (opd s g y).1 = true ∧ (cellsS (opd s g y).1).length = sz P t ∧ 0 < sz P t ∧ i < o.l.length ∧ pOk q o ∧ j + sz P t ≤ ((o.l[i]?).getD []).length, wb := [(k, some { o with l := o.l.set i (setAt ((o.l[i]?).getD []) j (stC q (cellsS (opd s g y).1))) })] }
    | _ => bad
  | _ => bad
theorem ok_store {t : TypeId} {x y : Operand} (ho : o.op = .store t x y) (h1 : Okd G W s a x) (h2 : Okd G W s a y) (hb : ∀ p ∈ (evStore P s bx g t x y).wb, Hb G W p.1 (gb bx p.1)) (hob : (evStore P s bx g t x y).ob) : Does P M A0 w0 G a W o (evStore P s bx g t x y) := by
  have d1 := opd_ok hg h1
  unfold evStore at hob hb ⊢
  split at hob
  · next k i j q e1 =>
    split at hob
    · next ob hcs =>
      simp only [e1, hcs] at hb
      obtain ⟨-, hp, hq, hok, hlen, hs, hi, hpk, hfit⟩ := hob
      have d2 := stC_ok (q := q) (cellsS_ok (opd_ok hg h2 hq) hok)
      rw [← stC_len (q := q)] at hlen
      have hbk := hb _ (List.mem_singleton.2 rfl)
      have hcs' : ob.l[i]? = some ob.l[i] := List.getElem?_eq_getElem hi
      obtain ⟨u, us, b, K, hk, hnd, g3, g4, g5, he, g6, g7⟩ := place_ok (d1 hp) e1 (show Hb G W k (some (some ob)) from (by simpa [hcs] using hbk)) hpk hcs'
      obtain ⟨hb1, hb2⟩ := hG.box k u b hk g5
      obtain ⟨hb2, hb3⟩ := hb2 hnd
      have hl2 := d2.1
      have hcl : ob.l[i].length = K := g6 _ (List.getElem_mem _)
      have hfit' : j + (stC q (cellsS (opd s g y).1)).length ≤ K := by
        rw [hcs'] at hfit
        change _ ≤ ob.l[i].length at hfit
        omega
      have hful : i * K + j + (stC q (cellsS (opd s g y).1)).length ≤ us.length := by
        rw [← g4.1, flatten_length g6]
        have := Nat.mul_le_mul_right K hi
        rw [Nat.succ_mul] at this
        omega
      obtain ⟨vs, hrun, hmem⟩ := g3.write (P := P) g5 (off := i * K + j) (cs := (a.eval y).cells.toList) (by rw [← hl2]; exact hful) (cellsS_ok (opd_ok hg h2 hq) hok).one
      have hother : ∀ b', b' ≠ b → (W.setRow b vs).heap[b']? = W.heap[b']? := fun b' hne => setRow_other W b b' _ hne
      have hsize : (W.setRow b vs).heap.size = W.heap.size := by simp [World.setRow]
      have hkeep : Kp G.A W (W.setRow b vs) := fun b' i v hA hc => by
        rw [World.cell?_of_block (a := ⟨b', i, none⟩) (hother b' (fun e => hb3 i (e ▸ hA)))]
        exact hc
      have hxt : Chg M W (W.setRow b vs) := ⟨rfl, rfl, rfl, by rw [hsize]; exact Nat.le_refl _, fun k' hk' hne => hother k' (fun e => hne (by rw [e]; exact hb2))⟩
      have hE : Evo [k] [] G W G (W.setRow b vs) := ⟨hkeep, fun _ _ h => h, fun _ _ h => h, fun _ _ h => h, fun _ _ => Iff.rfl, fun k' u' b' hk1 hk2 hd' hb' => hother b' (fun e => hk1 (List.mem_singleton.2 (hG.boxI k' k u' u b hk2 hk (e ▸ hb') g5 hd' hnd))), fun t u K h => ⟨u, h, Nat.le_refl _, fun _ => rfl⟩, fun _ _ h => h, fun t u' K _ h => ⟨h, fun g' hg' => hother g' (fun e => (hG.row t u' K g' h hg').2.2.1 k u hk hnd (by rw [e]; exact g5))⟩⟩
      have hset : (ob.l.set i (setAt ((ob.l[i]?).getD []) j (stC q (cellsS (opd s g y).1)))).flatten = setAt ob.l.flatten (i * K + j) (stC q (cellsS (opd s g y).1)) := by
        rw [hcs']
        exact flatten_upd g6 hcs' hfit'
      refine ⟨undef, W.setRow b vs, G, .skip, ?_, .inr ⟨rfl, rfl⟩, ⟨by rw [hsize]; exact hG.fr, fun b i h => by rw [hsize]; exact hG.lt b i h, fun k u b h hu => by rw [hsize]; exact hG.box k u b h hu, hG.boxI, fun t u K g h h' => by rw [hsize]; exact hG.row t u K g h h', hG.rowI⟩, hx.trans hxt, hE, rfl, fun p hp => ?_, nofun⟩
      · have hsz2 : (a.eval y).cells.size = sz P t := by rw [← hlen, hl2]; simp
        have hrun' : (storeCells ⟨b, i * K + j, none⟩ (a.eval y).cells.toList).run P W = .ok () (W.setRow b vs) := hrun
        simp [execOp, ho, he, Instr.storeAt, Instr.sureAddr, storeVar, run_sz hs, hsz2, hrun']
      · obtain rfl := List.mem_singleton.1 hp
        refine ⟨u, us.take (i * K + j) ++ (a.eval y).cells.toList ++ us.drop (i * K + j + (a.eval y).cells.toList.length), hk, hnd, ?_, ?_, ?_⟩
        · rw [List.length_set]; exact hmem
        · rw [hset]
          exact (AL.setAt g4 d2 _).map fun _ _ h => h.evo hE
        · rcases g7 with g7 | g7
          · exact .inl g7
          · refine .inr fun c hc => ?_
            rcases List.mem_or_eq_of_mem_set hc with h | rfl
            · exact g7 c h
            · rw [hcs']
              show (setAt ob.l[i] j _).length = _
              rw [setAt_length (by omega)]
              exact g7 _ (List.getElem_mem _)
    · exact hob.elim
  · exact hob.elim
/-- A new row of zeros. -/
def evMake (P : Program) (s : List (Nat × SV)) (bx : Bt) (g : Bool) (d : Nat) (t : TypeId) (x y : Operand) : Ev := match isSl P t, opd s g x, opd s g y with
  | some e, (.c (.int _ n), p), (.c (.int _ m), q) => match zr P e with
    | some z => { x := some (.one (.c (.lk d n.toNat))), ob := p ∧ q ∧ gb bx d = none ∧ g = true ∧ 0 ≤ n ∧ m = n ∧ n ≤ 1000000 ∧ byt P e ≤ 1000000 ∧ z.length = sz P e ∧ 0 < sz P e, wb := [(d, some ⟨e, sz P e, List.replicate n.toNat (deNls z)⟩)] }
    | none => bad
  | _, _, _ => bad
omit hg hG hx in
theorem flatten_rep {z : List D} {K : Nat} (hz : z.length = K) (n i : Nat) (hi : i < n * K) : (List.replicate n z).flatten[i]? = z[i % K]? := by
  have hp : 0 < K := by
    rcases Nat.eq_zero_or_pos K with h | h
    · rw [h] at hi; simp at hi
    · exact h
  have h1 : i / K < n := Nat.div_lt_of_lt_mul (by rwa [Nat.mul_comm])
  have h2 : i % K < K := Nat.mod_lt _ hp
  have h3 : i / K * K + i % K = i := by rw [Nat.mul_comm]; exact Nat.div_add_mod i K
  have := flatten_get (l := List.replicate n z) (K := K) (cs := z) (i / K) (i % K) (fun cs hc => by rw [(List.mem_replicate.1 hc).2]; exact hz) (by rw [List.getElem?_replicate, if_pos h1]) h2
  rwa [h3] at this
theorem ok_make {t : TypeId} {d : Nat} {x y : Operand} (ho : o.op = .makeSlice t x y) (h1 : Okd G W s a x) (h2 : Okd G W s a y) (hb : ∀ p ∈ (evMake P s bx g d t x y).wb, Hb G W p.1 (gb bx p.1)) (hob : (evMake P s bx g d t x y).ob) : Does P M A0 w0 G a W o (evMake P s bx g d t x y) := by
  have d1 := opd_ok hg h1
  have d2 := opd_ok hg h2
  unfold evMake at hob hb ⊢
  split at hob
  · next e k1 n p k2 m q hsl e1 e2 =>
    rw [e1] at d1
    rw [e2] at d2
    split at hob
    · next z hz =>
      simp only [hsl, e1, e2, hz] at hb
      obtain ⟨hp, hq, hn, -, hn0, rfl, hn1, hbyt, hzl, hs0⟩ := hob
      obtain ⟨i, zv, hi, hzv, hd⟩ := zr_ok hz
      obtain ⟨Z, hZ⟩ : ∃ Z, Z = deNls z := ⟨_, rfl⟩
      have hZl : Z.length = sz P e := by rw [hZ, deNls_len]; exact hzl
      have hZd : DenXL G W Z zv.cells.toList := by rw [hZ]; exact deNls_ok (DenXL.of (hd G.A W))
      rw [← hZ]
      have hβ := hb _ (List.mem_singleton.2 rfl)
      dsimp only at hβ
      rw [hn] at hβ
      obtain ⟨N, rfl⟩ : ∃ N : Nat, m = (N : Int) := ⟨m.toNat, by omega⟩
      have hby : i.bytes ≤ 1000000 := by
        have h : byt P e = i.bytes := by
          unfold byt Program.bytesOf
          rw [hi]
          rfl
        rw [← h]; exact hbyt
      have hmul : (i.bytes : Int) * (N : Int) ≤ 281474976710656 := by
        have h3 : i.bytes * N ≤ 1000000 * 1000000 := Nat.mul_le_mul hby (by omega)
        have h4 : ((i.bytes * N : Nat) : Int) = (i.bytes : Int) * (N : Int) := Int.natCast_mul _ _
        omega
      have hrun := run_make (P := P) W t e i zv (isSl_spec hsl) hi hzv k1 k2 (N : Int) (N : Int) (by omega) (Int.le_refl _) hmul (by omega)
      simp only [Int.toNat_natCast] at hrun
      have hisz : i.size = sz P e := by
        obtain ⟨i', hi', hs'⟩ := info_of_sz hs0
        obtain rfl := Option.some.inj (hi.symm.trans hi')
        exact hs'
      rw [hisz] at hrun
      have hzc := hZd.1
      have hcells : DenXL G W (List.replicate N Z).flatten (madeCells zv.cells (N * sz P e)).toList := by
        have hfl : (List.replicate N Z).flatten.length = N * sz P e := by
          rw [flatten_length (K := sz P e) (fun cs hc => by rw [(List.mem_replicate.1 hc).2]; exact hZl), List.length_replicate]
        refine ⟨by rw [hfl, Array.length_toList, size_madeCells], fun j dd u h3 h4 => ?_⟩
        have hj : j < N * sz P e := by rw [← hfl]; exact (List.getElem?_eq_some_iff.1 h3).1
        rw [flatten_rep hZl N j hj] at h3
        have hzs : zv.cells.size = sz P e := by rw [← hZl, hzc]; simp
        have hjm : j % sz P e < zv.cells.size := by rw [hzs]; exact Nat.mod_lt _ hs0
        obtain rfl : zv.cells[j % sz P e] = u := by
          have h5 : (madeCells zv.cells (N * sz P e))[j]? = some u := by simpa using h4
          unfold madeCells at h5
          rw [Array.getElem?_map, Array.getElem?_range] at h5
          simp only [hj, if_true, Option.map_some, hzs] at h5
          rw [getElem!_pos zv.cells (j % sz P e) hjm] at h5
          exact Option.some.inj h5
        exact hZd.2 (j % sz P e) dd _ h3 (by simp)
      have hx' : Ext W (W.alloc (.cells (madeCells zv.cells (N * sz P e)) e)) := (Ext.refl W).alloc _
      have hN : N ≤ maxLen := Nat.le_trans (by omega : N ≤ 1000000) (by decide)
      have hown : (W.alloc (.cells (madeCells zv.cells (N * sz P e)) e)).ownsRow 0 e (sz P e) (.slice (some ⟨W.heap.size, 0, none⟩) N N) N (madeCells zv.cells (N * sz P e)).toList :=
        ⟨by rw [Array.length_toList, size_madeCells], .inr ⟨_, N, _, rfl, Nat.zero_le _, heap_alloc_new W _, Nat.le_refl _, hN, size_madeCells _ _, by rw [List.take_of_length_le]; rw [Array.length_toList, size_madeCells]; exact Nat.le_refl _⟩⟩
      obtain ⟨g1, g2, g3, g4⟩ := new_obj hG (W' := W.alloc (.cells (madeCells zv.cells (N * sz P e)) e)) (Chg.ext hx') (fun b hb => hx'.below.block b hb) (u := .slice (some ⟨W.heap.size, 0, none⟩) N N) (d := d) (o := ⟨e, sz P e, List.replicate N Z⟩) (us := (madeCells zv.cells (N * sz P e)).toList)
        (fun b hb => by obtain rfl : W.heap.size = b := Option.some.inj hb; exact ⟨Nat.le_refl _, by simp⟩) hβ (by show World.ownsRow _ _ _ _ _ _ _; rw [List.length_replicate]; exact hown) hcells (.inr fun cs hc => by rw [(List.mem_replicate.1 hc).2]; exact hZl)
      refine ⟨_, _, _, _, ?_, .inl rfl, g1, hx.on hx', g2, ⟨_, N, N, g4, Nat.le_refl _, Nat.le_refl _, .inr ⟨_, rfl⟩, rfl⟩, fun p hp => ?_, nofun⟩
      · have f1 := D1_int (d1 hp)
        have f2 := D1_int (d2 hq)
        simp [execOp, ho, f1, f2, hrun]
      · obtain rfl := List.mem_singleton.1 hp
        exact g3
    · exact hob.elim
  · exact hob.elim
/-- A made slice that need not stay the call's own: read as it is. -/
def evMakeP (P : Program) (s : List (Nat × SV)) (g : Bool) (t : TypeId) (x y : Operand) : Ev := match isSl P t, opd s g x, opd s g y with
  | some e, (.c (.int _ n), p), (.c (.int _ m), q) => match zr P e with
    | some z => { x := some (.one (.c (.sl (List.replicate n.toNat (deNls z))))), ob := p ∧ q ∧ 0 ≤ n ∧ m = n ∧ n ≤ 1000000 ∧ byt P e ≤ 1000000 ∧ z.length = sz P e ∧ 0 < sz P e ∧ lfs (deNls z) = true }
    | none => bad
  | _, _, _ => bad
omit hg hG hx in
theorem lfs_ap : ∀ {l m : List D}, lfs l = true → lfs m = true → lfs (l ++ m) = true
  | [], m, _, h => h
  | d :: l, m, h, h' => by
    rw [List.cons_append]
    have h := (Bool.and_eq_true _ _).mp h
    exact (Bool.and_eq_true _ _).mpr ⟨h.1, lfs_ap h.2 h'⟩
theorem ok_makeP {t : TypeId} {x y : Operand} (ho : o.op = .makeSlice t x y) (h1 : Okd G W s a x) (h2 : Okd G W s a y) (hob : (evMakeP P s g t x y).ob) : Does P M A0 w0 G a W o (evMakeP P s g t x y) := by
  have d1 := opd_ok hg h1
  have d2 := opd_ok hg h2
  unfold evMakeP at hob ⊢
  split at hob
  · next e k1 n p k2 m q hsl e1 e2 =>
    rw [e1] at d1
    rw [e2] at d2
    split at hob
    · next z hz =>
      obtain ⟨hp, hq, hn0, rfl, hn1, hbyt, hzl, hs0, hlz⟩ := hob
      obtain ⟨i, zv, hi, hzv, hd⟩ := zr_ok hz
      obtain ⟨Z, hZ⟩ : ∃ Z, Z = deNls z := ⟨_, rfl⟩
      have hZl : Z.length = sz P e := by rw [hZ, deNls_len]; exact hzl
      have hZd : DenXL G W Z zv.cells.toList := by rw [hZ]; exact deNls_ok (DenXL.of (hd G.A W))
      rw [← hZ] at hlz ⊢
      obtain ⟨N, rfl⟩ : ∃ N : Nat, m = (N : Int) := ⟨m.toNat, by omega⟩
      have hby : i.bytes ≤ 1000000 := by
        have h : byt P e = i.bytes := by
          unfold byt Program.bytesOf
          rw [hi]
          rfl
        rw [← h]; exact hbyt
      have hmul : (i.bytes : Int) * (N : Int) ≤ 281474976710656 := by
        have h3 : i.bytes * N ≤ 1000000 * 1000000 := Nat.mul_le_mul hby (by omega)
        have h4 : ((i.bytes * N : Nat) : Int) = (i.bytes : Int) * (N : Int) := Int.natCast_mul _ _
        omega
      have hrun := run_make (P := P) W t e i zv (isSl_spec hsl) hi hzv k1 k2 (N : Int) (N : Int) (by omega) (Int.le_refl _) hmul (by omega)
      simp only [Int.toNat_natCast] at hrun
      have hisz : i.size = sz P e := by
        obtain ⟨i', hi', hs'⟩ := info_of_sz hs0
        obtain rfl := Option.some.inj (hi.symm.trans hi')
        exact hs'
      rw [hisz] at hrun
      have hzc := hZd.1
      have hcells : DenXL G W (List.replicate N Z).flatten (madeCells zv.cells (N * sz P e)).toList := by
        have hfl : (List.replicate N Z).flatten.length = N * sz P e := by
          rw [flatten_length (K := sz P e) (fun cs hc => by rw [(List.mem_replicate.1 hc).2]; exact hZl), List.length_replicate]
        refine ⟨by rw [hfl, Array.length_toList, size_madeCells], fun j dd u h3 h4 => ?_⟩
        have hj : j < N * sz P e := by rw [← hfl]; exact (List.getElem?_eq_some_iff.1 h3).1
        rw [flatten_rep hZl N j hj] at h3
        have hzs : zv.cells.size = sz P e := by rw [← hZl, hzc]; simp
        have hjm : j % sz P e < zv.cells.size := by rw [hzs]; exact Nat.mod_lt _ hs0
        obtain rfl : zv.cells[j % sz P e] = u := by
          have h5 : (madeCells zv.cells (N * sz P e))[j]? = some u := by simpa using h4
          unfold madeCells at h5
          rw [Array.getElem?_map, Array.getElem?_range] at h5
          simp only [hj, if_true, Option.map_some, hzs] at h5
          rw [getElem!_pos zv.cells (j % sz P e) hjm] at h5
          exact Option.some.inj h5
        exact hZd.2 (j % sz P e) dd _ h3 (by simp)
      have hx' : Ext W (W.alloc (.cells (madeCells zv.cells (N * sz P e)) e)) := (Ext.refl W).alloc _
      have hN : N ≤ maxLen := Nat.le_trans (by omega : N ≤ 1000000) (by decide)
      have hown : (W.alloc (.cells (madeCells zv.cells (N * sz P e)) e)).ownsRow 0 e (sz P e) (.slice (some ⟨W.heap.size, 0, none⟩) N N) N (madeCells zv.cells (N * sz P e)).toList :=
        ⟨by rw [Array.length_toList, size_madeCells], .inr ⟨_, N, _, rfl, Nat.zero_le _, heap_alloc_new W _, Nat.le_refl _, hN, size_madeCells _ _, by rw [List.take_of_length_le]; rw [Array.length_toList, size_madeCells]; exact Nat.le_refl _⟩⟩
      have hK : ∀ cs ∈ List.replicate N Z, cs.length = sz P e := fun cs hc => by rw [(List.mem_replicate.1 hc).2]; exact hZl
      have hfl : ∀ n : Nat, lfs (List.replicate n Z).flatten = true := fun n => by
        induction n with
        | zero => rfl
        | succ n ih => rw [List.replicate_succ, List.flatten_cons, lfs_ap hlz ih]
      obtain ⟨k1, k2, k3⟩ := new_row hG (T := e) hK (hcells.den (hfl N))
      have k4 := k3 N (by rw [List.length_replicate]; exact Nat.le_refl _)
      rw [List.length_replicate] at k4
      have f1 := D1_int (d1 hp)
      have f2 := D1_int (d2 hq)
      exact ⟨_, _, _, _, by simp [execOp, ho, f1, f2, hrun], .inl rfl, k1, hx.on hx', k2, k4, nofun, nofun⟩
    · exact hob.elim
  · exact hob.elim
end
end Go.Proofs.Ytmngjifcgfnogaa.Dq
