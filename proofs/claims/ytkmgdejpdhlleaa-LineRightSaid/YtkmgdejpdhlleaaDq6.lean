/- Deep values: append, slices, stores; calls; all operations. -/
import Derived.Test.YtkmgdejpdhlleaaDq1
namespace Go.Proofs.Ytkmgdejpdhlleaa.Dq
set_option linter.unusedSimpArgs false
set_option linter.unusedVariables false
set_option maxRecDepth 100000
open Go.RowKit

section
variable {P : Program} {M : Nat → Prop} {A0 : Pr} {w0 : World} {G : Gh} {a : Act} {W : World} {o : Oper}
variable {s : List (Nat × SV)} {bx : Bt} {rx : List (Nat × RowI)} {g : Bool} (hg : g = true) (hG : GOK M A0 G W) (hx : Chg M w0 W)
def capOk (n : Nat) : Prop := n ≤ maxLen
theorem capOk_of {n : Nat} (h : n ≤ 1000000000000) : capOk n := Nat.le_trans h (by decide)
def allK (K : Nat) (l : List (List D)) : Prop := ∀ cs ∈ l, cs.length = K
theorem allK_nil {K : Nat} : allK K [] = True := eq_true (by unfold allK; simp)
theorem allK_cons {K : Nat} {x : List D} {l : List (List D)} : allK K (x :: l) = (x.length = K ∧ allK K l) := by unfold allK; simp
def bnd (s : List (Nat × SV)) (g : Bool) (x : Option Operand) (n : Int) : Int × Prop := match x with
  | none => (n, True)
  | some x => match opd s g x with
    | (.c (.int _ m), p) => (m, p)
    | _ => (0, False)
def Qz (P : Program) (s : List (Nat × SV)) (g : Bool) (t : TypeId) (x : Operand) (lo hi : Option Operand) : Ev := match isSl P t, QL (opd s g x).1 with
  | some e, some l => { x := some (.one (.c (.sl ((l.take (bnd s g hi l.length).1.toNat).drop (bnd s g lo 0).1.toNat)))), ob := (opd s g x).2 ∧ (bnd s g lo 0).2 ∧ (bnd s g hi l.length).2 ∧ 0 ≤ (bnd s g lo 0).1 ∧ (bnd s g lo 0).1 ≤ (bnd s g hi l.length).1 ∧ (bnd s g hi l.length).1 ≤ l.length ∧ 0 < sz P e ∧ allK (sz P e) l }
  | some e, none => match (opd s g x).1 with
    | .c (.lk k n) => if hi.isNone && lo.isSome then { x := some (.one (.tl k (sz P e) (bnd s g lo 0).1.toNat (n - (bnd s g lo 0).1.toNat))), ob := (opd s g x).2 ∧ (bnd s g lo 0).2 ∧ 0 ≤ (bnd s g lo 0).1 ∧ (bnd s g lo 0).1 < n ∧ 0 < sz P e } else { x := some (.one (.c (.lk k (bnd s g hi n).1.toNat))), ob := (opd s g x).2 ∧ (bnd s g lo 0).2 ∧ (bnd s g hi n).2 ∧ (bnd s g lo 0).1 = 0 ∧ 0 ≤ (bnd s g hi n).1 ∧ (bnd s g hi n).1 ≤ n ∧ 0 < sz P e }
    | _ => bad
  | _, _ => bad
theorem bnd_ok (hg : g = true) {x : Option Operand} {n : Int} (h : ∀ y, x = some y → Okd G W s a y) (hp : (bnd s g x n).2) : (x = none ∧ (bnd s g x n).1 = n) ∨ ∃ y k, x = some y ∧ a.eval y = .int k (bnd s g x n).1 := by
  cases x with
  | none => exact .inl ⟨rfl, rfl⟩
  | some y =>
    have d1 := opd_ok hg (h y rfl)
    refine .inr ⟨y, ?_⟩
    unfold bnd at hp ⊢
    dsimp only at hp ⊢
    split at hp
    · next k m p e1 =>
      rw [e1] at d1
      exact ⟨k, rfl, D1_int (d1 hp)⟩
    · exact hp.elim
theorem run_bound {v : Value} {k : IntKind} {n : Int} {y : Nat} {code : BoundsCode} (hv : v = .int k n) (h0 : 0 ≤ n) (h1 : n ≤ y) : (Instr.sliceBound v y code).run P W = .ok n.toNat W := by
  subst hv
  have : 0 ≤ n ∧ n ≤ (y : Int) := ⟨h0, h1⟩
  simp [Instr.sliceBound, asIntOf, this.1, this.2]
include hg hG hx
theorem ok_slice {t : TypeId} {x : Operand} {lo hi : Option Operand} (ho : o.op = .slice t x lo hi none) (h1 : Okd G W s a x) (h2 : ∀ y, lo = some y → Okd G W s a y) (h3 : ∀ y, hi = some y → Okd G W s a y) (hob : (Qz P s g t x lo hi).ob) : Does P M A0 w0 G a W o (Qz P s g t x lo hi) := by
  have d1 := opd_ok hg h1
  unfold Qz at hob ⊢
  split at hob
  · next e l hsl hl =>
    obtain ⟨hp, hq1, hq2, b1, b2, b3, hs, hK⟩ := hob
    have hd := asSl_ok (d1 hp) hl
    obtain ⟨ad, c, us, he, hrd, hdl, hcap, hA⟩ := cells_of_den hd hK
    have o1 := bnd_ok hg h2 hq1
    have o2 := bnd_ok hg h3 hq2
    generalize (bnd s g lo 0).1 = L at *
    generalize (bnd s g hi l.length).1 = H at *
    have rl : ∀ (y : Nat), H ≤ y → (Instr.sliceBounds true l.length c (lo.map a.eval) (hi.map a.eval) none).run P W = .ok (L.toNat, H.toNat, c) W := by
      intro y hy
      rcases o2 with ⟨rfl, rfl⟩ | ⟨y2, k2, rfl, f2⟩
      · rcases o1 with ⟨rfl, rfl⟩ | ⟨y1, k1, rfl, f1⟩
        · simp [Instr.sliceBounds]
        · simp [Instr.sliceBounds, run_bound (P := P) (W := W) (y := l.length) (code := .sliceB) f1 b1 b2]
      · rcases o1 with ⟨rfl, rfl⟩ | ⟨y1, k1, rfl, f1⟩
        · simp [Instr.sliceBounds, run_bound (P := P) (W := W) (y := c) (code := .sliceAcap) f2 (by omega) (by omega)]
        · simp [Instr.sliceBounds, run_bound (P := P) (W := W) (y := c) (code := .sliceAcap) f2 (by omega) (by omega), run_bound (P := P) (W := W) (y := H.toNat) (code := .sliceB) f1 b1 (by omega)]
    have hrun : (execOp a.eval o).run P W = .ok (.value (.slice (if c = L.toNat then ad else ad.map (·.add (L.toNat * sz P e))) (H.toNat - L.toNat) (c - L.toNat))) W := by
      simp [execOp, ho, he, Instr.sliceAt, Instr.slice, run_underlying (isSl_spec hsl), rl H.toNat (by omega), run_sz hs]
    have hlen : ((l.take H.toNat).drop L.toNat).length = H.toNat - L.toNat := by
      rw [List.length_drop, List.length_take]
      omega
    refine does_pure hG hx hrun ?_
    show Den G.A W _ _
    have hK' : ∀ cs ∈ (l.take H.toNat).drop L.toNat, cs.length = sz P e := fun cs hc => hK cs (List.mem_of_mem_take (List.mem_of_mem_drop hc))
    rw [← hlen]
    by_cases h0 : (l.take H.toNat).drop L.toNat = []
    · rw [h0]
      exact .nil _ _
    · have hLH : L.toNat < H.toNat := by
        apply Classical.byContradiction
        intro hn
        exact h0 (List.eq_nil_of_length_eq_zero (by omega))
      obtain ⟨b, off, rfl, hc⟩ := hrd.cells (by omega)
      rw [if_neg (by omega)]
      have hat : ∀ i cs, l[i]? = some cs → At G.A W b (off + i * sz P e) cs := fun i cs hi => by
        obtain ⟨b', off', c', K', he', hK2, hat⟩ := den_at hd hi
        rw [he] at he'
        obtain ⟨hb, -, -⟩ := Value.slice.inj he'
        obtain ⟨rfl, rfl⟩ : b = b' ∧ off = off' := by simpa using hb
        have : K' = sz P e := by rw [← hK _ (List.mem_of_getElem? hi), hK2 _ (List.mem_of_getElem? hi)]
        rw [← this]
        exact hat
      obtain ⟨y0, hy0⟩ : ∃ y, ((l.take H.toNat).drop L.toNat) = y := ⟨_, rfl⟩
      have hget : ∀ (i : Nat) cs, ((l.take H.toNat).drop L.toNat)[i]? = some cs → l[L.toNat + i]? = some cs := fun i cs h => by
        rw [List.getElem?_drop, List.getElem?_take] at h
        split at h
        · exact h
        · cases h
      simp only [Option.map_some, addr_add']
      refine .sl _ (sz P e) b (off + L.toNat * sz P e) (c - L.toNat) (fun i j => (W.cell? ⟨b, off + L.toNat * sz P e + i * sz P e + j, none⟩).getD undef) h0 (by omega) hK' (fun i j hi hj => ?_) (fun i cs j d h h' => ?_)
      · obtain ⟨cs, hcs⟩ : ∃ cs, ((l.take H.toNat).drop L.toNat)[i]? = some cs := ⟨_, List.getElem?_eq_getElem hi⟩
        have h4 := hat _ cs (hget i cs hcs)
        have hlc := hK' cs (List.mem_of_getElem? hcs)
        obtain ⟨h5, u, h6, -⟩ := h4 j _ (List.getElem?_eq_getElem (by omega))
        rw [Nat.add_mul, ← Nat.add_assoc] at h5 h6
        exact ⟨h5, by rw [h6]; rfl⟩
      · obtain ⟨-, u, h6, h7⟩ := hat _ cs (hget i cs h) j d h'
        rw [Nat.add_mul, ← Nat.add_assoc] at h6
        rw [h6]
        exact h7
  · next e hsl hl =>
    split at hob
    · next k n hlk =>
     split at hob
     · next hhi =>
      rw [if_pos hhi]
      obtain ⟨hp, hq1, b1, b2, hs⟩ := hob
      have d2 := d1 hp
      rw [hlk] at d2
      obtain ⟨ad, N, c, g1, g2, g3, g4, he⟩ := d2
      have o1 := bnd_ok hg h2 hq1
      generalize (bnd s g lo 0).1 = L at *
      cases hi with
      | some z => simp at hhi
      | none =>
      rcases o1 with ⟨rfl, -⟩ | ⟨y1, k1, rfl, f1⟩
      · simp at hhi
      have rl : (Instr.sliceBounds true n c (some (a.eval y1)) none none).run P W = .ok (L.toNat, n, c) W := by
        simp [Instr.sliceBounds, run_bound (P := P) (W := W) (y := n) (code := .sliceB) f1 b1 (by omega)]
      obtain ⟨b, rfl⟩ : ∃ b, ad = some ⟨b, 0, none⟩ := by
        rcases g4 with h | h
        · omega
        · exact h
      have hrun : (execOp a.eval o).run P W = .ok (.value (.slice (some ⟨b, L.toNat * sz P e, none⟩) (n - L.toNat) (c - L.toNat))) W := by
        have e0 : ¬ c = L.toNat := by omega
        simp [execOp, ho, he, Instr.sliceAt, Instr.slice, run_underlying (isSl_spec hsl), rl, run_sz hs]
        first | (rw [if_neg e0, addr_add', Nat.zero_add]) | simp [e0, addr_add']
      exact does_pure hG hx hrun ⟨b, N, c, _, g1, rfl, by omega⟩
     · next hhi =>
      rw [if_neg hhi]
      obtain ⟨hp, hq1, hq2, b1, b2, b3, hs⟩ := hob
      have d2 := d1 hp
      rw [hlk] at d2
      obtain ⟨ad, N, c, g1, g2, g3, g4, he⟩ := d2
      have o1 := bnd_ok hg h2 hq1
      have o2 := bnd_ok hg h3 hq2
      generalize (bnd s g lo 0).1 = L at *
      generalize (bnd s g hi n).1 = H at *
      subst b1
      have rl : (Instr.sliceBounds true n c (lo.map a.eval) (hi.map a.eval) none).run P W = .ok (0, H.toNat, c) W := by
        rcases o2 with ⟨rfl, rfl⟩ | ⟨y2, k2, rfl, f2⟩
        · rcases o1 with ⟨rfl, -⟩ | ⟨y1, k1, rfl, f1⟩
          · simp [Instr.sliceBounds]
          · simp [Instr.sliceBounds, run_bound (P := P) (W := W) (y := n) (code := .sliceB) f1 (Int.le_refl _) (by omega)]
        · rcases o1 with ⟨rfl, -⟩ | ⟨y1, k1, rfl, f1⟩
          · simp [Instr.sliceBounds, run_bound (P := P) (W := W) (y := c) (code := .sliceAcap) f2 b2 (by omega)]
          · simp [Instr.sliceBounds, run_bound (P := P) (W := W) (y := c) (code := .sliceAcap) f2 b2 (by omega), run_bound (P := P) (W := W) (y := H.toNat) (code := .sliceB) f1 (Int.le_refl _) (by omega)]
      have hadd : (if c = 0 then ad else ad.map (·.add 0)) = ad := by
        split
        · rfl
        · cases ad with
          | none => rfl
          | some z => simp [Addr.add]
      have hrun : (execOp a.eval o).run P W = .ok (.value (.slice ad H.toNat c)) W := by
        have e0 : (if c = 0 then ad else ad.map (·.add (0 * sz P e))) = ad := by rw [Nat.zero_mul]; exact hadd
        simp [execOp, ho, he, Instr.sliceAt, Instr.slice, run_underlying (isSl_spec hsl), rl, run_sz hs]
        first | exact hadd | exact e0 | simp_all
      exact does_pure hG hx hrun ⟨ad, N, c, g1, by omega, g3, g4, rfl⟩
    · exact hob.elim
  · exact hob.elim
/-- The end of a row is filled with zeros. -/
def QA (P : Program) (s : List (Nat × SV)) (bx : Bt) (g : Bool) (t : TypeId) (x : Operand) : Ev := match isSl P t, (opd s g x).1 with
  | some e, .tl k K i n => match gb bx k, zr P e with
    | some (some o), some z => { x := some (.tup []), ob := g = true ∧ (opd s g x).2 ∧ o.K = K ∧ 0 < K ∧ z.length = K ∧ i + n ≤ o.l.length, wb := [(k, some { o with l := o.l.take i ++ List.replicate n (QY z) ++ o.l.drop (i + n) })] }
    | _, _ => bad
  | _, _ => bad
theorem ok_clear {t : TypeId} {x : Operand} (ho : o.op = .call { callee := .builtin .clear, args := #[x], argTypes := #[t] }) (h1 : Okd G W s a x) (hb : ∀ p ∈ (QA P s bx g t x).wb, Hb G W p.1 (gb bx p.1)) (hob : (QA P s bx g t x).ob) : Does P M A0 w0 G a W o (QA P s bx g t x) := by
  have d1 := opd_ok hg h1
  unfold QA at hob hb ⊢
  split at hob
  · next e k K i n hsl hx1 =>
    split at hob
    · next ob z hbk hz =>
      simp only [hsl, hx1, hbk, hz] at hb
      obtain ⟨-, hp, hK, hK0, hzl, hfit⟩ := hob
      have hbk' := hb _ (List.mem_singleton.2 rfl)
      dsimp only at hbk'
      have hbk'' : Hb G W k (some (some ob)) := by simpa [hbk] using hbk'
      obtain ⟨u, us, hk, hnd, g3, g4, g7⟩ := hbk''
      have d2 := d1 hp
      rw [hx1] at d2
      obtain ⟨b, N, c, c', k1, he, hn⟩ := d2
      obtain rfl := Option.some.inj (hk.symm.trans k1)
      have g5 : blk (.slice (some ⟨b, 0, none⟩) N c) = some b := rfl
      have g6 : ∀ cs ∈ ob.l, cs.length = K := by
        rcases g7 with ⟨b', e⟩ | h
        · cases e
        · rw [← hK]; exact h
      have hul : us.length = ob.l.length * K := by rw [← g4.1, flatten_length g6]
      obtain ⟨hb1, hb2⟩ := hG.box k _ b hk g5
      obtain ⟨hb2, hb3⟩ := hb2 hnd
      obtain ⟨i', zv, hi, hzv, hd⟩ := zr_ok hz
      obtain ⟨Z, hZ⟩ : ∃ Z, Z = QY z := ⟨_, rfl⟩
      rw [← hZ] at hb ⊢
      have hZl : Z.length = K := by rw [hZ, deNls_len]; exact hzl
      have hZd : DenXL G W Z zv.cells.toList := by rw [hZ]; exact deNls_ok (DenXL.of (hd G.A W))
      have hzsz : zv.cells.size = K := by
        have := hZd.1
        rw [Array.length_toList] at this
        exact this.symm.trans hZl
      have hzc : DenXL G W (List.replicate n Z).flatten (Builtin.zeroCells zv.cells n).toList := by
        have hsz : (Builtin.zeroCells zv.cells n).toList.length = n * K := by rw [Array.length_toList, size_zeroCells, hzsz]
        refine ⟨by rw [flatten_length (K := K) (fun cs hc => by rw [(List.mem_replicate.1 hc).2]; exact hZl), List.length_replicate, hsz], fun j d v h h' => ?_⟩
        have hj : j < n * K := by
          have := (List.getElem?_eq_some_iff.1 h').1
          rw [hsz] at this
          exact this
        rw [flatten_rep hZl n j hj] at h
        have hv : v = zv.cells[j % zv.cells.size]! := by
          have e1 : (Builtin.zeroCells zv.cells n).toList[j]? = some (zv.cells[j % zv.cells.size]!) := by
            simp only [Builtin.zeroCells, Array.toList_map, List.getElem?_map, Array.toList_range]
            rw [List.getElem?_range (by rw [hzsz]; exact hj)]
            rfl
          rw [e1] at h'
          exact (Option.some.inj h').symm
        have hm : j % K < zv.cells.size := by rw [hzsz]; exact Nat.mod_lt _ hK0
        refine hZd.2 (j % K) d v h ?_
        rw [hv, hzsz, Array.getElem?_toList, Array.getElem?_eq_getElem hm]
        simp [getElem!_def, Array.getElem?_eq_getElem hm]
      have hlz : (Builtin.zeroCells zv.cells n).toList.length = n * K := by rw [Array.length_toList, size_zeroCells, hzsz]
      have hle := Nat.mul_le_mul_right K hfit
      rw [Nat.add_mul] at hle
      obtain ⟨vs, hrun, hmem⟩ := g3.write (P := P) g5 (off := i * K) (cs := (Builtin.zeroCells zv.cells n).toList) (by rw [hlz, hul]; exact hle) hzc.one
      have hother : ∀ b', b' ≠ b → (W.setRow b vs).heap[b']? = W.heap[b']? := fun b' hne => setRow_other W b b' _ hne
      have hsize : (W.setRow b vs).heap.size = W.heap.size := by simp [World.setRow]
      have hkeep : Kp G.A W (W.setRow b vs) := fun b' i v hA hc => by
        rw [World.cell?_of_block (a := ⟨b', i, none⟩) (hother b' (fun e => hb3 i (e ▸ hA)))]
        exact hc
      have hxt : Chg M W (W.setRow b vs) := ⟨rfl, rfl, rfl, by rw [hsize]; exact Nat.le_refl _, fun k' hk' hne => hother k' (fun e => hne (by rw [e]; exact hb2))⟩
      have hE : Evo [k] [] G W G (W.setRow b vs) := ⟨hkeep, fun _ _ h => h, fun _ _ h => h, fun _ _ h => h, fun _ _ => Iff.rfl, fun k' u' b' hk1 hk2 hd' hb' => hother b' (fun e => hk1 (List.mem_singleton.2 (hG.boxI k' k u' _ b hk2 hk (e ▸ hb') g5 hd' hnd))), fun t u K h => ⟨u, h, Nat.le_refl _, fun _ => rfl⟩, fun _ _ h => h, fun t u' K _ h => ⟨h, fun g' hg' => hother g' (fun e => (hG.row t u' K g' h hg').2.2.1 k _ hk hnd (by rw [e]; exact g5))⟩⟩
      have fs : ∀ m, m ≤ ob.l.length → ob.l.flatten.take (m * K) = (ob.l.take m).flatten ∧ ob.l.flatten.drop (m * K) = (ob.l.drop m).flatten := fun m hm => by
        have h6 : ob.l.flatten = (ob.l.take m).flatten ++ (ob.l.drop m).flatten := by rw [← List.flatten_append, List.take_append_drop]
        have h7 : (ob.l.take m).flatten.length = m * K := by rw [flatten_length (K := K) (fun cs hc => g6 cs (List.mem_of_mem_take hc)), List.length_take, Nat.min_eq_left hm]
        rw [h6]
        exact ⟨List.take_left' h7, List.drop_left' h7⟩
      have hfl : (List.replicate n Z).flatten.length = n * K := by rw [hzc.1, hlz]
      have hset : (ob.l.take i ++ List.replicate n Z ++ ob.l.drop (i + n)).flatten = setAt ob.l.flatten (i * K) (List.replicate n Z).flatten := by
        unfold setAt
        rw [List.flatten_append, List.flatten_append, (fs i (by omega)).1, hfl, ← Nat.add_mul, (fs (i + n) hfit).2]
      have hll : (ob.l.take i ++ List.replicate n Z ++ ob.l.drop (i + n)).length = ob.l.length := by
        simp only [List.length_append, List.length_take, List.length_replicate, List.length_drop]
        omega
      refine ⟨.tuple #[], W.setRow b vs, G, _, ?_, .inl rfl, ⟨by rw [hsize]; exact hG.fr, fun b i h => by rw [hsize]; exact hG.lt b i h, fun k u b h hu => by rw [hsize]; exact hG.box k u b h hu, hG.boxI, fun t u K g h h' => by rw [hsize]; exact hG.row t u K g h h', hG.rowI⟩, hx.trans hxt, hE, ⟨#[], rfl, rfl, fun j x u h => by simp at h⟩, fun p hp => ?_, nofun⟩
      · obtain ⟨m, rfl⟩ : ∃ m, n = m + 1 := ⟨n - 1, by omega⟩
        have hrun' : (storeCells ⟨b, i * K, none⟩ (Builtin.zeroCells zv.cells (m + 1)).toList).run P W = .ok () (W.setRow b vs) := hrun
        simp [execOp, ho, he, resolve, invoke, builtin, Builtin.clear_, run_underlying (isSl_spec hsl), zeroValue, typeInfo, hi, hzv, hrun']
      · obtain rfl := List.mem_singleton.1 hp
        refine ⟨_, us.take (i * K) ++ (Builtin.zeroCells zv.cells n).toList ++ us.drop (i * K + (Builtin.zeroCells zv.cells n).toList.length), hk, hnd, ?_, ?_, ?_⟩
        · rw [hll]; exact hmem
        · rw [hset]
          exact (AL.setAt g4 hzc _).map fun _ _ h => h.evo hE
        · refine .inr fun cs hc => ?_
          show cs.length = ob.K
          rw [hK]
          rcases List.mem_append.1 hc with hc | hc
          · rcases List.mem_append.1 hc with hc | hc
            · exact g6 cs (List.mem_of_mem_take hc)
            · rw [(List.mem_replicate.1 hc).2]; exact hZl
          · exact g6 cs (List.mem_of_mem_drop hc)
    · exact hob.elim
  · exact hob.elim
def QB (P : Program) (s : List (Nat × SV)) (g : Bool) (t : TypeId) (x : Operand) : Ev := match isSl P t, QL (opd s g x).1 with
  | some _, some l => { x := some (.one (.c (.int .i64 l.length))), ob := (opd s g x).2 }
  | some _, none => match (opd s g x).1 with
    | .c (.lk k n) => { x := some (.one (.c (.int .i64 n))), ob := (opd s g x).2 }
    | _ => bad
  | _, _ => bad
theorem ok_len {t : TypeId} {x : Operand} (ho : o.op = .call { callee := .builtin .len, args := #[x], argTypes := #[t] }) (h1 : Okd G W s a x) (hob : (QB P s g t x).ob) : Does P M A0 w0 G a W o (QB P s g t x) := by
  have d1 := opd_ok hg h1
  unfold QB at hob ⊢
  split at hob
  · next e l hsl hl =>
    obtain ⟨ad, c, he⟩ := den_len (asSl_ok (d1 hob) hl)
    refine does_pure hG hx (v := .int .i64 l.length) ?_ (Den.int _ _)
    have hrun : (Builtin.len_ #[t] o.type #[.slice ad l.length c]).run P W = .ok (goInt l.length) W := by simp [Builtin.len_, run_underlying (isSl_spec hsl)]
    simp [execOp, ho, resolve, invoke, builtin, he, hrun]
    rfl
  · next e hsl hl =>
    split at hob
    · next k n hlk =>
      have d2 := d1 hob
      rw [hlk] at d2
      obtain ⟨ad, N, c, g1, g2, g3, g4, he⟩ := d2
      refine does_pure hG hx (v := .int .i64 n) ?_ (Den.int _ _)
      have hrun : (Builtin.len_ #[t] o.type #[.slice ad n c]).run P W = .ok (goInt n) W := by simp [Builtin.len_, run_underlying (isSl_spec hsl)]
      simp [execOp, ho, resolve, invoke, builtin, he, hrun]
      rfl
    · exact hob.elim
  · exact hob.elim
def QC (s : List (Nat × SV)) (g : Bool) (mx : Bool) (x y : Operand) : Ev := match opd s g x, opd s g y with
  | (.c (.int k m), p), (.c (.int k' n), q) => { x := some (.one (.c (.int k (if mx then max m n else min m n)))), ob := p ∧ q ∧ k = k' }
  | _, _ => bad
theorem ok_mm {mx : Bool} {ts : Array TypeId} {x y : Operand} (ho : o.op = .call { callee := .builtin (if mx then .max else .min), args := #[x, y], argTypes := ts }) (h1 : Okd G W s a x) (h2 : Okd G W s a y) (hob : (QC s g mx x y).ob) : Does P M A0 w0 G a W o (QC s g mx x y) := by
  have d1 := opd_ok hg h1
  have d2 := opd_ok hg h2
  unfold QC at hob ⊢
  split at hob
  · next k m p k' n q e1 e2 =>
    rw [e1] at d1
    rw [e2] at d2
    obtain ⟨hp, hq, rfl⟩ := hob
    have f1 := D1_int (d1 hp)
    have f2 := D1_int (d2 hq)
    refine does_pure hG hx (v := .int k (if mx then max m n else min m n)) ?_ (Den.int _ _)
    cases mx
    · have : (if n < m then n else m) = min m n := by simp only [Int.min_def]; split <;> split <;> omega
      simp [execOp, ho, resolve, invoke, builtin, f1, f2, Builtin.min_, Builtin.min2, this]
    · have : (if m < n then n else m) = max m n := by simp only [Int.max_def]; split <;> split <;> omega
      simp [execOp, ho, resolve, invoke, builtin, f1, f2, Builtin.max_, Builtin.max2, this]
  · exact hob.elim
omit hg hG hx in
/-- append, and where the new slice lies. -/
theorem run_app3 (t ty e : TypeId) (i0 : TypeInfo) (z : Value) (ht : P.underlying t = some (.slice e)) (hi0 : P.info? e = some i0) (hz : i0.zero = some z) (hzs : z.cells.size = i0.size) (hsz : 0 < i0.size)
    (v : Value) (n : Nat) (xs : List Value) (hown : W.ownsRow 0 e i0.size v n xs) 
    (m : Nat) (u : Value) (news : List Value) (hr : Rd W i0.size m u news) (h1 : ∀ u ∈ news, u.oneCell' = true) (h63 : n + m ≤ maxLen) (hbytes : (n + m) * i0.bytes ≤ 140737488355328) :
    ∃ v' W', (Builtin.append_ #[t, t] ty #[v, u]).run P W = .ok v' W' ∧ W'.ownsRow 0 e i0.size v' (n + m) (xs ++ news) ∧ ((v'.ownBlock = v.ownBlock ∧ W.grownBy W' v.ownBlock) ∨ (v'.ownBlock = some W.heap.size ∧ W.grownBy W' none)) ∧ slen v' = n + m ∧ (m = 0 → v' = v) := by
  obtain ⟨ad, c, rfl⟩ := hr.form
  have hslen : slen v = n := by
    rcases hown.2 with ⟨rfl, rfl⟩ | ⟨g, cap, cur, rfl, -⟩ <;> rfl
  rcases Nat.eq_zero_or_pos m with h0 | h0
  · subst h0
    obtain rfl : news = [] := by simpa using hr.len
    refine ⟨v, W, ?_, by simpa using hown, .inl ⟨rfl, World.grownBy.refl W _⟩, hslen, fun _ => rfl⟩
    rcases hown.2 with ⟨rfl, _⟩ | ⟨g, cap, cur, rfl, _, _, hnc, _⟩
    · cases ad <;> simp [Builtin.append_, run_underlying ht, sizeOf, typeInfo, hi0, Builtin.lenOf, Builtin.firstCells, loadCells, loadCellsFrom]
    · cases ad <;> simp [Builtin.append_, run_underlying ht, sizeOf, typeInfo, hi0, Builtin.lenOf, Builtin.firstCells, hnc, storeCells, loadCells, loadCellsFrom]
  obtain ⟨b, off, rfl, hc⟩ := hr.cells h0
  have hl := hr.len
  have hnews : ∀ j u, news[j]? = some u → W.cell? ((⟨b, off, none⟩ : Addr).add j) = some u := fun j u hu => by rw [addr_add']; exact hc j u hu
  have hsmall : n + m ≤ 9223372036854775807 := by simp only [maxLen] at h63; omega
  have hlen : (xs ++ news).length = (n + m) * i0.size := by rw [List.length_append, hown.1, hl, Nat.add_mul]
  have grown : ∀ (old : Nat), old < n + m →
      (W.drew.alloc (.cells (xs.toArray ++ news.toArray ++ Builtin.zeroCells z.cells (grownCap W (n + m) old e - (n + m))) e)).ownsRow 0 e i0.size
        (.slice (some ⟨W.heap.size, 0, none⟩) (n + m) (grownCap W (n + m) old e)) (n + m) (xs ++ news) ∧
      W.grownBy (W.drew.alloc (.cells (xs.toArray ++ news.toArray ++ Builtin.zeroCells z.cells (grownCap W (n + m) old e - (n + m))) e)) none := by
    intro old ho
    have hge := grownCap_ge W (n + m) old e
    have hcm : grownCap W (n + m) old e ≤ maxLen := grownCap_le_maxLen W (n + m) old e h63
    refine ⟨⟨hlen, .inr ⟨W.heap.size, _, _, rfl, Nat.zero_le _, heap_alloc_new W.drew _, hge, hcm, ?_, ?_⟩⟩, ⟨rfl, rfl, rfl, by simp, fun k hk _ => heap_alloc_old W.drew _ hk⟩⟩
    · simp only [Array.size_append, List.size_toArray, size_zeroCells, hzs, hown.1, hl, ← Nat.add_mul]
      congr 1
      omega
    · simp only [Array.toList_append, List.append_assoc]
      rw [← List.append_assoc, ← hlen]
      exact List.take_left
  rcases hown.2 with ⟨rfl, rfl⟩ | ⟨g, cap, cur, rfl, hbg, hg, hnc, hcm, hcs, htake⟩
  · have hx : xs = [] := List.eq_nil_of_length_eq_zero (by simpa using hown.1)
    subst hx
    have hr := run_append_nil (P := P) W t ty e i0 z ht hi0 hz ⟨b, off, none⟩ m c news hl hnews (by omega) (by omega) (by have hb := hbytes; simp only [Nat.zero_add] at hb; omega)
    have hgr := grown 0 (by omega)
    simp only [Nat.zero_add, List.nil_append, Array.empty_append] at hgr ⊢
    exact ⟨_, _, hr, hgr.1, .inr ⟨rfl, hgr.2⟩, rfl, fun h => absurd h (by omega)⟩
  · by_cases hroom : n + m ≤ cap
    · have hfit : n * i0.size + news.length ≤ cur.size := by rw [hl, hcs, ← Nat.add_mul]; exact Nat.mul_le_mul_right _ hroom
      have hr := run_append_room (P := P) W t ty e i0 ht hi0 g n cap cur hg ⟨b, off, none⟩ m c news hl hnews h1 hroom hfit
      refine ⟨_, _, hr, ⟨hlen, .inr ⟨g, cap, _, rfl, hbg, setRow_heap W g cur _ e _ hg, hroom, hcm, ?_, ?_⟩⟩, .inl ⟨rfl, ⟨rfl, rfl, rfl, by simp, fun k _ hk => setRow_other W g k _ (fun e => hk (by simp [Value.ownBlock, e]))⟩⟩, rfl, fun h => absurd h (by omega)⟩
      · simp only [List.size_toArray, List.length_append, List.length_take, List.length_drop, Array.length_toList]
        omega
      · rw [htake, ← hlen]
        exact List.take_left
    · have holds : ∀ j u, xs[j]? = some u → W.cell? ((⟨g, 0, none⟩ : Addr).add j) = some u := hown.cells (g := g) rfl
      have hr := run_append_grow (P := P) W t ty e i0 z ht hi0 hz ⟨g, 0, none⟩ n cap xs hown.1 holds ⟨b, off, none⟩ m c news hl hnews (by omega) (by omega) (growslice_fits (by omega) hbytes)
      have hgr := grown cap (by omega)
      exact ⟨_, _, hr, hgr.1, .inr ⟨rfl, hgr.2⟩, rfl, fun h => absurd h (by omega)⟩
omit hg hx in
/-- Behind an append: what is known of memory. -/
theorem app_ghost {e : TypeId} {K n m d : Nat} {v v' : Value} {W' : World} {xs cs : List Value} {l ms : List (List D)} (hown : W.ownsRow 0 e K v n xs) (hown' : W'.ownsRow 0 e K v' (n + m) (xs ++ cs))
    (hcase : (v'.ownBlock = v.ownBlock ∧ W.grownBy W' v.ownBlock) ∨ (v'.ownBlock = some W.heap.size ∧ W.grownBy W' none)) (hsl : slen v' = n + m) (hm0 : m = 0 → v' = v) (hsv : slen v = n)
    (hρ : G.ρ d = some (v, K) ∨ (G.ρ d = none ∧ v = .slice none 0 0))
    (hK : ∀ c ∈ l ++ ms, c.length = K) (hdl : DenL G.A W l.flatten xs) (hdm : DenL G.A W ms.flatten cs) (hln : l.length = n) (hmn : ms.length = m) :
    GOK M A0 { A := fun b i => G.A b i ∨ (v'.ownBlock = some b ∧ i < (n + m) * K), β := G.β, dead := G.dead, ρ := fun t => if t = d then some (v', K) else G.ρ t } W' ∧
    Evo [] [d] G W { A := fun b i => G.A b i ∨ (v'.ownBlock = some b ∧ i < (n + m) * K), β := G.β, dead := G.dead, ρ := fun t => if t = d then some (v', K) else G.ρ t } W' ∧
    Hr { A := fun b i => G.A b i ∨ (v'.ownBlock = some b ∧ i < (n + m) * K), β := G.β, dead := G.dead, ρ := fun t => if t = d then some (v', K) else G.ρ t } W' d (some ⟨e, K, n + m⟩) ∧
    D1 { A := fun b i => G.A b i ∨ (v'.ownBlock = some b ∧ i < (n + m) * K), β := G.β, dead := G.dead, ρ := fun t => if t = d then some (v', K) else G.ρ t } W' (.own d K (l ++ ms)) v' := by
  have hβ : ∀ g, v.ownBlock = some g → (∀ k z, G.β k = some z → ¬ G.dead k → blk z ≠ some g) ∧ ∀ i, G.A g i → i < n * K := fun g hgg => by
    rcases hρ with hρ | ⟨-, rfl⟩
    · obtain ⟨-, -, h1, h2⟩ := hG.row d v K g hρ hgg
      rw [hsv] at h2
      exact ⟨h1, h2⟩
    · cases hgg
  have hsize : W.heap.size ≤ W'.heap.size := by rcases hcase with h | h <;> exact h.2.size
  have hheap : ∀ b, b < W.heap.size → v.ownBlock ≠ some b → W'.heap[b]? = W.heap[b]? := fun b hb hne => by
    rcases hcase with h | h
    · exact h.2.block b hb (fun e => hne e.symm)
    · exact h.2.block b hb (by simp)
  have hkeep : Kp G.A W W' := fun b i u hA hc => by
    have hlt := World.block_lt_of_cell? _ _ hc
    by_cases hb : v.ownBlock = some b
    · rcases hcase with h | h
      · have hi := (hβ b hb).2 i hA
        have hxi : xs[i]? = some (xs[i]'(by rw [hown.1]; exact hi)) := List.getElem?_eq_getElem _
        have c1 := World.ownsRow.cells hown (g := b) hb i _ hxi
        have c2 := World.ownsRow.cells hown' (g := b) (h.1.trans hb) i _ ((List.getElem?_append_left (by rw [hown.1]; exact hi)).trans hxi)
        rw [addr_add', Nat.zero_add] at c1 c2
        rw [c2, ← c1]
        exact hc
      · rw [World.cell?_of_block (a := ⟨b, i, none⟩) (h.2.block b hlt (by simp))]
        exact hc
    · rw [World.cell?_of_block (a := ⟨b, i, none⟩) (hheap b hlt hb)]
      exact hc
  have hnew : ∀ g, v'.ownBlock = some g → v.ownBlock = some g ∨ g = W.heap.size := fun g hgg => by
    rcases hcase with h | h
    · exact .inl (h.1 ▸ hgg)
    · exact .inr (Option.some.inj (hgg.symm.trans h.1))
  have hmine : ∀ g, v'.ownBlock = some g → M g := fun g hgg => by
    rcases hnew g hgg with h | rfl
    · rcases hρ with hρ | ⟨-, rfl⟩
      · exact (hG.row d v K g hρ h).1
      · cases h
    · exact hG.fr _ (Nat.le_refl _)
  have hother : ∀ t u K' g, t ≠ d → G.ρ t = some (u, K') → u.ownBlock = some g → v'.ownBlock ≠ some g := fun t u K' g ht h1 h2 h3 => by
    rcases hnew g h3 with h | rfl
    · rcases hρ with hρ | ⟨-, rfl⟩
      · exact ht (hG.rowI t d u v K' K g h1 hρ h2 h)
      · cases h
    · have := (hG.row t u K' _ h1 h2).2.1; omega
  have hE : Evo [] [d] G W { A := fun b i => G.A b i ∨ (v'.ownBlock = some b ∧ i < (n + m) * K), β := G.β, dead := G.dead, ρ := fun t => if t = d then some (v', K) else G.ρ t } W' := by
    refine ⟨hkeep, fun b i h => .inl h, fun _ _ h => h, fun _ _ h => h, fun _ _ => Iff.rfl, fun k z b _ hk hnd hz => hheap b (hG.box k z b hk hz).1 (fun e => (hβ b e).1 k z hk hnd hz), fun t u K' h => ?_, fun t ht h => ?_, fun t u K' ht h => ?_⟩
    · by_cases htd : t = d
      · subst htd
        rcases hρ with hρ | ⟨hρ, -⟩
        · obtain ⟨rfl, rfl⟩ := Prod.mk.inj (Option.some.inj (hρ.symm.trans h))
          refine ⟨v', by simp, by rw [hsv, hsl]; omega, fun he => ?_⟩
          rw [hsv, hsl] at he
          exact (hm0 (by omega)).symm
        · rw [hρ] at h; cases h
      · exact ⟨u, by dsimp only; rw [if_neg htd]; exact h, Nat.le_refl _, fun _ => rfl⟩
    · dsimp only
      rw [if_neg (by simpa using ht)]
      exact h
    · have htd : t ≠ d := by simpa using ht
      refine ⟨by dsimp only; rw [if_neg htd]; exact h, fun g hgg => hheap g (hG.row t u K' g h hgg).2.1 (fun e => ?_)⟩
      rcases hρ with hρ | ⟨-, rfl⟩
      · exact htd (hG.rowI t d u v K' K g h hρ hgg e)
      · cases e
  refine ⟨⟨fun b hb => hG.fr b (Nat.le_trans hsize hb), ?_, ?_, hG.boxI, ?_, ?_⟩, hE, ⟨v', xs ++ cs, by simp, hsl, hown'⟩, ?_, hK, ⟨v', by simp, Nat.le_refl _, fun _ => rfl⟩⟩
  · rintro b i (h | ⟨h, -⟩)
    · exact ⟨Nat.lt_of_lt_of_le (hG.lt b i h).1 hsize, (hG.lt b i h).2⟩
    · have := hown'.lt b h
      exact ⟨this.2, fun h' => absurd (hmine b h) h'⟩
  · intro k z b hk hz
    obtain ⟨h2, h3⟩ := hG.box k z b hk hz
    refine ⟨Nat.lt_of_lt_of_le h2 hsize, fun hnd => ⟨(h3 hnd).1, fun i => ?_⟩⟩
    rintro (h | ⟨h, -⟩)
    · exact (h3 hnd).2 i h
    · rcases hnew b h with h | rfl
      · exact (hβ b h).1 k z hk hnd hz
      · omega
  · intro t u K' g h1 h2
    dsimp only at h1
    split at h1
    · obtain ⟨rfl, rfl⟩ := Prod.mk.inj (Option.some.inj h1)
      have := hown'.lt g h2
      refine ⟨hmine g h2, this.2, fun k z hk hnd hz => ?_, fun i => ?_⟩
      · rcases hnew g h2 with h | rfl
        · exact (hβ g h).1 k z hk hnd hz
        · have := (hG.box k z _ hk hz).1; omega
      · rw [hsl]
        rintro (h | ⟨-, h⟩)
        · rcases hnew g h2 with h' | rfl
          · have := (hβ g h').2 i h
            have := Nat.mul_le_mul_right K (show n ≤ n + m by omega)
            omega
          · have := (hG.lt _ i h).1; omega
        · exact h
    · next htd =>
      obtain ⟨g1, g2, g3, g4⟩ := hG.row t u K' g h1 h2
      refine ⟨g1, Nat.lt_of_lt_of_le g2 hsize, g3, fun i => ?_⟩
      rintro (h | ⟨h, -⟩)
      · exact g4 i h
      · exact absurd h (hother t u K' g htd h1 h2)
  · intro t t' u1 u2 K1 K2 g h1 h2 h3 h4
    dsimp only at h1 h2
    split at h1 <;> split at h2
    · omega
    · next htd =>
      obtain ⟨rfl, rfl⟩ := Prod.mk.inj (Option.some.inj h1)
      exact absurd h3 (hother t' u2 K2 g htd h2 h4)
    · next htd _ =>
      obtain ⟨rfl, rfl⟩ := Prod.mk.inj (Option.some.inj h2)
      exact absurd h4 (hother t u1 K1 g htd h1 h3)
    · exact hG.rowI t t' u1 u2 K1 K2 g h1 h2 h3 h4
  · have hlen : (l ++ ms).length = n + m := by rw [List.length_append, hln, hmn]
    have hd' : DenL (fun b i => G.A b i ∨ (v'.ownBlock = some b ∧ i < (n + m) * K)) W' (l ++ ms).flatten (xs ++ cs) := by
      rw [List.flatten_append]
      exact DenL.mono (AL.append hdl hdm) (fun b i h => .inl h) hkeep
    obtain ⟨ad, cp, hv'⟩ := (own_rd hown').form
    rw [hv'] at hown' ⊢
    rw [hv'] at hd'
    rw [← hlen]
    have hcap : (l ++ ms).length ≤ cp := by
      rw [hlen]
      rcases hown'.2 with ⟨h, h'⟩ | ⟨g, cap, cur, h, -, -, h', -⟩
      · omega
      · obtain ⟨-, -, rfl⟩ := Value.slice.inj h
        exact h'
    refine den_of_cells hK hcap (by rw [hlen]; exact hd') (fun hne => ?_)
    rcases hown'.2 with ⟨h, h'⟩ | ⟨g, cap, cur, h, -⟩
    · exact absurd (List.eq_nil_of_length_eq_zero (by omega)) hne
    · obtain ⟨rfl, -, rfl⟩ := Value.slice.inj h
      refine ⟨g, 0, rfl, fun i u hu => ⟨.inr ⟨rfl, ?_⟩, ?_⟩⟩
      · have := (List.getElem?_eq_some_iff.1 hu).1
        rw [hown'.1] at this
        first | exact this | (rw [hlen]; exact this) | (rw [Nat.zero_add]; exact this) | (rw [hlen, Nat.zero_add]; exact this)
      · have := World.ownsRow.cells hown' (g := g) rfl i u hu
        rwa [addr_add'] at this
omit hg hG hx in
theorem own_form {e : TypeId} {K n : Nat} {v : Value} {xs : List Value} (h : W.ownsRow 0 e K v n xs) : ∃ a c, v = .slice a n c ∧ n ≤ c ∧ (n = 0 ∨ ∃ b, a = some ⟨b, 0, none⟩) := by
  rcases h.2 with ⟨rfl, rfl⟩ | ⟨g, cap, cur, rfl, -, -, h1, -⟩
  · exact ⟨_, _, rfl, Nat.le_refl _, .inl rfl⟩
  · exact ⟨_, _, rfl, h1, .inr ⟨_, rfl⟩⟩
omit hg hG hx in
theorem own_cut {e : TypeId} {K N n c : Nat} {a : Option Addr} {us : List Value} (h : W.ownsRow 0 e K (.slice a N c) N us) (hn : n ≤ N) : W.ownsRow 0 e K (.slice a n c) n (us.take (n * K)) := by
  have hle := Nat.mul_le_mul_right K hn
  refine ⟨by rw [List.length_take, h.1]; omega, ?_⟩
  rcases h.2 with ⟨h1, h2⟩ | ⟨g, cap, cur, h1, h2, h3, h4, h5, h6, h7⟩
  · obtain ⟨rfl, rfl, rfl⟩ := Value.slice.inj h1
    obtain rfl : n = 0 := by omega
    exact .inl ⟨rfl, rfl⟩
  · obtain ⟨rfl, -, rfl⟩ := Value.slice.inj h1
    refine .inr ⟨g, c, cur, rfl, h2, h3, by omega, h5, h6, ?_⟩
    rw [← h7, List.take_take, Nat.min_eq_left hle]
omit hg hG hx in
theorem blk_of_own {v : Value} (h : ∃ a n c, v = .slice a n c) : v.ownBlock = blk v := by
  obtain ⟨a, n, c, rfl⟩ := h
  cases a <;> rfl
def cons1 (k? : Option Nat) (G : Gh) (d : Nat) (v : Value) : Gh := { G with β := fun k => if k = d then some v else G.β k, dead := fun k => k ≠ d ∧ (k? = some k ∨ G.dead k) }
omit hg hx in
/-- An object is used up: another one comes of it, in its block or in a new one. -/
theorem app_obj {W' : World} {k? : Option Nat} {v v' : Value} {d : Nat} {o : Ob} {us : List Value} (hβd : G.β d = none) (hk? : match k? with
      | some k => ∃ u, G.β k = some u ∧ ¬ G.dead k ∧ blk u = v.ownBlock
      | none => v.ownBlock = none)
    (hcase : (v'.ownBlock = v.ownBlock ∧ W.grownBy W' v.ownBlock) ∨ (v'.ownBlock = some W.heap.size ∧ W.grownBy W' none))
    (hown : W'.ownsRow 0 o.e o.K v' o.l.length us) (hd : DenXL G W o.l.flatten us) (hK : ∀ cs ∈ o.l, cs.length = o.K) :
    GOK M A0 (cons1 k? G d v') W' ∧ Evo (d :: k?.toList) [] G W (cons1 k? G d v') W' ∧ Hb (cons1 k? G d v') W' d (some (some o)) ∧ D1 (cons1 k? G d v') W' (.c (.lk d o.l.length)) v' ∧ Chg M W W' := by
  have hsize : W.heap.size ≤ W'.heap.size := by rcases hcase with h | h <;> exact h.2.size
  have hblk : ∀ g, v.ownBlock = some g → ∃ k u, k? = some k ∧ G.β k = some u ∧ ¬ G.dead k ∧ blk u = some g := fun g hg => by
    cases k? with
    | none => rw [show v.ownBlock = none from hk?] at hg; cases hg
    | some k => obtain ⟨u, h1, h2, h3⟩ := hk?; exact ⟨k, u, rfl, h1, h2, h3.trans hg⟩
  have hM : ∀ g, v.ownBlock = some g → M g ∧ ∀ i, ¬ G.A g i := fun g hg => by
    obtain ⟨k, u, -, h1, h2, h3⟩ := hblk g hg
    exact (hG.box k u g h1 h3).2 h2
  have hheap : ∀ b, b < W.heap.size → v.ownBlock ≠ some b → W'.heap[b]? = W.heap[b]? := fun b hb hne => by
    rcases hcase with h | h
    · exact h.2.block b hb (fun e => hne e.symm)
    · exact h.2.block b hb (by simp)
  have hchg : Chg M W W' := by
    rcases hcase with h | h
    · exact Chg.grown h.2 (fun k hk => (hM k hk).1)
    · exact Chg.grown h.2 (fun k hk => by cases hk)
  have hkeep : Kp G.A W W' := fun b i u hA hc => by
    rw [World.cell?_of_block (a := ⟨b, i, none⟩) (hheap b (hG.lt b i hA).1 (fun e => (hM b e).2 i hA))]
    exact hc
  have hvf := own_form hown
  have hvb : v'.ownBlock = blk v' := by obtain ⟨a, c, h, -⟩ := hvf; exact blk_of_own ⟨a, _, c, h⟩
  have hnew : ∀ g, blk v' = some g → v.ownBlock = some g ∨ g = W.heap.size := fun g hgg => by
    rw [← hvb] at hgg
    rcases hcase with h | h
    · exact .inl (h.1 ▸ hgg)
    · exact .inr (Option.some.inj (hgg.symm.trans h.1))
  have hβk : ∀ k u, G.β k = some u → (cons1 k? G d v').β k = some u := fun k u h => by
    show (if k = d then _ else _) = _
    rw [if_neg (fun e => by rw [e, hβd] at h; cases h)]
    exact h
  have hE : Evo (d :: k?.toList) [] G W (cons1 k? G d v') W' := by
    refine ⟨hkeep, fun _ _ h => h, hβk, fun k hk h => ?_, fun k hk => ?_, fun k u b hk h hnd hb => hheap b (hG.box k u b h hb).1 (fun e => ?_), fun t u K h => ⟨u, h, Nat.le_refl _, fun _ => rfl⟩, fun _ _ h => h, fun t u K _ h => ⟨h, fun g hg => hheap g (hG.row t u K g h hg).2.1 (fun e => ?_)⟩⟩
    · show (if k = d then _ else _) = _
      rw [if_neg (fun e => hk (by rw [e]; exact List.mem_cons_self))]
      exact h
    · have h1 : k ≠ d := fun e => hk (by rw [e]; exact List.mem_cons_self)
      have h2 : k? ≠ some k := fun e => hk (List.mem_cons_of_mem _ (by rw [e]; exact List.mem_singleton.2 rfl))
      exact ⟨fun h => h.2.resolve_left h2, fun h => ⟨h1, .inr h⟩⟩
    · obtain ⟨k', u', h1, h2, h3, h4⟩ := hblk b e
      have := hG.boxI k k' u u' b h h2 hb h4 hnd h3
      exact hk (List.mem_cons_of_mem _ (by rw [h1, this]; exact List.mem_singleton.2 rfl))
    · obtain ⟨k', u', h1, h2, h3, h4⟩ := hblk g e
      exact (hG.row t u K g h hg).2.2.1 k' u' h2 h3 h4
  refine ⟨⟨fun b hb => hG.fr b (Nat.le_trans hsize hb), fun b i h => ⟨Nat.lt_of_lt_of_le (hG.lt b i h).1 hsize, (hG.lt b i h).2⟩, ?_, ?_, ?_, hG.rowI⟩, hE, ⟨v', us, by show (if d = d then _ else _) = _; rw [if_pos rfl], fun h => h.1 rfl, ?_, hd.evo hE, .inr hK⟩, ?_, hchg⟩
  · intro k u b hk hb
    change (if k = d then _ else _) = _ at hk
    split at hk
    · obtain rfl := Option.some.inj hk
      refine ⟨(hown.lt b (hvb.trans hb)).2, fun _ => ?_⟩
      rcases hnew b hb with h | rfl
      · exact hM b h
      · exact ⟨hG.fr _ (Nat.le_refl _), fun i hi => by have := (hG.lt _ i hi).1; omega⟩
    · next hkd =>
      obtain ⟨h1, h2⟩ := hG.box k u b hk hb
      exact ⟨Nat.lt_of_lt_of_le h1 hsize, fun hdd => h2 (fun h => hdd ⟨hkd, .inr h⟩)⟩
  · have old : ∀ k u b, k ≠ d → G.β k = some u → blk u = some b → blk v' = some b → ¬ (cons1 k? G d v').dead k → False := fun k u b hkd hk hb hb' hnd => by
      rcases hnew b hb' with h | rfl
      · obtain ⟨k', u', h1, h2, h3, h4⟩ := hblk b h
        have := hG.boxI k k' u u' b hk h2 hb h4 (fun h => hnd ⟨hkd, .inr h⟩) h3
        exact hnd ⟨hkd, .inl (by rw [this]; exact h1)⟩
      · have := (hG.box k u _ hk hb).1; omega
    intro k k' u u' b hk hk' hb hb' hdk hdk'
    change (if k = d then _ else _) = _ at hk
    change (if k' = d then _ else _) = _ at hk'
    split at hk <;> split at hk'
    · omega
    · next h1 h2 => obtain rfl := Option.some.inj hk; exact (old k' u' b h2 hk' hb' hb hdk').elim
    · next h1 h2 => obtain rfl := Option.some.inj hk'; exact (old k u b h1 hk hb hb' hdk).elim
    · next h1 h2 => exact hG.boxI k k' u u' b hk hk' hb hb' (fun h => hdk ⟨h1, .inr h⟩) (fun h => hdk' ⟨h2, .inr h⟩)
  · intro t u K g h1 h2
    obtain ⟨g1, g2, g3, g4⟩ := hG.row t u K g h1 h2
    refine ⟨g1, Nat.lt_of_lt_of_le g2 hsize, fun k z hk hnd hz => ?_, g4⟩
    change (if k = d then _ else _) = _ at hk
    split at hk
    · obtain rfl := Option.some.inj hk
      rcases hnew g hz with h | rfl
      · obtain ⟨k', u', h1', h2', h3, h4⟩ := hblk g h
        exact g3 k' u' h2' h3 h4
      · omega
    · next hkd => exact g3 k z hk (fun h => hnd ⟨hkd, .inr h⟩) hz
  · obtain ⟨a, c, hv, -⟩ := hvf
    subst hv
    exact hown
  · obtain ⟨a, c, hv, h1, h2⟩ := hvf
    exact ⟨a, _, c, by show (if d = d then _ else _) = _; rw [if_pos rfl, hv], Nat.le_refl _, h1, h2, hv⟩
def Xz (P : Program) (e : TypeId) (n m : Nat) (ms : List (List D)) : Prop := (zr P e).map List.length = some (sz P e) ∧ 0 < sz P e ∧ capOk (n + m) ∧ (n + m) * byt P e ≤ 140737488355328 ∧ allK (sz P e) ms
/-- What is read of a slice: its elements; of an object, what it holds. -/
def Xm (bx : Bt) : S1 → Option (List (List D) × List Nat)
  | .c (.lk k n) => match gb bx k with
    | some (some o) => some (o.l.take n, [k])
    | _ => none
  | x => (QL x).map fun l => (l, [])
def Xo (bx : Bt) (K : Nat) : S1 → Prop
  | .c (.lk k n) => match gb bx k with
    | some (some o) => n ≤ o.l.length ∧ o.K = K
    | _ => False
  | _ => True
omit hg hG hx in
theorem src_ok {x : S1} {v : Value} {l : List (List D)} {rb : List Nat} {K : Nat} (h : D1 G W x v) (hs : Xm bx x = some (l, rb)) (hb : ∀ k ∈ rb, Hb G W k (gb bx k)) (hob : Xo bx K x) (hK : allK K l) :
    ∃ a c us, v = .slice a l.length c ∧ Rd W K l.length (.slice a l.length c) us ∧ DenXL G W l.flatten us := by
  have plain : ∀ l', QL x = some l' → l' = l → ∃ a c us, v = .slice a l.length c ∧ Rd W K l.length (.slice a l.length c) us ∧ DenXL G W l.flatten us := fun l' ha e => by
    subst e
    obtain ⟨a, c, us, h1, h2, h3, -⟩ := cells_of_den (asSl_ok h ha) hK
    exact ⟨a, c, us, h1, h2, DenXL.of h3⟩
  unfold Xm at hs
  split at hs
  · next k n =>
    unfold Xo at hob
    dsimp only at hob
    cases ho : gb bx k with
    | none => rw [ho] at hs; cases hs
    | some o =>
      cases o with
      | none => rw [ho] at hs; cases hs
      | some o =>
        rw [ho] at hs hob
        obtain ⟨rfl, rfl⟩ := Prod.mk.inj (Option.some.inj hs)
        obtain ⟨hn, rfl⟩ := hob
        have hk := hb k List.mem_cons_self
        rw [ho] at hk
        obtain ⟨u, us, h1, h2, h3, h4, h5⟩ := hk
        obtain ⟨a, N, c, g1, g2, g3, g4, rfl⟩ := h
        obtain rfl := Option.some.inj (h1.symm.trans g1)
        have h3 : W.ownsRow 0 o.e o.K (.slice a N c) o.l.length us := h3
        obtain ⟨a', c', e, -, -⟩ := own_form h3
        obtain ⟨-, rfl, -⟩ := Value.slice.inj e
        have hcut := own_cut h3 hn
        have hlen : (o.l.take n).length = n := by rw [List.length_take]; omega
        have h5' : ∀ cs ∈ o.l, cs.length = o.K := by
          rcases h5 with ⟨b, e⟩ | h5
          · cases e
          · exact h5
        refine ⟨a, c, us.take (n * o.K), by rw [hlen], by rw [hlen]; exact own_rd hcut, ?_⟩
        have := AL.take h4 (n * o.K)
        have hfl : (o.l.take n).flatten = o.l.flatten.take (n * o.K) := by
          have h6 : o.l.flatten = (o.l.take n).flatten ++ (o.l.drop n).flatten := by rw [← List.flatten_append, List.take_append_drop]
          rw [h6, List.take_left' (by rw [flatten_length (K := o.K) (fun cs hc => h5' cs (List.mem_of_mem_take hc)), hlen])]
        rw [hfl]
        exact this
  · cases ha : QL x with
    | none => rw [ha] at hs; cases hs
    | some l' =>
      rw [ha] at hs
      exact plain l' ha (Prod.mk.inj (Option.some.inj hs)).1
def QD (P : Program) (s : List (Nat × SV)) (bx : Bt) (rx : List (Nat × RowI)) (xl ug : Bool) (g : Bool) (d : Nat) (t : TypeId) (x y : Operand) : Ev := match isSl P t with
  | some e => match opd s g x with
    | (.own tg K l, p) => match gb rx tg, QL (opd s g y).1 with
      | some ri, some ms => { x := some (.one (.own tg K (l ++ ms))), ob := ug = true ∧ p ∧ (opd s g y).2 ∧ ri.e = e ∧ ri.K = K ∧ K = sz P e ∧ ri.n = l.length ∧ Xz P e l.length ms.length ms, wr := [(tg, ⟨e, K, l.length + ms.length⟩)] }
      | _, _ => bad
    | (.nil, p) => if xl then match Xm bx (opd s g y).1 with
        | some (ms, rb) => { x := some (.one (.c (.lk d ms.length))), ob := g = true ∧ p ∧ (opd s g y).2 ∧ gb bx d = none ∧ Xo bx (sz P e) (opd s g y).1 ∧ Xz P e 0 ms.length ms, rb := rb, wb := [(d, some ⟨e, sz P e, ms⟩)] }
        | none => bad
      else match QL (opd s g y).1 with
        | some ms => { x := some (.one (.own d (sz P e) ms)), ob := ug = true ∧ p ∧ (opd s g y).2 ∧ gb rx d = none ∧ Xz P e 0 ms.length ms, wr := [(d, ⟨e, sz P e, ms.length⟩)] }
        | none => bad
    | (.c (.lk k n), p) => match gb bx k, Xm bx (opd s g y).1 with
      | some (some o), some (ms, rb) => { x := some (.one (.c (.lk d (n + ms.length)))), ob := g = true ∧ p ∧ (opd s g y).2 ∧ gb bx d = none ∧ n ≤ o.l.length ∧ o.e = e ∧ o.K = sz P e ∧ Xo bx (sz P e) (opd s g y).1 ∧ Xz P e n ms.length ms, rb := rb, wb := [(d, some ⟨e, sz P e, o.l.take n ++ ms⟩), (k, none)] }
      | _, _ => bad
    | _ => bad
  | none => bad
theorem ok_app {t : TypeId} {d : Nat} {xl ug : Bool} {x y : Operand} (ho : o.op = .call { callee := .builtin .append, args := #[x, y], argTypes := #[t, t] }) (h1 : Okd G W s a x) (h2 : Okd G W s a y) (hrb : ∀ k ∈ (QD P s bx rx xl ug g d t x y).rb, Hb G W k (gb bx k)) (hwb : ∀ p ∈ (QD P s bx rx xl ug g d t x y).wb, Hb G W p.1 (gb bx p.1)) (hr : ∀ p ∈ (QD P s bx rx xl ug g d t x y).wr, Hr G W p.1 (gb rx p.1)) (hob : (QD P s bx rx xl ug g d t x y).ob) : Does P M A0 w0 G a W o (QD P s bx rx xl ug g d t x y) := by
  have d1 := opd_ok hg h1
  have d2 := opd_ok hg h2
  have prep : ∀ e n m, (zr P e).map List.length = some (sz P e) → 0 < sz P e → capOk (n + m) → (n + m) * byt P e ≤ 140737488355328 → ∃ i zv, P.info? e = some i ∧ i.zero = some zv ∧ zv.cells.size = i.size ∧ i.size = sz P e ∧ byt P e = i.bytes := by
    intro e n m hz hs h63 hby
    cases hzr : zr P e with
    | none => rw [hzr] at hz; cases hz
    | some zs =>
      rw [hzr] at hz
      obtain ⟨i, zv, hi, hzv, hdz⟩ := zr_ok hzr
      obtain ⟨i', hi', his⟩ := info_of_sz hs
      obtain rfl : i = i' := Option.some.inj (hi.symm.trans hi')
      have hzsz : zv.cells.size = i.size := by
        have h4 := (hdz G.A W).1
        rw [Array.length_toList] at h4
        have h5 : zs.length = sz P e := Option.some.inj hz
        exact (h4.symm.trans h5).trans his.symm
      exact ⟨i, zv, hi, hzv, hzsz, his, by unfold byt Program.bytesOf; rw [hi]; rfl⟩
  have core : ∀ e ms (v : Value) (n dd : Nat) (l : List (List D)) xs, isSl P t = some e → QL (opd s g y).1 = some ms → (opd s g y).2 → a.eval x = v → W.ownsRow 0 e (sz P e) v n xs → slen v = n → l.length = n → (G.ρ dd = some (v, sz P e) ∨ (G.ρ dd = none ∧ v = .slice none 0 0)) → (∀ c ∈ l, c.length = sz P e) → DenL G.A W l.flatten xs → Xz P e n ms.length ms →
      ∃ v' W' G', (execOp a.eval o).run P W = .ok (.value v') W' ∧ GOK M A0 G' W' ∧ Chg M w0 W' ∧ Evo [] [dd] G W G' W' ∧ D1 G' W' (.own dd (sz P e) (l ++ ms)) v' ∧ Hr G' W' dd (some ⟨e, sz P e, n + ms.length⟩) := by
    intro e ms v n dd l xs hsl hms hq hv hown hsv hln hρ hKl hdl ⟨hz, hs, h63, hby, hKm⟩
    obtain ⟨i, zv, hi, hzv, hzsz, his, hby'⟩ := prep e n ms.length hz hs h63 hby
    obtain ⟨ad, c, us, he, hrd, hdm, -, -⟩ := cells_of_den (asSl_ok (d2 hq) hms) hKm
    rw [← his] at hown hrd
    rw [← he] at hrd
    obtain ⟨v', W', hrun, k1, k2, k3, k4⟩ := run_app3 (P := P) (W := W) t o.type e i zv (isSl_spec hsl) hi hzv hzsz (by omega) v n xs hown ms.length (a.eval y) us hrd (DenL.one hdm) h63 (by rw [← hby']; exact hby)
    rw [his] at k1 hown
    obtain ⟨m1, m2, m3, m4⟩ := app_ghost hG (d := dd) (l := l) (ms := ms) hown k1 k2 k3 k4 hsv hρ (fun c hc => by rcases List.mem_append.1 hc with h | h; exact hKl c h; exact hKm c h) hdl hdm hln rfl
    refine ⟨v', W', _, ?_, m1, ?_, m2, m4, m3⟩
    · simp [execOp, ho, resolve, invoke, builtin, hv, hrun]
    · rcases k2 with h | h
      · refine hx.trans (Chg.grown h.2 (fun k hk => ?_))
        rcases hρ with hρ | ⟨-, rfl⟩
        · exact (hG.row dd v _ k hρ hk).1
        · cases hk
      · exact hx.trans (Chg.grown h.2 (fun k hk => by cases hk))
  have coreX : ∀ e ms rb (v : Value) (n : Nat) (k? : Option Nat) (l : List (List D)) xs, isSl P t = some e → Xm bx (opd s g y).1 = some (ms, rb) → (∀ k ∈ rb, Hb G W k (gb bx k)) → Xo bx (sz P e) (opd s g y).1 → (opd s g y).2 → a.eval x = v → W.ownsRow 0 e (sz P e) v n xs → l.length = n → G.β d = none → (match k? with
      | some k => ∃ u, G.β k = some u ∧ ¬ G.dead k ∧ blk u = v.ownBlock
      | none => v.ownBlock = none) → (∀ c ∈ l, c.length = sz P e) → DenXL G W l.flatten xs → Xz P e n ms.length ms →
      ∃ v' W' G', (execOp a.eval o).run P W = .ok (.value v') W' ∧ GOK M A0 G' W' ∧ Chg M w0 W' ∧ Evo (d :: k?.toList) [] G W G' W' ∧ D1 G' W' (.c (.lk d (n + ms.length))) v' ∧ Hb G' W' d (some (some ⟨e, sz P e, l ++ ms⟩)) ∧ ∀ k, k? = some k → k ≠ d → ∃ u, G'.β k = some u ∧ G'.dead k := by
    intro e ms rb v n k? l xs hsl hms hrb hso hq hv hown hln hβ hk? hKl hdl ⟨hz, hs, h63, hby, hKm⟩
    obtain ⟨i, zv, hi, hzv, hzsz, his, hby'⟩ := prep e n ms.length hz hs h63 hby
    obtain ⟨ad, c, us, he, hrd, hdm⟩ := src_ok (d2 hq) hms hrb hso hKm
    rw [← his] at hown hrd
    rw [← he] at hrd
    obtain ⟨v', W', hrun, k1, k2, k3, k4⟩ := run_app3 (P := P) (W := W) t o.type e i zv (isSl_spec hsl) hi hzv hzsz (by omega) v n xs hown ms.length (a.eval y) us hrd hdm.one h63 (by rw [← hby']; exact hby)
    rw [his] at k1 hown
    have hl : (l ++ ms).length = n + ms.length := by rw [List.length_append, hln]
    obtain ⟨m1, m2, m3, m4, m5⟩ := app_obj hG (d := d) (o := ⟨e, sz P e, l ++ ms⟩) (us := xs ++ us) hβ hk? k2 (by rw [hl]; exact k1) (by rw [List.flatten_append]; exact AL.append hdl hdm) (fun c hc => by rcases List.mem_append.1 hc with h | h; exact hKl c h; exact hKm c h)
    refine ⟨v', W', _, ?_, m1, hx.trans m5, m2, by rw [← hl]; exact m4, m3, fun k hk hkd => ?_⟩
    · simp [execOp, ho, resolve, invoke, builtin, hv, hrun]
    · subst hk
      obtain ⟨u, h1, -⟩ := hk?
      exact ⟨u, by show (if k = d then _ else _) = _; rw [if_neg hkd]; exact h1, hkd, .inl rfl⟩
  unfold QD at hob hr hrb hwb ⊢
  split at hob
  · next e hsl =>
    simp only [hsl] at hr hrb hwb
    split at hob
    · next tg K l p e1 =>
      rw [e1] at d1
      simp only [e1] at hr
      split at hob
      · next ri ms hri hms =>
        simp only [hri, hms] at hr
        obtain ⟨-, hp, hq, rfl, rfl, hK, hn, hap⟩ := hob
        have hrr := hr _ (List.mem_singleton.2 rfl)
        dsimp only at hrr
        rw [hri] at hrr
        obtain ⟨u, cs, f1, f2, f3⟩ := hrr
        obtain ⟨g1, g2, u', g3, g4, g5⟩ := d1 hp
        obtain ⟨rfl, -⟩ := Prod.mk.inj (Option.some.inj (f1.symm.trans g3))
        obtain ⟨ad, c, us, he, hrd, hdl, -, -⟩ := cells_of_den g1 g2
        have hsx : slen (a.eval x) = ri.n := by rw [he, hn]; rfl
        have hux : a.eval x = u := g5 (by rw [hsx, f2])
        have hcs : us = cs := by
          rw [← hux] at f3
          have e3 := own_rd f3
          rw [he, hn] at e3
          rcases Nat.eq_zero_or_pos l.length with h0 | h0
          · have a1 := hrd.len
            have a2 := e3.len
            rw [h0, Nat.zero_mul] at a1 a2
            rw [List.eq_nil_of_length_eq_zero a1, List.eq_nil_of_length_eq_zero a2]
          · obtain ⟨b1, o1, hb1, hc1⟩ := hrd.cells h0
            obtain ⟨b2, o2, hb2, hc2⟩ := e3.cells h0
            rw [hb1] at hb2
            obtain ⟨rfl, rfl⟩ : b1 = b2 ∧ o1 = o2 := by simpa using hb2
            apply List.ext_getElem?
            intro j
            have a1 := hrd.len
            have a2 := e3.len
            by_cases hj : j < us.length
            · have q1 := hc1 j _ (List.getElem?_eq_getElem hj)
              have q2 := hc2 j _ (List.getElem?_eq_getElem (by omega))
              rw [q1] at q2
              rw [List.getElem?_eq_getElem hj, List.getElem?_eq_getElem (by omega)]
              exact q2
            · rw [List.getElem?_eq_none (by omega), List.getElem?_eq_none (by omega)]
        subst hcs
        have f3' : W.ownsRow 0 ri.e (sz P ri.e) (a.eval x) l.length us := by rw [← hK, ← hn, hux]; exact f3
        obtain ⟨v', W', G', k1, k2, k3, k4, k5, k6⟩ := core ri.e ms (a.eval x) l.length tg l us hsl hms hq rfl f3' (by rw [hsx, hn]) rfl (.inl (by rw [hux, ← hK]; exact f1)) (by rw [← hK]; exact g2) hdl hap
        rw [← hK] at k5 k6
        exact ⟨v', W', G', _, k1, .inl rfl, k2, k3, k4, k5, nofun, fun p hp => by obtain rfl := List.mem_singleton.1 hp; exact k6⟩
      · exact hob.elim
    · next p e1 =>
      rw [e1] at d1
      simp only [e1] at hr hrb hwb
      cases xl
      · simp only [Bool.false_eq_true, if_false] at hob hr hrb hwb ⊢
        split at hob
        · next ms hms =>
          simp only [hms] at hr
          obtain ⟨-, hp, hq, hrx, hap⟩ := hob
          have hrr := hr _ (List.mem_singleton.2 rfl)
          dsimp only at hrr
          rw [hrx] at hrr
          have hv : a.eval x = .slice none 0 0 := d1 hp
          obtain ⟨v', W', G', k1, k2, k3, k4, k5, k6⟩ := core e ms (.slice none 0 0) 0 d [] [] hsl hms hq hv (World.ownsRow_nil _ _ _ _) rfl rfl (.inr ⟨hrr, rfl⟩) nofun DenL.nil hap
          simp only [List.nil_append, Nat.zero_add] at k5 k6
          exact ⟨v', W', G', _, k1, .inl rfl, k2, k3, k4, k5, nofun, fun p hp => by obtain rfl := List.mem_singleton.1 hp; exact k6⟩
        · exact hob.elim
      · simp only [if_true] at hob hr hrb hwb ⊢
        split at hob
        · next ms rb hms =>
          simp only [hms] at hrb hwb
          obtain ⟨-, hp, hq, hbx, hso, hap⟩ := hob
          have hbb := hwb _ (List.mem_singleton.2 rfl)
          dsimp only at hbb
          rw [hbx] at hbb
          have hv : a.eval x = .slice none 0 0 := d1 hp
          obtain ⟨v', W', G', k1, k2, k3, k4, k5, k6, -⟩ := coreX e ms rb (.slice none 0 0) 0 none [] [] hsl hms hrb hso hq hv (World.ownsRow_nil _ _ _ _) rfl hbb rfl nofun AL.nil hap
          simp only [List.nil_append, Nat.zero_add] at k5 k6
          exact ⟨v', W', G', _, k1, .inl rfl, k2, k3, k4, k5, fun p hp => by obtain rfl := List.mem_singleton.1 hp; exact k6, nofun⟩
        · exact hob.elim
    · next k n p e1 =>
      rw [e1] at d1
      simp only [e1] at hr hrb hwb
      split at hob
      · next ob ms rb hbk hms =>
        simp only [hbk, hms] at hrb hwb
        obtain ⟨-, hp, hq, hbx, hn, rfl, hK, hso, hap⟩ := hob
        have hbb := hwb _ List.mem_cons_self
        dsimp only at hbb
        rw [hbx] at hbb
        have hkk := hwb _ (List.mem_cons_of_mem _ List.mem_cons_self)
        dsimp only at hkk
        rw [hbk] at hkk
        have hne : k ≠ d := fun e => by rw [e, hbx] at hbk; cases hbk
        obtain ⟨u, us, f1, f2, f3, f4, f5⟩ := hkk
        obtain ⟨ad, N, c, g1, g2, g3, g4, he⟩ := d1 hp
        obtain rfl := Option.some.inj (f1.symm.trans g1)
        have f3 : W.ownsRow 0 ob.e ob.K (.slice ad N c) ob.l.length us := f3
        obtain ⟨a', c', e, -, -⟩ := own_form f3
        obtain ⟨-, hN, -⟩ := Value.slice.inj e
        rw [← hN] at f3 hn
        have hcut := own_cut f3 hn
        have hlen : (ob.l.take n).length = n := by rw [List.length_take]; omega
        have f5' : ∀ cs ∈ ob.l, cs.length = ob.K := by
          rcases f5 with ⟨b, e⟩ | f5
          · cases e
          · exact f5
        have hfl : (ob.l.take n).flatten = ob.l.flatten.take (n * ob.K) := by
          have h6 : ob.l.flatten = (ob.l.take n).flatten ++ (ob.l.drop n).flatten := by rw [← List.flatten_append, List.take_append_drop]
          rw [h6, List.take_left' (by rw [flatten_length (K := ob.K) (fun cs hc => f5' cs (List.mem_of_mem_take hc)), hlen])]
        obtain ⟨v', W', G', k1, k2, k3, k4, k5, k6, k7⟩ := coreX ob.e ms rb (a.eval x) n (some k) (ob.l.take n) (us.take (n * ob.K)) hsl hms hrb hso hq rfl (by rw [he, ← hK]; exact hcut) hlen hbb ⟨_, f1, f2, by rw [he]; cases ad <;> rfl⟩ (fun cs hc => by rw [← hK]; exact f5' cs (List.mem_of_mem_take hc)) (by rw [hfl]; exact AL.take f4 _) hap
        refine ⟨v', W', G', _, k1, .inl rfl, k2, k3, k4, k5, fun p hp => ?_, nofun⟩
        rcases List.mem_cons.1 hp with rfl | hp
        · exact k6
        · obtain rfl := List.mem_singleton.1 hp
          exact k7 k rfl hne
      · exact hob.elim
    · exact hob.elim
  · exact hob.elim
end
/-- What a call gives. -/
inductive R1 where
  | c (d : D)
  | agg (l : List D)
  | own (e : TypeId) (K : Nat) (l : List (List D))
  | mu (e : TypeId) (K : Nat) (l : List (List D))
  | ptr (cs : List D)
  | k (v : Value)
inductive CR where
  | one (x : R1)
  | tup (l : List R1)
def RD (A : Pr) (base : Nat) (w : World) : R1 → Value → Prop
  | .c d, v => Den A w d v
  | .agg l, v => ∃ us, v = .agg us ∧ DenL A w l us.toList
  | .own e K l, v => Den A w (.sl l) v ∧ (∀ cs ∈ l, cs.length = K) ∧ (∃ cs, w.ownsRow base e K v l.length cs) ∧ ∀ g, v.ownBlock = some g → ∀ i, A g i → i < l.length * K
  | .mu e K l, v => (∀ cs ∈ l, cs.length = K) ∧ (∃ us, w.ownsRow base e K v l.length us ∧ DenL A w l.flatten us) ∧ ∀ g, v.ownBlock = some g → ∀ i, ¬ A g i
  | .ptr cs, v => ∃ b o, v = .pointer (some ⟨b, o, none⟩) ∧ At A w b o cs
  | .k x, v => v = x
def RDs (A : Pr) (base : Nat) (w : World) : CR → Value → Prop
  | .one x, v => RD A base w x v
  | .tup l, v => ∃ us, v = .tuple us ∧ l.length = us.size ∧ ∀ (j : Nat) x u, l[j]? = some x → us[j]? = some u → RD A base w x u
/-- A function's contract. -/
def Cal (P : Program) (f : FuncId) (args : List S1) (res : CR) : Prop :=
  ∀ (A : Pr) (w : World) (vs : List Value), (∀ b i, A b i → b < w.heap.size) → D1L (gh A) w args vs →
    Calls P f vs.toArray w fun e w' => ∃ v A', e = .returned v ∧ Ext w w' ∧ (∀ b i, A b i → A' b i) ∧ (∀ b i, A' b i → b < w'.heap.size ∧ (b < w.heap.size → A b i)) ∧ RDs A' w.heap.size w' res v
abbrev Cts := List (FuncId × (List S1 → CR × Prop))
/-- What a call that writes objects gives. -/
structure MRes where
  x : V1
  rb : List Nat
  wb : Bt
abbrev Ctm := List (FuncId × (List S1 → Bt → Nat → MRes × Prop))
def CalM (P : Program) (f : FuncId) (args : List S1) (bx : Bt) (r : MRes) : Prop :=
  ∀ (M : Nat → Prop) (A0 : Pr) (G : Gh) (W : World) (vs : List Value), GOK M A0 G W → D1L G W args vs → (∀ k ∈ r.rb, Hb G W k (gb bx k)) → (∀ p ∈ r.wb, Hb G W p.1 (gb bx p.1)) →
    Calls P f vs.toArray W fun e W' => ∃ v G', e = .returned v ∧ GOK M A0 G' W' ∧ Chg M W W' ∧ Evo (r.wb.map (·.1)) [] G W G' W' ∧ Vd G' W' (some r.x) v ∧ ∀ p ∈ r.wb, Hb G' W' p.1 (some p.2)
structure Cx where
  c : Cts
  m : Ctm := []
  xl : List Nat := []
def SndC (P : Program) (Γ : Cts) : Prop := ∀ p ∈ Γ, ∀ args, (p.2 args).2 → Cal P p.1 args (p.2 args).1
def SndM (P : Program) (Γ : Ctm) : Prop := ∀ p ∈ Γ, ∀ args bx d, (p.2 args bx d).2 → CalM P p.1 args bx (p.2 args bx d).1
structure Snd (P : Program) (Γ : Cx) : Prop where
  c : SndC P Γ.c
  m : SndM P Γ.m
def isFn (P : Program) (f : FuncId) : Bool := match P.funcs[f]? with
  | some fn => !(fn.name == "runtime.NumGoroutine") && !fn.body.isNone
  | none => false
def lfL (l : List (List D)) : Prop := ∀ cs ∈ l, lfs cs = true
/-- A word as others may read it: headers of objects as what they hold. -/
def QP (bx : Bt) : D → D × Prop
  | .lk k n => match gb bx k with
    | some (some o) => (.sl (o.l.take n), n ≤ o.l.length ∧ lfL (o.l.take n))
    | _ => (.nl, False)
  | .nl => (.sl [], True)
  | .fb _ _ => (.nl, False)
  | d => (d, True)
/-- No header of an object, no nil. -/
def lf0 : D → Bool
  | .lk _ _ => false
  | .fb _ _ => false
  | .nl => false
  | _ => true
def lf0s : List D → Bool
  | [] => true
  | d :: l => lf0 d && lf0s l
theorem lf0s_lfs : ∀ {l : List D}, lf0s l = true → lfs l = true
  | [], _ => rfl
  | d :: l, h => by
    have h := (Bool.and_eq_true _ _).mp h
    refine (Bool.and_eq_true _ _).mpr ⟨?_, lf0s_lfs h.2⟩
    cases d <;> first | rfl | exact h.1
def QR (bx : Bt) : List D → List D × Prop
  | [] => ([], True)
  | d :: l => ((QP bx d).1 :: (QR bx l).1, (QP bx d).2 ∧ (QR bx l).2)
def Q2 : D → List Nat
  | .lk k _ => [k]
  | _ => []
def Q3 : List D → List Nat
  | [] => []
  | d :: l => Q2 d ++ Q3 l
def QS (bx : Bt) (k i j : Nat) (q : Option Nat) : List D × Prop := match gb bx k with
  | some (some o) => ((QR bx (((o.l[i]?).getD []).drop j)).1, (QR bx (((o.l[i]?).getD []).drop j)).2 ∧ i < o.l.length ∧ pOk q o)
  | _ => ([], False)
def Q4 (bx : Bt) (k i j : Nat) : List Nat := k :: (match gb bx k with
  | some (some o) => Q3 (((o.l[i]?).getD []).drop j)
  | _ => [])
def QT (bx : Bt) : Cp → Cp × Prop
  | .c d => (.c (QP bx d).1, (QP bx d).2)
  | .box k j => (.ptr (QS bx k 0 j none).1, (QS bx k 0 j none).2)
  | .ptr cs => (.ptr cs, True)
def Q5 (bx : Bt) : Cp → List Nat
  | .c d => Q2 d
  | .box k j => Q4 bx k 0 j
  | .ptr _ => []
def QU (bx : Bt) : List Cp → List Cp × Prop
  | [] => ([], True)
  | d :: l => ((QT bx d).1 :: (QU bx l).1, (QT bx d).2 ∧ (QU bx l).2)
def Q6 (bx : Bt) : List Cp → List Nat
  | [] => []
  | d :: l => Q5 bx d ++ Q6 bx l
def dem (bx : Bt) : S1 → S1 × Prop
  | .c d => (.c (QP bx d).1, (QP bx d).2)
  | .agg l => (.agg (QR bx l).1, (QR bx l).2)
  | .own _ _ l => (.c (.sl l), True)
  | .sn _ l => (.c (.sl l), True)
  | .nil => (.c (.sl []), True)
  | .box k j => (.ptr (QS bx k 0 j none).1, (QS bx k 0 j none).2)
  | .xp k K i j => (.ptr (QS bx k i j (some K)).1, (QS bx k i j (some K)).2)
  | .fn f ps => (.fn f (QU bx ps).1, (QU bx ps).2)
  | .ptr cs => (.ptr cs, True)
  | .k v => (.k v, True)
  | .tl .. => (.k undef, False)
def QZ (bx : Bt) : S1 → List Nat
  | .c d => Q2 d
  | .agg l => Q3 l
  | .box k j => Q4 bx k 0 j
  | .xp k _ i j => Q4 bx k i j
  | .fn _ ps => Q6 bx ps
  | _ => []
def Q9 : Cp → Bool
  | .c d => !lf d
  | .box _ _ => true
  | .ptr _ => false
def Q8 : S1 → Bool
  | .c d => !lf d
  | .agg l => !lfs l
  | .box _ _ => true
  | .xp _ _ _ _ => true
  | .tl .. => true
  | .fn _ ps => ps.any Q9
  | _ => false
def Q7 (bx : Bt) : List (S1 × Prop) → List Nat
  | [] => []
  | x :: l => QZ bx x.1 ++ Q7 bx l
def Xc : List (S1 × Prop) → Bool
  | [] => false
  | x :: l => Q8 x.1 || Xc l
def Xg : List D → Bool
  | [] => true
  | d :: l => Xe d && Xg l
def plainL (l : List (List D)) : Prop := ∀ cs ∈ l, Xg cs = true
def Xh : R1 → Prop
  | .c d => Xe d = true
  | .agg l => Xg l = true
  | .own _ _ l => plainL l
  | .mu _ _ l => plainL l
  | .ptr _ => False
  | .k _ => True
def Xj : List R1 → Prop
  | [] => True
  | x :: l => Xh x ∧ Xj l
def cv (ug : Bool) (d : Nat) : R1 → S1
  | .c x => .c x
  | .agg l => .agg l
  | .own _ K l => if ug then .own d K l else .c (.sl l)
  | .mu _ _ l => .c (.lk d l.length)
  | .ptr cs => .ptr cs
  | .k v => .k v
def Xw : R1 → Bool
  | .own _ _ _ => true
  | _ => false
def Xk : List R1 → Prop
  | [] => True
  | .mu _ _ _ :: _ => False
  | _ :: l => Xk l
def cvL (ug : Bool) (d : Nat) : List R1 → List S1
  | [] => []
  | x :: l => cv ug d x :: cvL (ug && !Xw x) d l
def wrL (ug : Bool) (d : Nat) : List R1 → List (Nat × RowI)
  | [] => []
  | .own e K l :: r => if ug then [(d, ⟨e, K, l.length⟩)] else wrL ug d r
  | _ :: r => wrL ug d r
def Xd : List (S1 × Prop) → Prop
  | [] => True
  | x :: l => x.2 ∧ Xd l
def Xy (bx : Bt) : List (S1 × Prop) → Prop
  | [] => True
  | x :: l => (x.2 ∧ (dem bx x.1).2) ∧ Xy bx l
def QV (bx : Bt) : List (S1 × Prop) → List S1
  | [] => []
  | x :: l => (dem bx x.1).1 :: QV bx l
def QF (P : Program) (F : List S1 → CR × Prop) (bx : Bt) (rx : List (Nat × RowI)) (ug g : Bool) (d : Nat) (f : FuncId) (xs : List (S1 × Prop)) : Ev := match (F (QV bx xs)).1 with
  | .one (.mu e K l) => { x := some (.one (.c (.lk d l.length))), ob := isFn P f = true ∧ g = true ∧ Xy bx xs ∧ (F (QV bx xs)).2 ∧ (Xc xs = true → plainL l) ∧ gb bx d = none, rb := Q7 bx xs, wb := [(d, some ⟨e, K, l⟩)] }
  | .one x => { x := some (.one (cv ug d x)), ob := isFn P f = true ∧ Xy bx xs ∧ (F (QV bx xs)).2 ∧ ((wrL ug d [x]).isEmpty = true ∨ gb rx d = none) ∧ (Xc xs = true → Xh x), rb := Q7 bx xs, wr := wrL ug d [x] }
  | .tup l => { x := some (.tup (cvL ug d l)), ob := isFn P f = true ∧ Xy bx xs ∧ (F (QV bx xs)).2 ∧ ((wrL ug d l).isEmpty = true ∨ gb rx d = none) ∧ (Xc xs = true → Xj l) ∧ Xk l, rb := Q7 bx xs, wr := wrL ug d l }
def QE (P : Program) (Γ : Cx) (bx : Bt) (rx : List (Nat × RowI)) (ug g : Bool) (d : Nat) (f : FuncId) (xs : List (S1 × Prop)) : Ev := match gb Γ.m f with
  | some F => { x := some (F (xs.map (·.1)) bx d).1.x, ob := isFn P f = true ∧ g = true ∧ Xd xs ∧ (F (xs.map (·.1)) bx d).2, rb := (F (xs.map (·.1)) bx d).1.rb, wb := (F (xs.map (·.1)) bx d).1.wb }
  | none => match gb Γ.c f with
    | some F => QF P F bx rx ug g d f xs
    | none => bad
section
variable {P : Program} {M : Nat → Prop} {A0 : Pr} {w0 : World} {G : Gh} {a : Act} {W : World} {o : Oper}
theorem gb_mem {α : Type} : ∀ {l : List (Nat × α)} {k : Nat} {x : α}, gb l k = some x → (k, x) ∈ l
  | (k', y) :: l, k, x, h => by
    unfold gb at h
    split at h
    · next hk => subst hk; obtain rfl := Option.some.inj h; exact List.mem_cons_self
    · exact List.mem_cons_of_mem _ (gb_mem h)
  | [], _, _, h => by cases h
/-- Cells that others may read too. -/
def more (A : Pr) (Q : Nat → Prop) : Pr := fun b i => A b i ∨ Q b
theorem demD_ok {bx : Bt} {d : D} {v : Value} {Q : Nat → Prop} (h : DenX G W d v) (hb : ∀ k ∈ Q2 d, Hb G W k (gb bx k)) (hQ : ∀ k ∈ Q2 d, ∀ u b, G.β k = some u → blk u = some b → Q b) (ho : (QP bx d).2) : Den (more G.A Q) W (QP bx d).1 v := by
  cases d with
  | lk k n =>
    unfold QP at ho ⊢
    dsimp only at ho ⊢
    have hk := hb k (by simp [Q2])
    cases hg : gb bx k with
    | none => rw [hg] at ho; exact ho.elim
    | some o =>
      cases o with
      | none => rw [hg] at ho; exact ho.elim
      | some o =>
        rw [hg] at ho hk
        dsimp only at ho ⊢
        obtain ⟨hn, hlf⟩ := ho
        obtain ⟨u, us, h1, h2, h3, h4, h5⟩ := hk
        obtain ⟨a, N, c, g1, g2, g3, g4, rfl⟩ := h
        obtain rfl := Option.some.inj (h1.symm.trans g1)
        have h3 : W.ownsRow 0 o.e o.K (.slice a N c) o.l.length us := h3
        obtain ⟨a', c', e, -, -⟩ := own_form h3
        obtain ⟨-, hN, -⟩ := Value.slice.inj e
        subst hN
        have hcut := own_cut h3 hn
        have hlen : (o.l.take n).length = n := by rw [List.length_take]; omega
        have h5' : ∀ cs ∈ o.l, cs.length = o.K := by
          rcases h5 with ⟨b, e⟩ | h5
          · cases e
          · exact h5
        have hK' : ∀ cs ∈ o.l.take n, cs.length = o.K := fun cs hc => h5' cs (List.mem_of_mem_take hc)
        have hfl : (o.l.take n).flatten = o.l.flatten.take (n * o.K) := by
          have h6 : o.l.flatten = (o.l.take n).flatten ++ (o.l.drop n).flatten := by rw [← List.flatten_append, List.take_append_drop]
          rw [h6, List.take_left' (by rw [flatten_length hK', hlen])]
        have hlfs : lfs (o.l.take n).flatten = true := by
          have : ∀ l : List (List D), lfL l → lfs l.flatten = true := fun l => by
            induction l with
            | nil => intro _; rfl
            | cons x l ih => intro h; rw [List.flatten_cons]; exact lfs_app (h x List.mem_cons_self) (ih fun c hc => h c (List.mem_cons_of_mem _ hc))
          exact this _ hlf
        have hd : DenL (more G.A Q) W (o.l.take n).flatten (us.take (n * o.K)) := by
          have h7 := AL.take h4 (n * o.K)
          rw [← hfl] at h7
          exact DenL.mono (DenXL.den h7 hlfs) (fun b i h => .inl h) (Kp.refl _ _)
        have := den_of_cells (A := more G.A Q) (a := a) (c := c) hK' (by rw [hlen]; omega) hd (fun hne => by
          rcases g4 with g4 | ⟨b, rfl⟩
          · exact absurd (List.eq_nil_of_length_eq_zero (by rw [hlen]; omega)) hne
          · refine ⟨b, 0, rfl, fun i u hu => ⟨.inr (hQ k (by simp [Q2]) _ b h1 rfl), ?_⟩⟩
            have := World.ownsRow.cells hcut (g := b) rfl i u hu
            rwa [addr_add'] at this)
        rwa [hlen] at this
  | nl => obtain rfl := D1_nl (G := G) (W := W) h; exact .nil _ _
  | fb f ks => exact ho.elim
  | _ => exact Den.mono (A := G.A) h (fun b i h => .inl h) (Kp.refl _ _)
theorem demDs_ok {bx : Bt} {Q : Nat → Prop} : ∀ {ds : List D} {us : List Value}, DenXL G W ds us → (∀ k ∈ Q3 ds, Hb G W k (gb bx k)) → (∀ k ∈ Q3 ds, ∀ u b, G.β k = some u → blk u = some b → Q b) → (QR bx ds).2 → DenL (more G.A Q) W (QR bx ds).1 us
  | [], us, h, _, _, _ => by
    obtain rfl := List.eq_nil_of_length_eq_zero h.1.symm
    exact AL.nil
  | d :: ds, us, h, hb, hQ, ho => by
    obtain ⟨u, us', rfl, h1, h2⟩ := AL.cons_inv h
    have g1 := demD_ok (bx := bx) h1 (fun k hk => hb k (List.mem_append_left _ hk)) (fun k hk => hQ k (List.mem_append_left _ hk)) ho.1
    have g2 := demDs_ok h2 (fun k hk => hb k (List.mem_append_right _ hk)) (fun k hk => hQ k (List.mem_append_right _ hk)) ho.2
    exact (AL.single g1).append g2
theorem demDs_lf {bx : Bt} : ∀ {ds : List D}, lf0s ds = true → QR bx ds = (ds, True)
  | [], _ => rfl
  | d :: ds, h => by
    have h := (Bool.and_eq_true _ _).mp h
    have : QP bx d = (d, True) := by
      cases d with
      | lk k n => cases h.1
      | nl => cases h.1
      | fb f ks => cases h.1
      | _ => rfl
    simp [QR, demDs_lf (ds := ds) h.2, this]
theorem demD_ns {bx : Bt} {d : D} {v : Value} (h : DenX G W d v) (hl : lf d = true) : Den G.A W (QP bx d).1 v := by
  cases d with
  | lk k n => cases hl
  | fb f ks => cases hl
  | nl => obtain rfl := D1_nl (G := G) (W := W) h; exact .nil _ _
  | _ => exact h
theorem demDs_ns {bx : Bt} : ∀ {ds : List D} {us : List Value}, DenXL G W ds us → lfs ds = true → DenL G.A W (QR bx ds).1 us
  | [], us, h, _ => by
    obtain rfl := List.eq_nil_of_length_eq_zero h.1.symm
    exact AL.nil
  | d :: ds, us, h, hl => by
    obtain ⟨u, us', rfl, h1, h2⟩ := AL.cons_inv h
    have hl := (Bool.and_eq_true _ _).mp hl
    exact (AL.single (demD_ns (bx := bx) h1 hl.1)).append (demDs_ns h2 hl.2)
theorem demB_ok {bx : Bt} {x : S1} {v : Value} {k i j : Nat} {q : Option Nat} {Q : Nat → Prop} (h : D1 G W x v) (hp : asP x = some (k, i, j, q)) (hb : ∀ k' ∈ Q4 bx k i j, Hb G W k' (gb bx k')) (hQ : ∀ k' ∈ Q4 bx k i j, ∀ u b, G.β k' = some u → blk u = some b → Q b) (ho : (QS bx k i j q).2) :
    ∃ b o, v = .pointer (some ⟨b, o, none⟩) ∧ At (more G.A Q) W b o (QS bx k i j q).1 := by
  unfold QS at ho ⊢
  unfold Q4 at hb hQ
  have hk := hb k List.mem_cons_self
  cases hg : gb bx k with
  | none => rw [hg] at ho; exact ho.elim
  | some o =>
    cases o with
    | none => rw [hg] at ho; exact ho.elim
    | some o =>
      rw [hg] at ho hk hb hQ
      dsimp only at ho hb hQ ⊢
      obtain ⟨h1, hi, hq⟩ := ho
      have hcs : o.l[i]? = some o.l[i] := List.getElem?_eq_getElem hi
      obtain ⟨u, us, b, K, g1, g2, g3, g4, g5, he, g6, -⟩ := place_ok h hp hk hq hcs
      have hseg := flatten_seg g6 hcs
      have hd : DenXL G W (((o.l[i]?).getD []).drop j) (((us.drop (i * K)).take K).drop j) := by
        rw [hcs]
        have := AL.drop (AL.take (AL.drop g4 (i * K)) K) j
        rw [hseg] at this
        exact this
      have hd2 := demDs_ok (bx := bx) (Q := Q) hd (fun k' hk' => hb k' (List.mem_cons_of_mem _ hk')) (fun k' hk' => hQ k' (List.mem_cons_of_mem _ hk')) h1
      refine ⟨b, _, he, fun j' d hd' => ?_⟩
      obtain ⟨w, hw, hdw⟩ := AL.get hd2 hd'
      have hw' := hw
      rw [List.getElem?_drop, List.getElem?_take] at hw
      split at hw
      · rw [List.getElem?_drop] at hw
        refine ⟨.inr (hQ k List.mem_cons_self u b g1 g5), w, ?_, hdw⟩
        rw [Nat.add_assoc]
        exact g3.cell g5 hw
      · cases hw
theorem demC_ok {bx : Bt} {x : Cp} {v : Value} {Q : Nat → Prop} (h : DenC G W x v) (hb : ∀ k ∈ Q5 bx x, Hb G W k (gb bx k)) (hQ : ∀ k ∈ Q5 bx x, ∀ u b, G.β k = some u → blk u = some b → Q b) (ho : (QT bx x).2) : DenC (gh (more G.A Q)) W (QT bx x).1 v := by
  cases x with
  | c d => exact DenX.of (demD_ok h hb hQ ho)
  | box k j => exact demB_ok (x := .box k j) (k := k) (i := 0) (j := j) (q := none) h rfl hb hQ ho
  | ptr cs => obtain ⟨b, o, h1, h2⟩ := h; exact ⟨b, o, h1, h2.mono (fun b i h => .inl h) (Kp.refl _ _)⟩
theorem demCs_ok {bx : Bt} {Q : Nat → Prop} : ∀ {ps : List Cp} {us : List Value}, DenCL G W ps us → (∀ k ∈ Q6 bx ps, Hb G W k (gb bx k)) → (∀ k ∈ Q6 bx ps, ∀ u b, G.β k = some u → blk u = some b → Q b) → (QU bx ps).2 → DenCL (gh (more G.A Q)) W (QU bx ps).1 us
  | [], us, h, _, _, _ => by
    obtain rfl := List.eq_nil_of_length_eq_zero h.1.symm
    exact ⟨rfl, fun j x u h => by simp [QU] at h⟩
  | x :: ps, us, h, hb, hQ, ho => by
    cases us with
    | nil => have := h.1; simp at this
    | cons u us =>
      have g1 := demC_ok (bx := bx) (h.2 0 x u rfl rfl) (fun k hk => hb k (List.mem_append_left _ hk)) (fun k hk => hQ k (List.mem_append_left _ hk)) ho.1
      have g2 := demCs_ok (us := us) (ps := ps) ⟨by simpa using h.1, fun j y w h1 h2 => h.2 (j + 1) y w (by simpa using h1) (by simpa using h2)⟩ (fun k hk => hb k (List.mem_append_right _ hk)) (fun k hk => hQ k (List.mem_append_right _ hk)) ho.2
      refine ⟨by simp [QU, g2.1], fun j y w h1 h2 => ?_⟩
      cases j with
      | zero =>
        obtain rfl : (QT bx x).1 = y := by simpa [QU] using h1
        obtain rfl : u = w := by simpa using h2
        exact g1
      | succ j => exact g2.2 j y w (by simpa [QU] using h1) (by simpa using h2)
theorem dem_ok {bx : Bt} {x : S1} {v : Value} {Q : Nat → Prop} (h : D1 G W x v) (hb : ∀ k ∈ QZ bx x, Hb G W k (gb bx k)) (hQ : ∀ k ∈ QZ bx x, ∀ u b, G.β k = some u → blk u = some b → Q b) (ho : (dem bx x).2) : D1 (gh (more G.A Q)) W (dem bx x).1 v := by
  cases x with
  | c d =>
    cases d with
    | nl => exact DenX.of (G := gh (more G.A Q)) (demD_ok (d := .nl) h hb hQ ho)
    | lk k n => exact DenX.of (G := gh (more G.A Q)) (demD_ok (d := .lk k n) h hb hQ ho)
    | int k n => exact DenX.of (G := gh (more G.A Q)) (demD_ok (d := .int k n) h hb hQ ho)
    | bool b => exact DenX.of (G := gh (more G.A Q)) (demD_ok (d := .bool b) h hb hQ ho)
    | sl l => exact DenX.of (G := gh (more G.A Q)) (demD_ok (d := .sl l) h hb hQ ho)
    | fb f ks => exact ho.elim
    | fz => exact DenX.of (G := gh (more G.A Q)) (demD_ok (d := .fz) h hb hQ ho)
  | agg l => obtain ⟨us, rfl, h⟩ := h; exact ⟨us, rfl, DenXL.of (demDs_ok h hb hQ ho)⟩
  | own t K l => exact Den.mono h.1 (fun b i h => .inl h) (Kp.refl _ _)
  | sn b l => exact Den.mono h.1 (fun b i h => .inl h) (Kp.refl _ _)
  | nil => obtain rfl := h; exact Den.nil _ _
  | box k j => exact demB_ok (x := .box k j) (k := k) (i := 0) (j := j) (q := none) h rfl hb hQ ho
  | xp k K i j => exact demB_ok (x := .xp k K i j) (k := k) (i := i) (j := j) (q := some K) h rfl hb hQ ho
  | fn f ps => obtain ⟨us, h1, h2⟩ := h; exact ⟨us, h1, demCs_ok h2 hb hQ ho⟩
  | ptr cs => obtain ⟨b, o, h1, h2⟩ := h; exact ⟨b, o, h1, h2.mono (fun b i h => .inl h) (Kp.refl _ _)⟩
  | k x => exact h
  | tl => exact ho.elim
/-- Nothing is shared: nothing more is read. -/
theorem dem_ns {bx : Bt} {x : S1} {v : Value} (h : D1 G W x v) (hn : Q8 x = false) : D1 (gh G.A) W (dem bx x).1 v := by
  have hD : ∀ d u, lf d = true → DenX G W d u → DenX (gh G.A) W (QP bx d).1 u := fun d u hl h => DenX.of (G := gh G.A) (demD_ns (G := G) h hl)
  cases x with
  | c d =>
    exact hD d v (by simpa [Q8] using hn) h
  | agg l =>
    obtain ⟨us, rfl, h⟩ := h
    have hl : lfs l = true := by simpa [Q8] using hn
    exact ⟨us, rfl, DenXL.of (G := gh G.A) (demDs_ns (G := G) h hl)⟩
  | own t K l => exact h.1
  | sn b l => exact h.1
  | nil => obtain rfl := h; exact Den.nil _ _
  | box k j => cases hn
  | xp k K i j => cases hn
  | tl => cases hn
  | fn f ps =>
    obtain ⟨us, h1, h2⟩ := h
    have hn' : ps.any Q9 = false := hn
    refine ⟨us, h1, ?_⟩
    clear h1 hn
    obtain ⟨us⟩ := us
    revert h2
    revert us hn'
    induction ps with
    | nil => intro _ us h; exact ⟨by simpa [QU] using h.1, fun j x u h1 h2 => by simp [QU] at h1⟩
    | cons x ps ih =>
      intro hn us h
      rw [List.any_cons, Bool.or_eq_false_iff] at hn
      cases us with
      | nil => have := h.1; simp at this
      | cons u us =>
        have h0 := h.2 0 x u rfl rfl
        have g2 := ih hn.2 us ⟨by simpa using h.1, fun j y w h1 h2 => h.2 (j + 1) y w (by simpa using h1) (by simpa using h2)⟩
        refine ⟨by have := g2.1; simpa [QU] using this, fun j y w h1 h2 => ?_⟩
        cases j with
        | zero =>
          obtain rfl : (QT bx x).1 = y := by simpa [QU] using h1
          obtain rfl : u = w := by simpa using h2
          cases x with
          | c d => exact hD d _ (by simpa [Q9] using hn.1) h0
          | box k j => cases hn.1
          | ptr cs => exact h0
        | succ j => exact g2.2 j y w (by simpa [QU] using h1) (by simpa using h2)
  | ptr cs => exact h
  | k x => exact h
/-- What an operation does: calls too. -/
def DoesW (P : Program) (M : Nat → Prop) (A0 : Pr) (w0 : World) (G : Gh) (a : Act) (W : World) (o : Oper) (e : Ev) : Prop :=
  ∀ (K : Act → World → Prop) (Q : Exit → Act → World → Prop), (∀ v W' G', GOK M A0 G' W' → Chg M w0 W' → Evo (e.wb.map (·.1)) (e.wr.map (·.1)) G W G' W' → Vd G' W' e.x v → (∀ p ∈ e.wb, Hb G' W' p.1 (some p.2)) → (∀ p ∈ e.wr, Hr G' W' p.1 (some p.2)) → K (a.put o.dst v) W') → o.wp P a W K Q
theorem Does.w {e : Ev} (h : Does P M A0 w0 G a W o e) : DoesW P M A0 w0 G a W o e := by
  intro K Q k
  obtain ⟨v, W', G', n, hr, hn, h1, h2, h3, h4, h5, h6⟩ := h
  unfold Oper.wp
  rw [hr]
  have := k v W' G' h1 h2 h3 h4 h5 h6
  rcases hn with rfl | ⟨rfl, rfl⟩ <;> exact this
/-- Results, as the caller has them. -/
theorem cvL_plain {A : Pr} {b : Nat} {G' : Gh} {W' : World} (hA : G'.A = A) {d : Nat} {x : R1} {v : Value} (hm : ∀ e K l, x ≠ .mu e K l) (h : RD A b W' x v) : D1 G' W' (cv false d x) v := by
  subst hA
  cases x with
  | c x => exact DenX.of h
  | agg l => obtain ⟨us, h1, h2⟩ := h; exact ⟨us, h1, DenXL.of h2⟩
  | own e K l => exact h.1
  | mu e K l => exact absurd rfl (hm e K l)
  | ptr cs => exact h
  | k x => exact h
theorem noMut_get : ∀ {l : List R1} {j : Nat} {x : R1}, Xk l → l[j]? = some x → ∀ e K m, x ≠ .mu e K m
  | [], _, _, _, h, _, _, _ => by simp at h
  | y :: l, 0, x, hn, h, e, K, m => by
    obtain rfl : y = x := by simpa using h
    intro e'
    rw [e'] at hn
    exact hn
  | y :: l, j + 1, x, hn, h, e, K, m => by
    refine noMut_get (l := l) ?_ (by simpa using h) e K m
    cases y <;> first | exact hn | exact hn.elim
theorem cvL_len {ug : Bool} {d : Nat} : ∀ {l : List R1}, (cvL ug d l).length = l.length
  | [] => rfl
  | x :: l => by simp [cvL, cvL_len (l := l)]
theorem cvL_false {d : Nat} : ∀ {l : List R1} {j : Nat} {y : S1}, (cvL false d l)[j]? = some y → ∃ x, l[j]? = some x ∧ y = cv false d x
  | [], j, y, h => by simp [cvL] at h
  | x :: l, 0, y, h => ⟨x, rfl, by simpa [cvL] using h.symm⟩
  | x :: l, j + 1, y, h => by
    simp only [cvL, Bool.false_and, List.getElem?_cons_succ] at h
    obtain ⟨x', h1, h2⟩ := cvL_false h
    exact ⟨x', by simpa using h1, h2⟩
/-- The one that may grow, if there is one. -/
theorem own_split {ug : Bool} {d : Nat} : ∀ (l : List R1), ((wrL ug d l) = [] ∧ ∀ (j : Nat) y, (cvL ug d l)[j]? = some y → ∃ x, l[j]? = some x ∧ y = cv false d x) ∨
    (∃ (i : Nat) (e : TypeId) (K : Nat) (ls : List (List D)), l[i]? = some (.own e K ls) ∧ wrL ug d l = [(d, ⟨e, K, ls.length⟩)] ∧ ∀ (j : Nat) y, (cvL ug d l)[j]? = some y → (j = i ∧ y = .own d K ls) ∨ ∃ x, l[j]? = some x ∧ y = cv false d x)
  | [] => .inl ⟨rfl, fun j y h => by simp [cvL] at h⟩
  | x :: l => by
    cases ug with
    | false =>
      refine .inl ⟨?_, fun j y h => cvL_false h⟩
      have : ∀ l : List R1, wrL false d l = [] := fun l => by
        induction l with
        | nil => rfl
        | cons x l ih => cases x <;> simp [wrL, ih]
      exact this _
    | true =>
      cases x with
      | own e K ls =>
        refine .inr ⟨0, e, K, ls, rfl, by simp [wrL], fun j y h => ?_⟩
        cases j with
        | zero => exact .inl ⟨rfl, by simpa [cvL, cv] using h.symm⟩
        | succ j =>
          simp only [cvL, Xw, Bool.not_true, Bool.and_false, List.getElem?_cons_succ] at h
          obtain ⟨x', h1, h2⟩ := cvL_false h
          exact .inr ⟨x', by simpa using h1, h2⟩
      | c z =>
        rcases own_split (ug := true) (d := d) l with ⟨h1, h2⟩ | ⟨i, e, K, ls, h1, h2, h3⟩
        · refine .inl ⟨by simpa [wrL] using h1, fun j y h => ?_⟩
          cases j with
          | zero => exact ⟨.c z, rfl, by simpa [cvL, cv] using h.symm⟩
          | succ j =>
            obtain ⟨x', g1, g2⟩ := h2 j y (by simpa [cvL, Xw] using h)
            exact ⟨x', by simpa using g1, g2⟩
        · refine .inr ⟨i + 1, e, K, ls, by simpa using h1, by simpa [wrL] using h2, fun j y h => ?_⟩
          cases j with
          | zero => exact .inr ⟨.c z, rfl, by simpa [cvL, cv] using h.symm⟩
          | succ j =>
            rcases h3 j y (by simpa [cvL, Xw] using h) with ⟨rfl, g⟩ | ⟨x', g1, g2⟩
            · exact .inl ⟨rfl, g⟩
            · exact .inr ⟨x', by simpa using g1, g2⟩
      | agg z =>
        rcases own_split (ug := true) (d := d) l with ⟨h1, h2⟩ | ⟨i, e, K, ls, h1, h2, h3⟩
        · refine .inl ⟨by simpa [wrL] using h1, fun j y h => ?_⟩
          cases j with
          | zero => exact ⟨.agg z, rfl, by simpa [cvL, cv] using h.symm⟩
          | succ j =>
            obtain ⟨x', g1, g2⟩ := h2 j y (by simpa [cvL, Xw] using h)
            exact ⟨x', by simpa using g1, g2⟩
        · refine .inr ⟨i + 1, e, K, ls, by simpa using h1, by simpa [wrL] using h2, fun j y h => ?_⟩
          cases j with
          | zero => exact .inr ⟨.agg z, rfl, by simpa [cvL, cv] using h.symm⟩
          | succ j =>
            rcases h3 j y (by simpa [cvL, Xw] using h) with ⟨rfl, g⟩ | ⟨x', g1, g2⟩
            · exact .inl ⟨rfl, g⟩
            · exact .inr ⟨x', by simpa using g1, g2⟩
      | ptr z =>
        rcases own_split (ug := true) (d := d) l with ⟨h1, h2⟩ | ⟨i, e, K, ls, h1, h2, h3⟩
        · refine .inl ⟨by simpa [wrL] using h1, fun j y h => ?_⟩
          cases j with
          | zero => exact ⟨.ptr z, rfl, by simpa [cvL, cv] using h.symm⟩
          | succ j =>
            obtain ⟨x', g1, g2⟩ := h2 j y (by simpa [cvL, Xw] using h)
            exact ⟨x', by simpa using g1, g2⟩
        · refine .inr ⟨i + 1, e, K, ls, by simpa using h1, by simpa [wrL] using h2, fun j y h => ?_⟩
          cases j with
          | zero => exact .inr ⟨.ptr z, rfl, by simpa [cvL, cv] using h.symm⟩
          | succ j =>
            rcases h3 j y (by simpa [cvL, Xw] using h) with ⟨rfl, g⟩ | ⟨x', g1, g2⟩
            · exact .inl ⟨rfl, g⟩
            · exact .inr ⟨x', by simpa using g1, g2⟩
      | k z =>
        rcases own_split (ug := true) (d := d) l with ⟨h1, h2⟩ | ⟨i, e, K, ls, h1, h2, h3⟩
        · refine .inl ⟨by simpa [wrL] using h1, fun j y h => ?_⟩
          cases j with
          | zero => exact ⟨.k z, rfl, by simpa [cvL, cv] using h.symm⟩
          | succ j =>
            obtain ⟨x', g1, g2⟩ := h2 j y (by simpa [cvL, Xw] using h)
            exact ⟨x', by simpa using g1, g2⟩
        · refine .inr ⟨i + 1, e, K, ls, by simpa using h1, by simpa [wrL] using h2, fun j y h => ?_⟩
          cases j with
          | zero => exact .inr ⟨.k z, rfl, by simpa [cvL, cv] using h.symm⟩
          | succ j =>
            rcases h3 j y (by simpa [cvL, Xw] using h) with ⟨rfl, g⟩ | ⟨x', g1, g2⟩
            · exact .inl ⟨rfl, g⟩
            · exact .inr ⟨x', by simpa using g1, g2⟩
      | mu z1 z2 z3 =>
        rcases own_split (ug := true) (d := d) l with ⟨h1, h2⟩ | ⟨i, e, K, ls, h1, h2, h3⟩
        · refine .inl ⟨by simpa [wrL] using h1, fun j y h => ?_⟩
          cases j with
          | zero => exact ⟨.mu z1 z2 z3, rfl, by simpa [cvL, cv] using h.symm⟩
          | succ j =>
            obtain ⟨x', g1, g2⟩ := h2 j y (by simpa [cvL, Xw] using h)
            exact ⟨x', by simpa using g1, g2⟩
        · refine .inr ⟨i + 1, e, K, ls, by simpa using h1, by simpa [wrL] using h2, fun j y h => ?_⟩
          cases j with
          | zero => exact .inr ⟨.mu z1 z2 z3, rfl, by simpa [cvL, cv] using h.symm⟩
          | succ j =>
            rcases h3 j y (by simpa [cvL, Xw] using h) with ⟨rfl, g⟩ | ⟨x', g1, g2⟩
            · exact .inl ⟨rfl, g⟩
            · exact .inr ⟨x', by simpa using g1, g2⟩
/-- Behind a call: what is known of memory. -/
theorem call_ghost (hG : GOK M A0 G W) {W' : World} {A' : Pr} (hx : Ext W W') (h1 : ∀ b i, G.A b i → A' b i) (h2 : ∀ b i, A' b i → b < W'.heap.size ∧ (b < W.heap.size → G.A b i)) :
    GOK M A0 { G with A := A' } W' ∧ Evo [] [] G W { G with A := A' } W' := by
  have hG' := hG.ext hx
  have hE := Evo.ext hG hx
  refine ⟨⟨hG'.fr, fun b i h => ⟨(h2 b i h).1, fun hb => ?_⟩, fun k u b hk hu => ⟨(hG'.box k u b hk hu).1, fun hnd => ⟨((hG'.box k u b hk hu).2 hnd).1, fun i h => ?_⟩⟩, hG'.boxI, fun t u K g k1 k2 => ⟨(hG'.row t u K g k1 k2).1, (hG'.row t u K g k1 k2).2.1, (hG'.row t u K g k1 k2).2.2.1, fun i h => ?_⟩, hG'.rowI⟩, ⟨hE.keep, h1, hE.β, hE.β0, hE.dd, hE.box, hE.ρ, hE.ρ0, hE.row⟩⟩
  · by_cases hlt : b < W.heap.size
    · exact (hG.lt b i ((h2 b i h).2 hlt)).2 hb
    · exact absurd (hG.fr b (by omega)) hb
  · exact ((hG.box k u b hk hu).2 hnd).2 i ((h2 b i h).2 (hG.box k u b hk hu).1)
  · exact (hG.row t u K g k1 k2).2.2.2 i ((h2 g i h).2 (hG.row t u K g k1 k2).2.1)
theorem call_own (hG : GOK M A0 G W) {W' : World} {A' : Pr} (hx : Ext W W') (h1 : ∀ b i, G.A b i → A' b i) (h2 : ∀ b i, A' b i → b < W'.heap.size ∧ (b < W.heap.size → G.A b i)) {d : Nat} (hρ : G.ρ d = none) {e : TypeId} {K : Nat} {l : List (List D)} {v : Value} (h : RD A' W.heap.size W' (.own e K l) v) :
    GOK M A0 { A := A', β := G.β, dead := G.dead, ρ := fun t => if t = d then some (v, K) else G.ρ t } W' ∧ Evo [] [d] G W { A := A', β := G.β, dead := G.dead, ρ := fun t => if t = d then some (v, K) else G.ρ t } W' ∧ Hr { A := A', β := G.β, dead := G.dead, ρ := fun t => if t = d then some (v, K) else G.ρ t } W' d (some ⟨e, K, l.length⟩) ∧ D1 { A := A', β := G.β, dead := G.dead, ρ := fun t => if t = d then some (v, K) else G.ρ t } W' (.own d K l) v := by
  obtain ⟨k1, k2⟩ := call_ghost hG hx h1 h2
  obtain ⟨g1, g2, ⟨cs, g3⟩, g4⟩ := h
  obtain ⟨ad, c, hv⟩ := den_len g1
  have hsl : slen v = l.length := by rw [hv]; rfl
  obtain ⟨m1, m2⟩ := tag_row k1 (d := d) hρ (own_zero g3) hsl (fun g hgg => by
    have := (g3.lt g hgg).1
    refine ⟨hG.fr g this, fun k v hk _ hv => ?_, fun t u' K' h h' => ?_, g4 g hgg⟩
    · have := (hG.box k v g hk hv).1; omega
    · have := (hG.row t u' K' g h h').2.1; omega)
  exact ⟨m1, evo_tag k2 hρ _, m2, g1, g2, v, by simp, Nat.le_refl _, fun _ => rfl⟩
/-- What was only lent is not kept. -/
def lentA (A A' : Pr) (n : Nat) : Pr := fun b i => A b i ∨ (A' b i ∧ n ≤ b)
theorem den_plain {A A' : Pr} {d : D} {v : Value} {W : World} (h : Den A W d v) (hp : Xe d = true) : Den A' W d v := by
  cases h with
  | int k n => exact .int k n
  | bool b => exact .bool b
  | _ => cases hp
theorem plains_get : ∀ {l : List D} {j : Nat} {d : D}, Xg l = true → l[j]? = some d → Xe d = true
  | [], _, _, _, h => by simp at h
  | x :: l, 0, d, hl, h => by
    obtain rfl : x = d := by simpa using h
    exact ((Bool.and_eq_true _ _).mp hl).1
  | x :: l, j + 1, d, hl, h => plains_get ((Bool.and_eq_true _ _).mp hl).2 (by simpa using h)
theorem denL_plain {A A' : Pr} {ds : List D} {us : List Value} {W : World} (h : DenL A W ds us) (hp : Xg ds = true) : DenL A' W ds us := ⟨h.1, fun j d u h1 h2 => den_plain (h.2 j d u h1 h2) (plains_get hp h1)⟩
theorem plains_flat : ∀ {l : List (List D)}, plainL l → Xg l.flatten = true
  | [], _ => rfl
  | x :: l, h => by
    have : ∀ (a b : List D), Xg a = true → Xg b = true → Xg (a ++ b) = true := fun a b => by
      induction a with
      | nil => intro _ h; exact h
      | cons d a ih => intro h h'; rw [List.cons_append]; have h := (Bool.and_eq_true _ _).mp h; exact (Bool.and_eq_true _ _).mpr ⟨h.1, ih h.2 h'⟩
    rw [List.flatten_cons]
    exact this _ _ (h x List.mem_cons_self) (plains_flat fun c hc => h c (List.mem_cons_of_mem _ hc))
theorem rd_lent {A A' : Pr} {n : Nat} {x : R1} {v : Value} {W : World} (hA : ∀ b i, A b i → b < n) (h : RD A' n W x v) (hp : Xh x) : RD (lentA A A' n) n W x v := by
  cases x with
  | c d => exact den_plain h hp
  | agg l => obtain ⟨us, h1, h2⟩ := h; exact ⟨us, h1, denL_plain h2 hp⟩
  | own e K l =>
    obtain ⟨h1, h2, ⟨cs, h3⟩, h4⟩ := h
    have hge : ∀ g, v.ownBlock = some g → n ≤ g := fun g hg => (h3.lt g hg).1
    refine ⟨?_, h2, ⟨cs, h3⟩, fun g hg i hi => ?_⟩
    · obtain ⟨a, c, us, hv, hrd, hdl, hcap, hA2⟩ := cells_of_den h1 h2
      subst hv
      refine den_of_cells h2 hcap (denL_plain hdl (plains_flat hp)) (fun hne => ?_)
      obtain ⟨b, off, rfl, hc⟩ := hrd.cells (by cases l with | nil => exact absurd rfl hne | cons x l => simp)
      refine ⟨b, off, rfl, fun i u hu => ⟨.inr ⟨hA2 b off i rfl ?_, hge b rfl⟩, hc i u hu⟩⟩
      rw [← hrd.len]
      exact (List.getElem?_eq_some_iff.1 hu).1
    · rcases hi with hi | ⟨hi, -⟩
      · have := hA g i hi; have := hge g hg; omega
      · exact h4 g hg i hi
  | mu e K l =>
    obtain ⟨h1, ⟨us, h2, h3⟩, h4⟩ := h
    refine ⟨h1, ⟨us, h2, denL_plain h3 (plains_flat hp)⟩, fun g hg i hi => ?_⟩
    rcases hi with hi | ⟨hi, -⟩
    · have := hA g i hi; have := (h2.lt g hg).1; omega
    · exact h4 g hg i hi
  | ptr cs => exact hp.elim
  | k x => exact h
variable {bx : Bt} {rx : List (Nat × RowI)} {g : Bool} (hg : g = true) (hG : GOK M A0 G W) (hx : Chg M w0 W)
include hg hG hx
omit hg hx in
theorem args_ok {Q : Nat → Prop} : ∀ {xs : List (S1 × Prop)} {vs : List Value}, D1L G W (xs.map (·.1)) vs → Xy bx xs → (∀ k ∈ Q7 bx xs, Hb G W k (gb bx k)) → (∀ b, b < W.heap.size → Q b) → D1L (gh (more G.A Q)) W (QV bx xs) vs
  | [], vs, h, _, _, _ => by
    obtain rfl := List.eq_nil_of_length_eq_zero h.1.symm
    exact ⟨rfl, fun j x u h => by simp [QV] at h⟩
  | x :: xs, vs, h, ho, hb, hQ => by
    cases vs with
    | nil => have := h.1; simp at this
    | cons v vs =>
      have g1 := dem_ok (bx := bx) (Q := Q) (h.2 0 x.1 v rfl rfl) (fun k hk => hb k (List.mem_append_left _ hk)) (fun k _ u b hu hb => hQ b (hG.box k u b hu hb).1) ho.1.2
      have g2 := args_ok (xs := xs) (vs := vs) ⟨by simpa using h.1, fun j y w h1 h2 => h.2 (j + 1) y w (by simpa using h1) (by simpa using h2)⟩ ho.2 (fun k hk => hb k (List.mem_append_right _ hk)) hQ
      refine ⟨by simp [QV, g2.1], fun j y w h1 h2 => ?_⟩
      cases j with
      | zero =>
        obtain rfl : (dem bx x.1).1 = y := by simpa [QV] using h1
        obtain rfl : v = w := by simpa using h2
        exact g1
      | succ j => exact g2.2 j y w (by simpa [QV] using h1) (by simpa using h2)
omit hg hG hx in
theorem args_ns : ∀ {xs : List (S1 × Prop)} {vs : List Value}, D1L G W (xs.map (·.1)) vs → Xc xs = false → D1L (gh G.A) W (QV bx xs) vs
  | [], vs, h, _ => by
    obtain rfl := List.eq_nil_of_length_eq_zero h.1.symm
    exact ⟨rfl, fun j x u h => by simp [QV] at h⟩
  | x :: xs, vs, h, hn => by
    cases vs with
    | nil => have := h.1; simp at this
    | cons v vs =>
      have hn := (Bool.or_eq_false_iff).mp hn
      have g1 := dem_ns (bx := bx) (h.2 0 x.1 v rfl rfl) hn.1
      have g2 := args_ns (xs := xs) (vs := vs) ⟨by simpa using h.1, fun j y w h1 h2 => h.2 (j + 1) y w (by simpa using h1) (by simpa using h2)⟩ hn.2
      refine ⟨by simp [QV, g2.1], fun j y w h1 h2 => ?_⟩
      cases j with
      | zero =>
        obtain rfl : (dem bx x.1).1 = y := by simpa [QV] using h1
        obtain rfl : v = w := by simpa using h2
        exact g1
      | succ j => exact g2.2 j y w (by simpa [QV] using h1) (by simpa using h2)
/-- How a call runs. -/
def Enters (P : Program) (a : Act) (W : World) (o : Oper) (f : FuncId) (vs : List Value) : Prop := (execOp a.eval o).run P W = .ok (.enter f vs.toArray) W
omit hg in
theorem ok_call {Γ : Cx} (hΓ : Snd P Γ) {f : FuncId} {xs : List (S1 × Prop)} {vs : List Value} {d : Nat} {ug : Bool} (hrun : isFn P f = true → Xd xs → Enters P a W o f vs ∧ D1L G W (xs.map (·.1)) vs) (hrb : ∀ k ∈ (QE P Γ bx rx ug g d f xs).rb, Hb G W k (gb bx k)) (hwb : ∀ p ∈ (QE P Γ bx rx ug g d f xs).wb, Hb G W p.1 (gb bx p.1)) (hr : ∀ p ∈ (QE P Γ bx rx ug g d f xs).wr, Hr G W p.1 (gb rx p.1)) (hob : (QE P Γ bx rx ug g d f xs).ob) : DoesW P M A0 w0 G a W o (QE P Γ bx rx ug g d f xs) := by
  have obD : ∀ {xs : List (S1 × Prop)}, Xy bx xs → Xd xs := fun {xs} => by
    induction xs with
    | nil => intro _; trivial
    | cons x xs ih => intro h; exact ⟨h.1.1, ih h.2⟩
  have fin : ∀ (F : List S1 → CR × Prop) (e : Ev) (r : CR), gb Γ.c f = some F → isFn P f = true → Xy bx xs → (∀ k ∈ Q7 bx xs, Hb G W k (gb bx k)) → (F (QV bx xs)).2 → (F (QV bx xs)).1 = r → (Xc xs = true → match r with
        | .one x => Xh x
        | .tup l => Xj l) →
      (∀ v W' A', Ext W W' → (∀ b i, G.A b i → A' b i) → (∀ b i, A' b i → b < W'.heap.size ∧ (b < W.heap.size → G.A b i)) → RDs A' W.heap.size W' r v → ∃ G', GOK M A0 G' W' ∧ Evo (e.wb.map (·.1)) (e.wr.map (·.1)) G W G' W' ∧ Vd G' W' e.x v ∧ (∀ p ∈ e.wb, Hb G' W' p.1 (some p.2)) ∧ ∀ p ∈ e.wr, Hr G' W' p.1 (some p.2)) → DoesW P M A0 w0 G a W o e := by
    intro F e r hF hfn hao href hpre hres hpl hk K Q k
    obtain ⟨hent, hargs⟩ := hrun hfn (obD hao)
    have hcal := hΓ.c _ (gb_mem hF) _ hpre
    dsimp only at hcal
    rw [hres] at hcal
    unfold Oper.wp
    rw [show (execOp a.eval o).run P W = _ from hent, Oper.upon_enter]
    have go : ∀ (A2 : Pr), (∀ b i, A2 b i → b < W.heap.size) → D1L (gh A2) W (QV bx xs) vs → (∀ v W' A', Ext W W' → (∀ b i, A2 b i → A' b i) → (∀ b i, A' b i → b < W'.heap.size ∧ (b < W.heap.size → A2 b i)) → RDs A' W.heap.size W' r v → ∃ A3, (∀ b i, G.A b i → A3 b i) ∧ (∀ b i, A3 b i → b < W'.heap.size ∧ (b < W.heap.size → G.A b i)) ∧ RDs A3 W.heap.size W' r v) → Calls P f vs.toArray W _ := fun A2 hA2 hd2 hto => (hcal A2 W vs hA2 hd2).mono (R' := fun e' w' => match e' with
        | .returned v => K (a.put o.dst v) w'
        | _ => False) (fun e' w' he => by
      obtain ⟨v, A', rfl, hxe, k1, k2, k3⟩ := he
      obtain ⟨A3, j1, j2, j3⟩ := hto v w' A' hxe k1 k2 k3
      obtain ⟨G', m1, m2, m3, m4, m5⟩ := hk v w' A3 hxe j1 j2 j3
      exact k v w' G' m1 (hx.on hxe) m2 m3 m4 m5)
    have goal : Calls P f vs.toArray W (fun e' w' => match e' with
        | .returned v => K (a.put o.dst v) w'
        | _ => False) := by
      cases hsh : Xc xs
      · exact go G.A (fun b i h => (hG.lt b i h).1) (args_ns hargs hsh) (fun v W' A' _ k1 k2 k3 => ⟨A', k1, k2, k3⟩)
      · refine go (more G.A (fun b => b < W.heap.size)) (fun b i h => by rcases h with h | h; exact (hG.lt b i h).1; exact h) (args_ok hG hargs hao href (fun b h => h)) (fun v W' A' hxe k1 k2 k3 => ?_)
        have hlow : ∀ b i, G.A b i → b < W.heap.size := fun b i h => (hG.lt b i h).1
        refine ⟨lentA G.A A' W.heap.size, fun b i h => .inl h, fun b i h => ?_, ?_⟩
        · rcases h with h | ⟨h, h'⟩
          · exact ⟨Nat.lt_of_lt_of_le (hlow b i h) hxe.below.size, fun _ => h⟩
          · exact ⟨(k2 b i h).1, fun hb => by omega⟩
        · have hp := hpl hsh
          cases r with
          | one x => exact rd_lent hlow k3 hp
          | tup l =>
            obtain ⟨us, h1, h2, h3⟩ := k3
            refine ⟨us, h1, h2, fun j x u hj hu => rd_lent hlow (h3 j x u hj hu) ?_⟩
            have : ∀ {l : List R1} {j : Nat} {x : R1}, Xj l → l[j]? = some x → Xh x := fun {l} => by
              induction l with
              | nil => intro j x _ h; simp at h
              | cons y l ih =>
                intro j x hp h
                cases j with
                | zero => obtain rfl : y = x := by simpa using h
                          exact hp.1
                | succ j => exact ih hp.2 (by simpa using h)
            exact this hp hj
    exact goal.mono fun e' w' he => by
      cases e' with
      | returned v => exact he
      | _ => exact he.elim
  unfold QE at hob hr hrb hwb ⊢
  split at hob
  · next F hF =>
    simp only [hF] at hrb hwb hr
    obtain ⟨hfn, -, had, hpre⟩ := hob
    obtain ⟨hent, hargs⟩ := hrun hfn had
    intro K Q k
    unfold Oper.wp
    rw [show (execOp a.eval o).run P W = _ from hent, Oper.upon_enter]
    refine (hΓ.m _ (gb_mem hF) _ _ _ hpre M A0 G W vs hG hargs hrb hwb).mono fun e' w' he => ?_
    obtain ⟨v, G', rfl, m1, m2, m3, m4, m5⟩ := he
    exact k v w' G' m1 (hx.trans m2) m3 m4 m5 nofun
  · next hFm =>
    simp only [hFm] at hrb hwb hr
    split at hob
    · next F hF =>
      simp only [hF] at hr hrb hwb
      unfold QF at hob hr hrb hwb ⊢
      split at hob
      · next e K l hres =>
        simp only [hres] at hr hrb hwb
        obtain ⟨b1, -, b2, b3, b4, b5⟩ := hob
        refine fin F _ (.one (.mu e K l)) hF b1 b2 hrb b3 hres b4 (fun v W' A' hxe k1 k2 k3 => ?_)
        obtain ⟨g1, ⟨us, g2, g3⟩, g4⟩ := k3
        have hβ := hwb _ (List.mem_singleton.2 rfl)
        dsimp only at hβ
        rw [b5] at hβ
        obtain ⟨m1, m2⟩ := call_ghost hG hxe k1 k2
        have hfm := own_form (own_zero g2)
        obtain ⟨ad, c, hv, hc1, hc2⟩ := hfm
        have hvb : v.ownBlock = blk v := by subst hv; cases ad <;> rfl
        have hnew : ∀ b, blk v = some b → W.heap.size ≤ b ∧ b < W'.heap.size := fun b hb => g2.lt b (hvb.trans hb)
        -- the new object in W', whose ghost is the call's
        have hE2 : Evo [d] [] G W (putβ { G with A := A' } d v) W' := by
          refine ⟨m2.keep, m2.sub, fun k u hk => ?_, fun k hk h => ?_, fun k hk => ?_, fun k u b _ => m2.box k u b (by simp), m2.ρ, m2.ρ0, m2.row⟩
          · show (if k = d then _ else _) = _
            rw [if_neg (fun e => by rw [e, hβ] at hk; cases hk)]
            exact hk
          · show (if k = d then _ else _) = _
            rw [if_neg (by simpa using hk)]
            exact h
          · have : k ≠ d := by simpa using hk
            exact ⟨fun h => h.2, fun h => ⟨this, h⟩⟩
        refine ⟨putβ { G with A := A' } d v, ⟨fun b hb => m1.fr b hb, m1.lt, ?_, ?_, ?_, m1.rowI⟩, hE2, ⟨ad, l.length, c, by show (if d = d then _ else _) = _; rw [if_pos rfl, hv], Nat.le_refl _, hc1, hc2, hv⟩, fun p hp => ?_, nofun⟩
        · intro k u b hk hb
          change (if k = d then _ else _) = _ at hk
          split at hk
          · obtain rfl := Option.some.inj hk
            exact ⟨(hnew b hb).2, fun _ => ⟨hG.fr b (hnew b hb).1, g4 b (hvb.trans hb)⟩⟩
          · next hkd =>
            obtain ⟨h1, h2⟩ := m1.box k u b hk hb
            exact ⟨h1, fun hdd => h2 (fun h => hdd ⟨hkd, h⟩)⟩
        · intro k k' u u' b hk hk' hb hb' hdk hdk'
          change (if k = d then _ else _) = _ at hk
          change (if k' = d then _ else _) = _ at hk'
          split at hk <;> split at hk'
          · omega
          · obtain rfl := Option.some.inj hk
            have h1 := (hG.box k' u' b hk' hb').1
            have := (hnew b hb).1
            omega
          · obtain rfl := Option.some.inj hk'
            have h1 := (hG.box k u b hk hb).1
            have := (hnew b hb').1
            omega
          · next h1 h2 => exact hG.boxI k k' u u' b hk hk' hb hb' (fun h => hdk ⟨h1, h⟩) (fun h => hdk' ⟨h2, h⟩)
        · intro t u K' g' h1 h2
          obtain ⟨f1, f2, f3, f4⟩ := m1.row t u K' g' h1 h2
          refine ⟨f1, f2, fun k z hk hnd hz => ?_, f4⟩
          change (if k = d then _ else _) = _ at hk
          split at hk
          · obtain rfl := Option.some.inj hk
            have h3 := (hG.row t u K' g' h1 h2).2.1
            have := (hnew g' hz).1
            omega
          · next hkd => exact f3 k z hk (fun h => hnd ⟨hkd, h⟩) hz
        · obtain rfl := List.mem_singleton.1 hp
          refine ⟨v, us, by show (if d = d then _ else _) = _; rw [if_pos rfl], fun h => h.1 rfl, ?_, DenXL.of g3, .inr g1⟩
          subst hv
          exact own_zero g2
      · next x hnm hres =>
        simp only [hres] at hr hrb hwb
        obtain ⟨b1, b2, b3, b4, b5⟩ := hob
        refine fin F _ (.one x) hF b1 b2 hrb b3 hres b5 (fun v W' A' hxe k1 k2 k3 => ?_)
        rcases own_split (ug := ug) (d := d) [x] with ⟨e1, e2⟩ | ⟨i, e, K, ls, e1, e2, e3⟩
        · obtain ⟨m1, m2⟩ := call_ghost hG hxe k1 k2
          obtain ⟨x', e3, e4⟩ := e2 0 (cv ug d x) rfl
          obtain rfl : x = x' := by simpa using e3
          refine ⟨_, m1, ?_, ?_, nofun, ?_⟩
          · dsimp only; rw [e1]; exact m2
          · show D1 _ _ (cv ug d x) v
            rw [e4]
            exact cvL_plain rfl (fun e K l h => hnm e K l h) k3
          · dsimp only; rw [e1]; exact nofun
        · have hi : i = 0 := by
            have := (List.getElem?_eq_some_iff.1 e1).1
            simpa using this
          subst hi
          obtain rfl : x = .own e K ls := by simpa using e1
          have hρ := hr _ (by rw [e2]; exact List.mem_singleton.2 rfl)
          dsimp only at hρ
          rw [b4.resolve_left (by rw [e2]; simp)] at hρ
          obtain ⟨m1, m2, m3, m4⟩ := call_own hG hxe k1 k2 hρ k3
          have hug : ug = true := by
            cases ug
            · simp [wrL] at e2
            · rfl
          subst hug
          refine ⟨_, m1, ?_, m4, nofun, ?_⟩
          · dsimp only; rw [e2]; exact m2
          · dsimp only; rw [e2]; intro p hp; obtain rfl := List.mem_singleton.1 hp; exact m3
      · next l hres =>
        simp only [hres] at hr hrb hwb
        obtain ⟨b1, b2, b3, b4, b5, b6⟩ := hob
        refine fin F _ (.tup l) hF b1 b2 hrb b3 hres b5 (fun v W' A' hxe k1 k2 k3 => ?_)
        obtain ⟨us, rfl, hlen, hel⟩ := k3
        rcases own_split (ug := ug) (d := d) l with ⟨e1, e2⟩ | ⟨i, e, K, ls, e1, e2, e3⟩
        · obtain ⟨m1, m2⟩ := call_ghost hG hxe k1 k2
          refine ⟨_, m1, ?_, ⟨us, rfl, by rw [cvL_len, hlen]; simp, fun j y u h4 h5 => ?_⟩, nofun, ?_⟩
          · dsimp only; rw [e1]; exact m2
          · obtain ⟨x', e3, rfl⟩ := e2 j y h4
            exact cvL_plain rfl (noMut_get b6 e3) (hel j x' u e3 (by simpa using h5))
          · dsimp only; rw [e1]; exact nofun
        · have hρ := hr _ (by rw [e2]; exact List.mem_singleton.2 rfl)
          dsimp only at hρ
          rw [b4.resolve_left (by rw [e2]; simp)] at hρ
          have hlt := (List.getElem?_eq_some_iff.1 e1).1
          have hu : us[i]? = some us[i] := Array.getElem?_eq_getElem (by omega)
          obtain ⟨m1, m2, m3, m4⟩ := call_own hG hxe k1 k2 hρ (hel i _ _ e1 hu)
          refine ⟨_, m1, ?_, ⟨us, rfl, by rw [cvL_len, hlen]; simp, fun j y u h4 h5 => ?_⟩, nofun, ?_⟩
          · dsimp only; rw [e2]; exact m2
          · rcases e3 j y h4 with ⟨rfl, rfl⟩ | ⟨x', e4, rfl⟩
            · have h6 : us[j]? = some u := by simpa using h5
              rw [hu] at h6
              obtain rfl := Option.some.inj h6
              exact m4
            · exact cvL_plain rfl (noMut_get b6 e4) (hel j x' u e4 (by simpa using h5))
          · dsimp only; rw [e2]; intro p hp; obtain rfl := List.mem_singleton.1 hp; exact m3
    · exact hob.elim
end
def Xs : S1 × Prop → Cp × Prop
  | (.c d, p) => (.c d, p)
  | (.box k j, p) => (.box k j, p)
  | (.ptr cs, p) => (.ptr cs, p)
  | (.nil, p) => (.c .nl, p)
  | _ => (.c .nl, False)
def Xt : Cp → S1
  | .c d => .c d
  | .box k j => .box k j
  | .ptr cs => .ptr cs
def Xu : List (Cp × Prop) → Prop
  | [] => True
  | x :: l => x.2 ∧ Xu l
def QI (s : List (Nat × SV)) (g : Bool) : Fn → List Operand → List Operand → Ev
  | .func f, [], cs => { x := some (.one (.fn f ((cs.map fun c => Xs (opd s g c)).map (·.1)))), ob := Xu (cs.map fun c => Xs (opd s g c)) }
  | _, _, _ => bad
def Xr : S1 → Bool
  | .box _ _ => true
  | .xp _ _ _ _ => true
  | .ptr _ => true
  | .fn _ _ => true
  | _ => false
def QJ (s : List (Nat × SV)) (g : Bool) (x : Operand) : Ev := { x := some (.one (opd s g x).1), ob := (opd s g x).2 ∧ Xr (opd s g x).1 = true }
def Qc (P : Program) (Γ : Cx) (σ : St) (ug g : Bool) (d : Nat) : Callee → List Operand → List TypeId → Ev
  | .builtin .append, [x, y], [t, t'] => if t = t' then QD P σ.s σ.b σ.r (Γ.xl.contains d) ug g d t x y else bad
  | .builtin .len, [x], [t] => QB P σ.s g t x
  | .builtin .clear, [x], [t] => QA P σ.s σ.b g t x
  | .builtin .min, [x, y], _ => QC σ.s g false x y
  | .builtin .max, [x, y], _ => QC σ.s g true x y
  | .value (.func f), xs, _ => QE P Γ σ.b σ.r ug g d f (xs.map (opd σ.s g))
  | .value (.tmp t), xs, _ => match opd σ.s g (.tmp t) with
    | (.fn f ps, p) => let e := QE P Γ σ.b σ.r ug g d f (xs.map (opd σ.s g) ++ ps.map fun c => (Xt c, True))
      { x := e.x, ob := p ∧ e.ob, rb := e.rb, wb := e.wb, rr := e.rr, wr := e.wr }
    | (.c (.fb f ks), p) => let e := QE P Γ σ.b σ.r ug g d f (xs.map (opd σ.s g) ++ ks.map fun k => (.box k 0, True))
      { x := e.x, ob := p ∧ e.ob, rb := e.rb, wb := e.wb, rr := e.rr, wr := e.wr }
    | _ => bad
  | _, _, _ => bad
def ev (P : Program) (Γ : Cx) (σ : St) (ug g : Bool) (d : Nat) : Op → Ev
  | .move x => Qd σ.s g x
  | .assign x => Qd σ.s g x
  | .pick c x y => Qe σ.s g c x y
  | .alloc t => Qt P σ.b g d t
  | .box _ x => Qu σ.s σ.b g d x
  | .build t ps => Qw P σ.s g t ps.toList
  | .buildSlice t n ps => Qy P σ.s σ.b σ.r (Γ.xl.contains d) ug g d t n ps.toList
  | .load t x => Qs P σ.s σ.b g t x
  | .store t x y => Qv P σ.s σ.b g t x y
  | .binOp op t x y _ => Qg P σ.s g op t x y
  | .unOp op _ x => Qh σ.s g op x
  | .convert s t x => Qj P σ.s g s t x
  | .slice t x lo hi none => Qz P σ.s g t x lo hi
  | .fieldAddr t x f => Qk P σ.s g t x f
  | .field t x f => Qm P σ.s g t x f
  | .indexAddr t x i => Qo P σ.s g t x i
  | .index t x i => Qp P σ.s g t x i
  | .extract t i => Qr σ.s g t i
  | .call c => Qc P Γ σ ug g d c.callee c.args.toList c.argTypes.toList
  | .makeSlice t x y => if Γ.xl.contains (d + 1000000) then QH P σ.s g t x y else QG P σ.s σ.b g d t x y
  | .makeFunc f first cs => QI σ.s g f first.toList cs.toList
  | .nilCheck x => QJ σ.s g x
  | _ => bad
section
variable {P : Program} {Γ : Cx} {M : Nat → Prop} {A0 : Pr} {w0 : World} {G : Gh} {a : Act} {W : World} {o : Oper} {σ : St} {ug g : Bool} {d : Nat}
theorem toArray_of {α : Type} {xs : Array α} {l : List α} (h : xs.toList = l) : xs = l.toArray := by subst h; simp
theorem ok_fn {f : Fn} {first cs : Array Operand} (hg : g = true) (hG : GOK M A0 G W) (hx : Chg M w0 W) (ho : o.op = .makeFunc f first cs) (h1 : ∀ x ∈ cs.toList, Okd G W σ.s a x) (hob : (QI σ.s g f first.toList cs.toList).ob) : Does P M A0 w0 G a W o (QI σ.s g f first.toList cs.toList) := by
  unfold QI at hob ⊢
  split at hob
  · next cs' f' hf =>
    have h2 : first = #[] := by
      apply Array.toList_inj.1
      exact hf
    subst h2
    refine does_pure hG hx (v := .func (.func f') #[] (cs.map a.eval)) (by simp [execOp, ho, Instr.makeFunc]) ⟨_, rfl, ?_⟩
    rw [Array.toList_map]
    generalize cs.toList = l at h1 hob ⊢
    induction l with
    | nil => exact ⟨rfl, fun j x u h => by simp at h⟩
    | cons c l ih =>
      have g2 := ih (fun x hx => h1 x (List.mem_cons_of_mem _ hx)) hob.2
      refine ⟨by simp, fun j x u k1 k2 => ?_⟩
      cases j with
      | zero =>
        obtain rfl : (Xs (opd σ.s g c)).1 = x := by simpa using k1
        obtain rfl : a.eval c = u := by simpa using k2
        have hob1 : (Xs (opd σ.s g c)).2 := hob.1
        have hd := opd_ok hg (h1 c List.mem_cons_self)
        generalize opd σ.s g c = z at hob1 hd
        obtain ⟨z, p⟩ := z
        cases z with
        | c d => exact hd hob1
        | box k j => exact hd hob1
        | ptr cs => exact hd hob1
        | nil => obtain h3 := hd hob1; show DenX G W .nl _; rw [show a.eval c = .slice none 0 0 from h3]; exact Den.nl
        | _ => exact hob1.elim
      | succ j => exact g2.2 j x u (by simpa using k1) (by simpa using k2)
  · exact hob.elim
theorem ok_nil {x : Operand} (hg : g = true) (hG : GOK M A0 G W) (hx : Chg M w0 W) (ho : o.op = .nilCheck x) (h1 : Okd G W σ.s a x) (hob : (QJ σ.s g x).ob) : Does P M A0 w0 G a W o (QJ σ.s g x) := by
  obtain ⟨hp, hn⟩ := hob
  have hd := opd_ok hg h1 hp
  refine does_pure hG hx (v := a.eval x) ?_ hd
  generalize (opd σ.s g x).1 = z at hn hd
  cases z with
  | box k j => obtain ⟨b, -, h⟩ := hd; simp [execOp, ho, h]
  | xp k K i j => obtain ⟨b, N, c, -, h⟩ := hd; simp [execOp, ho, h]
  | ptr cs => obtain ⟨b, c, h, -⟩ := hd; simp [execOp, ho, h]
  | fn f ps => obtain ⟨us, h, -⟩ := hd; simp [execOp, ho, h]
  | _ => cases hn
theorem d1l_map (hg : g = true) : ∀ {xs : List Operand}, (∀ x ∈ xs, Okd G W σ.s a x) → Xd (xs.map (opd σ.s g)) → D1L G W ((xs.map (opd σ.s g)).map (·.1)) (xs.map a.eval)
  | [], _, _ => ⟨rfl, fun j x u h => by simp at h⟩
  | x :: xs, h, ho => by
    have g2 := d1l_map hg (xs := xs) (fun y hy => h y (List.mem_cons_of_mem _ hy)) ho.2
    refine ⟨by simp, fun j y u h4 h5 => ?_⟩
    cases j with
    | zero =>
      obtain rfl : (opd σ.s g x).1 = y := by simpa using h4
      obtain rfl : a.eval x = u := by simpa using h5
      exact opd_ok hg (h x List.mem_cons_self) ho.1
    | succ j => exact g2.2 j y u (by simpa using h4) (by simpa using h5)
theorem d1l_app {l l' : List S1} {us us' : List Value} (h : D1L G W l us) (h' : D1L G W l' us') : D1L G W (l ++ l') (us ++ us') := by
  refine ⟨by simp [h.1, h'.1], fun j x u h1 h2 => ?_⟩
  have hl := h.1
  by_cases hj : j < l.length
  · rw [List.getElem?_append_left hj] at h1
    rw [List.getElem?_append_left (by omega)] at h2
    exact h.2 j x u h1 h2
  · rw [List.getElem?_append_right (by omega)] at h1
    rw [List.getElem?_append_right (by omega), ← hl] at h2
    exact h'.2 _ x u h1 h2
theorem d1l_cps {ps : List Cp} {us : List Value} (h : DenCL G W ps us) : D1L G W (ps.map Xt) us := ⟨by rw [List.length_map]; exact h.1, fun j x u h1 h2 => by
  rw [List.getElem?_map] at h1
  cases hp : ps[j]? with
  | none => rw [hp] at h1; cases h1
  | some c =>
    rw [hp] at h1
    obtain rfl := Option.some.inj h1
    have := h.2 j c u hp h2
    cases c with
    | c d => exact this
    | box k j => exact this
    | ptr cs => exact this⟩
theorem d1l_fb {ks : List Nat} {us : List Value} (h : FbL G ks us) : D1L G W (ks.map fun k => S1.box k 0) us := ⟨by rw [List.length_map]; exact h.1, fun j x u h1 h2 => by
  rw [List.getElem?_map] at h1
  cases hp : ks[j]? with
  | none => rw [hp] at h1; cases h1
  | some c =>
    rw [hp] at h1
    obtain rfl := Option.some.inj h1
    exact h.2 j c u hp h2⟩
theorem argsD_app : ∀ {l m : List (S1 × Prop)}, Xd (l ++ m) → Xd l
  | [], _, _ => trivial
  | x :: l, m, h => ⟨h.1, argsD_app (l := l) h.2⟩
theorem enters {f : FuncId} {vs : List Value} (hf : isFn P f = true) (h : ∀ fn, P.funcs[f]? = some fn → ¬ fn.name = "runtime.NumGoroutine" → ¬ fn.body = none → (execOp a.eval o).run P W = .ok (.enter f vs.toArray) W) : Enters P a W o f vs := by
  unfold isFn at hf
  cases hf' : P.funcs[f]? with
  | none => rw [hf'] at hf; cases hf
  | some fn =>
    rw [hf'] at hf
    simp only [Bool.and_eq_true, Bool.not_eq_true'] at hf
    exact h fn hf' (by simpa using hf.1) (fun h => by rw [h] at hf; simp at hf)
theorem ok_ev (hΓ : Snd P Γ) (hg : g = true) (hG : GOK M A0 G W) (hx : Chg M w0 W) (h1 : ∀ x ∈ o.op.operands.toList, Okd G W σ.s a x) (hb : ∀ k ∈ (ev P Γ σ ug g d o.op).rb, Hb G W k (gb σ.b k)) (hwb : ∀ p ∈ (ev P Γ σ ug g d o.op).wb, Hb G W p.1 (gb σ.b p.1)) (hwr : ∀ p ∈ (ev P Γ σ ug g d o.op).wr, Hr G W p.1 (gb σ.r p.1)) (hob : (ev P Γ σ ug g d o.op).ob) : DoesW P M A0 w0 G a W o (ev P Γ σ ug g d o.op) := by
  cases ho : o.op with
  | move x => rw [ho] at h1 hob; exact (ok_move hg hG hx (.inl ho) (h1 x (by simp [Op.operands])) hob).w
  | assign x => rw [ho] at h1 hob; exact (ok_move hg hG hx (.inr ho) (h1 x (by simp [Op.operands])) hob).w
  | pick c x y => rw [ho] at h1 hob; exact (ok_pick hg hG hx ho (h1 c (by simp [Op.operands])) (h1 x (by simp [Op.operands])) (h1 y (by simp [Op.operands])) hob).w
  | alloc t => rw [ho] at hwb hob; exact (ok_alloc hG hx ho hwb hob).w
  | box t x => rw [ho] at h1 hwb hob; exact (ok_box hg hG hx ho (h1 x (by simp [Op.operands])) hwb hob).w
  | build t ps => rw [ho] at h1 hob; exact (ok_build hg hG hx ho (fun p hp => h1 p.2 (by simp only [Op.operands, List.mem_map]; exact ⟨p, hp, rfl⟩)) hob).w
  | buildSlice t n ps => rw [ho] at h1 hwb hwr hob; exact (ok_lit hg hG hx ho (fun p hp => h1 p.2 (by simp only [Op.operands, List.mem_map]; exact ⟨p, hp, rfl⟩)) hwb hwr hob).w
  | load t x => rw [ho] at h1 hb hob; exact (ok_load hg hG hx ho (h1 x (by simp [Op.operands])) hb hob).w
  | store t x y => rw [ho] at h1 hwb hob; exact (ok_store hg hG hx ho (h1 x (by simp [Op.operands])) (h1 y (by simp [Op.operands])) hwb hob).w
  | binOp op t x y t' => rw [ho] at h1 hob; exact (ok_bin hg hG hx ho (h1 x (by simp [Op.operands])) (h1 y (by simp [Op.operands])) hob).w
  | unOp op t x => rw [ho] at h1 hob; exact (ok_un hg hG hx ho (h1 x (by simp [Op.operands])) hob).w
  | convert s t x => rw [ho] at h1 hob; exact (ok_conv hg hG hx ho (h1 x (by simp [Op.operands])) hob).w
  | slice t x lo hi mx =>
    cases mx with
    | none => rw [ho] at h1 hob; exact (ok_slice hg hG hx ho (h1 x (by simp [Op.operands])) (fun y hy => h1 y (by subst hy; simp [Op.operands])) (fun y hy => h1 y (by subst hy; simp [Op.operands])) hob).w
    | some m => rw [ho] at hob; exact hob.elim
  | fieldAddr t x f => rw [ho] at h1 hob; exact (ok_fieldAddr hg hG hx ho (h1 x (by simp [Op.operands])) hob).w
  | field t x f => rw [ho] at h1 hob; exact (ok_field hg hG hx ho (h1 x (by simp [Op.operands])) hob).w
  | indexAddr t x i => rw [ho] at h1 hob; exact (ok_indexAddr hg hG hx ho (h1 x (by simp [Op.operands])) (h1 i (by simp [Op.operands])) hob).w
  | index t x i => rw [ho] at h1 hob; exact (ok_index hg hG hx ho (h1 x (by simp [Op.operands])) (h1 i (by simp [Op.operands])) hob).w
  | extract t i => rw [ho] at h1 hob; exact (ok_extract hg hG hx ho (h1 t (by simp [Op.operands])) hob).w
  | makeSlice t x y =>
    rw [ho] at h1 hwb hob
    by_cases hxl : Γ.xl.contains (d + 1000000) = true
    · simp only [ev, hxl, if_true] at hwb hob ⊢
      exact (ok_makeP hg hG hx ho (h1 x (by simp [Op.operands])) (h1 y (by simp [Op.operands])) hob).w
    · simp only [ev, hxl, if_false, Bool.false_eq_true] at hwb hob ⊢
      exact (ok_make hg hG hx ho (h1 x (by simp [Op.operands])) (h1 y (by simp [Op.operands])) hwb hob).w
  | makeFunc f first cs => rw [ho] at h1 hob; exact (ok_fn hg hG hx ho (fun x hx' => h1 x (by simp only [Op.operands]; simp; right; simpa using hx')) hob).w
  | nilCheck x => rw [ho] at h1 hob; exact (ok_nil hg hG hx ho (h1 x (by simp [Op.operands])) hob).w
  | call c =>
    rw [ho] at h1 hb hwb hwr hob
    obtain ⟨callee, xs, ts⟩ := c
    change ∀ k ∈ (Qc P Γ σ ug g d callee xs.toList ts.toList).rb, _ at hb
    change ∀ p ∈ (Qc P Γ σ ug g d callee xs.toList ts.toList).wb, _ at hwb
    change ∀ p ∈ (Qc P Γ σ ug g d callee xs.toList ts.toList).wr, _ at hwr
    change (Qc P Γ σ ug g d callee xs.toList ts.toList).ob at hob
    show DoesW P M A0 w0 G a W o (Qc P Γ σ ug g d callee xs.toList ts.toList)
    unfold Qc at hob hwr hwb hb ⊢
    split at hob
    · next x y t t' hxs hts =>
      simp only [hxs, hts] at hwr hwb hb
      split at hob
      · next htt =>
        subst htt
        simp only [if_true] at hwr hwb hb ⊢
        rw [toArray_of hxs, toArray_of hts] at ho
        rw [toArray_of hxs] at h1
        exact (ok_app hg hG hx ho (h1 x (by simp [Op.operands, Call.operands])) (h1 y (by simp [Op.operands, Call.operands])) hb hwb hwr hob).w
      · exact hob.elim
    · next x t hxs hts =>
      rw [toArray_of hxs, toArray_of hts] at ho
      rw [toArray_of hxs] at h1
      exact (ok_len hg hG hx ho (h1 x (by simp [Op.operands, Call.operands])) hob).w
    · next x t hxs hts =>
      simp only [hxs, hts] at hwb
      rw [toArray_of hxs, toArray_of hts] at ho
      rw [toArray_of hxs] at h1
      exact (ok_clear hg hG hx ho (h1 x (by simp [Op.operands, Call.operands])) hwb hob).w
    · next x y hxs =>
      rw [toArray_of hxs] at ho h1
      exact (ok_mm hg hG hx (mx := false) ho (h1 x (by simp [Op.operands, Call.operands])) (h1 y (by simp [Op.operands, Call.operands])) hob).w
    · next x y hxs =>
      rw [toArray_of hxs] at ho h1
      exact (ok_mm hg hG hx (mx := true) ho (h1 x (by simp [Op.operands, Call.operands])) (h1 y (by simp [Op.operands, Call.operands])) hob).w
    · next f xs' =>
      have hxs : ∀ x ∈ xs.toList, Okd G W σ.s a x := fun x hx' => h1 x (by simp only [Op.operands, Call.operands]; simp; right; simpa using hx')
      refine ok_call (vs := xs.toList.map a.eval) hG hx hΓ (fun hfn had => ⟨enters hfn fun fn hf n1 n2 => ?_, d1l_map hg hxs had⟩) hb hwb hwr hob
      simp [execOp, ho, resolve, Deferred.ofValue, Act.eval, invoke, callFunc, hf, n1, n2]
      apply Array.toList_inj.1
      simp
    · next xs' t =>
      have hxs : ∀ x ∈ xs.toList, Okd G W σ.s a x := fun x hx' => h1 x (by simp only [Op.operands, Call.operands]; simp; right; simpa using hx')
      have ht : Okd G W σ.s a (.tmp t) := h1 _ (by simp [Op.operands, Call.operands])
      split at hob
      · next f ps p hop =>
        simp only [hop] at hwr hwb hb
        obtain ⟨hp, hob⟩ := hob
        have hd := opd_ok hg ht (by rw [hop]; exact hp)
        rw [hop] at hd
        obtain ⟨us, he, hcp⟩ := hd
        have := ok_call (P := P) (A0 := A0) (w0 := w0) (a := a) (o := o) (vs := xs.toList.map a.eval ++ us.toList) hG hx hΓ (fun hfn had => ⟨enters hfn fun fn hf n1 n2 => (by
          simp [execOp, ho, resolve, Deferred.ofValue, he, invoke, callFunc, hf, n1, n2]
          try (apply Array.toList_inj.1; simp)), by
          have e2 : ((ps.map fun c => ((Xt c, True) : S1 × Prop)).map (·.1)) = ps.map Xt := by rw [List.map_map]; rfl
          rw [List.map_append, e2]
          exact d1l_app (d1l_map hg hxs (argsD_app had)) (d1l_cps hcp)⟩) hb hwb hwr hob
        exact this
      · next f ks p hop =>
        simp only [hop] at hwr hwb hb
        obtain ⟨hp, hob⟩ := hob
        have hd := opd_ok hg ht (by rw [hop]; exact hp)
        rw [hop] at hd
        obtain ⟨-, us, he, hcp⟩ := hd
        have := ok_call (P := P) (A0 := A0) (w0 := w0) (a := a) (o := o) (vs := xs.toList.map a.eval ++ us.toList) hG hx hΓ (fun hfn had => ⟨enters hfn fun fn hf n1 n2 => (by
          simp [execOp, ho, resolve, Deferred.ofValue, he, invoke, callFunc, hf, n1, n2]
          try (apply Array.toList_inj.1; simp)), by
          have e2 : ((ks.map fun k => ((.box k 0, True) : S1 × Prop)).map (·.1)) = ks.map fun k => S1.box k 0 := by rw [List.map_map]; rfl
          rw [List.map_append, e2]
          exact d1l_app (d1l_map hg hxs (argsD_app had)) (d1l_fb hcp)⟩) hb hwb hwr hob
        exact this
      · exact hob.elim
    · exact hob.elim
  | _ => rw [ho] at hob; exact hob.elim
/-- The guard's word. -/
def gd (ops : Array Oper) (σ : St) (o : Oper) : Bool × Prop := match o.guard with
  | none => (true, True)
  | some (j, want) => match (ops[j]?).bind (·.dst) with
    | some t => match gs σ.s t with
      | .v g' (.c (.bool b)) => (g' && (if want then b else !b), True)
      | _ => (false, False)
    | none => (false, False)
def sv (g : Bool) : Option V1 → SV
  | some (.one x) => .v g x
  | some (.tup l) => .tup g l
  | none => .top
/-- What is not done writes nothing. -/
def cutE (g : Bool) (e : Ev) : Ev := { e with wb := bif g then e.wb else [], wr := bif g then e.wr else [] }
theorem cutE_t (e : Ev) : cutE true e = e := rfl
theorem cutE_f (e : Ev) : cutE false e = { e with wb := [], wr := [] } := rfl
theorem cutE_0 (g : Bool) (x : Option V1) (ob : Prop) (rb rr : List Nat) : cutE g ⟨x, ob, rb, [], rr, []⟩ = ⟨x, ob, rb, [], rr, []⟩ := by cases g <;> rfl
theorem cutE_of {g : Bool} (h : g = true) (e : Ev) : cutE g e = e := by subst h; rfl
def evO (P : Program) (Γ : Cx) (ops : Array Oper) (σ : St) (o : Oper) : Ev := cutE (gd ops σ o).1 (ev P Γ σ o.guard.isNone (gd ops σ o).1 (o.dst.getD 0) o.op)
def nx (P : Program) (Γ : Cx) (ops : Array Oper) (σ : St) (o : Oper) : St :=
  ⟨match o.dst with
    | some d => (d, sv (gd ops σ o).1 (evO P Γ ops σ o).x) :: σ.s
    | none => σ.s, (evO P Γ ops σ o).wb ++ σ.b, (evO P Γ ops σ o).wr ++ σ.r⟩
def obl (P : Program) (Γ : Cx) (ops : Array Oper) (σ : St) (o : Oper) : Prop :=
  (gd ops σ o).2 ∧ ((gd ops σ o).1 = true → (evO P Γ ops σ o).ob) ∧ (((evO P Γ ops σ o).wb.isEmpty && (evO P Γ ops σ o).wr.isEmpty) = true ∨ (gd ops σ o).1 = true)
def lookO (ops : Array Oper) (o : Oper) : List Nat :=
  (o.op.operands.toList.filterMap fun | .tmp t => some t | _ => none) ++ (match o.guard with
    | some (g, _) => ((ops[g]?).bind (·.dst)).toList
    | none => [])
/-- One operation of a region. -/
theorem step_ok {ops : Array Oper} (hΓ : Snd P Γ) (hG : GOK M A0 G W) (hx : Chg M w0 W) (hs : ∀ t ∈ lookO ops o, Hs G W (gs σ.s t) (V a t)) (hb : ∀ k ∈ (evO P Γ ops σ o).rb, Hb G W k (gb σ.b k)) (hwb : ∀ p ∈ (evO P Γ ops σ o).wb, Hb G W p.1 (gb σ.b p.1)) (hwr : ∀ p ∈ (evO P Γ ops σ o).wr, Hr G W p.1 (gb σ.r p.1)) (hob : obl P Γ ops σ o)
    (K : Act → World → Prop) (Q : Exit → Act → World → Prop)
    (k : ∀ v W' G', GOK M A0 G' W' → Chg M w0 W' → Evo ((evO P Γ ops σ o).wb.map (·.1)) ((evO P Γ ops σ o).wr.map (·.1)) G W G' W' → Hs G' W' (sv (gd ops σ o).1 (evO P Γ ops σ o).x) v → (∀ p ∈ (evO P Γ ops σ o).wb, Hb G' W' p.1 (some p.2)) → (∀ p ∈ (evO P Γ ops σ o).wr, Hr G' W' p.1 (some p.2)) → K (a.put o.dst v) W') :
    if Region.wanted o (yielded ops a.tmps) = true then o.wp P a W K Q else K (a.put o.dst undef) W := by
  obtain ⟨o1, o2, o3⟩ := hob
  have hwant : Region.wanted o (yielded ops a.tmps) = (gd ops σ o).1 := by
    unfold gd at o1 ⊢
    unfold Region.wanted
    cases hgd : o.guard with
    | none => rfl
    | some jw =>
      obtain ⟨j, want⟩ := jw
      rw [hgd] at o1
      dsimp only at o1 ⊢
      cases ht : (ops[j]?).bind (·.dst) with
      | none => rw [ht] at o1; exact o1.elim
      | some t =>
        have h1 := hs t (by unfold lookO; rw [hgd]; simp [ht])
        rw [ht] at o1
        dsimp only at o1 ⊢
        unfold yielded
        rw [ht]
        dsimp only [Option.bind_some]
        cases hsv : gs σ.s t with
        | top => rw [hsv] at o1; exact o1.elim
        | tup g' l => rw [hsv] at o1; exact o1.elim
        | v g' x =>
          rw [hsv] at o1 h1
          cases x with
          | c dd =>
            cases dd with
            | bool b =>
              dsimp only
              cases g' with
              | true =>
                have h2 : V a t = .bool b := D1_bool (h1.1 rfl)
                have h3 : a.tmps[t]? = some (.bool b) := by
                  unfold V at h2
                  cases h4 : a.tmps[t]? with
                  | none => rw [h4] at h2; cases h2
                  | some u => rw [h4] at h2; obtain rfl : u = .bool b := h2; rfl
                rw [h3]
                cases b <;> cases want <;> rfl
              | false =>
                have h2 : V a t = undef := h1.2 rfl
                have h3 : ∀ b, a.tmps[t]? ≠ some (.bool b) := fun b e => by
                  unfold V at h2
                  rw [e] at h2
                  cases h2
                cases h4 : a.tmps[t]? with
                | none => rfl
                | some u =>
                  cases u with
                  | bool b => exact absurd h4 (h3 b)
                  | _ => rfl
            | int | sl | nl | lk | fb | fz => exact o1.elim
          | _ => exact o1.elim
  rw [hwant]
  cases hgv : (gd ops σ o).1 with
  | true =>
    rw [if_pos rfl]
    have hev : evO P Γ ops σ o = ev P Γ σ o.guard.isNone (gd ops σ o).1 (o.dst.getD 0) o.op := cutE_of hgv _
    have hE := ok_ev (P := P) (Γ := Γ) (σ := σ) (ug := o.guard.isNone) (g := (gd ops σ o).1) (d := o.dst.getD 0) (o := o) (a := a) hΓ hgv hG hx (fun x hx' => by
      cases x with
      | tmp t => exact hs t (by unfold lookO; simp only [List.mem_append, List.mem_filterMap]; exact .inl ⟨_, hx', rfl⟩)
      | _ => trivial) (by rw [← hev]; exact hb) (by rw [← hev]; exact hwb) (by rw [← hev]; exact hwr) (by rw [← hev]; exact o2 hgv)
    rw [← hev] at hE
    refine hE K Q (fun v W' G' k1 k2 k3 k4 k5 k6 => k v W' G' k1 k2 k3 ?_ k5 k6)
    change Vd G' W' (evO P Γ ops σ o).x v at k4
    rw [hgv]
    cases hxv : (evO P Γ ops σ o).x with
    | none => trivial
    | some y =>
      rw [hxv] at k4
      cases y with
      | one x => exact ⟨fun _ => k4, fun h => by cases h⟩
      | tup l => exact ⟨fun _ => k4, fun h => by cases h⟩
  | false =>
    rw [if_neg (by decide)]
    have h3 := o3.resolve_right (by rw [hgv]; decide)
    simp only [Bool.and_eq_true, List.isEmpty_iff] at h3
    refine k undef W G hG hx ?_ ?_ ?_ ?_
    · rw [h3.1, h3.2]; exact Evo.refl _ _
    · rw [hgv]
      cases hxv : (evO P Γ ops σ o).x with
      | none => trivial
      | some y => cases y <;> exact ⟨fun h => (by cases h), fun _ => rfl⟩
    · rw [h3.1]; exact nofun
    · rw [h3.2]; exact nofun
/-- What stays: what is deferred; the headers of protected objects (tags from 4000 on). -/
structure Fx where
  df : List Deferred
  β0 : Nat → Option Value
/-- All that is known. -/
structure RR (M : Nat → Prop) (A0 : Pr) (w0 : World) (N : Nat) (fx : Fx) (G : Gh) (σ : St) (a : Act) (W : World) : Prop where
  ok : GOK M A0 G W
  ext : Chg M w0 W
  size : a.tmps.size = N
  df : a.defers = fx.df
  s : ∀ t, Hs G W (gs σ.s t) (V a t)
  b : ∀ k, Hb G W k (gb σ.b k)
  r : ∀ t, Hr G W t (gb σ.r t)
  p : ∀ k u, fx.β0 k = some u → (4000 ≤ k ∧ k < 5000) ∧ G.β k = some u
theorem gb_app {α : Type} : ∀ (l m : List (Nat × α)) (k : Nat), gb (l ++ m) k = match gb l k with
    | some x => some x
    | none => gb m k
  | [], m, k => rfl
  | (k', x) :: l, m, k => by
    simp only [List.cons_append, gb]
    split
    · rfl
    · exact gb_app l m k
theorem gb_none {α : Type} : ∀ {l : List (Nat × α)} {k : Nat}, k ∉ l.map (·.1) → gb l k = none
  | [], _, _ => rfl
  | (k', x) :: l, k, h => by
    simp only [List.map_cons, List.mem_cons, not_or] at h
    unfold gb
    rw [if_neg (fun e => h.1 e.symm)]
    exact gb_none h.2
theorem gb_some {α : Type} : ∀ {l : List (Nat × α)} {k : Nat}, k ∈ l.map (·.1) → ∃ x, gb l k = some x ∧ (k, x) ∈ l
  | (k', x) :: l, k, h => by
    unfold gb
    by_cases hk : k' = k
    · subst hk
      rw [if_pos rfl]
      exact ⟨x, rfl, List.mem_cons_self⟩
    · rw [if_neg hk]
      have : k ∈ l.map (·.1) := by
        rcases List.mem_cons.1 h with h | h
        · exact absurd h.symm hk
        · exact h
      obtain ⟨y, h1, h2⟩ := gb_some this
      exact ⟨y, h1, List.mem_cons_of_mem _ h2⟩
/-- A region in the text's order. -/
def wpR (P : Program) (Γ : Cx) (ops : Array Oper) : List Oper → St → (St → Prop) → Prop
  | [], σ, K => K σ
  | o :: rest, σ, K => obl P Γ ops σ o ∧ wpR P Γ ops rest (nx P Γ ops σ o) K
theorem seq_ok {ops : Array Oper} {Q : Exit → Act → World → Prop} {N : Nat} {df : Fx} {K : St → Prop} (hΓ : Snd P Γ) (hfit : fits ops N = true) (hK : ∀ σ G a W, K σ → RR M A0 w0 N df G σ a W → Q .normal a W) :
    ∀ (rest : List Oper) (σ : St) (G : Gh) (a : Act) (W : World), (∀ o ∈ rest, o ∈ ops.toList) → wpR P Γ ops rest σ K → RR M A0 w0 N df G σ a W → wpList P ops Q rest a W
  | [], σ, G, a, W, _, h, hR => hK σ G a W h hR
  | o :: rest, σ, G, a, W, hm, h, hR => by
    obtain ⟨hob, hrest⟩ := h
    have hdl : ∀ d, o.dst = some d → d < a.tmps.size := fun d hd => by
      unfold fits at hfit
      rw [List.all_eq_true] at hfit
      have := hfit o (hm o List.mem_cons_self)
      rw [hd] at this
      rw [hR.size]
      simpa using this
    have hst := step_ok (o := o) (a := a) (σ := σ) (ops := ops) hΓ hR.ok hR.ext (fun t _ => hR.s t) (fun k _ => hR.b k) (fun p _ => hR.b p.1) (fun p _ => hR.r p.1) hob (wpList P ops Q rest) Q (fun v W' G' k1 k2 k3 k4 k5 k6 => by
      refine seq_ok hΓ hfit hK rest _ G' _ W' (fun o' ho' => hm o' (List.mem_cons_of_mem _ ho')) hrest ⟨k1, k2, ?_, ?_, fun t => ?_, fun k => ?_, fun t => ?_, fun k u h => ⟨(hR.p k u h).1, k3.β _ _ (hR.p k u h).2⟩⟩
      · rw [← hR.size]; cases o.dst <;> simp [Act.put]
      · rw [← hR.df]; cases o.dst <;> rfl
      · unfold nx
        dsimp only
        cases hd : o.dst with
        | none => exact (hR.s t).evo k3
        | some d =>
          dsimp only
          rw [V_put (hdl d hd)]
          unfold gs
          by_cases htd : d = t
          · subst htd
            rw [if_pos rfl, if_pos rfl]
            exact k4
          · rw [if_neg htd, if_neg (fun e => htd e.symm)]
            exact (hR.s t).evo k3
      · unfold nx
        dsimp only
        rw [gb_app]
        by_cases hk : k ∈ (evO P Γ ops σ o).wb.map (·.1)
        · obtain ⟨x, h1, h2⟩ := gb_some hk
          rw [h1]
          exact k5 _ h2
        · rw [gb_none hk]
          exact (hR.b k).evo k3 hk
      · unfold nx
        dsimp only
        rw [gb_app]
        by_cases hk : t ∈ (evO P Γ ops σ o).wr.map (·.1)
        · obtain ⟨x, h1, h2⟩ := gb_some hk
          rw [h1]
          exact k6 _ h2
        · rw [gb_none hk]
          exact (hR.r t).evo k3 hk)
    unfold wpList
    split
    · next hwd => rw [if_pos hwd] at hst; exact .inl hst
    · next hwd => rw [if_neg hwd] at hst; exact hst
end
end Go.Proofs.Ytkmgdejpdhlleaa.Dq
