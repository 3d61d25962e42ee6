/- Deep values: parts of slices, append, len, min, max, make. No program in sight. -/
import Derived.Test.YtmngjifcgfnogaaDq5
namespace Go.Proofs.Ytmngjifcgfnogaa.Dq
set_option linter.unusedSimpArgs false
set_option linter.unusedVariables false
set_option maxRecDepth 100000
open Go.RowKit

section
variable {P : Program} {M : Nat → Prop} {A0 : Pr} {w0 : World} {G : Gh} {a : Act} {W : World} {o : Oper}
variable {s : List (Nat × SV)} {bx : Bt} {rx : List (Nat × RowI)} {g : Bool} (hg : g = true) (hG : GOK M A0 G W) (hx : Chg M w0 W)
def capOk (n : Nat) : Prop := n ≤ maxLen
theorem capOk_of {n : Nat} (h : n ≤ 1000000000000) : capOk n := Nat.le_trans h (by decide)
def allK (K : Nat) (l : List (List D)) : Prop := ∀ cs ∈ l, cs.length = K
theorem allK_nil {K : Nat} : allK K [] = True := eq_true (by unfold allK; simp)
theorem allK_cons {K : Nat} {x : List D} {l : List (List D)} : allK K (x :: l) = (x.length = K ∧ allK K l) := by unfold allK; simp
def bnd (s : List (Nat × SV)) (g : Bool) (x : Option Operand) (n : Int) : Int × Prop := match x with
  | none => (n, True)
  | some x => match opd s g x with
    | (.c (.int _ m), p) => (m, p)
    | _ => (0, False)
def evSlice (P : Program) (s : List (Nat × SV)) (g : Bool) (t : TypeId) (x : Operand) (lo hi : Option Operand) : Ev := match isSl P t, asSl (opd s g x).1 with
  | some e, some l => { x := some (.one (.c (.sl ((l.take (bnd s g hi l.length).1.toNat).drop (bnd s g lo 0).1.toNat)))), ob := (opd s g x).2 ∧ (bnd s g lo 0).2 ∧ (bnd s g hi l.length).2 ∧ 0 ≤ (bnd s g lo 0).1 ∧ (bnd s g lo 0).1 ≤ (bnd s g hi l.length).1 ∧ (bnd s g hi l.length).1 ≤ l.length ∧ 0 < sz P e ∧ allK (sz P e) l }
  | some e, none => match (opd s g x).1 with
    | .c (.lk k n) => { x := some (.one (.c (.lk k (bnd s g hi n).1.toNat))), ob := (opd s g x).2 ∧ (bnd s g lo 0).2 ∧ (bnd s g hi n).2 ∧ (bnd s g lo 0).1 = 0 ∧ 0 ≤ (bnd s g hi n).1 ∧ (bnd s g hi n).1 ≤ n ∧ 0 < sz P e }
    | _ => bad
  | _, _ => bad
theorem bnd_ok (hg : g = true) {x : Option Operand} {n : Int} (h : ∀ y, x = some y → Okd G W s a y) (hp : (bnd s g x n).2) : (x = none ∧ (bnd s g x n).1 = n) ∨ ∃ y k, x = some y ∧ a.eval y = .int k (bnd s g x n).1 := by
  cases x with
  | none => exact .inl ⟨rfl, rfl⟩
  | some y =>
    have d1 := opd_ok hg (h y rfl)
    refine .inr ⟨y, ?_⟩
    unfold bnd at hp ⊢
    dsimp only at hp ⊢
    split at hp
    · next k m p e1 =>
      rw [e1] at d1
      exact ⟨k, rfl, D1_int (d1 hp)⟩
    · exact hp.elim
theorem run_bound {v : Value} {k : IntKind} {n : Int} {y : Nat} {code : BoundsCode} (hv : v = .int k n) (h0 : 0 ≤ n) (h1 : n ≤ y) : (Instr.sliceBound v y code).run P W = .ok n.toNat W := by
  subst hv
  have : 0 ≤ n ∧ n ≤ (y : Int) := ⟨h0, h1⟩
  simp [Instr.sliceBound, asIntOf, this.1, this.2]
include hg hG hx
theorem ok_slice {t : TypeId} {x : Operand} {lo hi : Option Operand} (ho : o.op = .slice t x lo hi none) (h1 : Okd G W s a x) (h2 : ∀ y, lo = some y → Okd G W s a y) (h3 : ∀ y, hi = some y → Okd G W s a y) (hob : (evSlice P s g t x lo hi).ob) : Does P M A0 w0 G a W o (evSlice P s g t x lo hi) := by
  have d1 := opd_ok hg h1
  unfold evSlice at hob ⊢
  split at hob
  · next e l hsl hl =>
    obtain ⟨hp, hq1, hq2, b1, b2, b3, hs, hK⟩ := hob
    have hd := asSl_ok (d1 hp) hl
    obtain ⟨ad, c, us, he, hrd, hdl, hcap, hA⟩ := cells_of_den hd hK
    have o1 := bnd_ok hg h2 hq1
    have o2 := bnd_ok hg h3 hq2
    generalize (bnd s g lo 0).1 = L at *
    generalize (bnd s g hi l.length).1 = H at *
    have rl : ∀ (y : Nat), H ≤ y → (Instr.sliceBounds true l.length c (lo.map a.eval) (hi.map a.eval) none).run P W = .ok (L.toNat, H.toNat, c) W := by
      intro y hy
      rcases o2 with ⟨rfl, rfl⟩ | ⟨y2, k2, rfl, f2⟩
      · rcases o1 with ⟨rfl, rfl⟩ | ⟨y1, k1, rfl, f1⟩
        · simp [Instr.sliceBounds]
        · simp [Instr.sliceBounds, run_bound (P := P) (W := W) (y := l.length) (code := .sliceB) f1 b1 b2]
      · rcases o1 with ⟨rfl, rfl⟩ | ⟨y1, k1, rfl, f1⟩
        · simp [Instr.sliceBounds, run_bound (P := P) (W := W) (y := c) (code := .sliceAcap) f2 (by omega) (by omega)]
        · simp [Instr.sliceBounds, run_bound (P := P) (W := W) (y := c) (code := .sliceAcap) f2 (by omega) (by omega), run_bound (P := P) (W := W) (y := H.toNat) (code := .sliceB) f1 b1 (by omega)]
    have hrun : (execOp a.eval o).run P W = .ok (.value (.slice (if c = L.toNat then ad else ad.map (·.add (L.toNat * sz P e))) (H.toNat - L.toNat) (c - L.toNat))) W := by
      simp [execOp, ho, he, Instr.sliceAt, Instr.slice, run_underlying (isSl_spec hsl), rl H.toNat (by omega), run_sz hs]
    have hlen : ((l.take H.toNat).drop L.toNat).length = H.toNat - L.toNat := by
      rw [List.length_drop, List.length_take]
      omega
    refine does_pure hG hx hrun ?_
    show Den G.A W _ _
    have hK' : ∀ cs ∈ (l.take H.toNat).drop L.toNat, cs.length = sz P e := fun cs hc => hK cs (List.mem_of_mem_take (List.mem_of_mem_drop hc))
    rw [← hlen]
    by_cases h0 : (l.take H.toNat).drop L.toNat = []
    · rw [h0]
      exact .nil _ _
    · have hLH : L.toNat < H.toNat := by
        apply Classical.byContradiction
        intro hn
        exact h0 (List.eq_nil_of_length_eq_zero (by omega))
      obtain ⟨b, off, rfl, hc⟩ := hrd.cells (by omega)
      rw [if_neg (by omega)]
      have hat : ∀ i cs, l[i]? = some cs → At G.A W b (off + i * sz P e) cs := fun i cs hi => by
        obtain ⟨b', off', c', K', he', hK2, hat⟩ := den_at hd hi
        rw [he] at he'
        obtain ⟨hb, -, -⟩ := Value.slice.inj he'
        obtain ⟨rfl, rfl⟩ : b = b' ∧ off = off' := by simpa using hb
        have : K' = sz P e := by rw [← hK _ (List.mem_of_getElem? hi), hK2 _ (List.mem_of_getElem? hi)]
        rw [← this]
        exact hat
      obtain ⟨y0, hy0⟩ : ∃ y, ((l.take H.toNat).drop L.toNat) = y := ⟨_, rfl⟩
      have hget : ∀ (i : Nat) cs, ((l.take H.toNat).drop L.toNat)[i]? = some cs → l[L.toNat + i]? = some cs := fun i cs h => by
        rw [List.getElem?_drop, List.getElem?_take] at h
        split at h
        · exact h
        · cases h
      simp only [Option.map_some, addr_add']
      refine .sl _ (sz P e) b (off + L.toNat * sz P e) (c - L.toNat) (fun i j => (W.cell? ⟨b, off + L.toNat * sz P e + i * sz P e + j, none⟩).getD undef) h0 (by omega) hK' (fun i j hi hj => ?_) (fun i cs j d h h' => ?_)
      · obtain ⟨cs, hcs⟩ : ∃ cs, ((l.take H.toNat).drop L.toNat)[i]? = some cs := ⟨_, List.getElem?_eq_getElem hi⟩
        have h4 := hat _ cs (hget i cs hcs)
        have hlc := hK' cs (List.mem_of_getElem? hcs)
        obtain ⟨h5, u, h6, -⟩ := h4 j _ (List.getElem?_eq_getElem (by omega))
        rw [Nat.add_mul, ← Nat.add_assoc] at h5 h6
        exact ⟨h5, by rw [h6]; rfl⟩
      · obtain ⟨-, u, h6, h7⟩ := hat _ cs (hget i cs h) j d h'
        rw [Nat.add_mul, ← Nat.add_assoc] at h6
        rw [h6]
        exact h7
  · next e hsl hl =>
    split at hob
    · next k n hlk =>
      obtain ⟨hp, hq1, hq2, b1, b2, b3, hs⟩ := hob
      have d2 := d1 hp
      rw [hlk] at d2
      obtain ⟨ad, N, c, g1, g2, g3, g4, he⟩ := d2
      have o1 := bnd_ok hg h2 hq1
      have o2 := bnd_ok hg h3 hq2
      generalize (bnd s g lo 0).1 = L at *
      generalize (bnd s g hi n).1 = H at *
      subst b1
      have rl : (Instr.sliceBounds true n c (lo.map a.eval) (hi.map a.eval) none).run P W = .ok (0, H.toNat, c) W := by
        rcases o2 with ⟨rfl, rfl⟩ | ⟨y2, k2, rfl, f2⟩
        · rcases o1 with ⟨rfl, -⟩ | ⟨y1, k1, rfl, f1⟩
          · simp [Instr.sliceBounds]
          · simp [Instr.sliceBounds, run_bound (P := P) (W := W) (y := n) (code := .sliceB) f1 (Int.le_refl _) (by omega)]
        · rcases o1 with ⟨rfl, -⟩ | ⟨y1, k1, rfl, f1⟩
          · simp [Instr.sliceBounds, run_bound (P := P) (W := W) (y := c) (code := .sliceAcap) f2 b2 (by omega)]
          · simp [Instr.sliceBounds, run_bound (P := P) (W := W) (y := c) (code := .sliceAcap) f2 b2 (by omega), run_bound (P := P) (W := W) (y := H.toNat) (code := .sliceB) f1 (Int.le_refl _) (by omega)]
      have hadd : (if c = 0 then ad else ad.map (·.add 0)) = ad := by
        split
        · rfl
        · cases ad with
          | none => rfl
          | some z => simp [Addr.add]
      have hrun : (execOp a.eval o).run P W = .ok (.value (.slice ad H.toNat c)) W := by
        have e0 : (if c = 0 then ad else ad.map (·.add (0 * sz P e))) = ad := by rw [Nat.zero_mul]; exact hadd
        simp [execOp, ho, he, Instr.sliceAt, Instr.slice, run_underlying (isSl_spec hsl), rl, run_sz hs]
        first | exact hadd | exact e0 | simp_all
      exact does_pure hG hx hrun ⟨ad, N, c, g1, by omega, g3, g4, rfl⟩
    · exact hob.elim
  · exact hob.elim
def evLen (P : Program) (s : List (Nat × SV)) (g : Bool) (t : TypeId) (x : Operand) : Ev := match isSl P t, asSl (opd s g x).1 with
  | some _, some l => { x := some (.one (.c (.int .i64 l.length))), ob := (opd s g x).2 }
  | some _, none => match (opd s g x).1 with
    | .c (.lk k n) => { x := some (.one (.c (.int .i64 n))), ob := (opd s g x).2 }
    | _ => bad
  | _, _ => bad
theorem ok_len {t : TypeId} {x : Operand} (ho : o.op = .call { callee := .builtin .len, args := #[x], argTypes := #[t] }) (h1 : Okd G W s a x) (hob : (evLen P s g t x).ob) : Does P M A0 w0 G a W o (evLen P s g t x) := by
  have d1 := opd_ok hg h1
  unfold evLen at hob ⊢
  split at hob
  · next e l hsl hl =>
    obtain ⟨ad, c, he⟩ := den_len (asSl_ok (d1 hob) hl)
    refine does_pure hG hx (v := .int .i64 l.length) ?_ (Den.int _ _)
    have hrun : (Builtin.len_ #[t] o.type #[.slice ad l.length c]).run P W = .ok (goInt l.length) W := by simp [Builtin.len_, run_underlying (isSl_spec hsl)]
    simp [execOp, ho, resolve, invoke, builtin, he, hrun]
    rfl
  · next e hsl hl =>
    split at hob
    · next k n hlk =>
      have d2 := d1 hob
      rw [hlk] at d2
      obtain ⟨ad, N, c, g1, g2, g3, g4, he⟩ := d2
      refine does_pure hG hx (v := .int .i64 n) ?_ (Den.int _ _)
      have hrun : (Builtin.len_ #[t] o.type #[.slice ad n c]).run P W = .ok (goInt n) W := by simp [Builtin.len_, run_underlying (isSl_spec hsl)]
      simp [execOp, ho, resolve, invoke, builtin, he, hrun]
      rfl
    · exact hob.elim
  · exact hob.elim
def evMm (s : List (Nat × SV)) (g : Bool) (mx : Bool) (x y : Operand) : Ev := match opd s g x, opd s g y with
  | (.c (.int k m), p), (.c (.int k' n), q) => { x := some (.one (.c (.int k (if mx then max m n else min m n)))), ob := p ∧ q ∧ k = k' }
  | _, _ => bad
theorem ok_mm {mx : Bool} {ts : Array TypeId} {x y : Operand} (ho : o.op = .call { callee := .builtin (if mx then .max else .min), args := #[x, y], argTypes := ts }) (h1 : Okd G W s a x) (h2 : Okd G W s a y) (hob : (evMm s g mx x y).ob) : Does P M A0 w0 G a W o (evMm s g mx x y) := by
  have d1 := opd_ok hg h1
  have d2 := opd_ok hg h2
  unfold evMm at hob ⊢
  split at hob
  · next k m p k' n q e1 e2 =>
    rw [e1] at d1
    rw [e2] at d2
    obtain ⟨hp, hq, rfl⟩ := hob
    have f1 := D1_int (d1 hp)
    have f2 := D1_int (d2 hq)
    refine does_pure hG hx (v := .int k (if mx then max m n else min m n)) ?_ (Den.int _ _)
    cases mx
    · have : (if n < m then n else m) = min m n := by simp only [Int.min_def]; split <;> split <;> omega
      simp [execOp, ho, resolve, invoke, builtin, f1, f2, Builtin.min_, Builtin.min2, this]
    · have : (if m < n then n else m) = max m n := by simp only [Int.max_def]; split <;> split <;> omega
      simp [execOp, ho, resolve, invoke, builtin, f1, f2, Builtin.max_, Builtin.max2, this]
  · exact hob.elim
omit hg hG hx in
/-- append, and where the new slice lies. -/
theorem run_app3 (t ty e : TypeId) (i0 : TypeInfo) (z : Value) (ht : P.underlying t = some (.slice e)) (hi0 : P.info? e = some i0) (hz : i0.zero = some z) (hzs : z.cells.size = i0.size) (hsz : 0 < i0.size)
    (v : Value) (n : Nat) (xs : List Value) (hown : W.ownsRow 0 e i0.size v n xs) 
    (m : Nat) (u : Value) (news : List Value) (hr : Rd W i0.size m u news) (h1 : ∀ u ∈ news, u.oneCell' = true) (h63 : n + m ≤ maxLen) (hbytes : (n + m) * i0.bytes ≤ 140737488355328) :
    ∃ v' W', (Builtin.append_ #[t, t] ty #[v, u]).run P W = .ok v' W' ∧ W'.ownsRow 0 e i0.size v' (n + m) (xs ++ news) ∧ ((v'.ownBlock = v.ownBlock ∧ W.grownBy W' v.ownBlock) ∨ (v'.ownBlock = some W.heap.size ∧ W.grownBy W' none)) ∧ slen v' = n + m ∧ (m = 0 → v' = v) := by
  obtain ⟨ad, c, rfl⟩ := hr.form
  have hslen : slen v = n := by
    rcases hown.2 with ⟨rfl, rfl⟩ | ⟨g, cap, cur, rfl, -⟩ <;> rfl
  rcases Nat.eq_zero_or_pos m with h0 | h0
  · subst h0
    obtain rfl : news = [] := by simpa using hr.len
    refine ⟨v, W, ?_, by simpa using hown, .inl ⟨rfl, World.grownBy.refl W _⟩, hslen, fun _ => rfl⟩
    rcases hown.2 with ⟨rfl, _⟩ | ⟨g, cap, cur, rfl, _, _, hnc, _⟩
    · cases ad <;> simp [Builtin.append_, run_underlying ht, sizeOf, typeInfo, hi0, Builtin.lenOf, Builtin.firstCells, loadCells, loadCellsFrom]
    · cases ad <;> simp [Builtin.append_, run_underlying ht, sizeOf, typeInfo, hi0, Builtin.lenOf, Builtin.firstCells, hnc, storeCells, loadCells, loadCellsFrom]
  obtain ⟨b, off, rfl, hc⟩ := hr.cells h0
  have hl := hr.len
  have hnews : ∀ j u, news[j]? = some u → W.cell? ((⟨b, off, none⟩ : Addr).add j) = some u := fun j u hu => by rw [addr_add']; exact hc j u hu
  have hsmall : n + m ≤ 9223372036854775807 := by simp only [maxLen] at h63; omega
  have hlen : (xs ++ news).length = (n + m) * i0.size := by rw [List.length_append, hown.1, hl, Nat.add_mul]
  have grown : ∀ (old : Nat), old < n + m →
      (W.drew.alloc (.cells (xs.toArray ++ news.toArray ++ Builtin.zeroCells z.cells (grownCap W (n + m) old e - (n + m))) e)).ownsRow 0 e i0.size
        (.slice (some ⟨W.heap.size, 0, none⟩) (n + m) (grownCap W (n + m) old e)) (n + m) (xs ++ news) ∧
      W.grownBy (W.drew.alloc (.cells (xs.toArray ++ news.toArray ++ Builtin.zeroCells z.cells (grownCap W (n + m) old e - (n + m))) e)) none := by
    intro old ho
    have hge := grownCap_ge W (n + m) old e
    have hcm : grownCap W (n + m) old e ≤ maxLen := grownCap_le_maxLen W (n + m) old e h63
    refine ⟨⟨hlen, .inr ⟨W.heap.size, _, _, rfl, Nat.zero_le _, heap_alloc_new W.drew _, hge, hcm, ?_, ?_⟩⟩, ⟨rfl, rfl, rfl, by simp, fun k hk _ => heap_alloc_old W.drew _ hk⟩⟩
    · simp only [Array.size_append, List.size_toArray, size_zeroCells, hzs, hown.1, hl, ← Nat.add_mul]
      congr 1
      omega
    · simp only [Array.toList_append, List.append_assoc]
      rw [← List.append_assoc, ← hlen]
      exact List.take_left
  rcases hown.2 with ⟨rfl, rfl⟩ | ⟨g, cap, cur, rfl, hbg, hg, hnc, hcm, hcs, htake⟩
  · have hx : xs = [] := List.eq_nil_of_length_eq_zero (by simpa using hown.1)
    subst hx
    have hr := run_append_nil (P := P) W t ty e i0 z ht hi0 hz ⟨b, off, none⟩ m c news hl hnews (by omega) (by omega) (by have hb := hbytes; simp only [Nat.zero_add] at hb; omega)
    have hgr := grown 0 (by omega)
    simp only [Nat.zero_add, List.nil_append, Array.empty_append] at hgr ⊢
    exact ⟨_, _, hr, hgr.1, .inr ⟨rfl, hgr.2⟩, rfl, fun h => absurd h (by omega)⟩
  · by_cases hroom : n + m ≤ cap
    · have hfit : n * i0.size + news.length ≤ cur.size := by rw [hl, hcs, ← Nat.add_mul]; exact Nat.mul_le_mul_right _ hroom
      have hr := run_append_room (P := P) W t ty e i0 ht hi0 g n cap cur hg ⟨b, off, none⟩ m c news hl hnews h1 hroom hfit
      refine ⟨_, _, hr, ⟨hlen, .inr ⟨g, cap, _, rfl, hbg, setRow_heap W g cur _ e _ hg, hroom, hcm, ?_, ?_⟩⟩, .inl ⟨rfl, ⟨rfl, rfl, rfl, by simp, fun k _ hk => setRow_other W g k _ (fun e => hk (by simp [Value.ownBlock, e]))⟩⟩, rfl, fun h => absurd h (by omega)⟩
      · simp only [List.size_toArray, List.length_append, List.length_take, List.length_drop, Array.length_toList]
        omega
      · rw [htake, ← hlen]
        exact List.take_left
    · have holds : ∀ j u, xs[j]? = some u → W.cell? ((⟨g, 0, none⟩ : Addr).add j) = some u := hown.cells (g := g) rfl
      have hr := run_append_grow (P := P) W t ty e i0 z ht hi0 hz ⟨g, 0, none⟩ n cap xs hown.1 holds ⟨b, off, none⟩ m c news hl hnews (by omega) (by omega) (growslice_fits (by omega) hbytes)
      have hgr := grown cap (by omega)
      exact ⟨_, _, hr, hgr.1, .inr ⟨rfl, hgr.2⟩, rfl, fun h => absurd h (by omega)⟩
omit hg hx in
/-- Behind an append: what is known of memory. -/
theorem app_ghost {e : TypeId} {K n m d : Nat} {v v' : Value} {W' : World} {xs cs : List Value} {l ms : List (List D)} (hown : W.ownsRow 0 e K v n xs) (hown' : W'.ownsRow 0 e K v' (n + m) (xs ++ cs))
    (hcase : (v'.ownBlock = v.ownBlock ∧ W.grownBy W' v.ownBlock) ∨ (v'.ownBlock = some W.heap.size ∧ W.grownBy W' none)) (hsl : slen v' = n + m) (hm0 : m = 0 → v' = v) (hsv : slen v = n)
    (hρ : G.ρ d = some (v, K) ∨ (G.ρ d = none ∧ v = .slice none 0 0))
    (hK : ∀ c ∈ l ++ ms, c.length = K) (hdl : DenL G.A W l.flatten xs) (hdm : DenL G.A W ms.flatten cs) (hln : l.length = n) (hmn : ms.length = m) :
    GOK M A0 { A := fun b i => G.A b i ∨ (v'.ownBlock = some b ∧ i < (n + m) * K), β := G.β, dead := G.dead, ρ := fun t => if t = d then some (v', K) else G.ρ t } W' ∧
    Evo [] [d] G W { A := fun b i => G.A b i ∨ (v'.ownBlock = some b ∧ i < (n + m) * K), β := G.β, dead := G.dead, ρ := fun t => if t = d then some (v', K) else G.ρ t } W' ∧
    Hr { A := fun b i => G.A b i ∨ (v'.ownBlock = some b ∧ i < (n + m) * K), β := G.β, dead := G.dead, ρ := fun t => if t = d then some (v', K) else G.ρ t } W' d (some ⟨e, K, n + m⟩) ∧
    D1 { A := fun b i => G.A b i ∨ (v'.ownBlock = some b ∧ i < (n + m) * K), β := G.β, dead := G.dead, ρ := fun t => if t = d then some (v', K) else G.ρ t } W' (.own d K (l ++ ms)) v' := by
  have hβ : ∀ g, v.ownBlock = some g → (∀ k z, G.β k = some z → ¬ G.dead k → blk z ≠ some g) ∧ ∀ i, G.A g i → i < n * K := fun g hgg => by
    rcases hρ with hρ | ⟨-, rfl⟩
    · obtain ⟨-, -, h1, h2⟩ := hG.row d v K g hρ hgg
      rw [hsv] at h2
      exact ⟨h1, h2⟩
    · cases hgg
  have hsize : W.heap.size ≤ W'.heap.size := by rcases hcase with h | h <;> exact h.2.size
  have hheap : ∀ b, b < W.heap.size → v.ownBlock ≠ some b → W'.heap[b]? = W.heap[b]? := fun b hb hne => by
    rcases hcase with h | h
    · exact h.2.block b hb (fun e => hne e.symm)
    · exact h.2.block b hb (by simp)
  have hkeep : Kp G.A W W' := fun b i u hA hc => by
    have hlt := World.block_lt_of_cell? _ _ hc
    by_cases hb : v.ownBlock = some b
    · rcases hcase with h | h
      · have hi := (hβ b hb).2 i hA
        have hxi : xs[i]? = some (xs[i]'(by rw [hown.1]; exact hi)) := List.getElem?_eq_getElem _
        have c1 := World.ownsRow.cells hown (g := b) hb i _ hxi
        have c2 := World.ownsRow.cells hown' (g := b) (h.1.trans hb) i _ ((List.getElem?_append_left (by rw [hown.1]; exact hi)).trans hxi)
        rw [addr_add', Nat.zero_add] at c1 c2
        rw [c2, ← c1]
        exact hc
      · rw [World.cell?_of_block (a := ⟨b, i, none⟩) (h.2.block b hlt (by simp))]
        exact hc
    · rw [World.cell?_of_block (a := ⟨b, i, none⟩) (hheap b hlt hb)]
      exact hc
  have hnew : ∀ g, v'.ownBlock = some g → v.ownBlock = some g ∨ g = W.heap.size := fun g hgg => by
    rcases hcase with h | h
    · exact .inl (h.1 ▸ hgg)
    · exact .inr (Option.some.inj (hgg.symm.trans h.1))
  have hmine : ∀ g, v'.ownBlock = some g → M g := fun g hgg => by
    rcases hnew g hgg with h | rfl
    · rcases hρ with hρ | ⟨-, rfl⟩
      · exact (hG.row d v K g hρ h).1
      · cases h
    · exact hG.fr _ (Nat.le_refl _)
  have hother : ∀ t u K' g, t ≠ d → G.ρ t = some (u, K') → u.ownBlock = some g → v'.ownBlock ≠ some g := fun t u K' g ht h1 h2 h3 => by
    rcases hnew g h3 with h | rfl
    · rcases hρ with hρ | ⟨-, rfl⟩
      · exact ht (hG.rowI t d u v K' K g h1 hρ h2 h)
      · cases h
    · have := (hG.row t u K' _ h1 h2).2.1; omega
  have hE : Evo [] [d] G W { A := fun b i => G.A b i ∨ (v'.ownBlock = some b ∧ i < (n + m) * K), β := G.β, dead := G.dead, ρ := fun t => if t = d then some (v', K) else G.ρ t } W' := by
    refine ⟨hkeep, fun b i h => .inl h, fun _ _ h => h, fun _ _ h => h, fun _ _ => Iff.rfl, fun k z b _ hk hnd hz => hheap b (hG.box k z b hk hz).1 (fun e => (hβ b e).1 k z hk hnd hz), fun t u K' h => ?_, fun t ht h => ?_, fun t u K' ht h => ?_⟩
    · by_cases htd : t = d
      · subst htd
        rcases hρ with hρ | ⟨hρ, -⟩
        · obtain ⟨rfl, rfl⟩ := Prod.mk.inj (Option.some.inj (hρ.symm.trans h))
          refine ⟨v', by simp, by rw [hsv, hsl]; omega, fun he => ?_⟩
          rw [hsv, hsl] at he
          exact (hm0 (by omega)).symm
        · rw [hρ] at h; cases h
      · exact ⟨u, by dsimp only; rw [if_neg htd]; exact h, Nat.le_refl _, fun _ => rfl⟩
    · dsimp only
      rw [if_neg (by simpa using ht)]
      exact h
    · have htd : t ≠ d := by simpa using ht
      refine ⟨by dsimp only; rw [if_neg htd]; exact h, fun g hgg => hheap g (hG.row t u K' g h hgg).2.1 (fun e => ?_)⟩
      rcases hρ with hρ | ⟨-, rfl⟩
      · exact htd (hG.rowI t d u v K' K g h hρ hgg e)
      · cases e
  refine ⟨⟨fun b hb => hG.fr b (Nat.le_trans hsize hb), ?_, ?_, hG.boxI, ?_, ?_⟩, hE, ⟨v', xs ++ cs, by simp, hsl, hown'⟩, ?_, hK, ⟨v', by simp, Nat.le_refl _, fun _ => rfl⟩⟩
  · rintro b i (h | ⟨h, -⟩)
    · exact ⟨Nat.lt_of_lt_of_le (hG.lt b i h).1 hsize, (hG.lt b i h).2⟩
    · have := hown'.lt b h
      exact ⟨this.2, fun h' => absurd (hmine b h) h'⟩
  · intro k z b hk hz
    obtain ⟨h2, h3⟩ := hG.box k z b hk hz
    refine ⟨Nat.lt_of_lt_of_le h2 hsize, fun hnd => ⟨(h3 hnd).1, fun i => ?_⟩⟩
    rintro (h | ⟨h, -⟩)
    · exact (h3 hnd).2 i h
    · rcases hnew b h with h | rfl
      · exact (hβ b h).1 k z hk hnd hz
      · omega
  · intro t u K' g h1 h2
    dsimp only at h1
    split at h1
    · obtain ⟨rfl, rfl⟩ := Prod.mk.inj (Option.some.inj h1)
      have := hown'.lt g h2
      refine ⟨hmine g h2, this.2, fun k z hk hnd hz => ?_, fun i => ?_⟩
      · rcases hnew g h2 with h | rfl
        · exact (hβ g h).1 k z hk hnd hz
        · have := (hG.box k z _ hk hz).1; omega
      · rw [hsl]
        rintro (h | ⟨-, h⟩)
        · rcases hnew g h2 with h' | rfl
          · have := (hβ g h').2 i h
            have := Nat.mul_le_mul_right K (show n ≤ n + m by omega)
            omega
          · have := (hG.lt _ i h).1; omega
        · exact h
    · next htd =>
      obtain ⟨g1, g2, g3, g4⟩ := hG.row t u K' g h1 h2
      refine ⟨g1, Nat.lt_of_lt_of_le g2 hsize, g3, fun i => ?_⟩
      rintro (h | ⟨h, -⟩)
      · exact g4 i h
      · exact absurd h (hother t u K' g htd h1 h2)
  · intro t t' u1 u2 K1 K2 g h1 h2 h3 h4
    dsimp only at h1 h2
    split at h1 <;> split at h2
    · omega
    · next htd =>
      obtain ⟨rfl, rfl⟩ := Prod.mk.inj (Option.some.inj h1)
      exact absurd h3 (hother t' u2 K2 g htd h2 h4)
    · next htd _ =>
      obtain ⟨rfl, rfl⟩ := Prod.mk.inj (Option.some.inj h2)
      exact absurd h4 (hother t u1 K1 g htd h1 h3)
    · exact hG.rowI t t' u1 u2 K1 K2 g h1 h2 h3 h4
  · have hlen : (l ++ ms).length = n + m := by rw [List.length_append, hln, hmn]
    have hd' : DenL (fun b i => G.A b i ∨ (v'.ownBlock = some b ∧ i < (n + m) * K)) W' (l ++ ms).flatten (xs ++ cs) := by
      rw [List.flatten_append]
      exact DenL.mono (AL.append hdl hdm) (fun b i h => .inl h) hkeep
    obtain ⟨ad, cp, hv'⟩ := (own_rd hown').form
    rw [hv'] at hown' ⊢
    rw [hv'] at hd'
    rw [← hlen]
    have hcap : (l ++ ms).length ≤ cp := by
      rw [hlen]
      rcases hown'.2 with ⟨h, h'⟩ | ⟨g, cap, cur, h, -, -, h', -⟩
      · omega
      · obtain ⟨-, -, rfl⟩ := Value.slice.inj h
        exact h'
    refine den_of_cells hK hcap (by rw [hlen]; exact hd') (fun hne => ?_)
    rcases hown'.2 with ⟨h, h'⟩ | ⟨g, cap, cur, h, -⟩
    · exact absurd (List.eq_nil_of_length_eq_zero (by omega)) hne
    · obtain ⟨rfl, -, rfl⟩ := Value.slice.inj h
      refine ⟨g, 0, rfl, fun i u hu => ⟨.inr ⟨rfl, ?_⟩, ?_⟩⟩
      · have := (List.getElem?_eq_some_iff.1 hu).1
        rw [hown'.1] at this
        first | exact this | (rw [hlen]; exact this) | (rw [Nat.zero_add]; exact this) | (rw [hlen, Nat.zero_add]; exact this)
      · have := World.ownsRow.cells hown' (g := g) rfl i u hu
        rwa [addr_add'] at this
omit hg hG hx in
theorem own_form {e : TypeId} {K n : Nat} {v : Value} {xs : List Value} (h : W.ownsRow 0 e K v n xs) : ∃ a c, v = .slice a n c ∧ n ≤ c ∧ (n = 0 ∨ ∃ b, a = some ⟨b, 0, none⟩) := by
  rcases h.2 with ⟨rfl, rfl⟩ | ⟨g, cap, cur, rfl, -, -, h1, -⟩
  · exact ⟨_, _, rfl, Nat.le_refl _, .inl rfl⟩
  · exact ⟨_, _, rfl, h1, .inr ⟨_, rfl⟩⟩
omit hg hG hx in
theorem own_cut {e : TypeId} {K N n c : Nat} {a : Option Addr} {us : List Value} (h : W.ownsRow 0 e K (.slice a N c) N us) (hn : n ≤ N) : W.ownsRow 0 e K (.slice a n c) n (us.take (n * K)) := by
  have hle := Nat.mul_le_mul_right K hn
  refine ⟨by rw [List.length_take, h.1]; omega, ?_⟩
  rcases h.2 with ⟨h1, h2⟩ | ⟨g, cap, cur, h1, h2, h3, h4, h5, h6, h7⟩
  · obtain ⟨rfl, rfl, rfl⟩ := Value.slice.inj h1
    obtain rfl : n = 0 := by omega
    exact .inl ⟨rfl, rfl⟩
  · obtain ⟨rfl, -, rfl⟩ := Value.slice.inj h1
    refine .inr ⟨g, c, cur, rfl, h2, h3, by omega, h5, h6, ?_⟩
    rw [← h7, List.take_take, Nat.min_eq_left hle]
omit hg hG hx in
theorem blk_of_own {v : Value} (h : ∃ a n c, v = .slice a n c) : v.ownBlock = blk v := by
  obtain ⟨a, n, c, rfl⟩ := h
  cases a <;> rfl
def cons1 (k? : Option Nat) (G : Gh) (d : Nat) (v : Value) : Gh := { G with β := fun k => if k = d then some v else G.β k, dead := fun k => k ≠ d ∧ (k? = some k ∨ G.dead k) }
omit hg hx in
/-- An object is used up: another one comes of it, in its block or in a new one. -/
theorem app_obj {W' : World} {k? : Option Nat} {v v' : Value} {d : Nat} {o : Ob} {us : List Value} (hβd : G.β d = none) (hk? : match k? with
      | some k => ∃ u, G.β k = some u ∧ ¬ G.dead k ∧ blk u = v.ownBlock
      | none => v.ownBlock = none)
    (hcase : (v'.ownBlock = v.ownBlock ∧ W.grownBy W' v.ownBlock) ∨ (v'.ownBlock = some W.heap.size ∧ W.grownBy W' none))
    (hown : W'.ownsRow 0 o.e o.K v' o.l.length us) (hd : DenXL G W o.l.flatten us) (hK : ∀ cs ∈ o.l, cs.length = o.K) :
    GOK M A0 (cons1 k? G d v') W' ∧ Evo (d :: k?.toList) [] G W (cons1 k? G d v') W' ∧ Hb (cons1 k? G d v') W' d (some (some o)) ∧ D1 (cons1 k? G d v') W' (.c (.lk d o.l.length)) v' ∧ Chg M W W' := by
  have hsize : W.heap.size ≤ W'.heap.size := by rcases hcase with h | h <;> exact h.2.size
  have hblk : ∀ g, v.ownBlock = some g → ∃ k u, k? = some k ∧ G.β k = some u ∧ ¬ G.dead k ∧ blk u = some g := fun g hg => by
    cases k? with
    | none => rw [show v.ownBlock = none from hk?] at hg; cases hg
    | some k => obtain ⟨u, h1, h2, h3⟩ := hk?; exact ⟨k, u, rfl, h1, h2, h3.trans hg⟩
  have hM : ∀ g, v.ownBlock = some g → M g ∧ ∀ i, ¬ G.A g i := fun g hg => by
    obtain ⟨k, u, -, h1, h2, h3⟩ := hblk g hg
    exact (hG.box k u g h1 h3).2 h2
  have hheap : ∀ b, b < W.heap.size → v.ownBlock ≠ some b → W'.heap[b]? = W.heap[b]? := fun b hb hne => by
    rcases hcase with h | h
    · exact h.2.block b hb (fun e => hne e.symm)
    · exact h.2.block b hb (by simp)
  have hchg : Chg M W W' := by
    rcases hcase with h | h
    · exact Chg.grown h.2 (fun k hk => (hM k hk).1)
    · exact Chg.grown h.2 (fun k hk => by cases hk)
  have hkeep : Kp G.A W W' := fun b i u hA hc => by
    rw [World.cell?_of_block (a := ⟨b, i, none⟩) (hheap b (hG.lt b i hA).1 (fun e => (hM b e).2 i hA))]
    exact hc
  have hvf := own_form hown
  have hvb : v'.ownBlock = blk v' := by obtain ⟨a, c, h, -⟩ := hvf; exact blk_of_own ⟨a, _, c, h⟩
  have hnew : ∀ g, blk v' = some g → v.ownBlock = some g ∨ g = W.heap.size := fun g hgg => by
    rw [← hvb] at hgg
    rcases hcase with h | h
    · exact .inl (h.1 ▸ hgg)
    · exact .inr (Option.some.inj (hgg.symm.trans h.1))
  have hβk : ∀ k u, G.β k = some u → (cons1 k? G d v').β k = some u := fun k u h => by
    show (if k = d then _ else _) = _
    rw [if_neg (fun e => by rw [e, hβd] at h; cases h)]
    exact h
  have hE : Evo (d :: k?.toList) [] G W (cons1 k? G d v') W' := by
    refine ⟨hkeep, fun _ _ h => h, hβk, fun k hk h => ?_, fun k hk => ?_, fun k u b hk h hnd hb => hheap b (hG.box k u b h hb).1 (fun e => ?_), fun t u K h => ⟨u, h, Nat.le_refl _, fun _ => rfl⟩, fun _ _ h => h, fun t u K _ h => ⟨h, fun g hg => hheap g (hG.row t u K g h hg).2.1 (fun e => ?_)⟩⟩
    · show (if k = d then _ else _) = _
      rw [if_neg (fun e => hk (by rw [e]; exact List.mem_cons_self))]
      exact h
    · have h1 : k ≠ d := fun e => hk (by rw [e]; exact List.mem_cons_self)
      have h2 : k? ≠ some k := fun e => hk (List.mem_cons_of_mem _ (by rw [e]; exact List.mem_singleton.2 rfl))
      exact ⟨fun h => h.2.resolve_left h2, fun h => ⟨h1, .inr h⟩⟩
    · obtain ⟨k', u', h1, h2, h3, h4⟩ := hblk b e
      have := hG.boxI k k' u u' b h h2 hb h4 hnd h3
      exact hk (List.mem_cons_of_mem _ (by rw [h1, this]; exact List.mem_singleton.2 rfl))
    · obtain ⟨k', u', h1, h2, h3, h4⟩ := hblk g e
      exact (hG.row t u K g h hg).2.2.1 k' u' h2 h3 h4
  refine ⟨⟨fun b hb => hG.fr b (Nat.le_trans hsize hb), fun b i h => ⟨Nat.lt_of_lt_of_le (hG.lt b i h).1 hsize, (hG.lt b i h).2⟩, ?_, ?_, ?_, hG.rowI⟩, hE, ⟨v', us, by show (if d = d then _ else _) = _; rw [if_pos rfl], fun h => h.1 rfl, ?_, hd.evo hE, .inr hK⟩, ?_, hchg⟩
  · intro k u b hk hb
    change (if k = d then _ else _) = _ at hk
    split at hk
    · obtain rfl := Option.some.inj hk
      refine ⟨(hown.lt b (hvb.trans hb)).2, fun _ => ?_⟩
      rcases hnew b hb with h | rfl
      · exact hM b h
      · exact ⟨hG.fr _ (Nat.le_refl _), fun i hi => by have := (hG.lt _ i hi).1; omega⟩
    · next hkd =>
      obtain ⟨h1, h2⟩ := hG.box k u b hk hb
      exact ⟨Nat.lt_of_lt_of_le h1 hsize, fun hdd => h2 (fun h => hdd ⟨hkd, .inr h⟩)⟩
  · have old : ∀ k u b, k ≠ d → G.β k = some u → blk u = some b → blk v' = some b → ¬ (cons1 k? G d v').dead k → False := fun k u b hkd hk hb hb' hnd => by
      rcases hnew b hb' with h | rfl
      · obtain ⟨k', u', h1, h2, h3, h4⟩ := hblk b h
        have := hG.boxI k k' u u' b hk h2 hb h4 (fun h => hnd ⟨hkd, .inr h⟩) h3
        exact hnd ⟨hkd, .inl (by rw [this]; exact h1)⟩
      · have := (hG.box k u _ hk hb).1; omega
    intro k k' u u' b hk hk' hb hb' hdk hdk'
    change (if k = d then _ else _) = _ at hk
    change (if k' = d then _ else _) = _ at hk'
    split at hk <;> split at hk'
    · omega
    · next h1 h2 => obtain rfl := Option.some.inj hk; exact (old k' u' b h2 hk' hb' hb hdk').elim
    · next h1 h2 => obtain rfl := Option.some.inj hk'; exact (old k u b h1 hk hb hb' hdk).elim
    · next h1 h2 => exact hG.boxI k k' u u' b hk hk' hb hb' (fun h => hdk ⟨h1, .inr h⟩) (fun h => hdk' ⟨h2, .inr h⟩)
  · intro t u K g h1 h2
    obtain ⟨g1, g2, g3, g4⟩ := hG.row t u K g h1 h2
    refine ⟨g1, Nat.lt_of_lt_of_le g2 hsize, fun k z hk hnd hz => ?_, g4⟩
    change (if k = d then _ else _) = _ at hk
    split at hk
    · obtain rfl := Option.some.inj hk
      rcases hnew g hz with h | rfl
      · obtain ⟨k', u', h1', h2', h3, h4⟩ := hblk g h
        exact g3 k' u' h2' h3 h4
      · omega
    · next hkd => exact g3 k z hk (fun h => hnd ⟨hkd, .inr h⟩) hz
  · obtain ⟨a, c, hv, -⟩ := hvf
    subst hv
    exact hown
  · obtain ⟨a, c, hv, h1, h2⟩ := hvf
    exact ⟨a, _, c, by show (if d = d then _ else _) = _; rw [if_pos rfl, hv], Nat.le_refl _, h1, h2, hv⟩
def appOb (P : Program) (e : TypeId) (n m : Nat) (ms : List (List D)) : Prop := (zr P e).map List.length = some (sz P e) ∧ 0 < sz P e ∧ capOk (n + m) ∧ (n + m) * byt P e ≤ 140737488355328 ∧ allK (sz P e) ms
/-- What is read of a slice: its elements; of an object, what it holds. -/
def srcS (bx : Bt) : S1 → Option (List (List D) × List Nat)
  | .c (.lk k n) => match gb bx k with
    | some (some o) => some (o.l.take n, [k])
    | _ => none
  | x => (asSl x).map fun l => (l, [])
def srcOb (bx : Bt) (K : Nat) : S1 → Prop
  | .c (.lk k n) => match gb bx k with
    | some (some o) => n ≤ o.l.length ∧ o.K = K
    | _ => False
  | _ => True
omit hg hG hx in
theorem src_ok {x : S1} {v : Value} {l : List (List D)} {rb : List Nat} {K : Nat} (h : D1 G W x v) (hs : srcS bx x = some (l, rb)) (hb : ∀ k ∈ rb, Hb G W k (gb bx k)) (hob : srcOb bx K x) (hK : allK K l) :
    ∃ a c us, v = .slice a l.length c ∧ Rd W K l.length (.slice a l.length c) us ∧ DenXL G W l.flatten us := by
  have plain : ∀ l', asSl x = some l' → l' = l → ∃ a c us, v = .slice a l.length c ∧ Rd W K l.length (.slice a l.length c) us ∧ DenXL G W l.flatten us := fun l' ha e => by
    subst e
    obtain ⟨a, c, us, h1, h2, h3, -⟩ := cells_of_den (asSl_ok h ha) hK
    exact ⟨a, c, us, h1, h2, DenXL.of h3⟩
  unfold srcS at hs
  split at hs
  · next k n =>
    unfold srcOb at hob
    dsimp only at hob
    cases ho : gb bx k with
    | none => rw [ho] at hs; cases hs
    | some o =>
      cases o with
      | none => rw [ho] at hs; cases hs
      | some o =>
        rw [ho] at hs hob
        obtain ⟨rfl, rfl⟩ := Prod.mk.inj (Option.some.inj hs)
        obtain ⟨hn, rfl⟩ := hob
        have hk := hb k List.mem_cons_self
        rw [ho] at hk
        obtain ⟨u, us, h1, h2, h3, h4, h5⟩ := hk
        obtain ⟨a, N, c, g1, g2, g3, g4, rfl⟩ := h
        obtain rfl := Option.some.inj (h1.symm.trans g1)
        have h3 : W.ownsRow 0 o.e o.K (.slice a N c) o.l.length us := h3
        obtain ⟨a', c', e, -, -⟩ := own_form h3
        obtain ⟨-, rfl, -⟩ := Value.slice.inj e
        have hcut := own_cut h3 hn
        have hlen : (o.l.take n).length = n := by rw [List.length_take]; omega
        have h5' : ∀ cs ∈ o.l, cs.length = o.K := by
          rcases h5 with ⟨b, e⟩ | h5
          · cases e
          · exact h5
        refine ⟨a, c, us.take (n * o.K), by rw [hlen], by rw [hlen]; exact own_rd hcut, ?_⟩
        have := AL.take h4 (n * o.K)
        have hfl : (o.l.take n).flatten = o.l.flatten.take (n * o.K) := by
          have h6 : o.l.flatten = (o.l.take n).flatten ++ (o.l.drop n).flatten := by rw [← List.flatten_append, List.take_append_drop]
          rw [h6, List.take_left' (by rw [flatten_length (K := o.K) (fun cs hc => h5' cs (List.mem_of_mem_take hc)), hlen])]
        rw [hfl]
        exact this
  · cases ha : asSl x with
    | none => rw [ha] at hs; cases hs
    | some l' =>
      rw [ha] at hs
      exact plain l' ha (Prod.mk.inj (Option.some.inj hs)).1
def evApp (P : Program) (s : List (Nat × SV)) (bx : Bt) (rx : List (Nat × RowI)) (xl ug : Bool) (g : Bool) (d : Nat) (t : TypeId) (x y : Operand) : Ev := match isSl P t with
  | some e => match opd s g x with
    | (.own tg K l, p) => match gb rx tg, asSl (opd s g y).1 with
      | some ri, some ms => { x := some (.one (.own tg K (l ++ ms))), ob := ug = true ∧ p ∧ (opd s g y).2 ∧ ri.e = e ∧ ri.K = K ∧ K = sz P e ∧ ri.n = l.length ∧ appOb P e l.length ms.length ms, wr := [(tg, ⟨e, K, l.length + ms.length⟩)] }
      | _, _ => bad
    | (.nil, p) => if xl then match srcS bx (opd s g y).1 with
        | some (ms, rb) => { x := some (.one (.c (.lk d ms.length))), ob := g = true ∧ p ∧ (opd s g y).2 ∧ gb bx d = none ∧ srcOb bx (sz P e) (opd s g y).1 ∧ appOb P e 0 ms.length ms, rb := rb, wb := [(d, some ⟨e, sz P e, ms⟩)] }
        | none => bad
      else match asSl (opd s g y).1 with
        | some ms => { x := some (.one (.own d (sz P e) ms)), ob := ug = true ∧ p ∧ (opd s g y).2 ∧ gb rx d = none ∧ appOb P e 0 ms.length ms, wr := [(d, ⟨e, sz P e, ms.length⟩)] }
        | none => bad
    | (.c (.lk k n), p) => match gb bx k, srcS bx (opd s g y).1 with
      | some (some o), some (ms, rb) => { x := some (.one (.c (.lk d (n + ms.length)))), ob := g = true ∧ p ∧ (opd s g y).2 ∧ gb bx d = none ∧ n ≤ o.l.length ∧ o.e = e ∧ o.K = sz P e ∧ srcOb bx (sz P e) (opd s g y).1 ∧ appOb P e n ms.length ms, rb := rb, wb := [(d, some ⟨e, sz P e, o.l.take n ++ ms⟩), (k, none)] }
      | _, _ => bad
    | _ => bad
  | none => bad
theorem ok_app {t : TypeId} {d : Nat} {xl ug : Bool} {x y : Operand} (ho : o.op = .call { callee := .builtin .append, args := #[x, y], argTypes := #[t, t] }) (h1 : Okd G W s a x) (h2 : Okd G W s a y) (hrb : ∀ k ∈ (evApp P s bx rx xl ug g d t x y).rb, Hb G W k (gb bx k)) (hwb : ∀ p ∈ (evApp P s bx rx xl ug g d t x y).wb, Hb G W p.1 (gb bx p.1)) (hr : ∀ p ∈ (evApp P s bx rx xl ug g d t x y).wr, Hr G W p.1 (gb rx p.1)) (hob : (evApp P s bx rx xl ug g d t x y).ob) : Does P M A0 w0 G a W o (evApp P s bx rx xl ug g d t x y) := by
  have d1 := opd_ok hg h1
  have d2 := opd_ok hg h2
  have prep : ∀ e n m, (zr P e).map List.length = some (sz P e) → 0 < sz P e → capOk (n + m) → (n + m) * byt P e ≤ 140737488355328 → ∃ i zv, P.info? e = some i ∧ i.zero = some zv ∧ zv.cells.size = i.size ∧ i.size = sz P e ∧ byt P e = i.bytes := by
    intro e n m hz hs h63 hby
    cases hzr : zr P e with
    | none => rw [hzr] at hz; cases hz
    | some zs =>
      rw [hzr] at hz
      obtain ⟨i, zv, hi, hzv, hdz⟩ := zr_ok hzr
      obtain ⟨i', hi', his⟩ := info_of_sz hs
      obtain rfl : i = i' := Option.some.inj (hi.symm.trans hi')
      have hzsz : zv.cells.size = i.size := by
        have h4 := (hdz G.A W).1
        rw [Array.length_toList] at h4
        have h5 : zs.length = sz P e := Option.some.inj hz
        exact (h4.symm.trans h5).trans his.symm
      exact ⟨i, zv, hi, hzv, hzsz, his, by unfold byt Program.bytesOf; rw [hi]; rfl⟩
  have core : ∀ e ms (v : Value) (n dd : Nat) (l : List (List D)) xs, isSl P t = some e → asSl (opd s g y).1 = some ms → (opd s g y).2 → a.eval x = v → W.ownsRow 0 e (sz P e) v n xs → slen v = n → l.length = n → (G.ρ dd = some (v, sz P e) ∨ (G.ρ dd = none ∧ v = .slice none 0 0)) → (∀ c ∈ l, c.length = sz P e) → DenL G.A W l.flatten xs → appOb P e n ms.length ms →
      ∃ v' W' G', (execOp a.eval o).run P W = .ok (.value v') W' ∧ GOK M A0 G' W' ∧ Chg M w0 W' ∧ Evo [] [dd] G W G' W' ∧ D1 G' W' (.own dd (sz P e) (l ++ ms)) v' ∧ Hr G' W' dd (some ⟨e, sz P e, n + ms.length⟩) := by
    intro e ms v n dd l xs hsl hms hq hv hown hsv hln hρ hKl hdl ⟨hz, hs, h63, hby, hKm⟩
    obtain ⟨i, zv, hi, hzv, hzsz, his, hby'⟩ := prep e n ms.length hz hs h63 hby
    obtain ⟨ad, c, us, he, hrd, hdm, -, -⟩ := cells_of_den (asSl_ok (d2 hq) hms) hKm
    rw [← his] at hown hrd
    rw [← he] at hrd
    obtain ⟨v', W', hrun, k1, k2, k3, k4⟩ := run_app3 (P := P) (W := W) t o.type e i zv (isSl_spec hsl) hi hzv hzsz (by omega) v n xs hown ms.length (a.eval y) us hrd (DenL.one hdm) h63 (by rw [← hby']; exact hby)
    rw [his] at k1 hown
    obtain ⟨m1, m2, m3, m4⟩ := app_ghost hG (d := dd) (l := l) (ms := ms) hown k1 k2 k3 k4 hsv hρ (fun c hc => by rcases List.mem_append.1 hc with h | h; exact hKl c h; exact hKm c h) hdl hdm hln rfl
    refine ⟨v', W', _, ?_, m1, ?_, m2, m4, m3⟩
    · simp [execOp, ho, resolve, invoke, builtin, hv, hrun]
    · rcases k2 with h | h
      · refine hx.trans (Chg.grown h.2 (fun k hk => ?_))
        rcases hρ with hρ | ⟨-, rfl⟩
        · exact (hG.row dd v _ k hρ hk).1
        · cases hk
      · exact hx.trans (Chg.grown h.2 (fun k hk => by cases hk))
  have coreX : ∀ e ms rb (v : Value) (n : Nat) (k? : Option Nat) (l : List (List D)) xs, isSl P t = some e → srcS bx (opd s g y).1 = some (ms, rb) → (∀ k ∈ rb, Hb G W k (gb bx k)) → srcOb bx (sz P e) (opd s g y).1 → (opd s g y).2 → a.eval x = v → W.ownsRow 0 e (sz P e) v n xs → l.length = n → G.β d = none → (match k? with
      | some k => ∃ u, G.β k = some u ∧ ¬ G.dead k ∧ blk u = v.ownBlock
      | none => v.ownBlock = none) → (∀ c ∈ l, c.length = sz P e) → DenXL G W l.flatten xs → appOb P e n ms.length ms →
      ∃ v' W' G', (execOp a.eval o).run P W = .ok (.value v') W' ∧ GOK M A0 G' W' ∧ Chg M w0 W' ∧ Evo (d :: k?.toList) [] G W G' W' ∧ D1 G' W' (.c (.lk d (n + ms.length))) v' ∧ Hb G' W' d (some (some ⟨e, sz P e, l ++ ms⟩)) ∧ ∀ k, k? = some k → k ≠ d → ∃ u, G'.β k = some u ∧ G'.dead k := by
    intro e ms rb v n k? l xs hsl hms hrb hso hq hv hown hln hβ hk? hKl hdl ⟨hz, hs, h63, hby, hKm⟩
    obtain ⟨i, zv, hi, hzv, hzsz, his, hby'⟩ := prep e n ms.length hz hs h63 hby
    obtain ⟨ad, c, us, he, hrd, hdm⟩ := src_ok (d2 hq) hms hrb hso hKm
    rw [← his] at hown hrd
    rw [← he] at hrd
    obtain ⟨v', W', hrun, k1, k2, k3, k4⟩ := run_app3 (P := P) (W := W) t o.type e i zv (isSl_spec hsl) hi hzv hzsz (by omega) v n xs hown ms.length (a.eval y) us hrd hdm.one h63 (by rw [← hby']; exact hby)
    rw [his] at k1 hown
    have hl : (l ++ ms).length = n + ms.length := by rw [List.length_append, hln]
    obtain ⟨m1, m2, m3, m4, m5⟩ := app_obj hG (d := d) (o := ⟨e, sz P e, l ++ ms⟩) (us := xs ++ us) hβ hk? k2 (by rw [hl]; exact k1) (by rw [List.flatten_append]; exact AL.append hdl hdm) (fun c hc => by rcases List.mem_append.1 hc with h | h; exact hKl c h; exact hKm c h)
    refine ⟨v', W', _, ?_, m1, hx.trans m5, m2, by rw [← hl]; exact m4, m3, fun k hk hkd => ?_⟩
    · simp [execOp, ho, resolve, invoke, builtin, hv, hrun]
    · subst hk
      obtain ⟨u, h1, -⟩ := hk?
      exact ⟨u, by show (if k = d then _ else _) = _; rw [if_neg hkd]; exact h1, hkd, .inl rfl⟩
  unfold evApp at hob hr hrb hwb ⊢
  split at hob
  · next e hsl =>
    simp only [hsl] at hr hrb hwb
    split at hob
    · next tg K l p e1 =>
      rw [e1] at d1
      simp only [e1] at hr
      split at hob
      · next ri ms hri hms =>
        simp only [hri, hms] at hr
        obtain ⟨-, hp, hq, rfl, rfl, hK, hn, hap⟩ := hob
        have hrr := hr _ (List.mem_singleton.2 rfl)
        dsimp only at hrr
        rw [hri] at hrr
        obtain ⟨u, cs, f1, f2, f3⟩ := hrr
        obtain ⟨g1, g2, u', g3, g4, g5⟩ := d1 hp
        obtain ⟨rfl, -⟩ := Prod.mk.inj (Option.some.inj (f1.symm.trans g3))
        obtain ⟨ad, c, us, he, hrd, hdl, -, -⟩ := cells_of_den g1 g2
        have hsx : slen (a.eval x) = ri.n := by rw [he, hn]; rfl
        have hux : a.eval x = u := g5 (by rw [hsx, f2])
        have hcs : us = cs := by
          rw [← hux] at f3
          have e3 := own_rd f3
          rw [he, hn] at e3
          rcases Nat.eq_zero_or_pos l.length with h0 | h0
          · have a1 := hrd.len
            have a2 := e3.len
            rw [h0, Nat.zero_mul] at a1 a2
            rw [List.eq_nil_of_length_eq_zero a1, List.eq_nil_of_length_eq_zero a2]
          · obtain ⟨b1, o1, hb1, hc1⟩ := hrd.cells h0
            obtain ⟨b2, o2, hb2, hc2⟩ := e3.cells h0
            rw [hb1] at hb2
            obtain ⟨rfl, rfl⟩ : b1 = b2 ∧ o1 = o2 := by simpa using hb2
            apply List.ext_getElem?
            intro j
            have a1 := hrd.len
            have a2 := e3.len
            by_cases hj : j < us.length
            · have q1 := hc1 j _ (List.getElem?_eq_getElem hj)
              have q2 := hc2 j _ (List.getElem?_eq_getElem (by omega))
              rw [q1] at q2
              rw [List.getElem?_eq_getElem hj, List.getElem?_eq_getElem (by omega)]
              exact q2
            · rw [List.getElem?_eq_none (by omega), List.getElem?_eq_none (by omega)]
        subst hcs
        have f3' : W.ownsRow 0 ri.e (sz P ri.e) (a.eval x) l.length us := by rw [← hK, ← hn, hux]; exact f3
        obtain ⟨v', W', G', k1, k2, k3, k4, k5, k6⟩ := core ri.e ms (a.eval x) l.length tg l us hsl hms hq rfl f3' (by rw [hsx, hn]) rfl (.inl (by rw [hux, ← hK]; exact f1)) (by rw [← hK]; exact g2) hdl hap
        rw [← hK] at k5 k6
        exact ⟨v', W', G', _, k1, .inl rfl, k2, k3, k4, k5, nofun, fun p hp => by obtain rfl := List.mem_singleton.1 hp; exact k6⟩
      · exact hob.elim
    · next p e1 =>
      rw [e1] at d1
      simp only [e1] at hr hrb hwb
      cases xl
      · simp only [Bool.false_eq_true, if_false] at hob hr hrb hwb ⊢
        split at hob
        · next ms hms =>
          simp only [hms] at hr
          obtain ⟨-, hp, hq, hrx, hap⟩ := hob
          have hrr := hr _ (List.mem_singleton.2 rfl)
          dsimp only at hrr
          rw [hrx] at hrr
          have hv : a.eval x = .slice none 0 0 := d1 hp
          obtain ⟨v', W', G', k1, k2, k3, k4, k5, k6⟩ := core e ms (.slice none 0 0) 0 d [] [] hsl hms hq hv (World.ownsRow_nil _ _ _ _) rfl rfl (.inr ⟨hrr, rfl⟩) nofun DenL.nil hap
          simp only [List.nil_append, Nat.zero_add] at k5 k6
          exact ⟨v', W', G', _, k1, .inl rfl, k2, k3, k4, k5, nofun, fun p hp => by obtain rfl := List.mem_singleton.1 hp; exact k6⟩
        · exact hob.elim
      · simp only [if_true] at hob hr hrb hwb ⊢
        split at hob
        · next ms rb hms =>
          simp only [hms] at hrb hwb
          obtain ⟨-, hp, hq, hbx, hso, hap⟩ := hob
          have hbb := hwb _ (List.mem_singleton.2 rfl)
          dsimp only at hbb
          rw [hbx] at hbb
          have hv : a.eval x = .slice none 0 0 := d1 hp
          obtain ⟨v', W', G', k1, k2, k3, k4, k5, k6, -⟩ := coreX e ms rb (.slice none 0 0) 0 none [] [] hsl hms hrb hso hq hv (World.ownsRow_nil _ _ _ _) rfl hbb rfl nofun AL.nil hap
          simp only [List.nil_append, Nat.zero_add] at k5 k6
          exact ⟨v', W', G', _, k1, .inl rfl, k2, k3, k4, k5, fun p hp => by obtain rfl := List.mem_singleton.1 hp; exact k6, nofun⟩
        · exact hob.elim
    · next k n p e1 =>
      rw [e1] at d1
      simp only [e1] at hr hrb hwb
      split at hob
      · next ob ms rb hbk hms =>
        simp only [hbk, hms] at hrb hwb
        obtain ⟨-, hp, hq, hbx, hn, rfl, hK, hso, hap⟩ := hob
        have hbb := hwb _ List.mem_cons_self
        dsimp only at hbb
        rw [hbx] at hbb
        have hkk := hwb _ (List.mem_cons_of_mem _ List.mem_cons_self)
        dsimp only at hkk
        rw [hbk] at hkk
        have hne : k ≠ d := fun e => by rw [e, hbx] at hbk; cases hbk
        obtain ⟨u, us, f1, f2, f3, f4, f5⟩ := hkk
        obtain ⟨ad, N, c, g1, g2, g3, g4, he⟩ := d1 hp
        obtain rfl := Option.some.inj (f1.symm.trans g1)
        have f3 : W.ownsRow 0 ob.e ob.K (.slice ad N c) ob.l.length us := f3
        obtain ⟨a', c', e, -, -⟩ := own_form f3
        obtain ⟨-, hN, -⟩ := Value.slice.inj e
        rw [← hN] at f3 hn
        have hcut := own_cut f3 hn
        have hlen : (ob.l.take n).length = n := by rw [List.length_take]; omega
        have f5' : ∀ cs ∈ ob.l, cs.length = ob.K := by
          rcases f5 with ⟨b, e⟩ | f5
          · cases e
          · exact f5
        have hfl : (ob.l.take n).flatten = ob.l.flatten.take (n * ob.K) := by
          have h6 : ob.l.flatten = (ob.l.take n).flatten ++ (ob.l.drop n).flatten := by rw [← List.flatten_append, List.take_append_drop]
          rw [h6, List.take_left' (by rw [flatten_length (K := ob.K) (fun cs hc => f5' cs (List.mem_of_mem_take hc)), hlen])]
        obtain ⟨v', W', G', k1, k2, k3, k4, k5, k6, k7⟩ := coreX ob.e ms rb (a.eval x) n (some k) (ob.l.take n) (us.take (n * ob.K)) hsl hms hrb hso hq rfl (by rw [he, ← hK]; exact hcut) hlen hbb ⟨_, f1, f2, by rw [he]; cases ad <;> rfl⟩ (fun cs hc => by rw [← hK]; exact f5' cs (List.mem_of_mem_take hc)) (by rw [hfl]; exact AL.take f4 _) hap
        refine ⟨v', W', G', _, k1, .inl rfl, k2, k3, k4, k5, fun p hp => ?_, nofun⟩
        rcases List.mem_cons.1 hp with rfl | hp
        · exact k6
        · obtain rfl := List.mem_singleton.1 hp
          exact k7 k rfl hne
      · exact hob.elim
    · exact hob.elim
  · exact hob.elim
end
end Go.Proofs.Ytmngjifcgfnogaa.Dq
