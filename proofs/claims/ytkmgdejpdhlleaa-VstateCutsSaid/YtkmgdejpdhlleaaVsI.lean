/- A call that takes a row, a place, and a row of one element, and gives a row in the first one's block or in a new one: as CalM. No program in sight. -/
import Derived.Test.YtkmgdejpdhlleaaDqC
import Derived.Test.YtkmgdejpdhlleaaRk
namespace Go.Proofs.Ytkmgdejpdhlleaa
set_option linter.unusedSimpArgs false
set_option linter.unusedVariables false
set_option maxRecDepth 100000
open Go.RowKit
theorem zget {zc : Array Value} {K : Nat} {z : List Value} (h : zc.toList.take K = z) {j : Nat} {u : Value} (hu : z[j]? = some u) : zc[j]? = some u := by
  rw [← h, List.getElem?_take] at hu
  split at hu
  · simpa using hu
  · cases hu
theorem ext_bare (W : World) : Ext { W with heap := #[] } W := ⟨⟨W.heap.toList, W.drawn⟩, by unfold ext; simp⟩
namespace Dq
theorem D1L.cons_inv {G : Gh} {w : World} {x : S1} {l : List S1} {us : List Value} (h : D1L G w (x :: l) us) : ∃ u us', us = u :: us' ∧ D1 G w x u ∧ D1L G w l us' := by
  cases us with
  | nil => have := h.1; simp at this
  | cons u us' => exact ⟨u, us', rfl, h.2 0 x u rfl rfl, by simpa using h.1, fun j y v h1 h2 => h.2 (j + 1) y v (by simpa using h1) (by simpa using h2)⟩
theorem D1L.nil_inv {G : Gh} {w : World} {us : List Value} (h : D1L G w [] us) : us = [] := List.eq_nil_of_length_eq_zero h.1.symm
def anyN {α : Type} (P : α → Bool) : List α → Int
  | [] => -1
  | x :: l => if P x then 0 else if anyN P l < 0 then -1 else anyN P l + 1
theorem anyN_any {α : Type} (P : α → Bool) : ∀ l : List α, decide (anyN P l ≥ 0) = l.any P
  | [] => rfl
  | x :: l => by
    have ih := anyN_any P l
    rw [List.any_cons, ← ih, anyN]
    cases hx : P x
    · simp only [Bool.false_eq_true, if_false, Bool.false_or]
      split
      · next h => rw [decide_eq_false (by omega), decide_eq_false (by omega)]
      · next h => rw [decide_eq_true (by omega), decide_eq_true (by omega)]
    · simp
theorem anyN_at {α : Type} {P : α → Bool} : ∀ {l : List α} {j : Nat} {x : α}, l[j]? = some x → P x = true → (∀ (k : Nat) y, k < j → l[k]? = some y → P y = false) → anyN P l = j
  | [], j, x, h, _, _ => by simp at h
  | y :: l, 0, x, h, hp, _ => by
    obtain rfl : y = x := by simpa using h
    rw [anyN, if_pos hp]
    rfl
  | y :: l, j + 1, x, h, hp, hn => by
    have ih := anyN_at (l := l) (j := j) (by simpa using h) hp (fun k z hk hz => hn (k + 1) z (by omega) (by simpa using hz))
    rw [anyN, if_neg (by rw [hn 0 y (by omega) rfl]; decide), ih, if_neg (by omega)]
    omega
theorem anyN_no {α : Type} {P : α → Bool} : ∀ {l : List α}, (∀ (k : Nat) y, l[k]? = some y → P y = false) → anyN P l = -1
  | [], _ => rfl
  | y :: l, h => by
    rw [anyN, if_neg (by rw [h 0 y rfl]; decide), anyN_no (fun k z hz => h (k + 1) z (by simpa using hz)), if_pos (by omega)]
section
variable {M : Nat → Prop} {A0 : Pr} {G : Gh} {W : World}
/-- An object is used up: another one comes of it, in its block or in a new one. -/
theorem app_obj2 (hG : GOK M A0 G W) {W' : World} {k? : Option Nat} {v v' : Value} {d : Nat} {o : Ob} {us : List Value} (hβd : G.β d = none) (hk? : match k? with
      | some k => ∃ u, G.β k = some u ∧ ¬ G.dead k ∧ blk u = v.ownBlock
      | none => v.ownBlock = none)
    (hgr : W.grownBy W' v.ownBlock) (hcase : v.ownBlock = v'.ownBlock ∨ ∀ g, v'.ownBlock = some g → W.heap.size ≤ g)
    (hown : W'.ownsRow 0 o.e o.K v' o.l.length us) (hd : DenXL G W o.l.flatten us) (hK : ∀ cs ∈ o.l, cs.length = o.K) :
    GOK M A0 (cons1 k? G d v') W' ∧ Evo (d :: k?.toList) [] G W (cons1 k? G d v') W' ∧ Hb (cons1 k? G d v') W' d (some (some o)) ∧ D1 (cons1 k? G d v') W' (.c (.lk d o.l.length)) v' ∧ Chg M W W' := by
  have hsize : W.heap.size ≤ W'.heap.size := hgr.size
  have hblk : ∀ g, v.ownBlock = some g → ∃ k u, k? = some k ∧ G.β k = some u ∧ ¬ G.dead k ∧ blk u = some g := fun g hg => by
    cases k? with
    | none => rw [show v.ownBlock = none from hk?] at hg; cases hg
    | some k => obtain ⟨u, h1, h2, h3⟩ := hk?; exact ⟨k, u, rfl, h1, h2, h3.trans hg⟩
  have hM : ∀ g, v.ownBlock = some g → M g ∧ ∀ i, ¬ G.A g i := fun g hg => by
    obtain ⟨k, u, -, h1, h2, h3⟩ := hblk g hg
    exact (hG.box k u g h1 h3).2 h2
  have hheap : ∀ b, b < W.heap.size → v.ownBlock ≠ some b → W'.heap[b]? = W.heap[b]? := fun b hb hne => hgr.block b hb (fun e => hne e.symm)
  have hchg : Chg M W W' := Chg.grown hgr (fun k hk => (hM k hk).1)
  have hkeep : Kp G.A W W' := fun b i u hA hc => by
    rw [World.cell?_of_block (a := ⟨b, i, none⟩) (hheap b (hG.lt b i hA).1 (fun e => (hM b e).2 i hA))]
    exact hc
  have hvf := own_form hown
  have hvb : v'.ownBlock = blk v' := by obtain ⟨a, c, h, -⟩ := hvf; exact blk_of_own ⟨a, _, c, h⟩
  have hnew : ∀ g, blk v' = some g → v.ownBlock = some g ∨ W.heap.size ≤ g := fun g hgg => by
    rw [← hvb] at hgg
    rcases hcase with h | h
    · exact .inl (h.trans hgg)
    · exact .inr (h g hgg)
  have hβk : ∀ k u, G.β k = some u → (cons1 k? G d v').β k = some u := fun k u h => by
    show (if k = d then _ else _) = _
    rw [if_neg (fun e => by rw [e, hβd] at h; cases h)]
    exact h
  have hE : Evo (d :: k?.toList) [] G W (cons1 k? G d v') W' := by
    refine ⟨hkeep, fun _ _ h => h, hβk, fun k hk h => ?_, fun k hk => ?_, fun k u b hk h hnd hb => hheap b (hG.box k u b h hb).1 (fun e => ?_), fun t u K h => ⟨u, h, Nat.le_refl _, fun _ => rfl⟩, fun _ _ h => h, fun t u K _ h => ⟨h, fun g hg => hheap g (hG.row t u K g h hg).2.1 (fun e => ?_)⟩⟩
    · show (if k = d then _ else _) = _
      rw [if_neg (fun e => hk (by rw [e]; exact List.mem_cons_self))]
      exact h
    · have h1 : k ≠ d := fun e => hk (by rw [e]; exact List.mem_cons_self)
      have h2 : k? ≠ some k := fun e => hk (List.mem_cons_of_mem _ (by rw [e]; exact List.mem_singleton.2 rfl))
      exact ⟨fun h => h.2.resolve_left h2, fun h => ⟨h1, .inr h⟩⟩
    · obtain ⟨k', u', h1, h2, h3, h4⟩ := hblk b e
      have := hG.boxI k k' u u' b h h2 hb h4 hnd h3
      exact hk (List.mem_cons_of_mem _ (by rw [h1, this]; exact List.mem_singleton.2 rfl))
    · obtain ⟨k', u', h1, h2, h3, h4⟩ := hblk g e
      exact (hG.row t u K g h hg).2.2.1 k' u' h2 h3 h4
  refine ⟨⟨fun b hb => hG.fr b (Nat.le_trans hsize hb), fun b i h => ⟨Nat.lt_of_lt_of_le (hG.lt b i h).1 hsize, (hG.lt b i h).2⟩, ?_, ?_, ?_, hG.rowI⟩, hE, ⟨v', us, by show (if d = d then _ else _) = _; rw [if_pos rfl], fun h => h.1 rfl, ?_, hd.evo hE, .inr hK⟩, ?_, hchg⟩
  · intro k u b hk hb
    change (if k = d then _ else _) = _ at hk
    split at hk
    · obtain rfl := Option.some.inj hk
      refine ⟨(hown.lt b (hvb.trans hb)).2, fun _ => ?_⟩
      rcases hnew b hb with h | hbig
      · exact hM b h
      · exact ⟨hG.fr _ hbig, fun i hi => by have := (hG.lt _ i hi).1; omega⟩
    · next hkd =>
      obtain ⟨h1, h2⟩ := hG.box k u b hk hb
      exact ⟨Nat.lt_of_lt_of_le h1 hsize, fun hdd => h2 (fun h => hdd ⟨hkd, .inr h⟩)⟩
  · have old : ∀ k u b, k ≠ d → G.β k = some u → blk u = some b → blk v' = some b → ¬ (cons1 k? G d v').dead k → False := fun k u b hkd hk hb hb' hnd => by
      rcases hnew b hb' with h | hbig
      · obtain ⟨k', u', h1, h2, h3, h4⟩ := hblk b h
        have := hG.boxI k k' u u' b hk h2 hb h4 (fun h => hnd ⟨hkd, .inr h⟩) h3
        exact hnd ⟨hkd, .inl (by rw [this]; exact h1)⟩
      · have := (hG.box k u _ hk hb).1; omega
    intro k k' u u' b hk hk' hb hb' hdk hdk'
    change (if k = d then _ else _) = _ at hk
    change (if k' = d then _ else _) = _ at hk'
    split at hk <;> split at hk'
    · omega
    · next h1 h2 => obtain rfl := Option.some.inj hk; exact (old k' u' b h2 hk' hb' hb hdk').elim
    · next h1 h2 => obtain rfl := Option.some.inj hk'; exact (old k u b h1 hk hb hb' hdk).elim
    · next h1 h2 => exact hG.boxI k k' u u' b hk hk' hb hb' (fun h => hdk ⟨h1, .inr h⟩) (fun h => hdk' ⟨h2, .inr h⟩)
  · intro t u K g h1 h2
    obtain ⟨g1, g2, g3, g4⟩ := hG.row t u K g h1 h2
    refine ⟨g1, Nat.lt_of_lt_of_le g2 hsize, fun k z hk hnd hz => ?_, g4⟩
    change (if k = d then _ else _) = _ at hk
    split at hk
    · obtain rfl := Option.some.inj hk
      rcases hnew g hz with h | hbig
      · obtain ⟨k', u', h1', h2', h3, h4⟩ := hblk g h
        exact g3 k' u' h2' h3 h4
      · omega
    · next hkd => exact g3 k z hk (fun h => hnd ⟨hkd, .inr h⟩) hz
  · obtain ⟨a, c, hv, -⟩ := hvf
    subst hv
    exact hown
  · obtain ⟨a, c, hv, h1, h2⟩ := hvf
    exact ⟨a, _, c, by show (if d = d then _ else _) = _; rw [if_pos rfl, hv], Nat.le_refl _, h1, h2, hv⟩
variable {P : Program} {f : FuncId} {bx : Bt} {k q d n i e K : Nat} {ol pl : List (List D)}
theorem insM (hk : gb bx k = some (some ⟨e, K, ol⟩)) (hq : gb bx q = some (some ⟨e, K, pl⟩)) (hkq : k ≠ q) (hkd : k ≠ d) (hd : gb bx d = none) (hn : n ≤ ol.length) (hi : i ≤ n) (hp : 1 ≤ pl.length) (hK : 0 < K)
    (hc : ∀ (W : World) (l : List Value), (∀ u ∈ l, u.oneCell' = true) → ∀ (z : List Value), z.length = K → (∀ u ∈ z, u.oneCell' = true) → ∀ (a : Option Addr) (c vb cv : Nat) (zc : Array Value), W.ownsRow 0 e K (.slice a n c) n l → (Value.slice a n c).ownBlock ≠ some vb → zc.toList.take K = z → W.heap[vb]? = some (.cells zc e (0, 0)) →
      Calls P f #[.slice a n c, .int .i64 i, .slice (some ⟨vb, 0, none⟩) 1 cv] W fun r w' => ∃ b c', r = .returned (.slice b (n + 1) c') ∧ W.grownBy w' (Value.slice a n c).ownBlock ∧ w'.ownsRow 0 e K (.slice b (n + 1) c') (n + 1) (l.take (i * K) ++ z ++ l.drop (i * K)) ∧ ((Value.slice a n c).ownBlock = (Value.slice b (n + 1) c').ownBlock ∨ ∀ k, (Value.slice b (n + 1) c').ownBlock = some k → W.heap.size ≤ k)) :
    CalM P f [.c (.lk k n), .c (.int .i64 i), .c (.lk q 1)] bx ⟨.one (.c (.lk d (n + 1))), [q], [(d, some ⟨e, K, ol.take i ++ pl.take 1 ++ (ol.take n).drop i⟩), (k, none)]⟩ := by
  intro M A0 G W vs hG hda hrb hwb
  have hda : D1L G W [.c (.lk k n), .c (.int .i64 i), .c (.lk q 1)] vs := hda
  obtain ⟨v0, vs, rfl, d0, hda⟩ := hda.cons_inv
  obtain ⟨v1, vs, rfl, d1, hda⟩ := hda.cons_inv
  obtain ⟨v2, vs, rfl, d2, hda⟩ := hda.cons_inv
  obtain rfl := hda.nil_inv
  obtain rfl := D1_int d1
  have b0 := hwb _ (List.mem_cons_of_mem _ List.mem_cons_self)
  have b1 := hwb _ List.mem_cons_self
  have b2 := hrb q List.mem_cons_self
  dsimp only at b0 b1
  rw [hk] at b0
  rw [hd] at b1
  rw [hq] at b2
  obtain ⟨u, us, f1, f2, f3, f4, f5⟩ := b0
  obtain ⟨u', us', f1', f2', f3', f4', f5'⟩ := b2
  obtain ⟨ad, N, c, g1, g2, g3, g4, rfl⟩ := d0
  obtain ⟨ad', N', c', g1', g2', g3', g4', rfl⟩ := d2
  obtain rfl := Option.some.inj (f1.symm.trans g1)
  obtain rfl := Option.some.inj (f1'.symm.trans g1')
  have f3 : W.ownsRow 0 e K (.slice ad N c) ol.length us := f3
  have f3' : W.ownsRow 0 e K (.slice ad' N' c') pl.length us' := f3'
  have hKo : ∀ cs ∈ ol, cs.length = K := by
    rcases f5 with ⟨b, e⟩ | h
    · cases e
    · exact h
  have hKp : ∀ cs ∈ pl, cs.length = K := by
    rcases f5' with ⟨b, e⟩ | h
    · cases e
    · exact h
  obtain ⟨_, _, e0, -, -⟩ := own_form f3
  obtain ⟨-, hN, -⟩ := Value.slice.inj e0
  subst hN
  obtain ⟨vb, rfl⟩ : ∃ b, ad' = some ⟨b, 0, none⟩ := by
    rcases g4' with h | h
    · omega
    · exact h
  obtain ⟨zc, hzh, hzt⟩ : ∃ zc, W.heap[vb]? = some (.cells zc e (0, 0)) ∧ zc.toList.take (pl.length * K) = us' := by
    rcases f3'.2 with ⟨h, -⟩ | ⟨g, cap, cur, h1, h2, h3, h4, h5, h6, h7⟩
    · cases h
    · obtain ⟨ha, -, -⟩ := Value.slice.inj h1
      obtain rfl : vb = g := by simpa using ha
      exact ⟨cur, h3, h7⟩
  have hcut := own_cut f3 hn
  have hle : 1 * K ≤ pl.length * K := Nat.mul_le_mul_right K hp
  rw [Nat.one_mul] at hle
  have hz : zc.toList.take K = us'.take K := by rw [← hzt, List.take_take, Nat.min_eq_left hle]
  have hul' : us'.length = pl.length * K := f3'.1
  have hne : (Value.slice ad n c).ownBlock ≠ some vb := fun h => by
    cases ad with
    | none => cases h
    | some x =>
      have hb : blk (.slice (some x) ol.length c) = some vb := h
      exact hkq (hG.boxI k q _ _ vb f1 f1' hb rfl f2 f2')
  have hfo : ∀ m, m ≤ ol.length → ol.flatten.take (m * K) = (ol.take m).flatten := fun m hm => by
    have h6 : ol.flatten = (ol.take m).flatten ++ (ol.drop m).flatten := by rw [← List.flatten_append, List.take_append_drop]
    rw [h6, List.take_left' (by rw [flatten_length (K := K) (fun cs hc => hKo cs (List.mem_of_mem_take hc)), List.length_take, Nat.min_eq_left hm])]
  have hfp : pl.flatten.take K = (pl.take 1).flatten := by
    have h6 : pl.flatten = (pl.take 1).flatten ++ (pl.drop 1).flatten := by rw [← List.flatten_append, List.take_append_drop]
    rw [h6, List.take_left' (by rw [flatten_length (K := K) (fun cs hc => hKp cs (List.mem_of_mem_take hc)), List.length_take, Nat.min_eq_left hp, Nat.one_mul])]
  have dL : DenXL G W (ol.take n).flatten (us.take (n * K)) := by rw [← hfo n hn]; exact AL.take f4 _
  have dZ : DenXL G W (pl.take 1).flatten (us'.take K) := by rw [← hfp]; exact AL.take f4' _
  have hL1 : ((ol.take n).take i).flatten = (ol.take n).flatten.take (i * K) ∧ ((ol.take n).drop i).flatten = (ol.take n).flatten.drop (i * K) := by
    have h6 : (ol.take n).flatten = ((ol.take n).take i).flatten ++ ((ol.take n).drop i).flatten := by rw [← List.flatten_append, List.take_append_drop]
    have h7 : ((ol.take n).take i).flatten.length = i * K := by
      rw [flatten_length (K := K) (fun cs hc => hKo cs (List.mem_of_mem_take (List.mem_of_mem_take hc))), List.length_take, List.length_take, Nat.min_eq_left hn, Nat.min_eq_left hi]
    constructor
    · conv => rhs; rw [h6, List.take_left' h7]
    · conv => rhs; rw [h6, List.drop_left' h7]
  have htt : (ol.take n).take i = ol.take i := by rw [List.take_take, Nat.min_eq_left hi]
  rw [htt] at hL1
  refine (hc W (us.take (n * K)) (DenXL.one dL) (us'.take K) (by rw [List.length_take, hul', Nat.min_eq_left hle]) (DenXL.one dZ) ad c vb c' zc hcut hne hz hzh).mono ?_
  rintro r w' ⟨b, c2, rfl, hgr, hown, hat⟩
  have hlen : (ol.take i ++ pl.take 1 ++ (ol.take n).drop i).length = n + 1 := by
    simp only [List.length_append, List.length_take, List.length_drop]
    omega
  obtain ⟨m1, m2, m3, m4, m5⟩ := app_obj2 hG (W' := w') (k? := some k) (v := .slice ad n c) (v' := .slice b (n + 1) c2) (d := d) (o := ⟨e, K, ol.take i ++ pl.take 1 ++ (ol.take n).drop i⟩) (us := (us.take (n * K)).take (i * K) ++ us'.take K ++ (us.take (n * K)).drop (i * K)) b1 ⟨_, f1, f2, by cases ad <;> rfl⟩ hgr hat (by dsimp only; rw [hlen]; exact hown)
    (by
      dsimp only
      rw [List.flatten_append, List.flatten_append, hL1.1, hL1.2]
      exact AL.append (AL.append (AL.take dL _) dZ) (AL.drop dL _))
    (fun cs hc => by
      rcases List.mem_append.1 hc with h | h
      · rcases List.mem_append.1 h with h | h
        · exact hKo cs (List.mem_of_mem_take h)
        · exact hKp cs (List.mem_of_mem_take h)
      · exact hKo cs (List.mem_of_mem_take (List.mem_of_mem_drop h)))
  dsimp only at m4
  rw [hlen] at m4
  refine ⟨_, _, rfl, m1, m5, m2, m4, fun p hp => ?_⟩
  rcases List.mem_cons.1 hp with rfl | hp
  · exact m3
  · obtain rfl := List.mem_singleton.1 hp
    exact ⟨_, by show (if k = d then _ else _) = _; rw [if_neg hkd]; exact f1, hkd, .inl rfl⟩
end
end Dq
end Go.Proofs.Ytkmgdejpdhlleaa
