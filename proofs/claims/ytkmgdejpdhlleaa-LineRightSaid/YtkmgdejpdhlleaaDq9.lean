/- Deep values: a region that draws its order. No program in sight. -/
import Derived.Test.YtkmgdejpdhlleaaDq6
namespace Go.Proofs.Ytkmgdejpdhlleaa.Dq
set_option linter.unusedSimpArgs false
set_option linter.unusedVariables false
set_option maxRecDepth 100000
open Go.RowKit

/-- i comes up ahead of j. -/
inductive Bf (ops : Array Oper) : Nat → Nat → Prop
  | one {i j : Nat} {o : Oper} {e : Edge} (ho : ops[j]? = some o) (he : e ∈ o.after) (hb : Region.binds .any e = true) (hi : e.on = i) : Bf ops i j
  | more {i j : Nat} {o : Oper} {e : Edge} (ho : ops[j]? = some o) (he : e ∈ o.after) (hb : Region.binds .any e = true) (hi : Bf ops i e.on) : Bf ops i j
theorem Bf.lt {ops : Array Oper} (hac : acyc .any ops = true) {i j : Nat} (h : Bf ops i j) : i < j := by
  induction h with
  | one ho he hb hi => subst hi; exact acyc_spec hac ho he hb
  | more ho he hb hi ih => exact Nat.lt_trans ih (acyc_spec hac ho he hb)
def ClL (ops : Array Oper) (L : Nat → Bool) : Prop := ∀ i o, ops[i]? = some o → L i = true → ∀ e ∈ o.after, Region.binds .any e = true → L e.on = true
theorem Bf.cl {ops : Array Oper} {L : Nat → Bool} (hL : ClL ops L) {i j : Nat} (h : Bf ops i j) (hj : L j = true) : L i = true := by
  induction h with
  | one ho he hb hi => subst hi; exact hL _ _ ho hj _ he hb
  | more ho he hb hi ih => exact ih (hL _ _ ho hj _ he hb)
def mask (acc : List Nat) : List Edge → Nat
  | [] => 0
  | e :: es => if Region.binds .any e then 2 ^ e.on ||| (acc[e.on]?).getD 0 ||| mask acc es else mask acc es
def bms (acc : List Nat) : List Oper → List Nat
  | [] => acc
  | o :: rest => bms (acc ++ [mask acc o.after.toList]) rest
theorem mask_ok {ops : Array Oper} {acc : List Nat} {j : Nat} {o : Oper} (ho : ops[j]? = some o) (hacc : ∀ j' m i, acc[j']? = some m → m.testBit i = true → Bf ops i j') : ∀ (es : List Edge), (∀ e ∈ es, e ∈ o.after) → ∀ i, (mask acc es).testBit i = true → Bf ops i j
  | [], _, i, h => by simp [mask] at h
  | e :: es, hm, i, h => by
    unfold mask at h
    split at h
    · next hb =>
      rw [Nat.testBit_or, Nat.testBit_or, Bool.or_eq_true, Bool.or_eq_true] at h
      rcases h with (h | h) | h
      · rw [Nat.testBit_two_pow] at h
        exact .one ho (hm e List.mem_cons_self) hb (of_decide_eq_true h)
      · cases hm' : acc[e.on]? with
        | none => rw [hm'] at h; simp at h
        | some m => rw [hm'] at h; exact .more ho (hm e List.mem_cons_self) hb (hacc _ m i hm' h)
      · exact mask_ok ho hacc es (fun e' he' => hm e' (List.mem_cons_of_mem _ he')) i h
    · exact mask_ok ho hacc es (fun e' he' => hm e' (List.mem_cons_of_mem _ he')) i h
theorem bms_ok {ops : Array Oper} : ∀ (rest : List Oper) (acc : List Nat), (∀ k o, rest[k]? = some o → ops[acc.length + k]? = some o) → (∀ j m i, acc[j]? = some m → m.testBit i = true → Bf ops i j) → ∀ j m i, (bms acc rest)[j]? = some m → m.testBit i = true → Bf ops i j
  | [], acc, _, hacc, j, m, i, h, h' => hacc j m i h h'
  | o :: rest, acc, hr, hacc, j, m, i, h, h' => by
    unfold bms at h
    refine bms_ok rest _ (fun k o' hk => ?_) (fun j' m' i' g g' => ?_) j m i h h'
    · rw [List.length_append, List.length_singleton, Nat.add_assoc, Nat.add_comm 1 k]
      exact hr (k + 1) o' (by simpa using hk)
    · by_cases hj : j' < acc.length
      · rw [List.getElem?_append_left hj] at g
        exact hacc j' m' i' g g'
      · rw [List.getElem?_append_right (by omega)] at g
        have hlt := (List.getElem?_eq_some_iff.1 g).1
        have : j' = acc.length := by simp at hlt; omega
        subst this
        obtain rfl : mask acc o.after.toList = m' := by simpa using g
        exact mask_ok (hr 0 o rfl) hacc o.after.toList (fun e he => by simpa using he) i' g'
/-- What an operation reads and writes: slots, boxes, rows. -/
structure Ft where
  dst : Option Nat
  ls : List Nat
  rb : List Nat
  wb : List Nat
  wr : List Nat
def hits (x y : Ft) : Bool := (match x.dst with
    | some d => y.ls.contains d || y.dst == some d
    | none => false) || x.wb.any (fun k => y.rb.contains k || y.wb.contains k) || x.wr.any (fun k => y.wr.contains k)
def pairs (m : List Nat) (x : Ft) (i : Nat) : Nat → List Ft → Bool
  | _, [] => true
  | j, y :: ys => (!(hits x y || hits y x) || ((m[j]?).getD 0).testBit i) && pairs m x i (j + 1) ys
def confs (m : List Nat) : Nat → List Ft → Bool
  | _, [] => true
  | i, x :: xs => pairs m x i (i + 1) xs && confs m (i + 1) xs
theorem pairs_ok {m : List Nat} {x : Ft} {i : Nat} : ∀ {ys : List Ft} {j : Nat}, pairs m x i j ys = true → ∀ k y, ys[k]? = some y → (hits x y = true ∨ hits y x = true) → ((m[j + k]?).getD 0).testBit i = true
  | [], _, _, k, y, h, _ => by simp at h
  | z :: ys, j, hp, k, y, h, hh => by
    unfold pairs at hp
    rw [Bool.and_eq_true] at hp
    cases k with
    | zero =>
      obtain rfl : z = y := by simpa using h
      have h1 := hp.1
      rw [Bool.or_eq_true] at h1
      rcases h1 with h1 | h1
      · rcases hh with hh | hh <;> simp [hh] at h1
      · exact h1
    | succ k =>
      have := pairs_ok hp.2 k y (by simpa using h) hh
      rwa [show j + 1 + k = j + (k + 1) by omega] at this
theorem confs_ok {m : List Nat} : ∀ {xs : List Ft} {n : Nat}, confs m n xs = true → ∀ i j x y, i < j → xs[i]? = some x → xs[j]? = some y → (hits x y = true ∨ hits y x = true) → ((m[n + j]?).getD 0).testBit (n + i) = true
  | [], _, _, i, j, x, y, _, h, _, _ => by simp at h
  | z :: xs, n, hc, i, j, x, y, hij, hx, hy, hh => by
    unfold confs at hc
    rw [Bool.and_eq_true] at hc
    cases j with
    | zero => omega
    | succ j =>
      cases i with
      | zero =>
        obtain rfl : z = x := by simpa using hx
        have := pairs_ok hc.1 j y (by simpa using hy) hh
        rwa [show n + 1 + j = n + (j + 1) by omega] at this
      | succ i =>
        have := confs_ok (n := n + 1) hc.2 i j x y (by omega) (by simpa using hx) (by simpa using hy) hh
        rwa [show n + 1 + j = n + (j + 1) by omega, show n + 1 + i = n + (i + 1) by omega] at this
def ftOf (ops : Array Oper) (o : Oper) (e : Ev) : Ft := ⟨o.dst, lookO ops o, e.rb, e.wb.map (·.1), e.wr.map (·.1)⟩
/-- A region that draws its order. -/
def wpD (P : Program) (Γ : Cx) (ops : Array Oper) : List Oper → St → List Ft → (St → Prop) → Prop
  | [], σ, fs, K => confs (bms [] ops.toList) 0 fs.reverse = true ∧ K σ
  | o :: rest, σ, fs, K => obl P Γ ops σ o ∧ wpD P Γ ops rest (nx P Γ ops σ o) (ftOf ops o (evO P Γ ops σ o) :: fs) K
section
variable {P : Program} {Γ : Cx} {ops : Array Oper}
def stAt (P : Program) (Γ : Cx) (ops : Array Oper) (σ : St) : Nat → St
  | 0 => σ
  | i + 1 => match ops[i]? with
    | some o => nx P Γ ops (stAt P Γ ops σ i) o
    | none => stAt P Γ ops σ i
theorem wpD_all {K : St → Prop} {σ0 : St} : ∀ (rest : List Oper) (i : Nat) (fs : List Ft), (∀ k o, rest[k]? = some o → ops[i + k]? = some o) → i + rest.length = ops.size → fs.length = i → (∀ k f, fs.reverse[k]? = some f → ∃ o, ops[k]? = some o ∧ f = ftOf ops o (evO P Γ ops (stAt P Γ ops σ0 k) o) ∧ obl P Γ ops (stAt P Γ ops σ0 k) o) → wpD P Γ ops rest (stAt P Γ ops σ0 i) fs K →
    ∃ fs : List Ft, fs.length = ops.size ∧ confs (bms [] ops.toList) 0 fs = true ∧ K (stAt P Γ ops σ0 ops.size) ∧ ∀ k f, fs[k]? = some f → ∃ o, ops[k]? = some o ∧ f = ftOf ops o (evO P Γ ops (stAt P Γ ops σ0 k) o) ∧ obl P Γ ops (stAt P Γ ops σ0 k) o
  | [], i, fs, hr, hl, hfl, hfs, h => by
    obtain rfl : i = ops.size := by simpa using hl
    exact ⟨fs.reverse, by simp [hfl], h.1, h.2, hfs⟩
  | o :: rest, i, fs, hr, hl, hfl, hfs, h => by
    obtain ⟨hob, hrest⟩ := h
    have ho := hr 0 o rfl
    have hst : stAt P Γ ops σ0 (i + 1) = nx P Γ ops (stAt P Γ ops σ0 i) o := by
      simp only [stAt]
      rw [show ops[i]? = some o from ho]
    refine wpD_all rest (i + 1) (ftOf ops o (evO P Γ ops (stAt P Γ ops σ0 i) o) :: fs) (fun k o' hk => ?_) (by simp at hl; omega) (by simp [hfl]) (fun k f hk => ?_) (by rw [hst]; exact hrest)
    · rw [show i + 1 + k = i + (k + 1) by omega]
      exact hr (k + 1) o' (by simpa using hk)
    · rw [List.reverse_cons] at hk
      by_cases hkl : k < fs.length
      · rw [List.getElem?_append_left (by simpa using hkl)] at hk
        exact hfs k f hk
      · rw [List.getElem?_append_right (by simpa using hkl)] at hk
        have hlt := (List.getElem?_eq_some_iff.1 hk).1
        have hki : k = i := by simp at hlt hkl; omega
        subst hki
        obtain rfl : ftOf ops o (evO P Γ ops (stAt P Γ ops σ0 k) o) = f := by simpa [hfl] using hk
        exact ⟨o, ho, rfl, hob⟩
/-- Places. -/
inductive Pl where
  | s (t : Nat)
  | b (k : Nat)
  | r (t : Nat)
def writes (f : Ft) : Pl → Prop
  | .s t => f.dst = some t
  | .b k => k ∈ f.wb
  | .r t => t ∈ f.wr
def reads (f : Ft) : Pl → Prop
  | .s t => t ∈ f.ls
  | .b k => k ∈ f.rb
  | .r _ => False
theorem hits_of {x y : Ft} {p : Pl} (h : writes x p) (h' : reads y p ∨ writes y p) : hits x y = true := by
  unfold hits
  cases p with
  | s t =>
    simp only [writes, reads] at h h'
    rw [h]
    dsimp only
    rcases h' with h' | h'
    · rw [show y.ls.contains t = true from by simpa using h']; rfl
    · rw [h']; simp
  | b k =>
    simp only [writes, reads] at h h'
    have : x.wb.any (fun k => y.rb.contains k || y.wb.contains k) = true := by
      rw [List.any_eq_true]
      refine ⟨k, h, ?_⟩
      rcases h' with h' | h'
      · simp [h']
      · simp [h']
    rw [this]
    simp
  | r t =>
    simp only [writes, reads] at h h'
    rcases h' with h' | h'
    · exact h'.elim
    · have : x.wr.any (fun k => y.wr.contains k) = true := by
        rw [List.any_eq_true]
        exact ⟨t, h, by simpa using h'⟩
      rw [this]
      simp
def same (σ σ' : St) : Pl → Prop
  | .s t => gs σ.s t = gs σ'.s t
  | .b k => gb σ.b k = gb σ'.b k
  | .r t => gb σ.r t = gb σ'.r t
theorem nx_same {σ : St} {o : Oper} {p : Pl} (h : ¬ writes (ftOf ops o (evO P Γ ops σ o)) p) : same (nx P Γ ops σ o) σ p := by
  cases p with
  | s t =>
    simp only [writes, ftOf] at h
    unfold nx same
    dsimp only
    cases hd : o.dst with
    | none => rfl
    | some d =>
      dsimp only
      unfold gs
      rw [if_neg (fun e => h (by rw [hd, e]))]
      cases σ.s <;> rfl
  | b k => unfold nx same; dsimp only; rw [gb_app, gb_none h]
  | r t => unfold nx same; dsimp only; rw [gb_app, gb_none h]
theorem same_trans {a b c : St} {p : Pl} (h : same a b p) (k : same b c p) : same a c p := by cases p <;> exact h.trans k
theorem same_symm {a b : St} {p : Pl} (h : same a b p) : same b a p := by cases p <;> exact h.symm
theorem same_refl (a : St) (p : Pl) : same a a p := by cases p <;> rfl
def HoldsP (G : Gh) (a : Act) (W : World) (σ : St) : Pl → Prop
  | .s t => Hs G W (gs σ.s t) (V a t)
  | .b k => Hb G W k (gb σ.b k)
  | .r t => Hr G W t (gb σ.r t)
theorem HoldsP.same {G : Gh} {a : Act} {W : World} {σ σ' : St} {p : Pl} (h : HoldsP G a W σ p) (hs : Dq.same σ σ' p) : HoldsP G a W σ' p := by
  cases p with
  | s t => show Hs G W (gs σ'.s t) (V a t); rw [← show gs σ.s t = gs σ'.s t from hs]; exact h
  | b k => show Hb G W k (gb σ'.b k); rw [← show gb σ.b k = gb σ'.b k from hs]; exact h
  | r t => show Hr G W t (gb σ'.r t); rw [← show gb σ.r t = gb σ'.r t from hs]; exact h
set_option maxHeartbeats 1000000 in
theorem drawn_ok {M : Nat → Prop} {A0 : Pr} {w0 : World} {id : Nat} {Q : Exit → Act → World → Prop} {N : Nat} {df : Fx} {K : St → Prop} {σ : St} {G : Gh} {a : Act} {W : World} (hΓ : Snd P Γ) (hfit : fits ops N = true) (hm : P.follows .mixedOrders = true) (hac : acyc .any ops = true)
    (h : wpD P Γ ops ops.toList σ [] K) (hR : RR M A0 w0 N df G σ a W) (hK : ∀ σ G a W, K σ → RR M A0 w0 N df G σ a W → Q .normal a W) : (Code.region id ops true).wp P Q a W := by
  obtain ⟨fs, hfl, hconf, hend, hfs⟩ := wpD_all (P := P) (Γ := Γ) (ops := ops) (σ0 := σ) ops.toList 0 [] (fun k o hk => by simpa using hk) (by simp) rfl (fun k f hk => by simp at hk) h
  obtain ⟨S, hS⟩ : ∃ S, S = stAt P Γ ops σ := ⟨_, rfl⟩
  rw [← hS] at hend hfs
  have hS0 : S 0 = σ := by rw [hS]; rfl
  have hfget : ∀ {i : Nat} {o : Oper}, ops[i]? = some o → fs[i]? = some (ftOf ops o (evO P Γ ops (S i) o)) ∧ obl P Γ ops (S i) o ∧ S (i + 1) = nx P Γ ops (S i) o := fun {i o} ho => by
    have hlt : i < fs.length := by rw [hfl]; exact (Array.getElem?_eq_some_iff.1 ho).1
    obtain ⟨o', ho', he, hob⟩ := hfs i _ (List.getElem?_eq_getElem hlt)
    obtain rfl : o = o' := Option.some.inj (ho.symm.trans ho')
    refine ⟨by rw [← he]; exact List.getElem?_eq_getElem hlt, hob, ?_⟩
    rw [hS]
    simp only [stAt]
    rw [ho]
  -- of two that meet in a place one comes up ahead
  have bm : ∀ i j, i < j → ∀ f f' p, fs[i]? = some f → fs[j]? = some f' → ((writes f p ∧ (reads f' p ∨ writes f' p)) ∨ (writes f' p ∧ (reads f p ∨ writes f p))) → Bf ops i j := by
    intro i j hij f f' p hi hj hh
    have h1 := confs_ok (n := 0) hconf i j f f' hij hi hj (hh.imp (fun h => hits_of h.1 h.2) (fun h => hits_of h.1 h.2))
    rw [Nat.zero_add, Nat.zero_add] at h1
    cases hm' : (bms [] ops.toList)[j]? with
    | none => rw [hm'] at h1; simp at h1
    | some m =>
      rw [hm'] at h1
      exact bms_ok ops.toList [] (fun k o hk => by simpa using hk) (fun j m i h => by simp at h) j m i hm' h1
  have stay : ∀ (p : Pl) (n i : Nat), i + n ≤ ops.size → (∀ j f, i ≤ j → j < i + n → fs[j]? = some f → ¬ writes f p) → same (S (i + n)) (S i) p := by
    intro p n
    induction n with
    | zero => intro i _ _; exact same_refl _ _
    | succ n ih =>
      intro i hle hno
      have hlt : i + n < ops.size := by omega
      obtain ⟨h1, -, h3⟩ := hfget (i := i + n) (Array.getElem?_eq_getElem hlt)
      rw [← Nat.add_assoc, h3]
      exact same_trans (nx_same (hno (i + n) _ (by omega) (by omega) h1)) (ih i (by omega) (fun j f h h' => hno j f h (by omega)))
  refine wp_region_inv (fun L a W => ∃ G, GOK M A0 G W ∧ Chg M w0 W ∧ a.tmps.size = N ∧ a.defers = df.df ∧ (∀ k u, df.β0 k = some u → (4000 ≤ k ∧ k < 5000) ∧ G.β k = some u) ∧ ClL ops L ∧ ∀ p i, i ≤ ops.size → (∀ j f, fs[j]? = some f → writes f p → (L j = true ↔ j < i)) → HoldsP G a W (S i) p) hm hac ?_ ?_ ?_
  · have hxd : Ext W W.drew := (Ext.refl W).drew
    have hE := Evo.ext hR.ok hxd
    refine ⟨G, hR.ok.ext hxd, hR.ext.on hxd, hR.size, hR.df, hR.p, fun i o _ h => (by cases h), fun p i hi hno => ?_⟩
    have hsm := stay p i 0 (by omega) (fun j f _ hj hf hwr => by
      have := (hno j f hf hwr).2 (by omega)
      cases this)
    rw [Nat.zero_add, hS0] at hsm
    refine HoldsP.same (σ := σ) ?_ (same_symm hsm)
    cases p with
    | s t => exact (hR.s t).evo hE
    | b k => exact (hR.b k).evo hE (by simp)
    | r t => exact (hR.r t).evo hE (by simp)
  · rintro i o ho L a W hLi hdeps ⟨G, hG, hx, hsz, hdf, hpr, hcl, hP⟩ K' hK'
    have hlt := (Array.getElem?_eq_some_iff.1 ho).1
    obtain ⟨hfi, hob, hSi⟩ := hfget ho
    have ahead : ∀ j, Bf ops j i → L j = true := fun j hj => by
      cases hj with
      | one ho' he hb hi =>
        obtain rfl := Option.some.inj (ho.symm.trans ho')
        subst hi
        exact hdeps _ he hb
      | more ho' he hb hi =>
        obtain rfl := Option.some.inj (ho.symm.trans ho')
        exact hi.cl hcl (hdeps _ he hb)
    have here : ∀ p, (reads (ftOf ops o (evO P Γ ops (S i) o)) p ∨ writes (ftOf ops o (evO P Γ ops (S i) o)) p) → HoldsP G a W (S i) p := by
      intro p hp
      refine hP p i (Nat.le_of_lt hlt) (fun j f hf hwj => ?_)
      rcases Nat.lt_trichotomy j i with hji | rfl | hji
      · have := ahead j (bm j i hji _ _ p hf hfi (.inl ⟨hwj, hp⟩))
        exact ⟨fun _ => hji, fun _ => this⟩
      · exact ⟨fun h => (by rw [hLi] at h; cases h), fun h => absurd h (Nat.lt_irrefl _)⟩
      · have hb := bm i j hji _ _ p hfi hf (.inr ⟨hwj, hp⟩)
        exact ⟨fun h => (by rw [hb.cl hcl h] at hLi; cases hLi), fun h => by omega⟩
    have hdl : ∀ d, o.dst = some d → d < a.tmps.size := fun d hd => by
      unfold fits at hfit
      rw [List.all_eq_true] at hfit
      have := hfit o (Array.mem_toList_iff.2 (Array.mem_of_getElem? ho))
      rw [hd] at this
      rw [hsz]
      simpa using this
    refine step_ok (o := o) (a := a) (σ := S i) (ops := ops) hΓ hG hx (fun t ht => here (.s t) (.inl ht)) (fun k hk => here (.b k) (.inl hk)) (fun p hp => here (.b p.1) (.inr (List.mem_map.2 ⟨p, hp, rfl⟩))) (fun p hp => here (.r p.1) (.inr (List.mem_map.2 ⟨p, hp, rfl⟩))) hob K' Q (fun v W' G' k1 k2 k3 k4 k5 k6 => hK' _ _ ⟨G', k1, k2, ?_, ?_, fun k u h => ⟨(hpr k u h).1, k3.β _ _ (hpr k u h).2⟩, ?_, ?_⟩)
    · rw [← hsz]; cases o.dst <;> simp [Act.put]
    · rw [← hdf]; cases o.dst <;> rfl
    · intro i' o' ho' hl e he hb
      unfold upd at hl ⊢
      split at hl
      · next hii =>
        subst hii
        obtain rfl := Option.some.inj (ho.symm.trans ho')
        split
        · rfl
        · exact hdeps _ he hb
      · split
        · rfl
        · exact hcl i' o' ho' hl e he hb
    · intro p i' hi' hL'
      by_cases hwp : writes (ftOf ops o (evO P Γ ops (S i) o)) p
      · have hii : i < i' := (hL' i _ hfi hwp).1 (by unfold upd; rw [if_pos rfl])
        have hsm := stay p (i' - (i + 1)) (i + 1) (by omega) (fun j f hj hj' hf hwj => by
          have hlj := (hL' j f hf hwj).2 (by omega)
          unfold upd at hlj
          rw [if_neg (by omega)] at hlj
          have hb := bm i j (by omega) _ _ p hfi hf (.inl ⟨hwp, .inr hwj⟩)
          rw [hb.cl hcl hlj] at hLi
          cases hLi)
        rw [show i + 1 + (i' - (i + 1)) = i' by omega, hSi] at hsm
        refine HoldsP.same ?_ (same_symm hsm)
        cases p with
        | s t =>
          simp only [writes, ftOf] at hwp
          show Hs G' W' (gs (nx P Γ ops (S i) o).s t) (V (a.put o.dst v) t)
          unfold nx
          rw [hwp] at hdl ⊢
          dsimp only
          rw [V_put (hdl t rfl), if_pos rfl]
          unfold gs
          rw [if_pos rfl]
          exact k4
        | b k =>
          show Hb G' W' k (gb (nx P Γ ops (S i) o).b k)
          obtain ⟨x, h1, h2⟩ := gb_some (show k ∈ (evO P Γ ops (S i) o).wb.map (·.1) from hwp)
          unfold nx
          dsimp only
          rw [gb_app, h1]
          exact k5 _ h2
        | r t =>
          show Hr G' W' t (gb (nx P Γ ops (S i) o).r t)
          obtain ⟨x, h1, h2⟩ := gb_some (show t ∈ (evO P Γ ops (S i) o).wr.map (·.1) from hwp)
          unfold nx
          dsimp only
          rw [gb_app, h1]
          exact k6 _ h2
      · have hold := hP p i' hi' (fun j f hf hwj => by
          have := hL' j f hf hwj
          unfold upd at this
          rwa [if_neg (fun e => by subst e; rw [hfi] at hf; obtain rfl := Option.some.inj hf; exact hwp hwj)] at this)
        cases p with
        | s t =>
          have h1 := Hs.evo (show Hs G W (gs (S i').s t) (V a t) from hold) k3
          show Hs G' W' (gs (S i').s t) (V (a.put o.dst v) t)
          cases hd : o.dst with
          | none => exact h1
          | some d =>
            rw [V_put (hdl d hd), if_neg (fun e => hwp (by simp only [writes, ftOf]; rw [hd, e]))]
            exact h1
        | b k => exact Hb.evo (show Hb G W k (gb (S i').b k) from hold) k3 hwp
        | r t => exact Hr.evo (show Hr G W t (gb (S i').r t) from hold) k3 hwp
  · rintro L a W hall ⟨G, hG, hx, hsz, hdf, hpr, hcl, hP⟩
    have hfin : ∀ p, HoldsP G a W (S ops.size) p := fun p => hP p ops.size (Nat.le_refl _) (fun j f hf _ => by
      have hlt : j < ops.size := by rw [← hfl]; exact (List.getElem?_eq_some_iff.1 hf).1
      exact ⟨fun _ => hlt, fun _ => hall j hlt⟩)
    exact hK _ G a W hend ⟨hG, hx, hsz, hdf, fun t => hfin (.s t), fun k => hfin (.b k), fun t => hfin (.r t), hpr⟩
end
end Go.Proofs.Ytkmgdejpdhlleaa.Dq
