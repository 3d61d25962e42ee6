/- Frames that differ in few slots only. No program in sight. -/
import Derived.Test.YtkmgdejpdhlleaaInv
namespace Go.Proofs.Ytkmgdejpdhlleaa
set_option linter.unusedSimpArgs false
set_option linter.unusedVariables false
set_option maxRecDepth 100000
open Go

/-- The region numbered n of a body. -/
def regOf (n : Nat) : Code → Option (Array Oper)
  | .region id ops _ => if id = n then some ops else none
  | .seq a b => match regOf n a with
    | some c => some c
    | none => regOf n b
  | .block _ c => regOf n c
  | .scope c => regOf n c
  | .loop c => regOf n c
  | .cond _ a b => match regOf n a with
    | some c => some c
    | none => regOf n b
  | _ => none
/-- All slots but those of ts are as they were. -/
structure Near (ts : List Nat) (a0 a : Act) : Prop where
  size : a.tmps.size = a0.tmps.size
  defers : a.defers = a0.defers
  out : ∀ t, t ∉ ts → a.eval (.tmp t) = a0.eval (.tmp t)
theorem Near.refl (ts : List Nat) (a : Act) : Near ts a a := ⟨rfl, rfl, fun _ _ => rfl⟩
theorem eval_same {a : Act} {t : Nat} {v : Value} (h : t < a.tmps.size) : (a.put (some t) v).eval (.tmp t) = v := by
  simp [Act.eval, Act.put, h]
theorem eval_ne {a : Act} {t d : Nat} {v : Value} (h : t ≠ d) : (a.put (some d) v).eval (.tmp t) = a.eval (.tmp t) := by
  simp [Act.eval, Act.put, Array.getElem?_setIfInBounds_ne (Ne.symm h)]
theorem Near.put {ts : List Nat} {a0 a : Act} (h : Near ts a0 a) {t : Nat} (ht : t ∈ ts) (v : Value) : Near ts a0 (a.put (some t) v) :=
  ⟨by simp [Act.put, h.size], h.defers, fun u hu => (eval_ne (fun e : u = t => hu (by rw [e]; exact ht))).trans (h.out u hu)⟩
def puts (a0 : Act) (V : Nat → Value) (ts : List Nat) : Act := ts.foldl (fun b t => b.put (some t) (V t)) a0
theorem puts_near (V : Nat → Value) : ∀ (ts : List Nat) (a0 : Act), Near ts a0 (puts a0 V ts) ∧ ∀ t ∈ ts, t < a0.tmps.size → (puts a0 V ts).eval (.tmp t) = V t
  | [], a0 => ⟨Near.refl _ _, fun t h => by cases h⟩
  | t :: ts, a0 => by
    obtain ⟨h1, h2⟩ := puts_near V ts (a0.put (some t) (V t))
    have hs : (a0.put (some t) (V t)).tmps.size = a0.tmps.size := by simp [Act.put]
    refine ⟨⟨h1.size.trans hs, h1.defers, fun u hu => ?_⟩, fun u hu hlt => ?_⟩
    · have := h1.out u (fun h => hu (List.mem_cons_of_mem _ h))
      exact this.trans (eval_ne (fun e : u = t => hu (by rw [e]; exact List.mem_cons_self ..)))
    · by_cases hm : u ∈ ts
      · exact h2 u hm (by rw [hs]; exact hlt)
      · rcases List.mem_cons.1 hu with rfl | h
        · exact (h1.out u hm).trans (eval_same hlt)
        · exact absurd h hm
theorem act_ext {a b : Act} (h1 : a.tmps.size = b.tmps.size) (h2 : a.defers = b.defers) (h3 : ∀ t, t < b.tmps.size → a.eval (.tmp t) = b.eval (.tmp t)) : a = b := by
  obtain ⟨x, d⟩ := a
  obtain ⟨y, e⟩ := b
  obtain rfl : d = e := h2
  congr 1
  apply Array.ext h1
  intro i hi hj
  have := h3 i hj
  simp only [Act.eval] at this
  simp at h1
  simpa [hi, hj] using this
theorem Near.eq {ts : List Nat} {a0 a : Act} (h : Near ts a0 a) : a = puts a0 (fun t => a.eval (.tmp t)) ts := by
  obtain ⟨h1, h2⟩ := puts_near (fun t => a.eval (.tmp t)) ts a0
  refine act_ext (h.size.trans h1.size.symm) (h.defers.trans h1.defers.symm) (fun t ht => ?_)
  by_cases hm : t ∈ ts
  · exact (h2 t hm (by rw [← h1.size]; exact ht)).symm
  · rw [h.out t hm, h1.out t hm]
/-- What a slot holds. -/
def V (a : Act) (t : Nat) : Value := a.tmps[t]?.getD undef
theorem V_eval (a : Act) (t : Nat) : a.eval (.tmp t) = V a t := by simp [Act.eval, V]
theorem V_put {a : Act} {d t : Nat} {v : Value} (h : d < a.tmps.size) : V (a.put (some d) v) t = if t = d then v else V a t := by
  rw [← V_eval, ← V_eval]
  split
  · next e => subst e; exact eval_same h
  · next e => exact eval_ne e
theorem V_lit {a : Act} {d : Nat} (h : d < a.tmps.size) (t : Nat) (v : Value) : V ⟨a.tmps.setIfInBounds d v, a.defers⟩ t = if t = d then v else V a t := V_put (a := a) h
def depsOf (o : Oper) : List Nat := (o.after.toList.filter (Region.binds .any)).map Edge.on
def noGuard (ops : Array Oper) : Bool := ops.all fun o => o.guard.isNone
/-- The law for a region without guards, what must have come up as a list. -/
theorem wp_region_inv2 {P : Program} {ops : Array Oper} {Q : Exit → Act → World → Prop} {id : Nat} {a : Act} {w : World} (n : Nat) (J : (Nat → Bool) → Act → World → Prop) (hm : P.follows .mixedOrders = true) (hac : acyc .any ops = true) (hng : noGuard ops = true) (hn : ops.size = n)
    (h0 : J (fun _ => false) a w.drew)
    (hs : ∀ i o, ops[i]? = some o → i < n → ∀ L a w, L i = false → (∀ k ∈ depsOf o, L k = true) → J L a w → ∀ K : Act → World → Prop, (∀ a' w', J (upd L i) a' w' → K a' w') → o.wp P a w K Q)
    (he : ∀ L a w, (∀ i, i < n → L i = true) → J L a w → Q .normal a w) : (Code.region id ops true).wp P Q a w := by
  subst hn
  refine wp_region_inv J hm hac h0 (fun i o ho L a w hL hd hJ K hK => ?_) he
  have hg : o.guard = none := by
    have := Array.all_eq_true_iff_forall_mem.1 hng o (Array.mem_of_getElem? ho)
    simpa using this
  rw [if_pos (by simp [Region.wanted, hg])]
  refine hs i o ho (Array.getElem?_eq_some_iff.1 ho).1 L a w hL (fun k hk => ?_) hJ K hK
  obtain ⟨e, he, rfl⟩ := List.mem_map.1 hk
  rw [List.mem_filter] at he
  exact hd e (Array.mem_toList_iff.1 he.1) he.2
end Go.Proofs.Ytkmgdejpdhlleaa
