/- Regions by facts, with an invariant. -/
import Derived.Orders
import Derived.RegionTactic
import Derived.Test.YtkmgdejpdhlleaaMem
namespace Go.Proofs.Ytkmgdejpdhlleaa
set_option linter.unusedSimpArgs false
set_option linter.unusedVariables false
set_option maxRecDepth 100000
open Go.RowKit

open Go

def upd (L : Nat → Bool) (i : Nat) : Nat → Bool := fun j => if j = i then true else L j
def acyc (md : Region.Mode) (ops : Array Oper) : Bool := (List.range ops.size).all fun i => match ops[i]? with
  | some o => o.after.all fun e => !Region.binds md e || decide (e.on < i)
  | none => true
theorem acyc_spec {md : Region.Mode} {ops : Array Oper} (h : acyc md ops = true) {i : Nat} {o : Oper} (ho : ops[i]? = some o) {e : Edge} (he : e ∈ o.after) (hb : Region.binds md e = true) : e.on < i := by
  unfold acyc at h
  rw [List.all_eq_true] at h
  have h1 := h i (List.mem_range.2 (Array.getElem?_eq_some_iff.1 ho).1)
  rw [ho] at h1
  simp only [Array.all_eq_true_iff_forall_mem, Bool.or_eq_true, Bool.not_eq_true', decide_eq_true_eq] at h1
  exact (h1 e he).resolve_left (by rw [hb]; decide)
section
variable {P : Program} {md : Region.Mode} {ops : Array Oper} {Q : Exit → Act → World → Prop} {J : (Nat → Bool) → Act → World → Prop}
def lst (listed : Array Bool) : Nat → Bool := fun i => listed.getD i false
theorem lst_set {listed : Array Bool} {i : Nat} (h : i < listed.size) : lst (listed.setIfInBounds i true) = upd (lst listed) i := by
  funext j
  unfold lst upd
  by_cases hj : j = i
  · subst hj
    rw [if_pos rfl]
    simp [h]
  · rw [if_neg hj, getD_set_ne false (Ne.symm hj)]
theorem ready_all (hac : acyc md ops = true) {listed : Array Bool} (hsz : listed.size = ops.size) (hr : Region.ready md ops listed = []) : ∀ n i, i < n → i < ops.size → lst listed i = true
  | 0, i, h, _ => absurd h (Nat.not_lt_zero i)
  | n + 1, i, h, hi => by
    apply Classical.byContradiction
    intro hn
    have hmem : i ∈ Region.ready md ops listed := by
      rw [mem_ready]
      refine ⟨?_, ops[i], Array.getElem?_eq_getElem hi, fun e he hb => ?_⟩
      · unfold lst at hn
        simp [hsz, hi] at hn ⊢
        exact hn
      · have h1 := acyc_spec hac (Array.getElem?_eq_getElem hi) he hb
        exact ready_all hac hsz hr n e.on (by omega) (by omega)
    rw [hr] at hmem
    cases hmem
theorem wpAny_inv (hac : acyc md ops = true)
    (hs : ∀ i o, ops[i]? = some o → ∀ L a w, L i = false → (∀ e ∈ o.after, Region.binds md e = true → L e.on = true) → J L a w → ∀ K : Act → World → Prop, (∀ a' w', J (upd L i) a' w' → K a' w') → if Region.wanted o (yielded ops a.tmps) = true then o.wp P a w K Q else K (a.put o.dst undef) w)
    (he : ∀ L a w, (∀ i, i < ops.size → L i = true) → J L a w → Q .normal a w) :
    ∀ fuel (listed : Array Bool) a w, listed.size = ops.size → listed.toList.count false ≤ fuel → J (lst listed) a w → wpAny P md ops Q fuel listed a w := by
  intro fuel
  induction fuel with
  | zero =>
    intro listed a w hsz hc hJ
    have hall : ∀ i, i < ops.size → lst listed i = true := fun i hi => by
      have h0 : listed.toList.count false = 0 := Nat.le_zero.1 hc
      rw [List.count_eq_zero] at h0
      unfold lst
      cases hb : listed.getD i false
      · exfalso
        apply h0
        have : listed[i]'(by omega) = false := by simpa [hsz, hi] using hb
        rw [← this]
        exact Array.mem_toList_iff.2 (Array.getElem_mem _)
      · rfl
    refine ⟨?_, he _ a w hall hJ⟩
    rw [List.eq_nil_iff_forall_not_mem]
    intro i hi
    obtain ⟨h1, o, ho, _⟩ := mem_ready.1 hi
    have h2 := hall i (Array.getElem?_eq_some_iff.1 ho).1
    have hlt := (Array.getElem?_eq_some_iff.1 ho).1
    unfold lst at h2
    simp [hsz, hlt] at h1 h2
    rw [h1] at h2
    cases h2
  | succ fuel ih =>
    intro listed a w hsz hc hJ
    refine ⟨fun hr => he _ a w (fun i hi => ready_all hac hsz hr (i + 1) i (Nat.lt_succ_self i) hi) hJ, fun i hi => ?_⟩
    obtain ⟨h1, o, ho, hd⟩ := mem_ready.1 hi
    have hlt := (Array.getElem?_eq_some_iff.1 ho).1
    have hls : i < listed.size := by omega
    have hfi : listed[i] = false := by simpa [hls] using h1
    have hw := hs i o ho (lst listed) a w (by unfold lst; simp [hls, hfi]) (fun e he' hb => hd e he' hb) hJ (wpAny P md ops Q fuel (listed.setIfInBounds i true)) (fun a' w' hJ' => ih _ a' w' (by simpa using hsz) (by
      rw [Array.toList_setIfInBounds, List.count_set (by simpa using hls)]
      have h3 : 0 < listed.toList.count false := List.count_pos_iff.2 (by rw [← hfi]; exact Array.mem_toList_iff.2 (Array.getElem_mem _))
      have h4 : listed.toList[i]'(by simpa using hls) = false := by rw [Array.getElem_toList]; exact hfi
      rw [h4, if_pos (by decide), if_neg (by decide)]
      omega) (by rw [lst_set hls]; exact hJ'))
    unfold wpOp
    rw [ho]
    dsimp only
    split
    · rename_i hwd
      rw [if_pos hwd] at hw
      exact .inl hw
    · rename_i hwd
      rw [if_neg hwd] at hw
      exact hw
/-- The region's law: an invariant over what has come up. -/
theorem wp_region_inv {id : Nat} {a : Act} {w : World} (J : (Nat → Bool) → Act → World → Prop) (hm : P.follows .mixedOrders = true) (hac : acyc .any ops = true)
    (h0 : J (fun _ => false) a w.drew)
    (hs : ∀ i o, ops[i]? = some o → ∀ L a w, L i = false → (∀ e ∈ o.after, Region.binds .any e = true → L e.on = true) → J L a w → ∀ K : Act → World → Prop, (∀ a' w', J (upd L i) a' w' → K a' w') → if Region.wanted o (yielded ops a.tmps) = true then o.wp P a w K Q else K (a.put o.dst undef) w)
    (he : ∀ L a w, (∀ i, i < ops.size → L i = true) → J L a w → Q .normal a w) : (Code.region id ops true).wp P Q a w := by
  refine wp_region_any hm (wpAny_inv hac hs he ops.size _ a _ (by simp) (by simp) ?_)
  have : lst (Array.replicate ops.size false) = fun _ => false := by
    funext i
    unfold lst
    by_cases h : i < ops.size <;> simp [h]
  rw [this]
  exact h0
end
open Go

/-- All slots but those of ts are as they were. -/
structure Near (ts : List Nat) (a0 a : Act) : Prop where
  size : a.tmps.size = a0.tmps.size
  defers : a.defers = a0.defers
  out : ∀ t, t ∉ ts → a.eval (.tmp t) = a0.eval (.tmp t)
theorem Near.refl (ts : List Nat) (a : Act) : Near ts a a := ⟨rfl, rfl, fun _ _ => rfl⟩
theorem eval_same {a : Act} {t : Nat} {v : Value} (h : t < a.tmps.size) : (a.put (some t) v).eval (.tmp t) = v := by
  simp [Act.eval, Act.put, h]
theorem eval_ne {a : Act} {t d : Nat} {v : Value} (h : t ≠ d) : (a.put (some d) v).eval (.tmp t) = a.eval (.tmp t) := by
  simp [Act.eval, Act.put, Array.getElem?_setIfInBounds_ne (Ne.symm h)]
theorem Near.put {ts : List Nat} {a0 a : Act} (h : Near ts a0 a) {t : Nat} (ht : t ∈ ts) (v : Value) : Near ts a0 (a.put (some t) v) :=
  ⟨by simp [Act.put, h.size], h.defers, fun u hu => (eval_ne (fun e : u = t => hu (by rw [e]; exact ht))).trans (h.out u hu)⟩
/-- What a slot holds. -/
def V (a : Act) (t : Nat) : Value := a.tmps[t]?.getD undef
theorem V_eval (a : Act) (t : Nat) : a.eval (.tmp t) = V a t := by simp [Act.eval, V]
theorem V_put {a : Act} {d t : Nat} {v : Value} (h : d < a.tmps.size) : V (a.put (some d) v) t = if t = d then v else V a t := by
  rw [← V_eval, ← V_eval]
  split
  · next e => subst e; exact eval_same h
  · next e => exact eval_ne e
def depsOf (o : Oper) : List Nat := (o.after.toList.filter (Region.binds .any)).map Edge.on
open Go

def dstOf (ops : Array Oper) (i : Nat) : Option Nat := (ops[i]?).bind (·.dst)
def slotV (a : Act) : Option Nat → Value
  | some t => V a t
  | none => undef
/-- What is known when the operations of L have come up: slots that none of them writes are as they were; of each its fact. -/
structure JF (ops : Array Oper) (a0 : Act) (w0 : World) (F : Nat → (Nat → Bool) → Value → World → Prop) (L : Nat → Bool) (a : Act) (W : World) : Prop where
  size : a.tmps.size = a0.tmps.size
  defers : a.defers = a0.defers
  ext : Ext w0 W
  cl : ∀ i o, ops[i]? = some o → L i = true → ∀ k ∈ depsOf o, L k = true
  out : ∀ t, (∀ i, i < ops.size → L i = true → dstOf ops i ≠ some t) → V a t = V a0 t
  fx : ∀ i, i < ops.size → L i = true → F i L (slotV a (dstOf ops i)) W
/-- Does k come up ahead of i? -/
def anc (ops : Array Oper) : Nat → Nat → Nat → Bool
  | 0, _, _ => false
  | fuel + 1, k, i => match ops[i]? with
    | some o => (depsOf o).any fun d => d == k || anc ops fuel k d
    | none => false
theorem JF.anc {ops : Array Oper} {a0 : Act} {w0 : World} {F : Nat → (Nat → Bool) → Value → World → Prop} {L : Nat → Bool} {a : Act} {W : World} (h : JF ops a0 w0 F L a W) :
    ∀ fuel k i, anc ops fuel k i = true → L i = true → L k = true
  | 0, k, i, ha, _ => by cases ha
  | fuel + 1, k, i, ha, hi => by
    unfold Proofs.Ytkmgdejpdhlleaa.anc at ha
    split at ha
    · next o ho =>
      rw [List.any_eq_true] at ha
      obtain ⟨d, hd, he⟩ := ha
      have h1 := h.cl i o ho hi d hd
      rw [Bool.or_eq_true] at he
      rcases he with he | he
      · rw [beq_iff_eq] at he
        subst he
        exact h1
      · exact h.anc fuel k d he h1
    · cases ha
/-- No operation that may have come up ahead of i writes slot t. -/
def stays (ops : Array Oper) (i t : Nat) : Bool := (List.range ops.size).all fun j => !(dstOf ops j == some t) || j == i || anc ops ops.size i j
theorem JF.stays {ops : Array Oper} {a0 : Act} {w0 : World} {F : Nat → (Nat → Bool) → Value → World → Prop} {L : Nat → Bool} {a : Act} {W : World} (h : JF ops a0 w0 F L a W) {i t : Nat} (hi : L i = false) (hs : stays ops i t = true) : V a t = V a0 t := by
  refine h.out t (fun j hj hl he => ?_)
  unfold Proofs.Ytkmgdejpdhlleaa.stays at hs
  rw [List.all_eq_true] at hs
  have h1 := hs j (List.mem_range.2 hj)
  rw [he] at h1
  simp only [beq_self_eq_true, Bool.not_true, Bool.false_or, Bool.or_eq_true, beq_iff_eq] at h1
  rcases h1 with rfl | h1
  · rw [hi] at hl; cases hl
  · rw [h.anc _ _ _ h1 hl] at hi; cases hi
/-- Each slot is written once. -/
def once (ops : Array Oper) : Bool := (List.range ops.size).all fun i => (List.range ops.size).all fun j => i == j || !(dstOf ops i == dstOf ops j) || dstOf ops i == none
theorem once_spec {ops : Array Oper} (h : once ops = true) {i j t : Nat} (hi : i < ops.size) (hj : j < ops.size) (h1 : dstOf ops i = some t) (h2 : dstOf ops j = some t) : i = j := by
  unfold once at h
  rw [List.all_eq_true] at h
  have h3 := h i (List.mem_range.2 hi)
  rw [List.all_eq_true] at h3
  have h4 := h3 j (List.mem_range.2 hj)
  rw [h1, h2] at h4
  simp at h4
  exact h4
def fits (ops : Array Oper) (n : Nat) : Bool := ops.toList.all fun o => match o.dst with
  | some t => decide (t < n)
  | none => true
section
variable {P : Program} {Q : Exit → Act → World → Prop} {ops : Array Oper} {a0 : Act} {w0 : World} {F : Nat → (Nat → Bool) → Value → World → Prop}
theorem slotV_put {a : Act} {d : Option Nat} {v : Value} {t : Option Nat} (hd : ∀ x, d = some x → x < a.tmps.size) (h : t = none ∨ t ≠ d) : slotV (a.put d v) t = slotV a t := by
  cases t with
  | none => rfl
  | some t =>
    cases d with
    | none => rfl
    | some d =>
      unfold slotV
      simp only
      rw [V_put (hd d rfl), if_neg (by rintro rfl; rcases h with h | h <;> simp at h)]
theorem JF.put {L : Nat → Bool} {a : Act} {W W' : World} {i : Nat} {o : Oper} (h : JF ops a0 w0 F L a W) (ho : ops[i]? = some o) (hd : ∀ k ∈ depsOf o, L k = true) (hsz : fits ops a0.tmps.size = true) (h1 : once ops = true)
    (hi : L i = false) (v : Value) (hx : Ext w0 W') (hk : ∀ k, k < ops.size → L k = true → F k (upd L i) (slotV a (dstOf ops k)) W') (hv : F i (upd L i) v W') (hun : o.dst = none → ∀ L' u u' W, F i L' u W → F i L' u' W) : JF ops a0 w0 F (upd L i) (a.put o.dst v) W' := by
  have hlt := (Array.getElem?_eq_some_iff.1 ho).1
  have hds : dstOf ops i = o.dst := by unfold dstOf; rw [ho]; rfl
  have hdl : ∀ x, o.dst = some x → x < a.tmps.size := fun x hx => by
    unfold fits at hsz
    rw [List.all_eq_true] at hsz
    have := hsz o (Array.mem_toList_iff.2 (Array.mem_of_getElem? ho))
    rw [hx] at this
    rw [h.size]
    simpa using this
  refine ⟨?_, ?_, hx, ?_, ?_, ?_⟩
  · rw [← h.size]; cases o.dst <;> simp [Act.put]
  · rw [← h.defers]; cases o.dst <;> rfl
  · intro j oj hj hl k hk'
    unfold upd at hl ⊢
    by_cases hji : j = i
    · subst hji
      rw [ho] at hj
      obtain rfl := Option.some.inj hj
      split
      · rfl
      · exact hd k hk'
    · rw [if_neg hji] at hl
      split
      · rfl
      · exact h.cl j oj hj hl k hk'
  · intro t ht
    have hne : ∀ x, o.dst = some x → t ≠ x := fun x hx e => ht i hlt (by simp [upd]) (by rw [hds, hx, e])
    rw [← h.out t (fun j hj hl => ht j hj (by unfold upd; split <;> simp_all))]
    cases hdo : o.dst with
    | none => rfl
    | some d => rw [V_put (hdl d hdo), if_neg (hne d hdo)]
  · intro j hj hl
    by_cases hji : j = i
    · subst hji
      rw [hds]
      cases hdo : o.dst with
      | none => exact hun hdo _ _ _ _ hv
      | some d =>
        unfold slotV
        simp only
        rw [V_put (hdl d hdo), if_pos rfl]
        exact hv
    · have hl' : L j = true := by unfold upd at hl; rw [if_neg hji] at hl; exact hl
      rw [slotV_put hdl]
      · exact hk j hj hl'
      · cases hdj : dstOf ops j with
        | none => exact .inl rfl
        | some t => exact .inr (fun e => hji (once_spec h1 hj hlt hdj (by rw [hds]; exact e.symm)))
theorem JF.get {L : Nat → Bool} {a : Act} {W : World} (h : JF ops a0 w0 F L a W) {k t : Nat} (hd : dstOf ops k = some t) (hl : L k = true) : F k L (V a t) W := by
  have hlt : k < ops.size := by
    unfold dstOf at hd
    cases ho : ops[k]? with
    | none => rw [ho] at hd; cases hd
    | some o => exact (Array.getElem?_eq_some_iff.1 ho).1
  have := h.fx k hlt hl
  rw [hd] at this
  exact this
theorem JF.lead {L : Nat → Bool} {a : Act} {W : World} (h : JF ops a0 w0 F L a W) {i : Nat} {o : Oper} (ho : ops[i]? = some o) (hd : ∀ k ∈ depsOf o, L k = true) {k : Nat} (fuel : Nat) (ha : Proofs.Ytkmgdejpdhlleaa.anc ops (fuel + 1) k i = true) : L k = true := by
  unfold Proofs.Ytkmgdejpdhlleaa.anc at ha
  rw [ho] at ha
  simp only [List.any_eq_true] at ha
  obtain ⟨d, hm, he⟩ := ha
  rw [Bool.or_eq_true] at he
  rcases he with he | he
  · rw [beq_iff_eq] at he
    subst he
    exact hd d hm
  · exact h.anc fuel k d he (hd d hm)
/-- The fact of an operation ahead. -/
theorem JF.dep {L : Nat → Bool} {a : Act} {W : World} (h : JF ops a0 w0 F L a W) {i : Nat} {o : Oper} (ho : ops[i]? = some o) (hd : ∀ k ∈ depsOf o, L k = true) {k t : Nat} (ha : Proofs.Ytkmgdejpdhlleaa.anc ops (7 + 1) k i = true) (ht : dstOf ops k = some t) : F k L (V a t) W :=
  h.get ht (h.lead ho hd 7 ha)
/-- A slot that was there before. -/
theorem JF.old {L : Nat → Bool} {a : Act} {W : World} (h : JF ops a0 w0 F L a W) {i t : Nat} {v : Value} (hi : L i = false) (hs : Proofs.Ytkmgdejpdhlleaa.stays ops i t = true) (hv : V a0 t = v) : a.tmps[t]?.getD undef = v := (h.stays hi hs).trans hv
/-- What is told stays so. -/
def StaysF (F : Nat → (Nat → Bool) → Value → World → Prop) (n : Nat) : Prop := ∀ k, k < n → ∀ L i v W W', L i = false → Ext W W' → F k L v W → F k (upd L i) v W'
theorem JF.frame {L : Nat → Bool} {a : Act} {W W' : World} (h : JF ops a0 w0 F L a W) {i : Nat} (hs : StaysF F ops.size) (hi : L i = false) (hx : Ext W W') : ∀ k, k < ops.size → L k = true → F k (upd L i) (slotV a (dstOf ops k)) W' :=
  fun k hk hl => hs k hk L i _ W W' hi hx (h.fx k hk hl)
end
end Go.Proofs.Ytkmgdejpdhlleaa
