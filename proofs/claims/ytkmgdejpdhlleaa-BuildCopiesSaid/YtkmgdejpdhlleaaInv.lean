/- A region that draws its order, by an invariant over what has come up. No program in sight. -/
import Derived.Orders
import Derived.RegionTactic
namespace Go.Proofs.Ytkmgdejpdhlleaa
set_option linter.unusedSimpArgs false
set_option linter.unusedVariables false
set_option maxRecDepth 100000
open Go

def upd (L : Nat → Bool) (i : Nat) : Nat → Bool := fun j => if j = i then true else L j
def acyc (md : Region.Mode) (ops : Array Oper) : Bool := (List.range ops.size).all fun i => match ops[i]? with
  | some o => o.after.all fun e => !Region.binds md e || decide (e.on < i)
  | none => true
theorem acyc_spec {md : Region.Mode} {ops : Array Oper} (h : acyc md ops = true) {i : Nat} {o : Oper} (ho : ops[i]? = some o) {e : Edge} (he : e ∈ o.after) (hb : Region.binds md e = true) : e.on < i := by
  unfold acyc at h
  rw [List.all_eq_true] at h
  have h1 := h i (List.mem_range.2 (Array.getElem?_eq_some_iff.1 ho).1)
  rw [ho] at h1
  simp only [Array.all_eq_true_iff_forall_mem, Bool.or_eq_true, Bool.not_eq_true', decide_eq_true_eq] at h1
  exact (h1 e he).resolve_left (by rw [hb]; decide)
section
variable {P : Program} {md : Region.Mode} {ops : Array Oper} {Q : Exit → Act → World → Prop} {J : (Nat → Bool) → Act → World → Prop}
def lst (listed : Array Bool) : Nat → Bool := fun i => listed.getD i false
theorem lst_set {listed : Array Bool} {i : Nat} (h : i < listed.size) : lst (listed.setIfInBounds i true) = upd (lst listed) i := by
  funext j
  unfold lst upd
  by_cases hj : j = i
  · subst hj
    rw [if_pos rfl]
    simp [h]
  · rw [if_neg hj, getD_set_ne false (Ne.symm hj)]
theorem ready_all (hac : acyc md ops = true) {listed : Array Bool} (hsz : listed.size = ops.size) (hr : Region.ready md ops listed = []) : ∀ n i, i < n → i < ops.size → lst listed i = true
  | 0, i, h, _ => absurd h (Nat.not_lt_zero i)
  | n + 1, i, h, hi => by
    apply Classical.byContradiction
    intro hn
    have hmem : i ∈ Region.ready md ops listed := by
      rw [mem_ready]
      refine ⟨?_, ops[i], Array.getElem?_eq_getElem hi, fun e he hb => ?_⟩
      · unfold lst at hn
        simp [hsz, hi] at hn ⊢
        exact hn
      · have h1 := acyc_spec hac (Array.getElem?_eq_getElem hi) he hb
        exact ready_all hac hsz hr n e.on (by omega) (by omega)
    rw [hr] at hmem
    cases hmem
theorem wpAny_inv (hac : acyc md ops = true)
    (hs : ∀ i o, ops[i]? = some o → ∀ L a w, L i = false → (∀ e ∈ o.after, Region.binds md e = true → L e.on = true) → J L a w → ∀ K : Act → World → Prop, (∀ a' w', J (upd L i) a' w' → K a' w') → if Region.wanted o (yielded ops a.tmps) = true then o.wp P a w K Q else K (a.put o.dst undef) w)
    (he : ∀ L a w, (∀ i, i < ops.size → L i = true) → J L a w → Q .normal a w) :
    ∀ fuel (listed : Array Bool) a w, listed.size = ops.size → listed.toList.count false ≤ fuel → J (lst listed) a w → wpAny P md ops Q fuel listed a w := by
  intro fuel
  induction fuel with
  | zero =>
    intro listed a w hsz hc hJ
    have hall : ∀ i, i < ops.size → lst listed i = true := fun i hi => by
      have h0 : listed.toList.count false = 0 := Nat.le_zero.1 hc
      rw [List.count_eq_zero] at h0
      unfold lst
      cases hb : listed.getD i false
      · exfalso
        apply h0
        have : listed[i]'(by omega) = false := by simpa [hsz, hi] using hb
        rw [← this]
        exact Array.mem_toList_iff.2 (Array.getElem_mem _)
      · rfl
    refine ⟨?_, he _ a w hall hJ⟩
    rw [List.eq_nil_iff_forall_not_mem]
    intro i hi
    obtain ⟨h1, o, ho, _⟩ := mem_ready.1 hi
    have h2 := hall i (Array.getElem?_eq_some_iff.1 ho).1
    have hlt := (Array.getElem?_eq_some_iff.1 ho).1
    unfold lst at h2
    simp [hsz, hlt] at h1 h2
    rw [h1] at h2
    cases h2
  | succ fuel ih =>
    intro listed a w hsz hc hJ
    refine ⟨fun hr => he _ a w (fun i hi => ready_all hac hsz hr (i + 1) i (Nat.lt_succ_self i) hi) hJ, fun i hi => ?_⟩
    obtain ⟨h1, o, ho, hd⟩ := mem_ready.1 hi
    have hlt := (Array.getElem?_eq_some_iff.1 ho).1
    have hls : i < listed.size := by omega
    have hfi : listed[i] = false := by simpa [hls] using h1
    have hw := hs i o ho (lst listed) a w (by unfold lst; simp [hls, hfi]) (fun e he' hb => hd e he' hb) hJ (wpAny P md ops Q fuel (listed.setIfInBounds i true)) (fun a' w' hJ' => ih _ a' w' (by simpa using hsz) (by
      rw [Array.toList_setIfInBounds, List.count_set (by simpa using hls)]
      have h3 : 0 < listed.toList.count false := List.count_pos_iff.2 (by rw [← hfi]; exact Array.mem_toList_iff.2 (Array.getElem_mem _))
      have h4 : listed.toList[i]'(by simpa using hls) = false := by rw [Array.getElem_toList]; exact hfi
      rw [h4, if_pos (by decide), if_neg (by decide)]
      omega) (by rw [lst_set hls]; exact hJ'))
    unfold wpOp
    rw [ho]
    dsimp only
    split
    · rename_i hwd
      rw [if_pos hwd] at hw
      exact .inl hw
    · rename_i hwd
      rw [if_neg hwd] at hw
      exact hw
/-- The region's law: an invariant over what has come up. -/
theorem wp_region_inv {id : Nat} {a : Act} {w : World} (J : (Nat → Bool) → Act → World → Prop) (hm : P.follows .mixedOrders = true) (hac : acyc .any ops = true)
    (h0 : J (fun _ => false) a w.drew)
    (hs : ∀ i o, ops[i]? = some o → ∀ L a w, L i = false → (∀ e ∈ o.after, Region.binds .any e = true → L e.on = true) → J L a w → ∀ K : Act → World → Prop, (∀ a' w', J (upd L i) a' w' → K a' w') → if Region.wanted o (yielded ops a.tmps) = true then o.wp P a w K Q else K (a.put o.dst undef) w)
    (he : ∀ L a w, (∀ i, i < ops.size → L i = true) → J L a w → Q .normal a w) : (Code.region id ops true).wp P Q a w := by
  refine wp_region_any hm (wpAny_inv hac hs he ops.size _ a _ (by simp) (by simp) ?_)
  have : lst (Array.replicate ops.size false) = fun _ => false := by
    funext i
    unfold lst
    by_cases h : i < ops.size <;> simp [h]
  rw [this]
  exact h0
end
end Go.Proofs.Ytkmgdejpdhlleaa
