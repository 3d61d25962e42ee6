/- Front, plain: changes one behind the other, and back. -/
import Derived.Test.YtfpmejbgmgdedaaFr8
import Derived.Test.YtfpmejbgmgdedaaChN
namespace Go.Proofs.Ytfpmejbgmgdedaa.Fr
set_option linter.unusedSimpArgs false
set_option linter.unusedVariables false

theorem Rb.cut {w : World} {l : List Ct} {a : Option Addr} {c : Nat} (h : Rd w 6 l.length (.slice a l.length c) (cts l)) {m : Nat} (hm : m ≤ l.length) : Rb w (l.take m) (.slice a m c) := by
  have hl : (l.take m).length = m := by rw [List.length_take]; omega
  refine ⟨a, c, by rw [hl], ?_⟩
  rw [hl, cts_take]
  exact rd_take h hm
def chF (o : List Ct) (ops : List (Tm × Int)) : List Ct := ops.foldl (fun o p => addS o p.1 p.2) o
def cntP : List (Tm × Int) → Tm → Int
  | [], _ => 0
  | p :: l, s => (if _root_.Go.Proofs.Ytfpmejbgmgdedaa.rightB p.1 = true ∧ p.1 = s then p.2 else 0) + cntP l s
def totP : List (Tm × Int) → Int
  | [] => 0
  | p :: l => (if _root_.Go.Proofs.Ytfpmejbgmgdedaa.rightB p.1 = true then p.2 else 0) + totP l
theorem putI_tot {l : List Ct} (h : rightK l = true) (r : Tm) (q : Int) (hq : mayB q = true) (hm : mayB (cnt l r + q) = true) : tot (putI l r q) = tot l + q := by
  rw [put_eq h, hq, hm]
  by_cases h0 : q = 0
  · subst h0
    simp
  · simp only [show (q == 0) = false by simp [h0], Bool.not_true, Bool.or_self, Bool.false_eq_true, if_false]
    exact ins_tot r q l
theorem ch_step {o : List Ct} (h : rightC o = true) {t : Tm} {q : Int} {B : Int} (hB : 0 ≤ B) (hq : -32768 ≤ q ∧ q ≤ 32768) (hc : ∀ s, -B ≤ cnt o s ∧ cnt o s ≤ B) (hb : B ≤ 10000000) :
    rightC (addS o t q) = true ∧ (∀ s, cnt (addS o t q) s = cnt o s + (if _root_.Go.Proofs.Ytfpmejbgmgdedaa.rightB t = true ∧ t = s then q else 0)) ∧ tot (addS o t q) = tot o + (if _root_.Go.Proofs.Ytfpmejbgmgdedaa.rightB t = true then q else 0) := by
  have e : addS o t q = putS o t q := by unfold addS; rw [if_pos h]
  rw [e]
  refine ⟨putS_right h t q, ?_⟩
  rw [putS_eq h]
  have hk := ((rightC_iff o).1 h).1
  have h1 := hc t
  have m1 : mayB q = true := (mayB_iff q).2 (by omega)
  have m2 : mayB (cnt o t + q) = true := (mayB_iff _).2 (by omega)
  cases ht : _root_.Go.Proofs.Ytfpmejbgmgdedaa.rightB t
  · simp
  · simp only [if_true, true_and]
    exact ⟨fun s => put_cnt hk t q m1 m2 s, putI_tot hk t q m1 m2⟩
theorem ch_all : ∀ (ops : List (Tm × Int)) (o : List Ct) (B : Int), rightC o = true → 0 ≤ B → (∀ p ∈ ops, -32768 ≤ p.2 ∧ p.2 ≤ 32768) → (∀ s, -B ≤ cnt o s ∧ cnt o s ≤ B) → B + 32768 * ops.length ≤ 10000000 →
    rightC (chF o ops) = true ∧ (∀ s, cnt (chF o ops) s = cnt o s + cntP ops s) ∧ tot (chF o ops) = tot o + totP ops ∧ (chF o ops).length ≤ o.length + ops.length
  | [], o, B, h, hB, hp, hc, hb => ⟨h, fun s => by simp [chF, cntP], by simp [chF, totP], by simp [chF]⟩
  | p :: ops, o, B, h, hB, hp, hc, hb => by
    have hq := hp p List.mem_cons_self
    rw [List.length_cons] at hb
    obtain ⟨h1, h2, h3⟩ := ch_step h (t := p.1) (q := p.2) hB hq hc (by omega)
    have hl := add_len o p.1 p.2
    obtain ⟨k1, k2, k3, k4⟩ := ch_all ops (addS o p.1 p.2) (B + 32768) h1 (by omega) (fun x hx => hp x (List.mem_cons_of_mem _ hx)) (fun s => by
      rw [h2]
      have := hc s
      split <;> omega) (by omega)
    have e : chF o (p :: ops) = chF (addS o p.1 p.2) ops := rfl
    rw [e]
    refine ⟨k1, fun s => ?_, ?_, ?_⟩
    · rw [k2, h2, cntP]; omega
    · rw [k3, h3, totP]; omega
    · rw [List.length_cons]; omega
theorem cntP_app (l m : List (Tm × Int)) (s : Tm) : cntP (l ++ m) s = cntP l s + cntP m s := by
  induction l with
  | nil => simp [cntP]
  | cons p l ih => rw [List.cons_append, cntP, cntP, ih]; omega
theorem cntP_rev (l : List (Tm × Int)) (s : Tm) : cntP l.reverse s = cntP l s := by
  induction l with
  | nil => rfl
  | cons p l ih => rw [List.reverse_cons, cntP_app, ih, cntP, cntP, cntP]; omega
def negP (l : List (Tm × Int)) : List (Tm × Int) := l.map (fun p => (p.1, -p.2))
theorem cntP_neg (l : List (Tm × Int)) (s : Tm) : cntP (negP l) s = - cntP l s := by
  induction l with
  | nil => rfl
  | cons p l ih =>
    show cntP ((p.1, -p.2) :: negP l) s = _
    rw [cntP, ih, cntP]
    dsimp only
    split <;> omega
theorem chF_app (o : List Ct) (l m : List (Tm × Int)) : chF o (l ++ m) = chF (chF o l) m := by unfold chF; rw [List.foldl_append]
theorem right_nil : rightC [] = true := rfl
theorem bag_nil {l : List Ct} (h : rightC l = true) (hc : ∀ s, cnt l s = 0) : l = [] := by
  obtain ⟨h1, h2⟩ := (right_iff l).1 ((rightC_iff l).1 h).1
  exact bag_ext (right_ne h) (by simp) h2 List.Pairwise.nil (fun s => by rw [hc, cnt])
/-- There and back. -/
theorem back_all {l m : List (Tm × Int)} (hl : l.length ≤ 100) (hm : m = l ∨ m = l.reverse) (hp : ∀ p ∈ l, -32768 ≤ p.2 ∧ p.2 ≤ 32767) :
    rightC (chF [] l) = true ∧ tot (chF [] l) = totP l ∧ (∀ j, (chF [] (l.take j)).length ≤ 100) ∧ chF (chF [] l) (negP m) = [] ∧ ∀ j, (chF (chF [] l) (negP (m.take j))).length ≤ 200 := by
  have hml : m.length = l.length := by rcases hm with rfl | rfl <;> simp
  have hmm : ∀ p, p ∈ m → p ∈ l := fun p h => by rcases hm with rfl | rfl; exact h; exact List.mem_reverse.1 h
  have hn : ∀ (k : List (Tm × Int)), (∀ p ∈ k, p ∈ l) → ∀ p ∈ negP k, -32768 ≤ p.2 ∧ p.2 ≤ 32768 := fun k hk p h => by
    unfold negP at h
    obtain ⟨x, hx, rfl⟩ := List.mem_map.1 h
    have := hp x (hk x hx)
    dsimp only
    omega
  obtain ⟨h1, h2, h3, h4⟩ := ch_all l [] 0 rfl (by omega) (fun p h => by have := hp p h; omega) (fun s => by rw [cnt]; omega) (by omega)
  have key : ∀ k : List (Tm × Int), (∀ p ∈ k, p ∈ l) → k.length ≤ 100 → rightC (chF (chF [] l) (negP k)) = true ∧ (∀ s, cnt (chF (chF [] l) (negP k)) s = cntP l s - cntP k s) ∧ (chF (chF [] l) (negP k)).length ≤ 200 := fun k hk hkl => by
    obtain ⟨k1, k2, -, k4⟩ := ch_all (l ++ negP k) [] 0 rfl (by omega) (fun p h => by
      rcases List.mem_append.1 h with h | h
      · have := hp p h; omega
      · exact hn k hk p h) (fun s => by rw [cnt]; omega) (by rw [List.length_append]; unfold negP; rw [List.length_map]; omega)
    rw [chF_app] at k1 k2 k4
    refine ⟨k1, fun s => ?_, ?_⟩
    · rw [k2, cntP_app, cntP_neg, cnt]; omega
    · rw [List.length_append, List.length_nil] at k4
      unfold negP at k4 ⊢
      rw [List.length_map] at k4
      omega
  refine ⟨h1, by rw [h3]; show 0 + _ = _; omega, fun j => ?_, ?_, fun j => ?_⟩
  · obtain ⟨-, -, -, k4⟩ := ch_all (l.take j) [] 0 rfl (by omega) (fun p h => by have := hp p (List.mem_of_mem_take h); omega) (fun s => by rw [cnt]; omega) (by rw [List.length_take]; omega)
    rw [List.length_take, List.length_nil] at k4
    omega
  · obtain ⟨k1, k2, -⟩ := key m hmm (by omega)
    refine bag_nil k1 fun s => ?_
    rw [k2]
    rcases hm with rfl | rfl
    · omega
    · rw [cntP_rev]; omega
  · exact (key (m.take j) (fun p h => hmm p (List.mem_of_mem_take h)) (by rw [List.length_take]; omega)).2.2
theorem chF_snoc (o : List Ct) {l : List (Tm × Int)} {j : Nat} {p : Tm × Int} (h : l[j]? = some p) : chF o (l.take (j + 1)) = addS (chF o (l.take j)) p.1 p.2 := by
  rw [take_snoc h, chF_app]; rfl
theorem chF_neg_snoc (o : List Ct) {l : List (Tm × Int)} {j : Nat} {p : Tm × Int} (h : l[j]? = some p) : chF o (negP (l.take (j + 1))) = addS (chF o (negP (l.take j))) p.1 (-p.2) := by
  rw [take_snoc h]
  unfold negP
  rw [List.map_append, chF_app]; rfl
theorem totP_app (l m : List (Tm × Int)) : totP (l ++ m) = totP l + totP m := by
  induction l with
  | nil => simp [totP]
  | cons p l ih => rw [List.cons_append, totP, totP, ih]; omega
theorem totP_snoc {l : List (Tm × Int)} {j : Nat} {p : Tm × Int} (h : l[j]? = some p) : totP (l.take (j + 1)) = totP (l.take j) + (if _root_.Go.Proofs.Ytfpmejbgmgdedaa.rightB p.1 = true then p.2 else 0) := by
  rw [take_snoc h, totP_app, totP, totP]
  omega
theorem totP_bound {l : List (Tm × Int)} (hp : ∀ p ∈ l, -32768 ≤ p.2 ∧ p.2 ≤ 32767) : -32768 * (l.length : Int) ≤ totP l ∧ totP l ≤ 32768 * (l.length : Int) := by
  induction l with
  | nil => simp [totP]
  | cons p l ih =>
    have h1 := ih (fun x hx => hp x (List.mem_cons_of_mem _ hx))
    have h2 := hp p List.mem_cons_self
    rw [totP, List.length_cons]
    split <;> omega
-- the frontier
theorem chT_any (l : List Tm) (t : Tm) : (chT l).any (fun x => leB x t) = l.any (fun x => leB x t) := by
  rw [Bool.eq_iff_iff, List.any_eq_true, List.any_eq_true]
  constructor
  · rintro ⟨x, hx, h⟩
    exact ⟨x, chT_sub hx, h⟩
  · rintro ⟨x, hx, h⟩
    obtain ⟨y, hy, hyx⟩ := below_chT hx (leB_right h).1
    exact ⟨y, hy, leB_trans hyx h⟩
/-- Is a timestamp covered by one that is there? -/
def covS (l : List Ct) (t : Tm) : Bool := l.any (fun x => decide (0 < x.n) && leB x.t t)
theorem covS_snoc {l : List Ct} {j : Nat} {x : Ct} (h : l[j]? = some x) (t : Tm) : covS (l.take (j + 1)) t = (covS (l.take j) t || (decide (0 < x.n) && leB x.t t)) := by
  rw [take_snoc h]; unfold covS; rw [List.any_append]; simp
theorem front_cov {l : List Ct} (h : rightC l = true) (t : Tm) : (chT (frontL l)).any (fun x => leB x t) = covS l t := by
  rw [chT_any]
  unfold frontL
  rw [if_pos h]
  unfold posF ts covS
  rw [List.any_map, List.any_filter]
  rfl
/-- A row of one timestamp: its cells. -/
theorem rb_one {w : World} {x : Tm} {v : Value} (h : _root_.Go.Proofs.Ytfpmejbgmgdedaa.Rb w [x] v) : ∃ b off c, v = .slice (some ⟨b, off, none⟩) 1 c ∧ w.cell? ⟨b, off, none⟩ = some (.int .i64 x.d) ∧ w.cell? ⟨b, off + 1, none⟩ = some (.int .i64 x.a) ∧ w.cell? ⟨b, off + 2, none⟩ = some (.int .i64 x.b) ∧ w.cell? ⟨b, off + 3, none⟩ = some (.int .i64 x.c) ∧ w.cell? ⟨b, off + 4, none⟩ = some (.int .i64 x.e) := by
  obtain ⟨a, c, rfl, h⟩ := h
  obtain ⟨b, off, rfl, -⟩ := h.cells (by simp)
  exact ⟨b, off, c, rfl, tm_at h 0 x rfl⟩
end Go.Proofs.Ytfpmejbgmgdedaa.Fr
