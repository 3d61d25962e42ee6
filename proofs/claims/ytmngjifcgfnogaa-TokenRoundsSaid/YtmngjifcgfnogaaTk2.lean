/- law 17: New, begun. -/
import Derived.Test.YtmngjifcgfnogaaTk1
import Derived.Test.YtmngjifcgfnogaaEn2
namespace Go.Proofs.Ytmngjifcgfnogaa
set_option linter.unusedSimpArgs false
set_option linter.unusedVariables false
set_option maxRecDepth 100000
open Go.RowKit

def emp (n : Nat) : List (List Tm) := List.replicate n []
theorem emp_len (n : Nat) : (emp n).length = n := List.length_replicate
theorem made_rs {A : Nat → Prop} {w : World} {g m c : Nat} {T : TypeId} (h : w.heap[g]? = some (.cells (Array.replicate m (Value.slice none 0 0)) T (0, 0))) (hA : ¬ A g) : Rs tml A w (emp m) (.slice (some ⟨g, 0, none⟩) m c) := by
  refine ⟨_, c, by rw [emp_len], fun _ => ⟨g, 0, rfl, hA, fun i x hi => ?_⟩⟩
  have hlt := (List.getElem?_eq_some_iff.1 hi).1
  rw [emp_len] at hlt
  obtain rfl : [] = x := by
    unfold emp at hi
    rw [List.getElem?_replicate, if_pos hlt] at hi
    exact Option.some.inj hi
  refine ⟨[.slice none 0 0], ⟨_, rfl, Rs.nil _ _ _ _⟩, fun j u hj => ?_⟩
  obtain rfl : j = 0 := by
    have := (List.getElem?_eq_some_iff.1 hj).1
    simpa using this
  obtain rfl : Value.slice none 0 0 = u := by simpa using hj
  rw [cell_of_row _ _ _ _ _ (0, 0) h]
  rw [show tml.K = 1 from rfl]
  simp [hlt]
theorem alloc_at (W : World) (o : Obj) (k : Nat) (hk : k = W.heap.size) : (W.alloc o).heap[k]? = some o := by
  subst hk
  exact heap_alloc_new W o
theorem made_one (v : Value) (n : Nat) : madeCells #[v] n = Array.replicate n v := by
  apply Array.toList_inj.1
  rw [toList_madeCells_one, Array.toList_replicate]
theorem mk_chains (n : Nat) (hn : n ≤ 1000000) (w : World) : (Instr.makeSlice 22 (.int .i64 (n : Int)) (.int .i64 (n : Int))).run Try.prog w = .ok (.slice (some ⟨w.heap.size, 0, none⟩) n n) (w.alloc (.cells (Array.replicate n (Value.slice none 0 0)) 38)) := by
  obtain ⟨i0, hi0, hz0, hz1, hz2⟩ := info_parts (show (Try.prog.info? 38).map (fun i => (i.zero, i.size, i.bytes)) = some (some (.slice none 0 0), 1, 24) by kernel_rfl)
  have h := run_make (P := Try.prog) w 22 38 i0 _ Try.underlying22 hi0 hz0 .i64 .i64 (n : Int) (n : Int) (by omega) (Int.le_refl _) (by rw [hz2]; omega) (by omega)
  rw [hz1, show ((n : Int)).toNat = n from rfl] at h
  rw [h, Nat.mul_one, show (Value.slice none 0 0).cells = #[.slice none 0 0] from rfl, made_one]
set_option maxHeartbeats 4000000 in
theorem begun_any {w : World} (p ta tc tw : Int) (a : Option Addr) (n c : Nat) (hn : n ≤ 1000000) :
    Calls Try.prog 42 #[.agg #[.int .i64 p, .int .i64 ta, .int .i64 tc, .int .i64 tw, .slice a n c]] w fun e w' => ∃ g, w.heap.size ≤ g ∧ e = .returned (.agg #[.int .i64 p, .int .i64 0, .int .i64 tc, .int .i64 0, .slice (some ⟨g, 0, none⟩) n n]) ∧ Ext w w' ∧ ∀ A, (∀ b, A b → b < w.heap.size) → Rs tml A w' (emp n) (.slice (some ⟨g, 0, none⟩) n n) := by
  have mk := fun w => mk_chains n hn w
  have i1 : (0 : Int) ≤ n := by omega
  go_enter Try.func42, Try.ntmps42
  go_wp2
  go_region
  go_wp2
  refine bodyPost_ret (v := .agg #[.int .i64 p, .int .i64 0, .int .i64 tc, .int .i64 0, .slice (some ⟨w.heap.size + 2, 0, none⟩) n n]) (by simp [results, Try.results42, go_sem]) rfl ⟨w.heap.size + 2, by omega, rfl, by (repeat' (first | with_reducible exact Ext.refl _ | with_reducible refine Ext.ext ?_ _ | with_reducible refine Ext.alloc ?_ _ | with_reducible refine Ext.drew ?_ | with_reducible refine Ext.drewN ?_ _ | with_reducible assumption)), fun A hA => ?_⟩
  refine made_rs (T := 38) ?_ (fun e => by have := hA _ e; omega)
  rw [show ∀ X : World, X.drew.heap = X.heap from fun _ => rfl]
  exact alloc_at _ _ _ (by simp)
set_option maxHeartbeats 4000000 in
theorem new_any {w : World} (n : Int) (m : Nat) (hm : max 0 n = m) (hb : m ≤ 1000000) :
    Calls Try.prog 12 #[.int .i64 n] w fun e w' => ∃ g, w.heap.size ≤ g ∧ e = .returned (.agg #[.int .i64 0, .int .i64 0, .int .i64 0, .int .i64 0, .slice (some ⟨g, 0, none⟩) m m]) ∧ Ext w w' ∧ ∀ A, (∀ b, A b → b < w.heap.size) → Rs tml A w' (emp m) (.slice (some ⟨g, 0, none⟩) m m) := by
  have mk := fun w => mk_chains m hb w
  have mx : ∀ ats ty w, (Builtin.max_ ats ty #[.int .i64 0, .int .i64 n]).run Try.prog w = .ok (.int .i64 m) w := fun ats ty w => by
    simp only [Builtin.max_, List.foldlM, Builtin.max2, Sem.run_bind, Sem.run_pure, Result.andThen_ok]
    have : (if (0 : Int) < n then n else 0) = (m : Int) := by
      rw [← hm]
      omega
    rw [this]
  have MX := Lib.hid hm
  clear hm
  go_enter Try.func12, Try.ntmps12
  go_wp2
  refine bodyPost_ret (v := .agg #[.int .i64 0, .int .i64 0, .int .i64 0, .int .i64 0, .slice (some ⟨w.heap.size + 1, 0, none⟩) m m]) (by simp [results, Try.results12, go_sem]) rfl ⟨w.heap.size + 1, by omega, rfl, by (repeat' (first | with_reducible exact Ext.refl _ | with_reducible refine Ext.ext ?_ _ | with_reducible refine Ext.alloc ?_ _ | with_reducible refine Ext.drew ?_ | with_reducible refine Ext.drewN ?_ _ | with_reducible assumption)), fun A hA => ?_⟩
  refine made_rs (T := 38) ?_ (fun e => by have := hA _ e; omega)
  exact alloc_at _ _ _ (by simp)
theorem info_chains : (Try.prog.info? 38).map (fun i => (i.zero, i.size, i.bytes)) = some (some (.slice none 0 0), 1, 24) := by kernel_rfl
  
  theorem clone_chains (v : Value) (n : Nat) (cs : List Value) (w : World) (h : Rd w 1 n v cs) (hl : n ≤ 1073741824) (hone : ∀ u ∈ cs, u.oneCell' = true) :
      Calls Try.prog 75 #[v] w fun e w' => ∃ v', e = .returned v' ∧ Ext w w' ∧ w'.ownsRow w.heap.size 38 1 v' n cs := by
    have q : ∀ (w : World) (a : Option Addr) (n c n' c' : Nat), (binOp .eql 22 (.slice a n c) (.slice none n' c')).run Try.prog w = .ok (.bool a.isNone) w := fun w a n c n' c' => Lib.run_eql_slice_nil w _ _ a n c n' c' Try.underlying22
    have q' : (binOp .eql 22 (.slice none 0 0) (.slice none 0 0)).run Try.prog w = .ok (.bool true) w := q w none 0 0 0 0
    obtain ⟨a, cap, rfl⟩ := h.form
    rcases Nat.eq_zero_or_pos n with h0 | h0
    · subst h0
      obtain rfl : cs = [] := by simpa using h.len
      cases a with
      | none =>
        go_enter Try.func75, Try.ntmps75
        go_wp2
        all_goals (go_ret; exact ⟨_, rfl, by (repeat' (first | with_reducible exact Ext.refl _ | with_reducible refine Ext.ext ?_ _ | with_reducible refine Ext.alloc ?_ _ | with_reducible refine Ext.drew ?_ | with_reducible refine Ext.drewN ?_ _ | with_reducible assumption)), World.ownsRow_nil _ _ _ _⟩)
      | some ad =>
        obtain ⟨i0, hi0, hz0, hz1, hz2⟩ := info_parts info_chains
        go_enter Try.func75, Try.ntmps75
        go_wp2_with (at_builtin; refine wpList_append_own _ rfl _ _ 22 rfl w.heap.size 38 i0 _ 1 24 Try.underlying22 hi0 hz0 hz1 hz2 rfl (by decide) _ 0 [] rfl (World.ownsRow_made w #[] 0 (Nat.le_refl _) (by decide) (by simp)) ad 0 cap [] rfl (by simp) (by simp) (by simp) (by decide) (by decide) (by simp) ?_; intro v' w1 hown1 hgrow1 hnil1)
        go_ret
        refine ⟨_, rfl, Ext.grown (by (repeat' (first | with_reducible exact Ext.refl _ | with_reducible refine Ext.ext ?_ _ | with_reducible refine Ext.alloc ?_ _ | with_reducible refine Ext.drew ?_ | with_reducible refine Ext.drewN ?_ _ | with_reducible assumption))) hgrow1 (fun k hk => Nat.le_of_eq (Option.some.inj hk)), by simpa using hown1⟩
    · obtain ⟨b, off, rfl, hc⟩ := h.cells h0
      have HC := Lib.hid hc
      have HH := Lib.hid h
      have HO := Lib.hid hone
      clear hc h hone
      go_enter Try.func75, Try.ntmps75
      go_wp2_with (at_builtin; refine wpList_pushS rfl _ _ 22 rfl 38 (.slice none 0 0) 1 24 Try.underlying22 info_chains rfl (by decide) w _ (by (repeat' (first | with_reducible exact Ext.refl _ | with_reducible refine Ext.ext ?_ _ | with_reducible refine Ext.alloc ?_ _ | with_reducible refine Ext.drew ?_ | with_reducible refine Ext.drewN ?_ _ | with_reducible assumption))) w.heap.size _ 0 [] (World.ownsRow_made w #[] 0 (Nat.le_refl _) (by decide) (by simp)) n _ cs rfl rfl (HH.out.of_ext (by (repeat' (first | with_reducible exact Ext.refl _ | with_reducible refine Ext.ext ?_ _ | with_reducible refine Ext.alloc ?_ _ | with_reducible refine Ext.drew ?_ | with_reducible refine Ext.drewN ?_ _ | with_reducible assumption)))) HO.out h0 (by unfold maxLen; omega) (by omega) (by simp) (Nat.le_refl _) ?_; intro g cap1 y hown1 hgrow1 hat)
      go_ret
      simp only [Nat.zero_add, List.nil_append] at hown1 ⊢
      exact ⟨_, rfl, by (repeat' (first | with_reducible exact Ext.refl _ | with_reducible refine Ext.ext ?_ _ | with_reducible refine Ext.alloc ?_ _ | with_reducible refine Ext.drew ?_ | with_reducible refine Ext.drewN ?_ _ | with_reducible assumption)), hown1⟩
theorem clone_rs {A : Nat → Prop} {w : World} {L : List (List Tm)} {v : Value} (h : Rs tml A w L v) (hn : L.length ≤ 1000000) :
    Calls Try.prog 75 #[v] w fun e w' => ∃ v', e = .returned v' ∧ Ext w w' ∧ Ow tml 38 w.heap.size A w' L v' := by
  obtain ⟨cs, h1, h2, h3⟩ := h.cloned
  refine (clone_chains v L.length cs w h1 (by omega) h2).mono ?_
  rintro e w' ⟨v', rfl, hx, ho⟩
  exact ⟨v', rfl, hx, h3 w' v' _ hx ho⟩
end Go.Proofs.Ytmngjifcgfnogaa
