/- Bag: slices.Repeat of one record. -/
import Derived.Test.YtbglfaomebokhaaBgE
import Derived.Shelf.Bits.Mul64
namespace Go.Proofs.Ytbglfaomebokhaa
set_option linter.unusedSimpArgs false
set_option linter.unusedVariables false
open Go.RowKit Go.Shelf

def renM : Go.Shelf.Ren := ⟨fun _ => 60, fun n => if n = 46 then 68 else 77, fun n => n⟩
theorem laysM : Lays.n264 Try.prog renM where
  mixed := by kernel_rfl
  f264 := by kernel_rfl
  t46 := by kernel_rfl
  a46 := fun w => by rfl
  z46 := fun w => by rfl
  v46 := fun w => by rfl
  t53 := by kernel_rfl
  a53 := fun w => by rfl
  z53 := fun w => by rfl
  v53 := fun w => by rfl
theorem mul64_any (x y : Nat) (hx : x < 18446744073709551616) (hy : y < 18446744073709551616) (w : World) :
    Calls Try.prog 60 #[.int .u64 x, .int .u64 y] w fun e w' => e = .returned (.tuple #[.int .u64 ((x * y / 18446744073709551616 : Nat) : Int), .int .u64 ((x * y % 18446744073709551616 : Nat) : Int)]) ∧ w' = w :=
  Any.bits_Mul64 laysM x y hx hy w
theorem mul_one (q : Nat) (hq : q < 4294967296) (w : World) :
    Calls Try.prog 54 #[.int .u64 1, .int .u64 (q : Int)] w fun e w' => e = .returned (.tuple #[.int .u64 0, .int .u64 (q : Int)]) ∧ Ext w w' := by
  have M := Lib.hid (fun w => mul64_any 1 q (by omega) (by omega) w)
  rw [show 1 * q / 18446744073709551616 = 0 by omega, show 1 * q % 18446744073709551616 = q by omega, show ((1 : Nat) : Int) = 1 from rfl, show ((0 : Nat) : Int) = 0 from rfl] at M
  have ew : IntKind.u64.wrap (q : Int) = q := by rw [IntKind.wrap_u64]; omega
  go_enter Try.func54, Try.ntmps54
  go_wp2_with (go_at_call 60; (with_reducible refine (M.out _).mono ?_); rintro r w' ⟨rfl, rfl⟩)
  go_returns
  exact ⟨rfl, by (repeat' (first | with_reducible exact Ext.refl _ | with_reducible refine Ext.ext ?_ _ | with_reducible refine Ext.alloc ?_ _ | with_reducible refine Ext.drew ?_ | with_reducible refine Ext.drewN ?_ _ | with_reducible assumption))⟩
theorem rcs_rep (q : Nat) (u : Int) : rcs (List.replicate q (u, u)) = List.replicate (q * 2) (.int .i64 u) := by
  induction q with
  | zero => rfl
  | succ q ih => rw [List.replicate_succ, rcs, ih, show (q + 1) * 2 = q * 2 + 1 + 1 by omega, List.replicate_succ, List.replicate_succ]
theorem made_rcs (q : Nat) : madeCells #[.int .i64 0, .int .i64 0] (q * 2) = (rcs (List.replicate q (0, 0))).toArray := by
  rw [rcs_rep]
  apply Array.ext'
  apply List.ext_getElem
  · simp [madeCells]
  · intro i h1 h2
    have : i % 2 = 0 ∨ i % 2 = 1 := by omega
    rcases this with h | h <;> simp [madeCells, h]
def repC (r : Int × Int) (j q : Nat) : List Value := rcs (List.replicate j r ++ List.replicate (q - j) (0, 0))
theorem repC_len (r : Int × Int) {j q : Nat} (h : j ≤ q) : (repC r j q).length = q * 2 := by
  unfold repC
  rw [rcs_length, List.length_append, List.length_replicate, List.length_replicate]
  omega
theorem repC_copy (r : Int × Int) {j m q : Nat} (hm : j + m ≤ q) : (repC r j q).take (j * 2) ++ rcs (List.replicate m r) ++ (repC r j q).drop (j * 2 + m * 2) = repC r (j + m) q := by
  unfold repC
  have e1 : (rcs (List.replicate j r)).length = j * 2 := by rw [rcs_length, List.length_replicate]
  have e2 : List.replicate (q - j) ((0, 0) : Int × Int) = List.replicate m (0, 0) ++ List.replicate (q - (j + m)) (0, 0) := by rw [List.replicate_append_replicate]; congr 1; omega
  have e3 : (rcs (List.replicate j r) ++ rcs (List.replicate m (0, 0))).length = j * 2 + m * 2 := by rw [List.length_append, rcs_length, rcs_length, List.length_replicate, List.length_replicate]
  rw [rcs_append, ← e1, List.take_left, e1, e2, rcs_append, ← List.append_assoc, ← e3, List.drop_left, ← rcs_append, List.replicate_append_replicate, ← rcs_append]
theorem repC_get (r : Int × Int) {j m q : Nat} (hm : m ≤ j) (i : Nat) (u : Value) (h : (rcs (List.replicate m r))[i]? = some u) : (repC r j q)[i]? = some u := by
  unfold repC
  have hlt := (List.getElem?_eq_some_iff.1 h).1
  rw [show j = m + (j - m) by omega, ← List.replicate_append_replicate, List.append_assoc, rcs_append, List.getElem?_append_left hlt]
  exact h
/-- The new row, its first 'j' elements filled. -/
def RepW (w : World) (g : Nat) (r : Int × Int) (j q : Nat) (wr : World) : Prop := Ext w wr ∧ w.heap.size ≤ g ∧ wr.heap[g]? = some (.cells (repC r j q).toArray 28 (0, 0))
theorem RepW.on {w : World} {g : Nat} {r : Int × Int} {j q : Nat} {wr wx : World} (h : RepW w g r j q wr) (hx : Ext wr wx) : RepW w g r j q wx := by
  obtain ⟨h1, h2, h3⟩ := h
  refine ⟨h1.trans hx, h2, ?_⟩
  obtain ⟨z, rfl⟩ := hx
  rw [ext_get _ _ _ (Array.getElem?_eq_some_iff.1 h3).1]
  exact h3
theorem info_rec' : (Try.prog.info? 28).map (·.size) = some 2 := by kernel_rfl
theorem RepW.copy {w : World} {g : Nat} {r : Int × Int} {j q : Nat} {wr : World} (h : RepW w g r j q wr) (hj : j ≤ q) (ty : TypeId) (dLen dCap sLen sCap m : Nat) (a : Addr) (hm : Nat.min sLen dLen = m) (hle : j + m ≤ q)
    (hsrc : ∀ i v, (rcs (List.replicate m r))[i]? = some v → wr.cell? (a.add i) = some v) :
    ∃ W, (Builtin.copy_ #[41, 41] ty #[.slice (some ⟨g, j * 2, none⟩) dLen dCap, .slice (some a) sLen sCap]).run Try.prog wr = .ok (.int .i64 (m : Nat)) W ∧ RepW w g r (j + m) q W := by
  obtain ⟨h1, h2, h3⟩ := h
  have hl : (rcs (List.replicate m r)).length = m * 2 := by rw [rcs_length, List.length_replicate]
  have hr := run_copy_rowk wr 41 ty 28 2 Try.underlying41 info_rec' g (j * 2) dLen dCap _ h3 a sLen sCap m (rcs (List.replicate m r)) hm hl hsrc (by rw [List.size_toArray, repC_len r hj, hl]; omega) (rcs_one _)
  refine ⟨_, hr, ?_, h2, ?_⟩
  · exact h1.grown (setRow_grown wr g _) (fun k hk => by cases hk; exact h2)
  · rw [setRow_get wr g _ _ _ h3]
    simp only [hl]
    rw [repC_copy r hle]
section
variable {ops : Array Oper} {rest : List Oper} {o : Oper} {a : Act} {Q : Exit → Act → World → Prop}
theorem step_copyR (wr : World) (hgd : o.guard = none) (s x : Operand) (ho : o.op = .call { callee := .builtin .copy, args := #[s, x], argTypes := #[41, 41] }) {w : World} {g : Nat} {r : Int × Int} {j q : Nat} (h : RepW w g r j q wr) (hj : j ≤ q) (d dLen dCap sLen sCap m : Nat) (b : Addr) (hs : a.eval s = .slice (some ⟨g, d, none⟩) dLen dCap) (hd : d = j * 2) (hx : a.eval x = .slice (some b) sLen sCap) (hm : Nat.min sLen dLen = m) (hle : j + m ≤ q)
    (hsrc : ∀ i v, (rcs (List.replicate m r))[i]? = some v → wr.cell? (b.add i) = some v)
    (k : ∀ W, RepW w g r (j + m) q W → wpList Try.prog ops Q rest (a.put o.dst (.int .i64 (m : Nat))) W) : wpList Try.prog ops Q (o :: rest) a wr := by
  subst hd
  obtain ⟨W, h1, h2⟩ := h.copy hj o.type dLen dCap sLen sCap m b hm hle hsrc
  exact wpList_copy_runY wr hgd s x 41 41 ho _ _ hs hx _ _ h1 (k W h2)
end
theorem rep_src {w W : World} {b : Nat} {r : Int × Int} (hb : w.heap[b]? = some (.cells #[.int .i64 r.1, .int .i64 r.2] 28 (0, 0))) (hx : Ext w W) (i : Nat) (v : Value) (hv : (rcs (List.replicate 1 r))[i]? = some v) : W.cell? ((⟨b, 0, none⟩ : Addr).add i) = some v := by
  obtain ⟨z, rfl⟩ := hx
  have hb' : (ext w z).heap[b]? = some (.cells #[.int .i64 r.1, .int .i64 r.2] 28 (0, 0)) := by rw [ext_get _ _ _ (Array.getElem?_eq_some_iff.1 hb).1]; exact hb
  rw [show (⟨b, 0, none⟩ : Addr).add i = ⟨b, 0 + i, none⟩ by unfold Addr.add; split <;> simp_all, Nat.zero_add, cell_of_row _ _ _ _ _ (0, 0) hb']
  simpa [rcs] using hv
theorem rep_cell {w : World} {g : Nat} {r : Int × Int} {j q m : Nat} {wr : World} (h : RepW w g r j q wr) (hm : m ≤ j) (i : Nat) (v : Value) (hv : (rcs (List.replicate m r))[i]? = some v) : wr.cell? ((⟨g, 0, none⟩ : Addr).add i) = some v := by
  rw [show (⟨g, 0, none⟩ : Addr).add i = ⟨g, 0 + i, none⟩ by unfold Addr.add; split <;> simp_all, Nat.zero_add, cell_of_row _ _ _ _ _ (0, 0) h.2.2]
  simpa using repC_get r hm i v hv
theorem RepW.row {w : World} {g : Nat} {r : Int × Int} {q : Nat} {wr : World} (h : RepW w g r q q wr) (hq : q ≤ 1073741823) : wr.ownsRow w.heap.size 28 2 (.slice (some ⟨g, 0, none⟩) q q) q (rcs (List.replicate q r)) := by
  obtain ⟨h1, h2, h3⟩ := h
  have e : repC r q q = rcs (List.replicate q r) := by unfold repC; rw [Nat.sub_self, List.replicate_zero, List.append_nil]
  rw [e] at h3
  have hl : (rcs (List.replicate q r)).length = q * 2 := by rw [rcs_length, List.length_replicate]
  exact ⟨hl, .inr ⟨g, q, _, rfl, h2, h3, Nat.le_refl _, by unfold maxLen; omega, by rw [List.size_toArray, hl], by rw [List.take_of_length_le (by simp only [hl]; omega)]⟩⟩
set_option maxHeartbeats 4000000 in
theorem repeat_any (r : Int × Int) (q : Nat) (hq : 1 ≤ q) (hq2 : q ≤ 1073741823) (b : Nat) (w : World) (hb : w.heap[b]? = some (.cells #[.int .i64 r.1, .int .i64 r.2] 28 (0, 0))) :
    Calls Try.prog 48 #[.slice (some ⟨b, 0, none⟩) 1 1, .int .i64 (q : Int)] w fun e w' => ∃ g, e = .returned (.slice (some ⟨g, 0, none⟩) q q) ∧ RepW w g r q q w' := by
  have M := Lib.hid (fun w => mul_one q (by omega) w)
  have mk : ∀ (w : World), (Instr.makeSlice 41 (.int .i64 (q : Int)) (.int .i64 (q : Int))).run Try.prog w = .ok (.slice (some ⟨w.heap.size, 0, none⟩) q q) (w.alloc (.cells (repC r 0 q).toArray 28)) := fun w => by
    obtain ⟨i0, hi0, hz0, hz1, hz2⟩ := info_parts (show (Try.prog.info? 28).map (fun i => (i.zero, i.size, i.bytes)) = some (some (.agg #[.int .i64 0, .int .i64 0]), 2, 16) by kernel_rfl)
    have h := run_make (P := Try.prog) w 41 28 i0 _ Try.underlying41 hi0 hz0 .i64 .i64 (q : Int) (q : Int) (by omega) (Int.le_refl _) (by rw [hz2]; omega) (by omega)
    rw [hz1, show ((q : Int)).toNat = q from rfl, show (Value.agg #[.int .i64 0, .int .i64 0]).cells = #[.int .i64 0, .int .i64 0] from rfl, made_rcs] at h
    exact h
  have ew : IntKind.u64.wrap (q : Int) = q := by rw [IntKind.wrap_u64]; omega
  have ew2 : IntKind.i64.wrap (q : Int) = q := by rw [IntKind.wrap_i64]; omega
  have HB := Lib.hid hb
  have i1 : decide ((q : Int) < 0) = false := decide_eq_false (by omega)
  clear hb
  go_enter Try.func48, Try.ntmps48
  have hblt : b < w.heap.size := (Array.getElem?_eq_some_iff.1 HB.out).1
  have CP := Lib.hid (fun x => RepW.copy (w := w) (g := w.heap.size + x.hs.length) (r := r) (j := 0) (q := q) (wr := (ext w x).alloc (.cells (repC r 0 q).toArray 28)) ⟨by (repeat' (first | with_reducible exact Ext.refl _ | with_reducible refine Ext.ext ?_ _ | with_reducible refine Ext.alloc ?_ _ | with_reducible refine Ext.drew ?_ | with_reducible refine Ext.drewN ?_ _ | with_reducible assumption)), by omega, by rw [← size_ext]; exact heap_alloc_new _ _⟩ (Nat.zero_le _) 3 q q 1 1 1 ⟨b, 0, none⟩ (by simp only [Nat.min_def]; split <;> omega) (by omega) (rep_src HB.out (by (repeat' (first | with_reducible exact Ext.refl _ | with_reducible refine Ext.ext ?_ _ | with_reducible refine Ext.alloc ?_ _ | with_reducible refine Ext.drew ?_ | with_reducible refine Ext.drewN ?_ _ | with_reducible assumption)))))
  go_wp2_with (first | (go_at_call 54; (with_reducible refine (M.out _).mono ?_); rintro e w' ⟨rfl, x, rfl⟩; obtain ⟨W, hcp, hW⟩ := CP.out x; clear CP; obtain ⟨z, rfl⟩ := hW.1; have HR := Lib.hid hW; clear hW; rw [Nat.zero_mul, show ((1 : Nat) : Int) = 1 from rfl] at hcp))
  go_loopw [8] (fun v wr => ∃ j : Nat, 1 ≤ j ∧ j ≤ q ∧ v = .int .i64 j ∧ RepW w (w.heap.size + x.hs.length) r j q wr) (fun v _ => q - (intOf v).toNat)
  case atStart => exact ⟨1, by omega, hq, rfl, HR.out⟩
  case round =>
    obtain ⟨j, hj1, hj, rfl, hr⟩ := hrel
    obtain ⟨z', rfl⟩ := hr.1
    have HR' := Lib.hid hr
    clear hr
    by_cases hlt : j < q
    · have i2 : (j : Int) < q := by omega
      have j0 : (0 : Int) ≤ j := by omega
      have j1 : (j : Int) ≤ q := by omega
      obtain ⟨W2, hcp2, hW2⟩ := RepW.copy (HR'.out.on (Ext.drew (Ext.refl _))) hj 3 (q - j) (q - j) j q (Nat.min j (q - j)) ⟨w.heap.size + x.hs.length, 0, none⟩ rfl (by simp only [Nat.min_def]; split <;> omega) (fun i v hv => rep_cell (HR'.out.on (Ext.drew (Ext.refl _))) (Nat.min_le_left _ _) i v hv)
      have hm1 : 1 ≤ Nat.min j (q - j) ∧ j + Nat.min j (q - j) ≤ q := by simp only [Nat.min_def]; split <;> omega
      obtain ⟨m, hm⟩ : ∃ m, Nat.min j (q - j) = m := ⟨_, rfl⟩
      rw [hm] at hcp2 hW2 hm1
      obtain ⟨z2, rfl⟩ := hW2.1
      have ej : IntKind.i64.wrap ((j : Int) + (m : Int)) = ((j + m : Nat) : Int) := by rw [IntKind.wrap_i64]; omega
      have HR2 := Lib.hid hW2
      clear hW2 hm
      have hcp3 := hcp2
      simp only [drew_ext] at hcp3
      have hqj : ¬ q = j := by omega
      go_wp2
      go_region
      go_wp2
      exact ⟨⟨j + m, by omega, by omega, by rw [Int.natCast_add], HR2.out⟩, by simp only [intOf]; omega⟩
    · obtain rfl : j = q := by omega
      go_wp2
      go_returns
      exact ⟨_, rfl, HR'.out⟩
end Go.Proofs.Ytbglfaomebokhaa
