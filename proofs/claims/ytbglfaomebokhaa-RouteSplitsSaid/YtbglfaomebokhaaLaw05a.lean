/- The laws of layer 5: awake. -/
import Derived.Test.YtbglfaomebokhaaBgL
namespace Go.Proofs.Ytbglfaomebokhaa
set_option linter.unusedSimpArgs false
set_option linter.unusedVariables false
open Go.RowKit

theorem own_cell {w : World} {b : Nat} {e : TypeId} {k n n' c g : Nat} {cs : List Value} (h : w.ownsRow b e k (.slice (some ⟨g, 0, none⟩) n c) n' cs) (i : Nat) (u : Value) (hu : cs[i]? = some u) : (∀ z, (ext w z).cell? ⟨g, i, none⟩ = some u) ∧ w.cell? ⟨g, i, none⟩ = some u := by
  have h1 := h.cells (g := g) rfl i u hu
  rw [show (⟨g, 0, none⟩ : Addr).add i = ⟨g, 0 + i, none⟩ by unfold Addr.add; split <;> simp_all, Nat.zero_add] at h1
  exact ⟨fun z => by rw [cell_ext_a _ _ _ (World.block_lt_of_cell? _ _ h1), h1], h1⟩
theorem keep_cell {w w' : World} {b i : Nat} {u : Value} (h : w.cell? ⟨b, i, none⟩ = some u) (hx : Ext w w') : (∀ z, (ext w' z).cell? ⟨b, i, none⟩ = some u) ∧ w'.cell? ⟨b, i, none⟩ = some u := by
  obtain ⟨x, rfl⟩ := hx
  have h1 : (ext w x).cell? ⟨b, i, none⟩ = some u := by rw [cell_ext_a _ _ _ (World.block_lt_of_cell? _ _ h), h]
  exact ⟨fun z => by rw [cell_ext_a _ _ _ (World.block_lt_of_cell? _ _ h1), h1], h1⟩
/-- A literal reads. -/
theorem rd_lit (w : World) (k n c g : Nat) (cs : Array Value) (e : TypeId) (hn : cs.size = n * k) (hg : g = w.heap.size) : Rd (w.alloc (.cells cs e)) k n (.slice (some ⟨g, 0, none⟩) n c) cs.toList := by
  subst hg
  refine ⟨by simpa using hn, _, _, rfl, fun _ => ⟨_, 0, rfl, fun i u hu => ?_⟩⟩
  rw [cell_of_row _ _ _ cs e (0, 0) (heap_alloc_new w _), Nat.zero_add]
  simpa using hu
theorem rd_take {w : World} {k n m c : Nat} {a : Option Addr} {cs : List Value} (h : Rd w k n (.slice a n c) cs) (hm : m ≤ n) : Rd w k m (.slice a m c) (cs.take (m * k)) := by
  refine ⟨by rw [List.length_take, h.len]; exact Nat.min_eq_left (Nat.mul_le_mul_right k hm), a, c, rfl, fun h0 => ?_⟩
  obtain ⟨b, off, rfl, hc⟩ := h.cells (by omega)
  exact ⟨b, off, rfl, fun i u hu => hc i u (by rw [List.getElem?_take] at hu; split at hu; exact hu; cases hu)⟩
theorem rcs_take : ∀ (l : List (Int × Int)) (m : Nat), rcs (l.take m) = (rcs l).take (m * 2)
  | [], m => by simp [rcs]
  | a :: l, 0 => by simp [rcs]
  | a :: l, m + 1 => by
    rw [show (m + 1) * 2 = m * 2 + 1 + 1 by omega]
    simp only [List.take_succ_cons, rcs, rcs_take l m]
theorem aw_of : ofF [(1, 2), (1, 1), (1, 2)] = [⟨1, 1, 1⟩, ⟨1, 2, 2⟩] := by rfl
theorem aw_list : listS [⟨1, 1, 1⟩, ⟨1, 2, 2⟩] = [(1, 1), (1, 2), (1, 2)] := by rfl
theorem aw_ok : okL [⟨1, 1, 1⟩, ⟨1, 2, 2⟩] = true := by rfl
theorem aw_less : decide (ordR (1, 1) (1, 2) < 0) = true := by rfl
set_option maxHeartbeats 4000000 in
theorem awake_any (w : World) : Calls Try.prog 22 #[] w fun e w' => e = .returned (.bool true) ∧ Ext w w' := by
  have O := Lib.hid (fun a c w h => bagOf_any [(1, 2), (1, 1), (1, 2)] a c w h (by decide))
  have L := Lib.hid (fun a c w h => bagList_any [⟨1, 1, 1⟩, ⟨1, 2, 2⟩] a c w h (by decide))
  have S := Lib.hid (fun w => less_any (1, 1) (1, 2) w)
  rw [aw_of] at O
  rw [aw_list, aw_ok] at L
  rw [aw_less] at S
  go_enter Try.func22, Try.ntmps22
  go_wp2_with (first | (go_at_call 24; refine (O.out _ _ _ (rd_lit _ 2 3 _ _ _ _ (by rfl) (by simp))).mono ?_; rintro e w1 ⟨v1, rfl, hx, a1, c1, rfl, ho⟩; obtain ⟨g, rfl, -⟩ := own_form ho (by decide); have HX := Lib.hid hx; have HO := Lib.hid ho; clear hx ho) | (go_at_call 26; refine (L.out _ _ _ (own_rd HO.out)).mono ?_; rintro e w2 ⟨v2, rfl, hx2, a2, c2, rfl, ho2⟩; obtain ⟨g2, rfl, -⟩ := own_form ho2 (by decide); have HX2 := Lib.hid hx2; have d0 := (own_cell ho2 0 _ rfl).1; have d1 := (own_cell ho2 1 _ rfl).1; have d2 := (own_cell ho2 2 _ rfl).1; have d3 := (own_cell ho2 3 _ rfl).1; have c0 := (keep_cell (own_cell HO.out 3 _ rfl).2 hx2).1; have c1 := (keep_cell (own_cell HO.out 4 _ rfl).2 hx2).1; have c2 := (keep_cell (own_cell HO.out 5 _ rfl).2 hx2).1; clear hx2 ho2))
  refine wp_region_ext (by kernel_rfl) (by kernel_rfl) ?_
  repeat (go_big_quiet_step (first | (go_at_call 31; (apply quiet_of; (with_reducible exact S.out _); (intro w' hx; obtain ⟨z, rfl⟩ := hx; (try simp only [ext_ext, add_assoc]); exact ⟨_, rfl⟩)))))
  refine wpQuiet_nil ?_
  intro xK
  go_wp2
  go_returns
  exact ⟨retb rfl rfl, ((((Ext.refl _).alloc _).trans HX.out).trans HX2.out).ext _⟩
end Go.Proofs.Ytbglfaomebokhaa
