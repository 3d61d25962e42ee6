/- Fair: Make. -/
import Derived.Test.YtgjolablgcnlmaaFa6
import Derived.Test.YtgjolablgcnlmaaApp
namespace Go.Proofs.Ytgjolablgcnlmaa
set_option linter.unusedSimpArgs false
set_option linter.unusedVariables false
open Go.RowKit

theorem shuf_len : ∀ (i : Nat) (xs : List Int) (x : Int), (shuf i xs x).1.length = xs.length
  | 0, xs, x => rfl
  | i + 1, xs, x => by rw [shuf, shuf_len i, swp_len]
theorem shuf_in : ∀ (i : Nat) (xs : List Int) (x : Int), (0 ≤ x ∧ x < 18446744073709551616) → 0 ≤ (shuf i xs x).2 ∧ (shuf i xs x).2 < 18446744073709551616
  | 0, xs, x, h => h
  | i + 1, xs, x, _ => by rw [shuf]; exact shuf_in i _ _ (nextI_in x)
theorem roundS_len (T : Nat) (x : Int) : (roundS T x).1.length = T := by unfold roundS; rw [shuf_len]; unfold iota; simp
def rnds (T : Nat) (x : Int) : Nat → List Int × Int
  | 0 => ([], x)
  | r + 1 => ((rnds T x r).1 ++ (roundS T (rnds T x r).2).1, (roundS T (rnds T x r).2).2)
theorem rnds_len (T : Nat) (x : Int) : ∀ r, (rnds T x r).1.length = r * T
  | 0 => by simp [rnds]
  | r + 1 => by rw [rnds, List.length_append, rnds_len T x r, roundS_len, Nat.succ_mul]
theorem rnds_in (T : Nat) (x : Int) (h : 0 ≤ x ∧ x < 18446744073709551616) : ∀ r, 0 ≤ (rnds T x r).2 ∧ (rnds T x r).2 < 18446744073709551616
  | 0 => h
  | r + 1 => shuf_in _ _ _ (rnds_in T x h r)
theorem rnds_pre (T : Nat) (x : Int) (r : Nat) : ∀ d, (rnds T x (r + d)).1.take (r * T) = (rnds T x r).1
  | 0 => List.take_of_length_le (by rw [Nat.add_zero, rnds_len]; exact Nat.le_refl _)
  | d + 1 => by
    rw [← Nat.add_assoc, rnds, List.take_append_of_le_length (by rw [rnds_len]; exact Nat.mul_le_mul_right _ (Nat.le_add_right _ _)), rnds_pre T x r d]
/-- A schedule that is made. -/
def makeS (T M : Nat) (x : Int) : List Int := (rnds T x M).1.take M
theorem makeS_eq {T M : Nat} (hT : 1 ≤ T) (x : Int) {r : Nat} (hr : M ≤ r * T) : makeS T M x = (rnds T x r).1.take M := by
  unfold makeS
  have hM : M ≤ M * T := Nat.le_mul_of_pos_right M hT
  rcases Nat.le_total r M with h | h
  · obtain ⟨d, rfl⟩ : ∃ d, M = r + d := ⟨M - r, by omega⟩
    rw [← rnds_pre T x r d, List.take_take, Nat.min_eq_left hr]
  · obtain ⟨d, rfl⟩ : ∃ d, r = M + d := ⟨r - M, by omega⟩
    rw [← rnds_pre T x M d, List.take_take, Nat.min_eq_left hM]
theorem makeS_len {T M : Nat} (hT : 1 ≤ T) (x : Int) : (makeS T M x).length = M := by
  unfold makeS
  rw [List.length_take, rnds_len]
  exact Nat.min_eq_left (Nat.le_mul_of_pos_right M hT)
def lenV : Value → Nat
  | .slice _ n _ => n
  | _ => 0
theorem run_maxU {P : Program} (s : Int) (ats : Array TypeId) (ty : TypeId) (w : World) : (Builtin.max_ ats ty #[.int .u64 s, .int .u64 1]).run P w = .ok (.int .u64 (max s 1)) w := by
  simp only [Builtin.max_, List.foldlM, Builtin.max2, Sem.run_bind, Sem.run_pure, Result.andThen_ok]
  have : (if s < 1 then 1 else s) = max s 1 := by
    rw [Int.max_def]
    split <;> split <;> omega
  first | rw [this] | (simp; omega)
theorem Dr.keptO {w0 w w' : World} {p : Nat} {x : Int} {row : Option Nat} (h : Dr w0 w p x) (hg : w.grownBy w' row) (hx : Ext w0 w') (hne : row ≠ some p) : Dr w0 w' p x := by
  obtain ⟨h1, h2, h3⟩ := h
  exact ⟨hx, h2, by rw [hg.block p (Array.getElem?_eq_some_iff.1 h3).1 (fun e => hne e.symm), h3]⟩
theorem rd_takec {w : World} {k n m c : Nat} {a : Option Addr} {cs : List Value} (h : Rd w k n (.slice a n c) cs) (hm : m ≤ n) (c' : Nat) : Rd w k m (.slice a m c') (cs.take (m * k)) := by
  refine ⟨by rw [List.length_take, h.len]; exact Nat.min_eq_left (Nat.mul_le_mul_right k hm), a, c', rfl, fun h0 => ?_⟩
  obtain ⟨b, off, rfl, hc⟩ := h.cells (by omega)
  exact ⟨b, off, rfl, fun i u hu => hc i u (by rw [List.getElem?_take] at hu; split at hu; exact hu; cases hu)⟩
/-- May a schedule of so many picks of so many things be made? -/
def mayMake (T M : Int) : Bool := decide (1 ≤ T) && (decide (T ≤ 1024) && (decide (0 ≤ M) && decide (M ≤ 65536)))
theorem rw_rd {w0 w : World} {g : Nat} {xs : List Int} (h : Rw w0 w g xs) : Ri w .i64 (.slice (some ⟨g, 0, none⟩) xs.length xs.length) xs := by
  refine ⟨by simp, _, _, rfl, fun _ => ⟨g, 0, rfl, fun i u hu => ?_⟩⟩
  rw [List.getElem?_map, Option.map_eq_some_iff] at hu
  obtain ⟨x, hx, rfl⟩ := hu
  rw [Nat.zero_add]
  exact (h.cell hx).1
theorem vs_one (l : List Int) : ∀ u ∈ vs l, u.oneCell' = true := by
  intro u hu
  obtain ⟨x, -, rfl⟩ := List.mem_map.1 hu
  rfl
theorem make_bad (T M seed : Int) (w : World) (h : mayMake T M = false) :
    Calls Try.prog 22 #[.int .i64 T, .int .i64 M, .int .u64 seed] w fun e w' => e = .returned (.tuple #[.slice none 0 0, .int .i64 1]) ∧ Ext w w' := by
  unfold mayMake at h
  obtain ⟨b1, f1⟩ : ∃ b, decide (T < 1) = b := ⟨_, rfl⟩
  obtain ⟨b2, f2⟩ : ∃ b, decide (1024 < T) = b := ⟨_, rfl⟩
  obtain ⟨b3, f3⟩ : ∃ b, decide (M < 0) = b := ⟨_, rfl⟩
  obtain ⟨b4, f4⟩ : ∃ b, decide (65536 < M) = b := ⟨_, rfl⟩
  have hb : (b1 || (b2 || (b3 || b4))) = true := by
    subst f1 f2 f3 f4
    rw [Bool.eq_false_iff] at h
    apply Classical.byContradiction
    intro hn
    simp only [Bool.or_eq_true, decide_eq_true_eq, not_or] at hn
    apply h
    simp only [Bool.and_eq_true, decide_eq_true_eq]
    omega
  clear h
  cases b1 <;> cases b2 <;> cases b3 <;> cases b4 <;> first | (exfalso; simp at hb; done) | skip
  all_goals
    clear hb
    go_enter Try.func22, Try.ntmps22
    go_wp2
    go_returns
    exact ⟨rett rfl rfl, by (repeat' (first | with_reducible exact Ext.refl _ | with_reducible refine Ext.ext ?_ _ | with_reducible refine Ext.alloc ?_ _ | with_reducible refine Ext.drew ?_ | with_reducible refine Ext.drewN ?_ _ | with_reducible assumption))⟩
set_option maxRecDepth 100000 in
set_option maxHeartbeats 8000000 in
theorem make_good (T M : Nat) (hT : 1 ≤ T ∧ T ≤ 1024) (hM : M ≤ 65536) (seed : Int) (hs : 0 ≤ seed ∧ seed < 18446744073709551616) (w : World) :
    Calls Try.prog 22 #[.int .i64 T, .int .i64 M, .int .u64 seed] w fun e w' => ∃ a, e = .returned (.tuple #[.slice a M M, .int .i64 0]) ∧ Ext w w' ∧ Ri w' .i64 (.slice a M M) (makeS T M (max seed 1)) := by
  have hmx := fun ats ty w => run_maxU (P := Try.prog) seed ats ty w
  have X0 : Hid (0 ≤ max seed 1 ∧ max seed 1 < 18446744073709551616) := Lib.hid (by omega)
  generalize max seed 1 = x at *
  have HT := Lib.hid hT
  have HM := Lib.hid hM
  have m1 : (1 : Int) ≤ T := by omega
  have m2 : (T : Int) ≤ 1024 := by omega
  have m3 : (0 : Int) ≤ M := by omega
  have m4 : (M : Int) ≤ 65536 := by omega
  clear hT hM hs
  go_enter Try.func22, Try.ntmps22
  go_wp2
  go_loopw [9] (fun so wr => ∃ (r c : Nat) (a : Option Addr), (r * T < M + T) ∧ so = .slice a (r * T) c ∧ wr.ownsRow (w.heap.size + 1) 3 1 (.slice a (r * T) c) (r * T) (vs (rnds T x r).1) ∧ Dr w wr w.heap.size (rnds T x r).2) (fun so _ => M + 1 - lenV so)
  case atStart => exact ⟨0, 0, none, by have := HT.out; omega, by rw [Nat.zero_mul], by rw [Nat.zero_mul]; exact World.ownsRow_nil _ _ _ _, ⟨(Ext.refl w).alloc _, Nat.le_refl _, heap_alloc_new w _⟩⟩
  case round =>
    obtain ⟨r, c, a, hr, rfl, hown, hdr⟩ := hrel
    obtain ⟨w2, hw2⟩ : ∃ y, y = wr := ⟨_, rfl⟩
    subst hw2
    have HO := Lib.hid hown
    have HD := Lib.hid hdr
    have HRR := Lib.hid hr
    have hxr := rnds_in T x X0.out r
    obtain ⟨L, hL⟩ : ∃ L, L = r * T := ⟨_, rfl⟩
    rw [← hL] at HO HRR ⊢
    have HL := Lib.hid hL
    by_cases hlt : L < M
    · have RND := Lib.hid (round_any hdr hxr.1 hxr.2 T HT.out)
      have HLT := Lib.hid hlt
      have i2 : (L : Int) < M := by omega
      have hnx : rnds T x (r + 1) = ((rnds T x r).1 ++ (roundS T (rnds T x r).2).1, (roundS T (rnds T x r).2).2) := rfl
      have HNX := Lib.hid hnx
      have HRL := Lib.hid (roundS_len T (rnds T x r).2)
      generalize roundS T (rnds T x r).2 = rs at *
      have hsz : w.heap.size + 1 ≤ w2.heap.size := (Array.getElem?_eq_some_iff.1 hdr.2.2).1
      have HSZ := Lib.hid hsz
      clear hown hdr hr hxr hL hlt hnx hsz
      go_wp2_with (first | (go_at_call 30; refine (RND.out).mono ?_; rintro e w3 ⟨g, rfl, hd3, hr3, hg3, hge⟩; have HD3 := Lib.hid hd3; have HR3 := Lib.hid (rw_rd hr3); have HS3 := Lib.hid hg3.size; have HO3 := Lib.hid (HO.out.kept hg3 (by cases hv : (Value.slice a L c).ownBlock with | none => exact .inl rfl | some k => exact .inr (fun e => by have := (HO.out.lt k hv).1; cases e; omega))); have HX3 := Lib.hid hd3.1; clear hd3 hr3 hg3 hge) | (at_builtin; refine wpList_app rfl _ _ 38 rfl 3 (.int .i64 0) 1 8 Try.underlying38 info_int' rfl (by decide) w HX3.out (w.heap.size + 1) _ L _ HO3.out T _ (vs rs.1) rfl rfl (by have := HR3.out; rw [HRL.out] at this; have h2 := this; unfold Ri at h2; rw [HRL.out] at h2; exact h2) (vs_one _) (by have := HT.out; have := HM.out; have := HLT.out; unfold maxLen; omega) (by have := HT.out; have := HM.out; have := HLT.out; omega) (by have := HSZ.out; have := HS3.out; omega) (by omega) ?_; intro b c' y hown hgr hat; have HOW := Lib.hid hown; have HGR := Lib.hid hgr; clear hown hgr hat))
      refine ⟨⟨r + 1, c', b, ?_, ?_, ?_, ?_⟩, ?_⟩
      · rw [Nat.succ_mul, ← HL.out]; have := HLT.out; omega
      · rw [Nat.succ_mul, ← HL.out]
      · rw [Nat.succ_mul, ← HL.out, HNX.out]
        have := HOW.out
        unfold vs at this ⊢
        rw [List.map_append]
        exact this
      · rw [HNX.out]
        exact HD3.out.keptO HGR.out ⟨_, rfl⟩ (fun e => by have := (HO.out.lt _ e).1; omega)
      · have := HLT.out
        have := HT.out
        simp only [lenV]
        omega
    · have hc : L ≤ c := by
        rcases hown.2 with ⟨h2, _⟩ | ⟨g', cap, cur, hv, hg, hh, hnc, _⟩
        · rw [← hL] at h2
          obtain ⟨-, rfl, rfl⟩ := Value.slice.inj h2
          exact Nat.le_refl _
        · rw [← hL] at hv
          obtain ⟨_, _, rfl⟩ := Value.slice.inj hv
          rw [hL]; exact hnc
      have hML : M ≤ L := by omega
      have HFIN := Lib.hid (show Ri w2 .i64 (.slice a M M) (makeS T M x) by
        have h1 := own_rd HO.out
        rw [makeS_eq HT.out.1 x (r := r) (by rw [← hL]; exact hML)]
        have hl : ((rnds T x r).1.take M).length = M := by rw [List.length_take, rnds_len, ← hL]; omega
        unfold Ri
        rw [hl, List.map_take]
        have h2 := rd_takec h1 hML M
        rw [Nat.mul_one] at h2
        exact h2)
      have HEX := Lib.hid hdr.1
      have key : a = none ∨ ∃ g, a = some ⟨g, 0, none⟩ := by
        rcases HO.out.2 with ⟨h2, _⟩ | ⟨g', cap, cur, hv, _⟩
        · exact .inl (Value.slice.inj h2).1
        · exact .inr ⟨g', (Value.slice.inj hv).1⟩
      have i1 : ¬ ((L : Int) < M) := by omega
      have i2 : decide ((L : Int) < M) = false := decide_eq_false i1
      have i2' : decide (L < M) = false := decide_eq_false hlt
      have i3 : (M : Int) ≤ c := by omega
      have i4 : (M : Int) ≤ L := by omega
      have i5 : M ≤ c := by omega
      clear hown hdr hr hL hlt hc hML HL HRR i1 HO HD hxr
      rcases key with rfl | ⟨g, rfl⟩
      all_goals
        go_wp2
        go_returns
        exact ⟨_, rett rfl rfl, HEX.out, HFIN.out⟩
end Go.Proofs.Ytgjolablgcnlmaa
