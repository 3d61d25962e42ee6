/- NetKeeps' region 31: a number is taken out of a row. -/
import Derived.Test.YtlhmifkimnmnmaaNtQ
import Derived.Test.YtlhmifkimnmnmaaLaw14n
import Derived.Test.YtlhmifkimnmnmaaInv3
namespace Go.Proofs.Ytlhmifkimnmnmaa
set_option linter.unusedSimpArgs false
set_option linter.unusedVariables false
open Go.RowKit

noncomputable def ops31 : Array Oper := ((Try.f4.body.bind (regOf 31)).getD #[])
theorem ops31_size : ops31.size = 11 := by kernel_rfl
theorem ops31_ac : acyc .any ops31 = true := by kernel_rfl
theorem ops31_once : once ops31 = true := by kernel_rfl
theorem ops31_fits : fits ops31 193 = true := by kernel_rfl
def ts31 : List Nat := [124, 125, 126, 127, 128, 129, 130, 131, 132, 133, 6]
theorem ops31_ts : ops31.toList.filterMap (·.dst) = ts31 := by kernel_rfl
theorem ops31_dst : ∀ i, i < 11 → dstOf ops31 i ≠ none := fun i hi h => by
  have : (List.range 11).all (fun i => (dstOf ops31 i).isSome) = true := by kernel_rfl
  rw [List.all_eq_true] at this
  have h2 := this i (List.mem_range.2 hi)
  rw [h] at h2
  cases h2
def F31 (w1 : World) (l : List Int) (a1 : Option Addr) (c1 K : Nat) : Nat → (Nat → Bool) → Value → World → Prop
  | 0, L, v, W => L 4 = false → Nums w1 W [] v
  | 1, _, v, _ => v = .slice a1 l.length c1
  | 2, _, v, _ => v = .int .i64 K
  | 3, _, v, _ => Rd w1 1 K v ((l.take K).map (Value.int .i64))
  | 4, L, v, W => L 9 = false → Nums w1 W (l.take K) v
  | 5, _, v, _ => v = .slice a1 l.length c1
  | 6, _, v, _ => v = .int .i64 K
  | 7, _, v, _ => v = .int .i64 ((K + 1 : Nat) : Int)
  | 8, _, v, _ => Rd w1 1 (l.length - (K + 1)) v ((l.drop (K + 1)).map (Value.int .i64))
  | 9, _, v, W => Nums w1 W (l.eraseIdx K) v
  | _, _, v, W => Nums w1 W (l.eraseIdx K) v
theorem F31_stays (w1 : World) (l : List Int) (a1 : Option Addr) (c1 K : Nat) : StaysF (F31 w1 l a1 c1 K) 11 := by
  intro k hk L i v W W' hi hx h
  match k, h with
  | 0, h => exact fun e => (h (upd_false e)).on hx
  | 1, h => exact h
  | 2, h => exact h
  | 3, h => exact h
  | 4, h => exact fun e => (h (upd_false e)).on hx
  | 5, h => exact h
  | 6, h => exact h
  | 7, h => exact h
  | 8, h => exact h
  | 9, h => exact Nums.on h hx
  | 10, h => exact Nums.on h hx
theorem app_nums {a : Act} {K : Act → World → Prop} {Q : Exit → Act → World → Prop} {o : Oper} {w : World} (s x : Operand) (ho : o.op = .call { callee := .builtin .append, args := #[s, x], argTypes := #[45, 45] })
    (w0 : World) (hx0 : Ext w0 w) (v : Value) (l : List Int) (h : Nums w0 w l v) (m : List Int) (u : Value) (hs : a.eval s = v) (hx : a.eval x = u) (hr : Rd w 1 m.length u (m.map (Value.int .i64))) (hl : l.length + m.length ≤ 1000000)
    (k : ∀ v' W, Ext w0 W → Nums w0 W (l ++ m) v' → w.grownBy W v.ownBlock → K (a.put o.dst v') W) : o.wp Try.prog a w K Q := by
  obtain ⟨a1, c1, rfl, hown⟩ := h
  refine wp_app s x 45 ho 3 (.int .i64 0) 1 8 Try.underlying45 info_i64i rfl (by decide) w0 hx0 w0.heap.size _ l.length _ hown m.length u _ hs hx hr (ints_one m) (by unfold maxLen; omega) (by omega) (Ext.grows hx0 none).size (Nat.le_refl _) ?_
  intro b c y hown1 hgr hat
  refine k _ _ ⟨y, rfl⟩ ⟨b, c, by rw [List.length_append], ?_⟩ hgr
  rw [List.length_append, List.map_append]
  exact hown1
theorem rdTake {w : World} {k n m c : Nat} {a : Option Addr} {cs : List Value} (h : Rd w k n (.slice a n c) cs) (hm : m ≤ n) : Rd w k m (.slice a m c) (cs.take (m * k)) := by
  have hl := h.len
  have hmk := Nat.mul_le_mul_right k hm
  refine ⟨by rw [List.length_take, hl, Nat.min_eq_left hmk], a, c, rfl, fun h0 => ?_⟩
  obtain ⟨b, off, rfl, hc⟩ := h.cells (by omega)
  refine ⟨b, off, rfl, fun i u hu => hc i u ?_⟩
  rw [List.getElem?_take] at hu
  split at hu
  · exact hu
  · cases hu
theorem rdFrom {w : World} {k n m c c' b off : Nat} {ao : Option Addr} {cs : List Value} (h : Rd w k n (.slice (some ⟨b, off, none⟩) n c) cs) (hm : m ≤ n) (ha : m < n → ao = some ⟨b, off + m * k, none⟩) : Rd w k (n - m) (.slice ao (n - m) c') (cs.drop (m * k)) := by
  have hl := h.len
  refine ⟨by rw [List.length_drop, hl, Nat.sub_mul], ao, c', rfl, fun h0 => ?_⟩
  obtain ⟨b', off', hb, hc⟩ := h.cells (by omega)
  obtain ⟨rfl, rfl⟩ : b = b' ∧ off = off' := by simpa using hb
  refine ⟨b, off + m * k, ha (by omega), fun i u hu => ?_⟩
  rw [List.getElem?_drop] at hu
  have := hc _ _ hu
  rwa [show off + (m * k + i) = off + m * k + i by omega] at this
set_option maxRecDepth 100000 in
set_option maxHeartbeats 4000000 in
theorem reg31 (a0 : Act) (w1 : World) (l : List Int) (a1 : Option Addr) (c1 K : Nat) (Q : Exit → Act → World → Prop) (v6 : V a0 6 = .slice a1 l.length c1) (v19 : V a0 19 = .int .i64 K) (hsz : a0.tmps.size = 193)
    (hr : Rd w1 1 l.length (.slice a1 l.length c1) (l.map (Value.int .i64))) (hc : l.length ≤ c1) (hK : K < l.length) (hl : l.length ≤ 1000)
    (hQ : ∀ a W, Near ts31 a0 a → Ext w1 W → Nums w1 W (l.eraseIdx K) (V a 6) → Q .normal a W) : (Code.region 31 ops31 true).wp Try.prog Q a0 w1 := by
  obtain ⟨b, off, rfl, hcell⟩ := hr.cells (by omega)
  have ST : StaysF (F31 w1 l (some ⟨b, off, none⟩) c1 K) ops31.size := by rw [ops31_size]; exact F31_stays w1 l _ c1 K
  have k1 : (0 : Int) ≤ (K : Int) := by omega
  have k2 : (K : Int) ≤ (c1 : Int) := by omega
  have k3 : ((K : Int) + 1) ≤ (l.length : Int) := by omega
  have k4 : (0 : Int) ≤ (K : Int) + 1 := by omega
  refine wp_region_facts (F31 w1 l (some ⟨b, off, none⟩) c1 K) 11 (by kernel_rfl) ops31_ac ops31_once ops31_size (by rw [hsz]; exact ops31_fits) (fun i h hi => absurd h (ops31_dst i hi)) ?_ ?_
  · intro i hi
    match i, hi with
    | 0, hi =>
      refine step_free fun o ho => ?_
      have ho' := ho
      cases ho'
      refine ⟨rfl, fun L a W hL hd hJ K' hK' => ?_⟩
      conv => arg 2; whnf
      go_simp
      exact hK' _ _ (hJ.ext.alloc _) (hJ.frame ST hL ((Ext.refl _).alloc _)) (fun _ => ⟨_, 0, rfl, World.ownsRow_made W #[] 0 (Ext.grows hJ.ext none).size (by decide) (by simp)⟩)
    | 1, hi =>
      refine step_free fun o ho => ?_
      have ho' := ho
      cases ho'
      refine ⟨rfl, fun L a W hL hd hJ K' hK' => ?_⟩
      have u6 := hJ.old (t := 6) hL (by kernel_rfl) v6
      conv => arg 2; whnf
      go_simp
      exact hK' _ _ hJ.ext (hJ.frame ST hL (Ext.refl _)) rfl
    | 2, hi =>
      refine step_free fun o ho => ?_
      have ho' := ho
      cases ho'
      refine ⟨rfl, fun L a W hL hd hJ K' hK' => ?_⟩
      have u19 := hJ.old (t := 19) hL (by kernel_rfl) v19
      conv => arg 2; whnf
      go_simp
      exact hK' _ _ hJ.ext (hJ.frame ST hL (Ext.refl _)) rfl
    | 3, hi =>
      refine step_free fun o ho => ?_
      have ho' := ho
      cases ho'
      refine ⟨rfl, fun L a W hL hd hJ K' hK' => ?_⟩
      have f1 : a.tmps[125]?.getD undef = _ := hJ.dep ho hd (k := 1) (t := 125) (by kernel_rfl) (by kernel_rfl)
      have f2 : a.tmps[126]?.getD undef = _ := hJ.dep ho hd (k := 2) (t := 126) (by kernel_rfl) (by kernel_rfl)
      conv => arg 2; whnf
      go_simp
      refine hK' _ _ hJ.ext (hJ.frame ST hL (Ext.refl _)) ?_
      show Rd w1 1 K _ ((l.take K).map (Value.int .i64))
      have := rdTake hr (m := K) (by omega)
      rw [Nat.mul_one, ← List.map_take] at this
      exact this
    | 4, hi =>
      refine step_free fun o ho => ?_
      have ho' := ho
      cases ho'
      refine ⟨rfl, fun L a W hL hd hJ K' hK' => ?_⟩
      have f0 := hJ.dep ho hd (k := 0) (t := 124) (by kernel_rfl) (by kernel_rfl)
      have f3 := hJ.dep ho hd (k := 3) (t := 127) (by kernel_rfl) (by kernel_rfl)
      have hL9 : L 9 = false := by
        cases h : L 9 with
        | false => rfl
        | true => rw [hJ.anc 8 4 9 (by kernel_rfl) h] at hL; cases hL
      refine app_nums (.tmp 124) (.tmp 127) rfl w1 hJ.ext _ [] (f0 hL) (l.take K) _ (V_eval a 124) (V_eval a 127) (by rw [List.length_take, Nat.min_eq_left (by omega)]; exact f3.of_ext hJ.ext) (by rw [List.length_take]; simp; omega) ?_
      intro v' W' hx hn hgr
      refine hK' v' W' hx (fun k hk hl => ?_) (fun _ => by simpa using hn)
      have hf := hJ.fx k hk hl
      have hu : (upd L 4) 9 = false := by simp [upd, hL9]
      match k, hk, hl, hf with
      | 0, _, _, _ => exact fun e => absurd e (by simp [upd])
      | 1, _, _, hf => exact hf
      | 2, _, _, hf => exact hf
      | 3, _, _, hf => exact hf
      | 4, _, hl, _ => rw [hL] at hl; cases hl
      | 5, _, _, hf => exact hf
      | 6, _, _, hf => exact hf
      | 7, _, _, hf => exact hf
      | 8, _, _, hf => exact hf
      | 9, _, hl, _ => rw [hL9] at hl; cases hl
      | 10, _, hl, _ => rw [hJ.anc 8 4 10 (by kernel_rfl) hl] at hL; cases hL
      | n + 11, hk, _, _ => rw [ops31_size] at hk; omega
    | 5, hi =>
      refine step_free fun o ho => ?_
      have ho' := ho
      cases ho'
      refine ⟨rfl, fun L a W hL hd hJ K' hK' => ?_⟩
      have u6 := hJ.old (t := 6) hL (by kernel_rfl) v6
      conv => arg 2; whnf
      go_simp
      exact hK' _ _ hJ.ext (hJ.frame ST hL (Ext.refl _)) rfl
    | 6, hi =>
      refine step_free fun o ho => ?_
      have ho' := ho
      cases ho'
      refine ⟨rfl, fun L a W hL hd hJ K' hK' => ?_⟩
      have u19 := hJ.old (t := 19) hL (by kernel_rfl) v19
      conv => arg 2; whnf
      go_simp
      exact hK' _ _ hJ.ext (hJ.frame ST hL (Ext.refl _)) rfl
    | 7, hi =>
      refine step_free fun o ho => ?_
      have ho' := ho
      cases ho'
      refine ⟨rfl, fun L a W hL hd hJ K' hK' => ?_⟩
      have f6 : a.tmps[130]?.getD undef = _ := hJ.dep ho hd (k := 6) (t := 130) (by kernel_rfl) (by kernel_rfl)
      conv => arg 2; whnf
      go_simp
      exact hK' _ _ hJ.ext (hJ.frame ST hL (Ext.refl _)) (congrArg (Value.int .i64) ((IntWalk.i64_in _ ⟨by omega, by omega⟩).trans (by omega)))
    | 8, hi =>
      refine step_free fun o ho => ?_
      have ho' := ho
      cases ho'
      refine ⟨rfl, fun L a W hL hd hJ K' hK' => ?_⟩
      have f1 : a.tmps[129]?.getD undef = _ := hJ.dep ho hd (k := 5) (t := 129) (by kernel_rfl) (by kernel_rfl)
      have f2 : a.tmps[131]?.getD undef = _ := hJ.dep ho hd (k := 7) (t := 131) (by kernel_rfl) (by kernel_rfl)
      conv => arg 2; whnf
      go_simp
      refine hK' _ _ hJ.ext (hJ.frame ST hL (Ext.refl _)) ?_
      show Rd w1 1 (l.length - (K + 1)) _ ((l.drop (K + 1)).map (Value.int .i64))
      have := rdFrom (c' := c1 - (K + 1)) (ao := if c1 = K + 1 then some ⟨b, off, none⟩ else some ⟨b, off + (K + 1), none⟩) hr (m := K + 1) (by omega) (fun h => by rw [if_neg (by omega), Nat.mul_one])
      rw [Nat.mul_one, ← List.map_drop] at this
      exact this
    | 9, hi =>
      refine step_free fun o ho => ?_
      have ho' := ho
      cases ho'
      refine ⟨rfl, fun L a W hL hd hJ K' hK' => ?_⟩
      have f4 := hJ.dep ho hd (k := 4) (t := 128) (by kernel_rfl) (by kernel_rfl)
      have f8 := hJ.dep ho hd (k := 8) (t := 132) (by kernel_rfl) (by kernel_rfl)
      have l4 : L 4 = true := hJ.lead ho hd (k := 4) 7 (by kernel_rfl)
      refine app_nums (.tmp 128) (.tmp 132) rfl w1 hJ.ext _ (l.take K) (f4 hL) (l.drop (K + 1)) _ (V_eval a 128) (V_eval a 132) (by rw [List.length_drop]; exact f8.of_ext hJ.ext) (by rw [List.length_take, List.length_drop]; omega) ?_
      intro v' W' hx hn hgr
      refine hK' v' W' hx (fun k hk hl => ?_) (show Nums w1 W' (l.eraseIdx K) v' by rw [List.eraseIdx_eq_take_drop_succ]; exact hn)
      have hf := hJ.fx k hk hl
      match k, hk, hl, hf with
      | 0, _, _, _ => exact fun e => absurd e (by simp [upd, l4])
      | 1, _, _, hf => exact hf
      | 2, _, _, hf => exact hf
      | 3, _, _, hf => exact hf
      | 4, _, _, _ => exact fun e => absurd e (by simp [upd])
      | 5, _, _, hf => exact hf
      | 6, _, _, hf => exact hf
      | 7, _, _, hf => exact hf
      | 8, _, _, hf => exact hf
      | 9, _, hl, _ => rw [hL] at hl; cases hl
      | 10, _, hl, _ => rw [hJ.anc 8 9 10 (by kernel_rfl) hl] at hL; cases hL
      | n + 11, hk, _, _ => rw [ops31_size] at hk; omega
    | 10, hi =>
      refine step_free fun o ho => ?_
      have ho' := ho
      cases ho'
      refine ⟨rfl, fun L a W hL hd hJ K' hK' => ?_⟩
      have f9 : Nums _ _ _ (a.tmps[133]?.getD undef) := hJ.dep ho hd (k := 9) (t := 133) (by kernel_rfl) (by kernel_rfl)
      conv => arg 2; whnf
      go_simp
      exact hK' _ _ hJ.ext (hJ.frame ST hL (Ext.refl _)) f9
  · intro L a W hL hJ
    exact hQ a W (ops31_ts ▸ hJ.near) hJ.ext (hJ.get (k := 10) (t := 6) (by kernel_rfl) (hL 10 (by omega)))
end Go.Proofs.Ytlhmifkimnmnmaa
