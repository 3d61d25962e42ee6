/- Rows of api.Count: what they read, slices.Insert, slices.Delete. -/
import Derived.Test.YtfpmejbgmgdedaaCh4
import Derived.Test.YtfpmejbgmgdedaaApp
import Derived.Laws.CopyRow
import Derived.Lib.Overlaps
import Derived.Laws.Externs
import Derived.Lib.AppendZerosOnto
namespace Go.Proofs.Ytfpmejbgmgdedaa.Fr
set_option linter.unusedSimpArgs false
set_option linter.unusedVariables false
open Go.RowKit

structure Ct where
  d : Int
  a : Int
  b : Int
  c : Int
  e : Int
  n : Int

def cts : List Ct → List Value
  | [] => []
  | x :: l => .int .i64 x.d :: .int .i64 x.a :: .int .i64 x.b :: .int .i64 x.c :: .int .i64 x.e :: .int .i64 x.n :: cts l
theorem cts_length (l : List Ct) : (cts l).length = l.length * 6 := by
  induction l with
  | nil => rfl
  | cons a l ih => simp only [cts, List.length_cons, ih]; omega
theorem cts_append (l m : List Ct) : cts (l ++ m) = cts l ++ cts m := by
  induction l with
  | nil => rfl
  | cons a l ih => simp only [List.cons_append, cts, ih]

theorem cts_one (l : List Ct) : ∀ u ∈ cts l, u.oneCell' = true := by
  induction l with
  | nil => intro u hu; cases hu
  | cons a l ih =>
    intro u hu
    simp only [cts, List.mem_cons] at hu
    rcases hu with rfl | rfl | rfl | rfl | rfl | rfl | hu
    · rfl
    · rfl
    · rfl
    · rfl
    · rfl
    · rfl
    · exact ih u hu

theorem cts_get : ∀ (l : List Ct) (j : Nat) (x : Ct), l[j]? = some x → (cts l)[j * 6]? = some (.int .i64 x.d) ∧ (cts l)[j * 6 + 1]? = some (.int .i64 x.a) ∧ (cts l)[j * 6 + 2]? = some (.int .i64 x.b) ∧ (cts l)[j * 6 + 3]? = some (.int .i64 x.c) ∧ (cts l)[j * 6 + 4]? = some (.int .i64 x.e) ∧ (cts l)[j * 6 + 5]? = some (.int .i64 x.n)
  | [], j, x, h => by simp at h
  | a :: l, 0, x, h => by
    obtain rfl : a = x := by simpa using h
    exact ⟨rfl, rfl, rfl, rfl, rfl, rfl⟩
  | a :: l, j + 1, x, h => by
    have := cts_get l j x (by simpa using h)
    rw [show (j + 1) * 6 = j * 6 + 1 + 1 + 1 + 1 + 1 + 1 by omega]
    simpa [cts] using this

/-- The cells of an element. -/
theorem cts_at {w : World} {b off n c : Nat} {l : List Ct} (h : Rd w 6 n (.slice (some ⟨b, off, none⟩) n c) (cts l)) (j : Nat) (x : Ct) (hj : l[j]? = some x) :
    w.cell? ⟨b, off + j * 6, none⟩ = some (.int .i64 x.d) ∧ w.cell? ⟨b, off + j * 6 + 1, none⟩ = some (.int .i64 x.a) ∧ w.cell? ⟨b, off + j * 6 + 2, none⟩ = some (.int .i64 x.b) ∧ w.cell? ⟨b, off + j * 6 + 3, none⟩ = some (.int .i64 x.c) ∧ w.cell? ⟨b, off + j * 6 + 4, none⟩ = some (.int .i64 x.e) ∧ w.cell? ⟨b, off + j * 6 + 5, none⟩ = some (.int .i64 x.n) := by
  obtain ⟨h1, h2, h3, h4, h5, h6⟩ := cts_get l j x hj
  have hlt := (List.getElem?_eq_some_iff.1 hj).1
  have hl := h.len
  rw [cts_length] at hl
  obtain ⟨b', off', hb, hc⟩ := h.cells (by omega)
  obtain ⟨rfl, rfl⟩ : b = b' ∧ off = off' := by simpa using hb
  have c1 := hc _ _ h1
  have c2 := hc _ _ h2
  have c3 := hc _ _ h3
  have c4 := hc _ _ h4
  have c5 := hc _ _ h5
  have c6 := hc _ _ h6
  rw [← Nat.add_assoc] at c2 c3 c4 c5 c6
  exact ⟨c1, c2, c3, c4, c5, c6⟩

/-- A new literal of one element reads. -/
theorem cts_new (w : World) (x : Ct) (g : Nat) (hg : g = w.heap.size) : Rd (w.alloc (.cells #[.int .i64 x.d, .int .i64 x.a, .int .i64 x.b, .int .i64 x.c, .int .i64 x.e, .int .i64 x.n] 48)) 6 1 (.slice (some ⟨g, 0, none⟩) 1 1) (cts [x]) := ⟨rfl, _, _, rfl, fun _ => ⟨g, 0, rfl, fun j u hu => by
  rw [Nat.zero_add]
  exact cell_lit w _ _ _ _ _ hg (by simpa [cts] using hu)⟩⟩

theorem info_item : (Try.prog.info? 48).map (·.size) = some 6 := by kernel_rfl

theorem cts_take : ∀ (l : List Ct) (m : Nat), cts (l.take m) = (cts l).take (m * 6)
  | [], m => by simp [cts]
  | a :: l, 0 => by simp [cts]
  | a :: l, m + 1 => by
    rw [show (m + 1) * 6 = m * 6 + 1 + 1 + 1 + 1 + 1 + 1 by omega]
    simp only [List.take_succ_cons, cts, cts_take l m]
theorem cts_drop : ∀ (l : List Ct) (m : Nat), cts (l.drop m) = (cts l).drop (m * 6)
  | [], m => by simp [cts]
  | a :: l, 0 => by simp
  | a :: l, m + 1 => by
    rw [show (m + 1) * 6 = m * 6 + 1 + 1 + 1 + 1 + 1 + 1 by omega]
    simp only [List.drop_succ_cons, cts, cts_drop l m]
theorem cts_erase (l : List Ct) (i : Nat) : cts (l.eraseIdx i) = (cts l).take (i * 6) ++ (cts l).drop ((i + 1) * 6) := by
  rw [List.eraseIdx_eq_take_drop_succ, cts_append, cts_take, cts_drop]
theorem item_zero (w : World) : (zeroValue 48).run Try.prog w = .ok (.agg #[.int .i64 0, .int .i64 0, .int .i64 0, .int .i64 0, .int .i64 0, .int .i64 0]) w := by rfl
theorem item_zc : (Builtin.zeroCells (Value.agg #[.int .i64 0, .int .i64 0, .int .i64 0, .int .i64 0, .int .i64 0, .int .i64 0]).cells 1).toList = (Value.agg #[.int .i64 0, .int .i64 0, .int .i64 0, .int .i64 0, .int .i64 0, .int .i64 0]).cells.toList := by
  first | (simp [Builtin.zeroCells, Value.cells]; done) | (simp [Builtin.zeroCells, Value.cells, Array.range]; done) | kernel_rfl

/-- What two writes leave of a row's beginning. -/
theorem two_writes {cur xs news z : List Value} {i m : Nat} (hx : cur.take ((m + 1) * 6) = xs) (hl : xs.length = (m + 1) * 6) (hi : i ≤ m) (hnews : news = xs.drop ((i + 1) * 6)) (hz : z.length = 6) :
    ((cur.take (i * 6) ++ news ++ cur.drop (i * 6 + news.length)).take (m * 6) ++ z ++ (cur.take (i * 6) ++ news ++ cur.drop (i * 6 + news.length)).drop (m * 6 + 6)).take (m * 6) = xs.take (i * 6) ++ xs.drop ((i + 1) * 6) := by
  have hcl : (m + 1) * 6 ≤ cur.length := by
    have := congrArg List.length hx
    rw [List.length_take, hl] at this
    omega
  have hnl : news.length = (m - i) * 6 := by rw [hnews, List.length_drop, hl]; omega
  have h1 : (cur.take (i * 6) ++ news ++ cur.drop (i * 6 + news.length)).take (m * 6) = cur.take (i * 6) ++ news := by
    rw [List.take_append_of_le_length (by simp only [List.length_append, List.length_take, hnl]; omega)]
    exact List.take_of_length_le (by simp only [List.length_append, List.length_take, hnl]; omega)
  have h2 : (cur.take (i * 6) ++ news).length = m * 6 := by simp only [List.length_append, List.length_take, hnl]; omega
  rw [h1, List.append_assoc, List.take_append_of_le_length (by rw [h2]; exact Nat.le_refl _), List.take_of_length_le (by rw [h2]; exact Nat.le_refl _), hnews, ← hx, List.take_take, Nat.min_eq_left (by omega)]
/-- slices.Delete of one element. -/
theorem del_any (l : List Ct) (g cap m i : Nat) (base : Nat) (w : World) (h : w.ownsRow base 48 6 (.slice (some ⟨g, 0, none⟩) (m + 1) cap) (m + 1) (cts l)) (hi : i < m + 1) (hn : m ≤ 1073741824) :
    Calls Try.prog 59 #[.slice (some ⟨g, 0, none⟩) (m + 1) cap, .int .i64 i, .int .i64 ((i : Int) + 1)] w fun e w' => e = .returned (.slice (some ⟨g, 0, none⟩) m cap) ∧ w.grownBy w' (some g) ∧ w'.ownsRow base 48 6 (.slice (some ⟨g, 0, none⟩) m cap) m (cts (l.eraseIdx i)) := by
  obtain ⟨-, hb, hnc, hcm, hlen, cur, hg, hcs, htake⟩ := own_parts h
  have i0 : (0 : Int) ≤ i := by omega
  have i1 : (i : Int) < (m : Int) + 1 := by omega
  have i2 : (i : Int) ≤ cap := by omega
  have i3 : (i : Int) + 1 ≤ (m : Int) + 1 := by omega
  have i4 : (m : Int) + 1 ≤ cap := by omega
  have e1 : ((i : Int) == (i : Int) + 1) = false := by simp; omega
  have i5 : (0 : Int) ≤ (i : Int) + 1 := by omega
  have HG := Lib.hid hg
  have hread : ∀ j u, ((cts l).drop ((i + 1) * 6))[j]? = some u → w.drew.cell? ((⟨g, (i + 1) * 6, none⟩ : Addr).add j) = some u := fun j u hu => by
    rw [List.getElem?_drop] at hu
    have := h.cells (g := g) rfl _ _ hu
    rw [show (⟨g, 0, none⟩ : Addr).add ((i + 1) * 6 + j) = ⟨g, 0 + ((i + 1) * 6 + j), none⟩ by unfold Addr.add; split <;> simp_all] at this
    rw [show (⟨g, (i + 1) * 6, none⟩ : Addr).add j = ⟨g, (i + 1) * 6 + j, none⟩ by unfold Addr.add; split <;> simp_all]
    rw [Nat.zero_add] at this
    exact this
  have hnl : ((cts l).drop ((i + 1) * 6)).length = (m - i) * 6 := by rw [List.length_drop, hlen]; omega
  have hone : ∀ u ∈ (cts l).drop ((i + 1) * 6), u.oneCell' = true := fun u hu => cts_one l u (List.mem_of_mem_drop hu)
  have him : i + (m - i) = m := by omega
  have HRUN : Hid (∀ ty ao c, (0 < m - i → ao = some ⟨g, (i + 1) * 6, none⟩) → (Builtin.append_ #[37, 37] ty #[.slice (some ⟨g, 0, none⟩) i cap, .slice ao (m - i) c]).run Try.prog w.drew = .ok (.slice (some ⟨g, 0, none⟩) m cap) (w.drew.setRow g (cur.toList.take (i * 6) ++ (cts l).drop ((i + 1) * 6) ++ cur.toList.drop (i * 6 + ((cts l).drop ((i + 1) * 6)).length)).toArray)) := Lib.hid (fun ty ao c hao => by
    have := run_app_row w.drew 37 ty 48 6 Try.underlying37 info_item g cap i cur hg ao (m - i) c ((cts l).drop ((i + 1) * 6)) hnl (fun h0 => ⟨_, hao h0, hread⟩) hone (by omega) (by rw [hnl, hcs]; omega)
    rwa [him] at this)
  have m0 : (0 : Int) ≤ m := by omega
  have m1 : (m : Int) ≤ (m : Int) + 1 := by omega
  have m2 : ¬ cap = m := by omega
  have TW := Lib.hid (two_writes (z := [.int .i64 0, .int .i64 0, .int .i64 0, .int .i64 0, .int .i64 0, .int .i64 0]) htake hlen (show i ≤ m by omega) rfl rfl)
  have fin : ∀ W : World, W = (w.drew.setRow g (cur.toList.take (i * 6) ++ (cts l).drop ((i + 1) * 6) ++ cur.toList.drop (i * 6 + ((cts l).drop ((i + 1) * 6)).length)).toArray) → ∀ ty c, ∃ W', (Builtin.clear_ #[37] ty #[.slice (some ⟨g, m * 6, none⟩) 1 c]).run Try.prog W = .ok (.tuple #[]) W' ∧ w.grownBy W' (some g) ∧ W'.ownsRow base 48 6 (.slice (some ⟨g, 0, none⟩) m cap) m (cts (l.eraseIdx i)) := fun W hW ty c => by
    have hg1 := setRow_get w.drew g cur 48 (cur.toList.take (i * 6) ++ (cts l).drop ((i + 1) * 6) ++ cur.toList.drop (i * 6 + ((cts l).drop ((i + 1) * 6)).length)) hg
    rw [← hW] at hg1
    have hs1 : (cur.toList.take (i * 6) ++ (cts l).drop ((i + 1) * 6) ++ cur.toList.drop (i * 6 + ((cts l).drop ((i + 1) * 6)).length)).length = cap * 6 := by
      simp only [List.length_append, List.length_take, List.length_drop, Array.length_toList, hcs, hlen]
      omega
    have hr := run_clear_one W 37 ty 48 _ 6 Try.underlying37 item_zero rfl item_zc (by decide) g (m * 6) c _ hg1 (by simp only [List.size_toArray, hs1]; omega)
    refine ⟨_, hr, ?_, ?_⟩
    · have g1 := setRow_grown w.drew g (cur.toList.take (i * 6) ++ (cts l).drop ((i + 1) * 6) ++ cur.toList.drop (i * 6 + ((cts l).drop ((i + 1) * 6)).length)).toArray
      rw [← hW] at g1
      have g2 := setRow_grown W g ((cur.toList.take (i * 6) ++ (cts l).drop ((i + 1) * 6) ++ cur.toList.drop (i * 6 + ((cts l).drop ((i + 1) * 6)).length)).toArray.toList.take (m * 6) ++ (Value.agg #[.int .i64 0, .int .i64 0, .int .i64 0, .int .i64 0, .int .i64 0, .int .i64 0]).cells.toList ++ (cur.toList.take (i * 6) ++ (cts l).drop ((i + 1) * 6) ++ cur.toList.drop (i * 6 + ((cts l).drop ((i + 1) * 6)).length)).toArray.toList.drop (m * 6 + 6)).toArray
      exact ⟨g2.os.trans g1.os, g2.tape.trans g1.tape, g2.output.trans g1.output, Nat.le_trans g1.size g2.size, fun k hk hne => (g2.block k (Nat.lt_of_lt_of_le hk g1.size) hne).trans (g1.block k hk hne)⟩
    · refine ⟨by rw [cts_erase, List.length_append, List.length_take, List.length_drop, hlen]; omega, .inr ⟨g, cap, _, rfl, hb, setRow_get W g _ _ _ hg1, by omega, hcm, ?_, ?_⟩⟩
      · have hzk : (Value.agg #[.int .i64 0, .int .i64 0, .int .i64 0, .int .i64 0, .int .i64 0, .int .i64 0]).cells.toList.length = 6 := rfl
        simp only [List.size_toArray, List.length_append, List.length_take, List.length_drop, hzk, Array.length_toList, hcs, hlen]
        omega
      · rw [cts_erase]
        exact TW.out
  have FIN := Lib.hid fin
  have HRUN2 : Hid (∀ ty ao c, (0 < m - i → ao = some ⟨g, (i + 1) * 6, none⟩) → ∃ W, (Builtin.append_ #[37, 37] ty #[.slice (some ⟨g, 0, none⟩) i cap, .slice ao (m - i) c]).run Try.prog w.drew = .ok (.slice (some ⟨g, 0, none⟩) m cap) W ∧ ∀ ty c, ∃ W', (Builtin.clear_ #[37] ty #[.slice (some ⟨g, m * 6, none⟩) 1 c]).run Try.prog W = .ok (.tuple #[]) W' ∧ w.grownBy W' (some g) ∧ W'.ownsRow base 48 6 (.slice (some ⟨g, 0, none⟩) m cap) m (cts (l.eraseIdx i))) := Lib.hid (fun ty ao c h => ⟨_, HRUN.out ty ao c h, FIN.out _ rfl⟩)
  clear h fin hread hnl hone hg HRUN FIN TW htake hcs
  by_cases hq : cap = i + 1
  · obtain rfl : i = m := by omega
    subst hq
    simp only [Nat.sub_self] at HRUN2
    go_enter Try.func59, Try.ntmps59
    go_wp2
    refine wp_region_tail 6 (by kernel_rfl) (by kernel_rfl) ?_
    simp only [List.take_succ_cons, List.take_zero, List.drop_succ_cons, List.drop_zero]
    repeat still_step
    refine wpStill_nil ?_
    go_wp2_with (at_builtin; apply stop_here)
    unfold Stop
    obtain ⟨W, hr, hc⟩ := HRUN2.out 37 (some ⟨g, 0, none⟩) (0) (fun h => absurd h (by simp))
    clear HRUN2
    refine wpList_append_runY _ rfl _ _ 37 37 rfl _ _ rfl rfl _ _ hr ?_
    clear hr
    obtain ⟨W', hcl, hgr, hown⟩ := hc 0 (1)
    have HH := Lib.hid (And.intro hgr hown)
    clear hgr hown hc
    go_wp2
    go_returns
    exact ⟨rfl, HH.out⟩
  · have hq' : ¬ (cap : Int) = (i : Int) + 1 := by omega
    go_enter Try.func59, Try.ntmps59
    go_wp2
    refine wp_region_tail 6 (by kernel_rfl) (by kernel_rfl) ?_
    simp only [List.take_succ_cons, List.take_zero, List.drop_succ_cons, List.drop_zero]
    repeat still_step
    refine wpStill_nil ?_
    go_wp2_with (at_builtin; apply stop_here)
    unfold Stop
    obtain ⟨W, hr, hc⟩ := HRUN2.out 37 (some ⟨g, (i + 1) * 6, none⟩) (cap - (i + 1)) (fun _ => rfl)
    clear HRUN2
    refine wpList_append_runY _ rfl _ _ 37 37 rfl _ _ rfl rfl _ _ hr ?_
    clear hr
    obtain ⟨W', hcl, hgr, hown⟩ := hc 0 (cap - m)
    have HH := Lib.hid (And.intro hgr hown)
    clear hgr hown hc
    go_wp2
    go_returns
    exact ⟨rfl, HH.out⟩

theorem info_item' : (Try.prog.info? 48).map (fun i => (i.zero, i.size, i.bytes)) = some (some (.agg #[.int .i64 0, .int .i64 0, .int .i64 0, .int .i64 0, .int .i64 0, .int .i64 0]), 6, 48) := by kernel_rfl

theorem own_capY {w : World} {b : Nat} {e : TypeId} {k n m c : Nat} {a : Option Addr} {xs : List Value} (h : w.ownsRow b e k (.slice a m c) n xs) : m ≤ c := by
  rcases h.2 with ⟨h2, _⟩ | ⟨g', cap, cur, hv, hg, hh, hnc, _⟩
  · cases h2; exact Nat.le_refl _
  · obtain ⟨_, rfl, rfl⟩ := Value.slice.inj hv
    exact hnc

theorem ins_end (l : List Ct) (a : Option Addr) (n c base vb : Nat) (x : Ct) (w0 w : World) (hx0 : Ext w0 w) (hb0 : w0.heap.size ≤ base) (hb : base ≤ w.heap.size) (h : w.ownsRow base 48 6 (.slice a n c) n (cts l)) (hn : n ≤ 1073741823) (hv : Rd w 6 1 (.slice (some ⟨vb, 0, none⟩) 1 1) (cts [x])) :
    Calls Try.prog 58 #[.slice a n c, .int .i64 n, .slice (some ⟨vb, 0, none⟩) 1 1] w fun e w' => ∃ b c', e = .returned (.slice b (n + 1) c') ∧ w.grownBy w' (Value.slice a n c).ownBlock ∧ (∃ y, w' = ext w0 y) ∧ w'.ownsRow base 48 6 (.slice b (n + 1) c') (n + 1) (cts (l ++ [x])) ∧ ((Value.slice a n c).ownBlock = (Value.slice b (n + 1) c').ownBlock ∨ (Value.slice b (n + 1) c').ownBlock = some w.heap.size) := by
  have H := Lib.hid h
  have HV := Lib.hid hv
  have e1 : ((n : Int) == (n : Int)) = true := by simp
  have i0 : (0 : Int) ≤ n := by omega
  have hcap := own_capY h
  have i1 : (n : Int) ≤ c := by omega
  rw [cts_append]
  have ONE := Lib.hid (cts_one [x])
  clear hv
  have key : ∀ (P : Prop), ((a = none ∧ n = 0) → P) → ((∃ g, a = some ⟨g, 0, none⟩) → c = n → P) → ((∃ g, a = some ⟨g, 0, none⟩) → c ≠ n → P) → P := fun P k1 k2 k3 => by
    rcases h.2 with ⟨h1, h2⟩ | ⟨g, cap, cur, h1, _⟩
    · cases h1; exact k1 ⟨rfl, h2⟩
    · obtain ⟨rfl, _, _⟩ := Value.slice.inj h1
      by_cases hq : c = n
      · exact k2 ⟨g, rfl⟩ hq
      · exact k3 ⟨g, rfl⟩ hq
  clear h
  refine key _ (fun hk => ?_) (fun hk hq => ?_) (fun hk hq => ?_)
  · obtain ⟨rfl, rfl⟩ := hk
    clear key
    go_enter Try.func58, Try.ntmps58
    go_wp2_with (at_builtin; apply stop_here)
    unfold Stop
    refine wpList_app rfl _ _ 37 rfl 48 (.agg #[.int .i64 0, .int .i64 0, .int .i64 0, .int .i64 0, .int .i64 0, .int .i64 0]) 6 48 Try.underlying37 info_item' rfl (by decide) w0 hx0 base _ _ _ H.out 1 _ _ rfl rfl HV.out ONE.out (by unfold maxLen; omega) (by omega) hb hb0 ?_
    intro b c' y hown hgr hat
    have HOWN := Lib.hid hown
    have HGR := Lib.hid hgr
    have HAT := Lib.hid hat
    clear hown hgr hat
    go_wp2
    go_returns
    exact ⟨b, c', by simp, HGR.out, ⟨y, rfl⟩, HOWN.out, HAT.out⟩
  · obtain ⟨g, rfl⟩ := hk
    subst hq
    clear key
    go_enter Try.func58, Try.ntmps58
    go_wp2_with (at_builtin; apply stop_here)
    unfold Stop
    refine wpList_app rfl _ _ 37 rfl 48 (.agg #[.int .i64 0, .int .i64 0, .int .i64 0, .int .i64 0, .int .i64 0, .int .i64 0]) 6 48 Try.underlying37 info_item' rfl (by decide) w0 hx0 base _ _ _ H.out 1 _ _ rfl rfl HV.out ONE.out (by unfold maxLen; omega) (by omega) hb hb0 ?_
    intro b c' y hown hgr hat
    have HOWN := Lib.hid hown
    have HGR := Lib.hid hgr
    have HAT := Lib.hid hat
    clear hown hgr hat
    go_wp2
    go_returns
    exact ⟨b, c', by simp, HGR.out, ⟨y, rfl⟩, HOWN.out, HAT.out⟩
  · obtain ⟨g, rfl⟩ := hk
    clear key
    go_enter Try.func58, Try.ntmps58
    go_wp2_with (at_builtin; apply stop_here)
    unfold Stop
    refine wpList_app rfl _ _ 37 rfl 48 (.agg #[.int .i64 0, .int .i64 0, .int .i64 0, .int .i64 0, .int .i64 0, .int .i64 0]) 6 48 Try.underlying37 info_item' rfl (by decide) w0 hx0 base _ _ _ H.out 1 _ _ rfl rfl HV.out ONE.out (by unfold maxLen; omega) (by omega) hb hb0 ?_
    intro b c' y hown hgr hat
    have HOWN := Lib.hid hown
    have HGR := Lib.hid hgr
    have HAT := Lib.hid hat
    clear hown hgr hat
    go_wp2
    go_returns
    exact ⟨b, c', by simp, HGR.out, ⟨y, rfl⟩, HOWN.out, HAT.out⟩

theorem shape_row {w : World} {g : Nat} {cur : Array Value} {e : TypeId} (h : w.heap[g]? = some (.cells cur e (0, 0))) : w.shape? g = some (e, cur.size) := by
  unfold World.shape?
  rw [h]
theorem frozen_row {w : World} {g i : Nat} {cur : Array Value} {e : TypeId} (h : w.heap[g]? = some (.cells cur e (0, 0))) : w.frozen? ⟨g, i, none⟩ = false := by
  simp [World.frozen?, h]
theorem ins_writes {cur xs z : List Value} {i n : Nat} (hx : cur.take (n * 6) = xs) (hl : xs.length = n * 6) (hi : i ≤ n) (hc : (n + 1) * 6 ≤ cur.length) (hz : z.length = 6) :
    ((cur.take ((i + 1) * 6) ++ xs.drop (i * 6) ++ cur.drop ((i + 1) * 6 + (xs.drop (i * 6)).length)).take (i * 6) ++ z ++ (cur.take ((i + 1) * 6) ++ xs.drop (i * 6) ++ cur.drop ((i + 1) * 6 + (xs.drop (i * 6)).length)).drop (i * 6 + z.length)).take ((n + 1) * 6) = xs.take (i * 6) ++ z ++ xs.drop (i * 6) := by
  have hdl : (xs.drop (i * 6)).length = (n - i) * 6 := by rw [List.length_drop, hl]; omega
  have h1 : (cur.take ((i + 1) * 6) ++ xs.drop (i * 6) ++ cur.drop ((i + 1) * 6 + (xs.drop (i * 6)).length)).take (i * 6) = xs.take (i * 6) := by
    rw [List.append_assoc, List.take_append_of_le_length (by rw [List.length_take]; omega), List.take_take, Nat.min_eq_left (by omega), ← hx, List.take_take, Nat.min_eq_left (by omega)]
  have h2 : (cur.take ((i + 1) * 6) ++ xs.drop (i * 6) ++ cur.drop ((i + 1) * 6 + (xs.drop (i * 6)).length)).drop (i * 6 + z.length) = xs.drop (i * 6) ++ cur.drop ((i + 1) * 6 + (xs.drop (i * 6)).length) := by
    rw [hz, show i * 6 + 6 = (cur.take ((i + 1) * 6)).length by rw [List.length_take]; omega, List.append_assoc, List.drop_left]
  rw [h1, h2]
  have h3 : (xs.take (i * 6) ++ z ++ xs.drop (i * 6)).length = (n + 1) * 6 := by simp only [List.length_append, List.length_take, hz, hdl, hl]; omega
  rw [← List.append_assoc, ← h3, List.take_left]
set_option maxHeartbeats 2000000 in
theorem ins_room (l : List Ct) (g n c base vb i : Nat) (x : Ct) (w : World) (h : w.ownsRow base 48 6 (.slice (some ⟨g, 0, none⟩) n c) n (cts l)) (hn : n ≤ 1073741823) (hi : i < n) (hroom : n + 1 ≤ c) (hne : vb ≠ g) (hv : w.heap[vb]? = some (.cells #[.int .i64 x.d, .int .i64 x.a, .int .i64 x.b, .int .i64 x.c, .int .i64 x.e, .int .i64 x.n] 48 (0, 0))) :
    Calls Try.prog 58 #[.slice (some ⟨g, 0, none⟩) n c, .int .i64 i, .slice (some ⟨vb, 0, none⟩) 1 1] w fun e w' => e = .returned (.slice (some ⟨g, 0, none⟩) (n + 1) c) ∧ w.grownBy w' (some g) ∧ w'.ownsRow base 48 6 (.slice (some ⟨g, 0, none⟩) (n + 1) c) (n + 1) ((cts l).take (i * 6) ++ cts [x] ++ (cts l).drop (i * 6)) := by
  obtain ⟨-, hb, hnc, hcm, hlen, cur, hg, hcs, htake⟩ := own_parts h
  have hread : ∀ j u, ((cts l).drop (i * 6))[j]? = some u → w.drew.cell? ((⟨g, i * 6, none⟩ : Addr).add j) = some u := fun j u hu => by
    rw [List.getElem?_drop] at hu
    have := h.cells (g := g) rfl _ _ hu
    rw [show (⟨g, 0, none⟩ : Addr).add (i * 6 + j) = ⟨g, 0 + (i * 6 + j), none⟩ by unfold Addr.add; split <;> simp_all] at this
    rw [show (⟨g, i * 6, none⟩ : Addr).add j = ⟨g, i * 6 + j, none⟩ by unfold Addr.add; split <;> simp_all]
    rw [Nat.zero_add] at this
    exact this
  have hdl : ((cts l).drop (i * 6)).length = (n - i) * 6 := by rw [List.length_drop, hlen]; omega
  have hz : (cts [x]).length = 6 := rfl
  have IW := ins_writes (z := cts [x]) htake hlen (show i ≤ n by omega) (by rw [Array.length_toList, hcs]; omega) hz
  have CP : Hid (∀ ty dc sc, ∃ W1, (Builtin.copy_ #[37, 37] ty #[.slice (some ⟨g, (i + 1) * 6, none⟩) (n - i) dc, .slice (some ⟨g, i * 6, none⟩) (n + 1 - i) sc]).run Try.prog w.drew = .ok (.int .i64 ((n - i : Nat) : Int)) W1 ∧ ∀ ty dc, ∃ W2, (Builtin.copy_ #[37, 37] ty #[.slice (some ⟨g, i * 6, none⟩) (n + 1 - i) dc, .slice (some ⟨vb, 0, none⟩) 1 1]).run Try.prog W1 = .ok (.int .i64 ((1 : Nat) : Int)) W2 ∧ w.grownBy W2 (some g) ∧ W2.ownsRow base 48 6 (.slice (some ⟨g, 0, none⟩) (n + 1) c) (n + 1) ((cts l).take (i * 6) ++ cts [x] ++ (cts l).drop (i * 6))) := Lib.hid (fun ty dc sc => by
    refine ⟨_, run_copy_rowk w.drew 37 ty 48 6 Try.underlying37 info_item g ((i + 1) * 6) (n - i) dc cur hg ⟨g, i * 6, none⟩ (n + 1 - i) sc (n - i) ((cts l).drop (i * 6)) (by simp only [Nat.min_def]; split <;> omega) hdl hread (by rw [hdl, hcs]; omega) (fun u hu => cts_one l u (List.mem_of_mem_drop hu)), fun ty dc => ?_⟩
    have hg1 := setRow_get w.drew g cur 48 (cur.toList.take ((i + 1) * 6) ++ (cts l).drop (i * 6) ++ cur.toList.drop ((i + 1) * 6 + ((cts l).drop (i * 6)).length)) hg
    have hr1 := setRow_grown w.drew g (cur.toList.take ((i + 1) * 6) ++ (cts l).drop (i * 6) ++ cur.toList.drop ((i + 1) * 6 + ((cts l).drop (i * 6)).length)).toArray
    have hs1 : (cur.toList.take ((i + 1) * 6) ++ (cts l).drop (i * 6) ++ cur.toList.drop ((i + 1) * 6 + ((cts l).drop (i * 6)).length)).length = c * 6 := by
      simp only [List.length_append, List.length_take, List.length_drop, Array.length_toList, hcs, hlen]
      omega
    generalize hW : w.drew.setRow g (cur.toList.take ((i + 1) * 6) ++ (cts l).drop (i * 6) ++ cur.toList.drop ((i + 1) * 6 + ((cts l).drop (i * 6)).length)).toArray = W at *
    have hvW : W.heap[vb]? = some (.cells #[.int .i64 x.d, .int .i64 x.a, .int .i64 x.b, .int .i64 x.c, .int .i64 x.e, .int .i64 x.n] 48 (0, 0)) := by
      rw [hr1.block vb (by have := (Array.getElem?_eq_some_iff.1 hv).1; simpa using this) (by simpa using hne)]
      exact hv
    refine ⟨_, run_copy_rowk W 37 ty 48 6 Try.underlying37 info_item g (i * 6) (n + 1 - i) dc _ hg1 ⟨vb, 0, none⟩ 1 1 1 (cts [x]) (by simp only [Nat.min_def]; split <;> omega) rfl ?_ (by rw [hz, List.size_toArray, hs1]; omega) (cts_one [x]), ?_, ?_⟩
    · intro j u hu
      rw [show (⟨vb, 0, none⟩ : Addr).add j = ⟨vb, 0 + j, none⟩ by unfold Addr.add; split <;> simp_all, Nat.zero_add, cell_of_row _ _ _ _ _ (0, 0) hvW]
      simpa [cts] using hu
    · have g2 := setRow_grown W g ((cur.toList.take ((i + 1) * 6) ++ (cts l).drop (i * 6) ++ cur.toList.drop ((i + 1) * 6 + ((cts l).drop (i * 6)).length)).toArray.toList.take (i * 6) ++ cts [x] ++ (cur.toList.take ((i + 1) * 6) ++ (cts l).drop (i * 6) ++ cur.toList.drop ((i + 1) * 6 + ((cts l).drop (i * 6)).length)).toArray.toList.drop (i * 6 + (cts [x]).length)).toArray
      exact ⟨g2.os.trans hr1.os, g2.tape.trans hr1.tape, g2.output.trans hr1.output, Nat.le_trans hr1.size g2.size, fun k hk hne => (g2.block k (Nat.lt_of_lt_of_le hk hr1.size) hne).trans (hr1.block k hk hne)⟩
    · refine ⟨by simp only [List.length_append, List.length_take, hz, hdl, hlen]; omega, .inr ⟨g, c, _, rfl, hb, setRow_get W g _ _ _ hg1, hroom, hcm, ?_, ?_⟩⟩
      · simp only [List.size_toArray, List.length_append, List.length_take, List.length_drop, hz, Array.length_toList, hcs, hlen]
        omega
      · exact IW)
  have hov : ∀ lb cb, (callFunc 63 #[.slice (some ⟨vb, 0, none⟩) 1 1, .slice (some ⟨g, (i + 1) * 6, none⟩) lb cb]).run Try.prog w = .ok (.value (.bool false)) w := fun lb cb => by
    rw [run_callFunc_extern Try.func63 (by kernel_rfl) (by kernel_rfl) (by kernel_rfl) (e := Extern.SlicesOverlaps.overlaps #[37, 37] #[4]) (by kernel_rfl),
      Lib.run_overlaps_apart w 37 4 48 Try.underlying37 6 (fun w => by rfl) ⟨vb, 0, none⟩ ⟨g, (i + 1) * 6, none⟩ 1 1 lb cb hne _ _ _ _ (shape_row hv) (shape_row hg) (by rw [hcs]; omega) (frozen_row hv) (frozen_row hv)]
    rfl
  have i0 : (0 : Int) ≤ i := by omega
  have i1 : (i : Int) < n := by omega
  have i2 : (i : Int) ≤ n := by omega
  have i3 : (n : Int) + 1 ≤ c := by omega
  have i4 : (i : Int) + 1 ≤ (n : Int) + 1 := by omega
  have i5 : (0 : Int) ≤ (i : Int) + 1 := by omega
  have i6 : (n : Int) ≤ 1073741823 := by omega
  have e1 : ((i : Int) == (n : Int)) = false := by simp; omega
  have e2 : decide ((c : Int) < (n : Int) + 1) = false := decide_eq_false (by omega)
  have q1 : ¬ c = i := by omega
  have q2 : ¬ c = i + 1 := by omega
  have q3 : (i : Int) ≤ (n : Int) + 1 := by omega
  clear h hread hdl hz IW hg hv htake hlen hcs
  go_enter Try.func58, Try.ntmps58
  go_wp2_with (simp only [hov])
  have ewk : IntKind.i64.wrap ((i : Int) + 1) = (i : Int) + 1 := by rw [IntKind.wrap_i64]; omega
  refine wp_region_tail 8 (by kernel_rfl) (by kernel_rfl) ?_
  simp only [List.take_succ_cons, List.take_zero, List.drop_succ_cons, List.drop_zero]
  repeat still_step
  refine wpStill_nil ?_
  obtain ⟨W1, hr1, hc2⟩ := CP.out 3 (c - (i + 1)) (c - i)
  clear CP ewk
  have hr1' : ∀ ty dc, (Builtin.copy_ #[37, 37] ty #[.slice (some ⟨g, (i + 1) * 6, none⟩) (n + 1 - (i + 1)) dc, .slice (some ⟨g, i * 6, none⟩) (n + 1 - i) (c - i)]).run Try.prog w.drew = (Builtin.copy_ #[37, 37] ty #[.slice (some ⟨g, (i + 1) * 6, none⟩) (n - i) dc, .slice (some ⟨g, i * 6, none⟩) (n + 1 - i) (c - i)]).run Try.prog w.drew := fun ty dc => by rw [show n + 1 - (i + 1) = n - i by omega]
  refine wpList_copy_runY _ rfl _ _ 37 37 rfl _ _ rfl rfl _ _ (by first | exact hr1 | exact (hr1' _ _).trans hr1) ?_
  clear hr1 hr1'
  obtain ⟨W2, hr2, hgr, hown⟩ := hc2 3 (c - i)
  have HH := Lib.hid (And.intro hgr hown)
  clear hc2 hgr hown
  go_wp2
  go_returns
  exact ⟨rfl, HH.out⟩

theorem grow_writes {row xs z : List Value} {i n : Nat} (hx : row.take (i * 6) = xs.take (i * 6)) (hl : xs.length = n * 6) (hi : i < n) (hc : (n + 1) * 6 ≤ row.length) (hz : z.length = 6) :
    ((row.take (i * 6) ++ z ++ row.drop (i * 6 + z.length)).take ((i + 1) * 6) ++ xs.drop (i * 6) ++ (row.take (i * 6) ++ z ++ row.drop (i * 6 + z.length)).drop ((i + 1) * 6 + (xs.drop (i * 6)).length)).take ((n + 1) * 6) = xs.take (i * 6) ++ z ++ xs.drop (i * 6) := by
  have hdl : (xs.drop (i * 6)).length = (n - i) * 6 := by rw [List.length_drop, hl]; omega
  have h1 : (row.take (i * 6) ++ z).length = (i + 1) * 6 := by rw [List.length_append, List.length_take, hz]; omega
  have h2 : (row.take (i * 6) ++ z ++ row.drop (i * 6 + z.length)).take ((i + 1) * 6) = xs.take (i * 6) ++ z := by
    rw [← h1, List.take_left, hx]
  rw [h2]
  have h3 : (xs.take (i * 6) ++ z ++ xs.drop (i * 6)).length = (n + 1) * 6 := by simp only [List.length_append, List.length_take, hz, hdl, hl]; omega
  rw [← h3, List.take_left]
set_option maxHeartbeats 2000000 in
theorem ins_grow (l : List Ct) (g n c base vb i : Nat) (x : Ct) (w : World) (h : w.ownsRow base 48 6 (.slice (some ⟨g, 0, none⟩) n c) n (cts l)) (hbw : base ≤ w.heap.size) (hn : n ≤ 1073741823) (hi : i < n) (hroom : c < n + 1) (hv : w.heap[vb]? = some (.cells #[.int .i64 x.d, .int .i64 x.a, .int .i64 x.b, .int .i64 x.c, .int .i64 x.e, .int .i64 x.n] 48 (0, 0))) :
    Calls Try.prog 58 #[.slice (some ⟨g, 0, none⟩) n c, .int .i64 i, .slice (some ⟨vb, 0, none⟩) 1 1] w fun e w' => ∃ G, e = .returned (.slice (some ⟨w.heap.size, 0, none⟩) (n + 1) G) ∧ w.grownBy w' none ∧ w'.ownsRow base 48 6 (.slice (some ⟨w.heap.size, 0, none⟩) (n + 1) G) (n + 1) ((cts l).take (i * 6) ++ cts [x] ++ (cts l).drop (i * 6)) := by
  obtain ⟨-, hb, hnc, hcm, hlen, cur, hg, hcs, htake⟩ := own_parts h
  obtain ⟨i0, hi0, hz0, hz1, hz2⟩ := info_parts info_item'
  have hread : ∀ j u, (cts l)[j]? = some u → w.cell? ⟨g, j, none⟩ = some u := fun j u hu => by
    have := h.cells (g := g) rfl _ _ hu
    rwa [show (⟨g, 0, none⟩ : Addr).add j = ⟨g, 0 + j, none⟩ by unfold Addr.add; split <;> simp_all, Nat.zero_add] at this
  have hold : (Builtin.firstCells i0.size i (.slice (some ⟨g, 0, none⟩) i c)).run Try.prog w.drew = .ok ((cts l).take (i * 6)).toArray w.drew := by
    rw [hz1]
    exact run_firstCells_some w.drew 6 i ⟨g, 0, none⟩ i c ((cts l).take (i * 6)) (by rw [List.length_take, hlen]; omega) (fun j v hj => by
      rw [show (⟨g, 0, none⟩ : Addr).add j = ⟨g, 0 + j, none⟩ by unfold Addr.add; split <;> simp_all, Nat.zero_add]
      rw [List.getElem?_take] at hj
      split at hj
      · exact hread j v hj
      · cases hj)
  have hik : i + (n + 1 - i) = n + 1 := by omega
  have hrz := fun ty => Lib.run_append_grow_zeros w 37 3 ty 48 i0 _ .i64 .i64 Try.underlying37 Try.underlying3 hi0 hz0 (some ⟨g, 0, none⟩) i c ((cts l).take (i * 6)) hold (n + 1 - i) (by omega) (by omega) (by omega) (by omega) (by rw [hz2]; omega) (by rw [hz2, hik]; exact growslice_fits hroom (by omega))
  simp only [hik] at hrz
  have hge := grownCap_ge w (n + 1) c 48
  have hle := grownCap_le_maxLen w (n + 1) c 48 (by unfold maxLen; omega)
  obtain ⟨G, hG⟩ : ∃ G, G = grownCap w (n + 1) c 48 := ⟨_, rfl⟩
  rw [← hG] at hrz hge hle
  obtain ⟨ROW, hROW⟩ : ∃ ROW : Array Value, ROW = ((cts l).take (i * 6)).toArray ++ Builtin.zeroCells (Value.agg #[.int .i64 0, .int .i64 0, .int .i64 0, .int .i64 0, .int .i64 0, .int .i64 0]).cells (n + 1 - i) ++ Builtin.zeroCells (Value.agg #[.int .i64 0, .int .i64 0, .int .i64 0, .int .i64 0, .int .i64 0, .int .i64 0]).cells (G - (n + 1)) := ⟨_, rfl⟩
  rw [← hROW] at hrz
  have htl : ((cts l).take (i * 6)).length = i * 6 := by rw [List.length_take, hlen]; omega
  have hRS : ROW.size = G * 6 := by
    rw [hROW]
    simp only [Array.size_append, List.size_toArray, size_zeroCells, htl]
    show i * 6 + (n + 1 - i) * 6 + (G - (n + 1)) * 6 = G * 6
    omega
  have hRT : ROW.toList.take (i * 6) = (cts l).take (i * 6) := by
    rw [hROW, Array.toList_append, Array.toList_append, List.append_assoc]
    have tk : ∀ A B : List Value, A.length = i * 6 → (A ++ B).take (i * 6) = A := fun A B h => by rw [← h, List.take_left]
    exact tk _ _ htl
  have hz : (cts [x]).length = 6 := rfl
  have hdl : ((cts l).drop (i * 6)).length = (n - i) * 6 := by rw [List.length_drop, hlen]; omega
  have GW := grow_writes (z := cts [x]) hRT hlen hi (by rw [Array.length_toList, hRS]; omega) hz
  have CP : Hid (∀ ty, ∃ W1, (Builtin.append_ #[37, 3] ty #[.slice (some ⟨g, 0, none⟩) i c, .int .i64 ((n : Int) + 1 - i)]).run Try.prog w = .ok (.slice (some ⟨w.heap.size, 0, none⟩) (n + 1) G) W1 ∧
      ∀ ty dc, ∃ W2, (Builtin.copy_ #[37, 37] ty #[.slice (some ⟨w.heap.size, i * 6, none⟩) (n + 1 - i) dc, .slice (some ⟨vb, 0, none⟩) 1 1]).run Try.prog W1 = .ok (.int .i64 ((1 : Nat) : Int)) W2 ∧
      ∀ ty dc sc, ∃ W3, (Builtin.copy_ #[37, 37] ty #[.slice (some ⟨w.heap.size, (i + 1) * 6, none⟩) (n - i) dc, .slice (some ⟨g, i * 6, none⟩) (n - i) sc]).run Try.prog W2.drew = .ok (.int .i64 ((n - i : Nat) : Int)) W3 ∧ w.grownBy W3 none ∧ W3.ownsRow base 48 6 (.slice (some ⟨w.heap.size, 0, none⟩) (n + 1) G) (n + 1) ((cts l).take (i * 6) ++ cts [x] ++ (cts l).drop (i * 6))) := Lib.hid (fun ty => by
    rw [show (n : Int) + 1 - i = ((n + 1 - i : Nat) : Int) by omega]
    refine ⟨_, hrz ty, fun ty dc => ?_⟩
    have hg1 : (w.drew.alloc (.cells ROW 48)).heap[w.heap.size]? = some (.cells ROW 48 (0, 0)) := heap_alloc_new w.drew _
    have ho1 : ∀ k, k < w.heap.size → (w.drew.alloc (.cells ROW 48)).heap[k]? = w.heap[k]? := fun k hk => Below.heap_alloc w.drew _ k hk
    have hsz1 : w.heap.size < (w.drew.alloc (.cells ROW 48)).heap.size := by simp
    have hvb : vb < w.heap.size := (Array.getElem?_eq_some_iff.1 hv).1
    have hgb : g < w.heap.size := (Array.getElem?_eq_some_iff.1 hg).1
    have hos : (w.drew.alloc (.cells ROW 48)).os = w.os ∧ (w.drew.alloc (.cells ROW 48)).tape = w.tape ∧ (w.drew.alloc (.cells ROW 48)).output = w.output := ⟨rfl, rfl, rfl⟩
    generalize hW1 : w.drew.alloc (.cells ROW 48) = W1 at *
    refine ⟨_, run_copy_rowk W1 37 ty 48 6 Try.underlying37 info_item w.heap.size (i * 6) (n + 1 - i) dc ROW hg1 ⟨vb, 0, none⟩ 1 1 1 (cts [x]) (by simp only [Nat.min_def]; split <;> omega) rfl ?_ (by rw [hz, hRS]; omega) (cts_one [x]), fun ty dc sc => ?_⟩
    · intro j u hu
      rw [show (⟨vb, 0, none⟩ : Addr).add j = ⟨vb, 0 + j, none⟩ by unfold Addr.add; split <;> simp_all, Nat.zero_add, cell_of_row _ _ _ _ _ (0, 0) ((ho1 vb hvb).trans hv)]
      simpa [cts] using hu
    have hg2 := setRow_get W1 w.heap.size ROW 48 (ROW.toList.take (i * 6) ++ cts [x] ++ ROW.toList.drop (i * 6 + (cts [x]).length)) hg1
    have hr2 := setRow_grown W1 w.heap.size (ROW.toList.take (i * 6) ++ cts [x] ++ ROW.toList.drop (i * 6 + (cts [x]).length)).toArray
    have hs2 : (ROW.toList.take (i * 6) ++ cts [x] ++ ROW.toList.drop (i * 6 + (cts [x]).length)).length = G * 6 := by
      simp only [List.length_append, List.length_take, List.length_drop, hz, Array.length_toList, hRS]
      omega
    generalize hW2 : W1.setRow w.heap.size (ROW.toList.take (i * 6) ++ cts [x] ++ ROW.toList.drop (i * 6 + (cts [x]).length)).toArray = W2 at *
    have ho2 : ∀ k, k < w.heap.size → W2.heap[k]? = w.heap[k]? := fun k hk => (hr2.block k (by omega) (by simp; omega)).trans (ho1 k hk)
    refine ⟨_, run_copy_rowk W2.drew 37 ty 48 6 Try.underlying37 info_item w.heap.size ((i + 1) * 6) (n - i) dc _ hg2 ⟨g, i * 6, none⟩ (n - i) sc (n - i) ((cts l).drop (i * 6)) (by simp only [Nat.min_def]; split <;> omega) hdl ?_ (by rw [hdl, List.size_toArray, hs2]; omega) (fun u hu => cts_one l u (List.mem_of_mem_drop hu)), ?_, ?_⟩
    · intro j u hu
      rw [List.getElem?_drop] at hu
      have h1 := hread _ _ hu
      rw [show (⟨g, i * 6, none⟩ : Addr).add j = ⟨g, i * 6 + j, none⟩ by unfold Addr.add; split <;> simp_all]
      rw [← h1]
      exact World.cell?_of_block (ho2 g hgb)
    · have g3 := setRow_grown W2.drew w.heap.size ((ROW.toList.take (i * 6) ++ cts [x] ++ ROW.toList.drop (i * 6 + (cts [x]).length)).toArray.toList.take ((i + 1) * 6) ++ (cts l).drop (i * 6) ++ (ROW.toList.take (i * 6) ++ cts [x] ++ ROW.toList.drop (i * 6 + (cts [x]).length)).toArray.toList.drop ((i + 1) * 6 + ((cts l).drop (i * 6)).length)).toArray
      have hs12 := hr2.size
      exact ⟨g3.os.trans (hr2.os.trans hos.1), g3.tape.trans (hr2.tape.trans hos.2.1), g3.output.trans (hr2.output.trans hos.2.2), Nat.le_trans (show w.heap.size ≤ W2.heap.size by omega) g3.size, fun k hk _ => (g3.block k (by show k < W2.heap.size; omega) (by simp; omega)).trans (ho2 k hk)⟩
    · refine ⟨by simp only [List.length_append, List.length_take, hz, hdl, hlen]; omega, .inr ⟨w.heap.size, G, _, rfl, hbw, setRow_get W2.drew w.heap.size _ _ _ hg2, hge, hle, ?_, ?_⟩⟩
      · simp only [List.size_toArray, List.length_append, List.length_take, List.length_drop, hz, Array.length_toList, hRS, hlen]
        omega
      · exact GW)
  have i0' : (0 : Int) ≤ i := by omega
  have i1 : (i : Int) < n := by omega
  have i2 : (i : Int) ≤ n := by omega
  have i3 : (c : Int) < (n : Int) + 1 := by omega
  have i4 : (i : Int) + 1 ≤ (n : Int) + 1 := by omega
  have i5 : (0 : Int) ≤ (i : Int) + 1 := by omega
  have i6 : (n : Int) ≤ 1073741823 := by omega
  have i7 : (i : Int) ≤ c := by omega
  have i8 : (n : Int) + 1 ≤ G := by omega
  have e1 : ((i : Int) == (n : Int)) = false := by simp; omega
  have e2 : decide ((c : Int) < (n : Int) + 1) = true := decide_eq_true i3
  have q1 : ¬ c = i := by omega
  have q2 : ¬ G = i + 1 := by omega
  have q3 : (i : Int) ≤ (n : Int) + 1 := by omega
  have q4 : ¬ G = i := by omega
  have hs : wrap64 ((n : Int) + 1 - i) = (n : Int) + 1 - i := IntWalk.wrap64_in _ ⟨by omega, by omega⟩
  clear h hread hold hik hrz hge hle hG hROW htl hRS hRT hz hdl GW hv hg hcs htake hlen hi0 hz0 hz1 hz2
  obtain ⟨W1, hr1, hc2⟩ := CP.out 37
  clear CP
  have HC2 := Lib.hid hc2
  have HR1 := Lib.hid hr1
  clear hc2 hr1
  go_enter Try.func58, Try.ntmps58
  go_wp2_with (at_builtin; apply stop_here)
  unfold Stop
  refine wpList_append_runY _ rfl _ _ 37 3 rfl _ _ rfl rfl _ _ HR1.out ?_
  obtain ⟨W2, hr2, hc3⟩ := HC2.out 3 (G - i)
  have HC3 := Lib.hid hc3
  clear hc3 HR1 HC2 hs
  go_wp2
  clear hr2
  have ewk : IntKind.i64.wrap ((i : Int) + 1) = (i : Int) + 1 := by rw [IntKind.wrap_i64]; omega
  refine wp_region_tail 8 (by kernel_rfl) (by kernel_rfl) ?_
  simp only [List.take_succ_cons, List.take_zero, List.drop_succ_cons, List.drop_zero]
  repeat still_step
  refine wpStill_nil ?_
  obtain ⟨W3, hr3, hgr, hown⟩ := HC3.out 3 (G - (i + 1)) (c - i)
  have hr3' : ∀ ty dc, (Builtin.copy_ #[37, 37] ty #[.slice (some ⟨w.heap.size, (i + 1) * 6, none⟩) (n + 1 - (i + 1)) dc, .slice (some ⟨g, i * 6, none⟩) (n - i) (c - i)]).run Try.prog W2.drew = (Builtin.copy_ #[37, 37] ty #[.slice (some ⟨w.heap.size, (i + 1) * 6, none⟩) (n - i) dc, .slice (some ⟨g, i * 6, none⟩) (n - i) (c - i)]).run Try.prog W2.drew := fun ty dc => by rw [show n + 1 - (i + 1) = n - i by omega]
  refine wpList_copy_runY _ rfl _ _ 37 37 rfl _ _ rfl rfl _ _ (by first | exact hr3 | exact (hr3' _ _).trans hr3) ?_
  clear hr3 hr3' ewk
  have HH := Lib.hid (And.intro hgr hown)
  clear hgr hown
  go_wp2
  go_returns
  exact ⟨G, rfl, HH.out⟩

/-- What a change of a row answers: another row of the call's own. -/
def Grows (w : World) (base : Nat) (v : Value) (l : List Ct) (e : Ending) (w' : World) : Prop :=
  ∃ b c, e = .returned (.slice b l.length c) ∧ w.grownBy w' v.ownBlock ∧ w'.ownsRow base 48 6 (.slice b l.length c) l.length (cts l) ∧ (v.ownBlock = (Value.slice b l.length c).ownBlock ∨ ∀ k, (Value.slice b l.length c).ownBlock = some k → w.heap.size ≤ k)
theorem grown_any {w w' : World} {r : Option Nat} (h : w.grownBy w' none) : w.grownBy w' r := ⟨h.os, h.tape, h.output, h.size, fun k hk _ => h.block k hk (by simp)⟩
theorem ins_any (l : List Ct) (a : Option Addr) (n c base vb i : Nat) (x : Ct) (w0 w : World) (hx0 : Ext w0 w) (hb0 : w0.heap.size ≤ base) (hb : base ≤ w.heap.size) (h : w.ownsRow base 48 6 (.slice a n c) n (cts l)) (hl : l.length = n) (hn : n ≤ 1073741823) (hi : i ≤ n) (hne : (Value.slice a n c).ownBlock ≠ some vb) (hv : w.heap[vb]? = some (.cells #[.int .i64 x.d, .int .i64 x.a, .int .i64 x.b, .int .i64 x.c, .int .i64 x.e, .int .i64 x.n] 48 (0, 0))) :
    Calls Try.prog 58 #[.slice a n c, .int .i64 i, .slice (some ⟨vb, 0, none⟩) 1 1] w (Grows w base (.slice a n c) (l.take i ++ x :: l.drop i)) := by
  have hlen : (l.take i ++ x :: l.drop i).length = n + 1 := by simp [hl]; omega
  have hits : cts (l.take i ++ x :: l.drop i) = (cts l).take (i * 6) ++ cts [x] ++ (cts l).drop (i * 6) := by
    rw [show l.take i ++ x :: l.drop i = l.take i ++ [x] ++ l.drop i by simp, cts_append, cts_append, cts_take, cts_drop]
  unfold Grows
  rw [hlen, hits]
  rcases Nat.lt_or_ge i n with hlt | hge
  · obtain ⟨g, rfl, hgb⟩ := own_form h (by omega)
    rcases Nat.lt_or_ge c (n + 1) with hc | hc
    · refine (ins_grow l g n c base vb i x w h hb hn hlt hc hv).mono ?_
      rintro e w' ⟨G, rfl, h1, h2⟩
      exact ⟨_, G, rfl, grown_any h1, h2, .inr (fun k hk => Nat.le_of_eq (by simpa [Value.ownBlock] using hk))⟩
    · refine (ins_room l g n c base vb i x w h hn hlt hc (fun e => hne (by rw [e]; rfl)) hv).mono ?_
      rintro e w' ⟨rfl, h1, h2⟩
      exact ⟨_, c, rfl, h1, h2, .inl rfl⟩
  · obtain rfl : i = n := by omega
    have hrd : Rd w 6 1 (.slice (some ⟨vb, 0, none⟩) 1 1) (cts [x]) := ⟨rfl, _, _, rfl, fun _ => ⟨vb, 0, rfl, fun j u hu => by
      rw [Nat.zero_add, cell_of_row _ _ _ _ _ (0, 0) hv]
      simpa [cts] using hu⟩⟩
    refine (ins_end l a i c base vb x w0 w hx0 hb0 hb h hn hrd).mono ?_
    rintro e w' ⟨b, c', rfl, h1, -, h2, h3⟩
    have e1 : (cts l).take (i * 6) ++ cts [x] ++ (cts l).drop (i * 6) = cts (l ++ [x]) := by
      rw [cts_append, List.take_of_length_le (by rw [cts_length, hl]; exact Nat.le_refl _), List.drop_of_length_le (by rw [cts_length, hl]; exact Nat.le_refl _), List.append_nil]
    rw [e1]
    exact ⟨b, c', rfl, h1, h2, h3.imp id (fun h k hk => by rw [h] at hk; cases hk; exact Nat.le_refl _)⟩
theorem del_all (l : List Ct) (g cap i n : Nat) (base : Nat) (w : World) (h : w.ownsRow base 48 6 (.slice (some ⟨g, 0, none⟩) n cap) n (cts l)) (hl : l.length = n) (hi : i < n) (hn : n ≤ 1073741823) :
    Calls Try.prog 59 #[.slice (some ⟨g, 0, none⟩) n cap, .int .i64 i, .int .i64 ((i : Int) + 1)] w (Grows w base (.slice (some ⟨g, 0, none⟩) n cap) (l.eraseIdx i)) := by
  obtain ⟨m, rfl⟩ : ∃ m, n = m + 1 := ⟨n - 1, by omega⟩
  refine (del_any l g cap m i base w h hi (by omega)).mono ?_
  rintro e w' ⟨rfl, h1, h2⟩
  have hlen : (l.eraseIdx i).length = m := by rw [List.length_eraseIdx_of_lt (by omega)]; omega
  unfold Grows
  rw [hlen]
  exact ⟨_, cap, rfl, h1, h2, .inl rfl⟩

theorem own_of_extY {w w' : World} {b : Nat} {e : TypeId} {size n : Nat} {v : Value} {xs : List Value} (h : w.ownsRow b e size v n xs) (hx : Ext w w') : w'.ownsRow b e size v n xs := by
  obtain ⟨z, rfl⟩ := hx
  exact own_ext h z
theorem Ext.grows {w w' : World} (hx : Ext w w') (r : Option Nat) : w.grownBy w' r := by
  obtain ⟨z, rfl⟩ := hx
  exact ⟨rfl, rfl, rfl, by simp, fun k hk _ => ext_get w z k hk⟩
theorem Grows.of_ext {w w1 w' : World} {base : Nat} {v : Value} {l : List Ct} {e : Ending} (h : Grows w1 base v l e w') (hx : Ext w w1) : Grows w base v l e w' := by
  obtain ⟨b, c, he, hg, ho, hat⟩ := h
  have g1 := Ext.grows hx v.ownBlock
  exact ⟨b, c, he, ⟨hg.os.trans g1.os, hg.tape.trans g1.tape, hg.output.trans g1.output, Nat.le_trans g1.size hg.size, fun k hk hne => (hg.block k (Nat.lt_of_lt_of_le hk g1.size) hne).trans (g1.block k hk hne)⟩, ho, hat.imp id (fun h k hk => Nat.le_trans g1.size (h k hk))⟩
theorem grows_same {w w' : World} {base n c : Nat} {a : Option Addr} {l : List Ct} (hl : l.length = n) (h : w.ownsRow base 48 6 (.slice a n c) n (cts l)) (hx : Ext w w') : Grows w base (.slice a n c) l (.returned (.slice a n c)) w' := by
  subst hl
  exact ⟨a, c, rfl, Ext.grows hx _, own_of_extY h hx, .inl rfl⟩
/-- A store of one cell into a row of the call's own. -/
theorem own_put {w : World} {b g k n c off : Nat} {e : TypeId} {xs : List Value} (h : w.ownsRow b e k (.slice (some ⟨g, 0, none⟩) n c) n xs) (u : Value) : (w.setCell ⟨g, off, none⟩ u).ownsRow b e k (.slice (some ⟨g, 0, none⟩) n c) n (xs.set off u) := by
  obtain ⟨-, hb, hnc, hcm, hlen, cur, hg, hcs, htake⟩ := own_parts h
  refine ⟨by rw [List.length_set, hlen], .inr ⟨g, c, cur.setIfInBounds off u, rfl, hb, ?_, hnc, hcm, by rw [Array.size_setIfInBounds, hcs], ?_⟩⟩
  · simp [World.setCell, Array.getElem?_modify, hg]
  · rw [Array.toList_setIfInBounds, List.take_set, htake]
theorem put_grown (w : World) (g off : Nat) (u : Value) : w.grownBy (w.setCell ⟨g, off, none⟩ u) (some g) := by
  refine ⟨rfl, rfl, rfl, by rw [World.size_setCell]; exact Nat.le_refl _, fun k hk hne => ?_⟩
  simp only [World.setCell, Array.getElem?_modify]
  rw [if_neg (fun e => hne (by rw [e]))]

end Go.Proofs.Ytfpmejbgmgdedaa.Fr
