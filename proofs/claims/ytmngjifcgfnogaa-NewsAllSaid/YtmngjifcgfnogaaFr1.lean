/- Front: rows of counts; Right, place, put. -/
import Derived.Test.YtmngjifcgfnogaaCh4
import Derived.Test.YtmngjifcgfnogaaApp
import Derived.Laws.CopyRow
import Derived.Lib.Overlaps
import Derived.Laws.Externs
import Derived.Lib.AppendZerosOnto
import Derived.Test.YtmngjifcgfnogaaChG
namespace Go.Proofs.Ytmngjifcgfnogaa.Fr
set_option linter.unusedSimpArgs false
set_option linter.unusedVariables false
set_option maxRecDepth 100000
open Go.RowKit

structure Ct where
  d : Int
  a : Int
  b : Int
  c : Int
  e : Int
  n : Int

def cts : List Ct → List Value
  | [] => []
  | x :: l => .int .i64 x.d :: .int .i64 x.a :: .int .i64 x.b :: .int .i64 x.c :: .int .i64 x.e :: .int .i64 x.n :: cts l
theorem cts_length (l : List Ct) : (cts l).length = l.length * 6 := by
  induction l with
  | nil => rfl
  | cons a l ih => simp only [cts, List.length_cons, ih]; omega
theorem cts_append (l m : List Ct) : cts (l ++ m) = cts l ++ cts m := by
  induction l with
  | nil => rfl
  | cons a l ih => simp only [List.cons_append, cts, ih]

theorem cts_one (l : List Ct) : ∀ u ∈ cts l, u.oneCell' = true := by
  induction l with
  | nil => intro u hu; cases hu
  | cons a l ih =>
    intro u hu
    simp only [cts, List.mem_cons] at hu
    rcases hu with rfl | rfl | rfl | rfl | rfl | rfl | hu
    · rfl
    · rfl
    · rfl
    · rfl
    · rfl
    · rfl
    · exact ih u hu

theorem cts_get : ∀ (l : List Ct) (j : Nat) (x : Ct), l[j]? = some x → (cts l)[j * 6]? = some (.int .i64 x.d) ∧ (cts l)[j * 6 + 1]? = some (.int .i64 x.a) ∧ (cts l)[j * 6 + 2]? = some (.int .i64 x.b) ∧ (cts l)[j * 6 + 3]? = some (.int .i64 x.c) ∧ (cts l)[j * 6 + 4]? = some (.int .i64 x.e) ∧ (cts l)[j * 6 + 5]? = some (.int .i64 x.n)
  | [], j, x, h => by simp at h
  | a :: l, 0, x, h => by
    obtain rfl : a = x := by simpa using h
    exact ⟨rfl, rfl, rfl, rfl, rfl, rfl⟩
  | a :: l, j + 1, x, h => by
    have := cts_get l j x (by simpa using h)
    rw [show (j + 1) * 6 = j * 6 + 1 + 1 + 1 + 1 + 1 + 1 by omega]
    simpa [cts] using this

/-- The cells of an element. -/
theorem cts_at {w : World} {b off n c : Nat} {l : List Ct} (h : Rd w 6 n (.slice (some ⟨b, off, none⟩) n c) (cts l)) (j : Nat) (x : Ct) (hj : l[j]? = some x) :
    w.cell? ⟨b, off + j * 6, none⟩ = some (.int .i64 x.d) ∧ w.cell? ⟨b, off + j * 6 + 1, none⟩ = some (.int .i64 x.a) ∧ w.cell? ⟨b, off + j * 6 + 2, none⟩ = some (.int .i64 x.b) ∧ w.cell? ⟨b, off + j * 6 + 3, none⟩ = some (.int .i64 x.c) ∧ w.cell? ⟨b, off + j * 6 + 4, none⟩ = some (.int .i64 x.e) ∧ w.cell? ⟨b, off + j * 6 + 5, none⟩ = some (.int .i64 x.n) := by
  obtain ⟨h1, h2, h3, h4, h5, h6⟩ := cts_get l j x hj
  have hlt := (List.getElem?_eq_some_iff.1 hj).1
  have hl := h.len
  rw [cts_length] at hl
  obtain ⟨b', off', hb, hc⟩ := h.cells (by omega)
  obtain ⟨rfl, rfl⟩ : b = b' ∧ off = off' := by simpa using hb
  have c1 := hc _ _ h1
  have c2 := hc _ _ h2
  have c3 := hc _ _ h3
  have c4 := hc _ _ h4
  have c5 := hc _ _ h5
  have c6 := hc _ _ h6
  rw [← Nat.add_assoc] at c2 c3 c4 c5 c6
  exact ⟨c1, c2, c3, c4, c5, c6⟩

/-- A new literal of one element reads. -/
theorem cts_new (w : World) (x : Ct) (g : Nat) (hg : g = w.heap.size) : Rd (w.alloc (.cells #[.int .i64 x.d, .int .i64 x.a, .int .i64 x.b, .int .i64 x.c, .int .i64 x.e, .int .i64 x.n] 65)) 6 1 (.slice (some ⟨g, 0, none⟩) 1 1) (cts [x]) := ⟨rfl, _, _, rfl, fun _ => ⟨g, 0, rfl, fun j u hu => by
  rw [Nat.zero_add]
  exact cell_lit w _ _ _ _ _ hg (by simpa [cts] using hu)⟩⟩

theorem info_item : (Try.prog.info? 65).map (·.size) = some 6 := by kernel_rfl

theorem cts_take : ∀ (l : List Ct) (m : Nat), cts (l.take m) = (cts l).take (m * 6)
  | [], m => by simp [cts]
  | a :: l, 0 => by simp [cts]
  | a :: l, m + 1 => by
    rw [show (m + 1) * 6 = m * 6 + 1 + 1 + 1 + 1 + 1 + 1 by omega]
    simp only [List.take_succ_cons, cts, cts_take l m]
theorem cts_drop : ∀ (l : List Ct) (m : Nat), cts (l.drop m) = (cts l).drop (m * 6)
  | [], m => by simp [cts]
  | a :: l, 0 => by simp
  | a :: l, m + 1 => by
    rw [show (m + 1) * 6 = m * 6 + 1 + 1 + 1 + 1 + 1 + 1 by omega]
    simp only [List.drop_succ_cons, cts, cts_drop l m]
theorem cts_erase (l : List Ct) (i : Nat) : cts (l.eraseIdx i) = (cts l).take (i * 6) ++ (cts l).drop ((i + 1) * 6) := by
  rw [List.eraseIdx_eq_take_drop_succ, cts_append, cts_take, cts_drop]
theorem item_zero (w : World) : (zeroValue 65).run Try.prog w = .ok (.agg #[.int .i64 0, .int .i64 0, .int .i64 0, .int .i64 0, .int .i64 0, .int .i64 0]) w := by rfl
theorem item_zc : (Builtin.zeroCells (Value.agg #[.int .i64 0, .int .i64 0, .int .i64 0, .int .i64 0, .int .i64 0, .int .i64 0]).cells 1).toList = (Value.agg #[.int .i64 0, .int .i64 0, .int .i64 0, .int .i64 0, .int .i64 0, .int .i64 0]).cells.toList := by
  first | (simp [Builtin.zeroCells, Value.cells]; done) | (simp [Builtin.zeroCells, Value.cells, Array.range]; done) | kernel_rfl

/-- What two writes leave of a row's beginning. -/
theorem two_writes {cur xs news z : List Value} {i m : Nat} (hx : cur.take ((m + 1) * 6) = xs) (hl : xs.length = (m + 1) * 6) (hi : i ≤ m) (hnews : news = xs.drop ((i + 1) * 6)) (hz : z.length = 6) :
    ((cur.take (i * 6) ++ news ++ cur.drop (i * 6 + news.length)).take (m * 6) ++ z ++ (cur.take (i * 6) ++ news ++ cur.drop (i * 6 + news.length)).drop (m * 6 + 6)).take (m * 6) = xs.take (i * 6) ++ xs.drop ((i + 1) * 6) := by
  have hcl : (m + 1) * 6 ≤ cur.length := by
    have := congrArg List.length hx
    rw [List.length_take, hl] at this
    omega
  have hnl : news.length = (m - i) * 6 := by rw [hnews, List.length_drop, hl]; omega
  have h1 : (cur.take (i * 6) ++ news ++ cur.drop (i * 6 + news.length)).take (m * 6) = cur.take (i * 6) ++ news := by
    rw [List.take_append_of_le_length (by simp only [List.length_append, List.length_take, hnl]; omega)]
    exact List.take_of_length_le (by simp only [List.length_append, List.length_take, hnl]; omega)
  have h2 : (cur.take (i * 6) ++ news).length = m * 6 := by simp only [List.length_append, List.length_take, hnl]; omega
  rw [h1, List.append_assoc, List.take_append_of_le_length (by rw [h2]; exact Nat.le_refl _), List.take_of_length_le (by rw [h2]; exact Nat.le_refl _), hnews, ← hx, List.take_take, Nat.min_eq_left (by omega)]
/-- slices.Delete of one element. -/
theorem del_any (l : List Ct) (g cap m i : Nat) (base : Nat) (w : World) (h : w.ownsRow base 65 6 (.slice (some ⟨g, 0, none⟩) (m + 1) cap) (m + 1) (cts l)) (hi : i < m + 1) (hn : m ≤ 1073741824) :
    Calls Try.prog 91 #[.slice (some ⟨g, 0, none⟩) (m + 1) cap, .int .i64 i, .int .i64 ((i : Int) + 1)] w fun e w' => e = .returned (.slice (some ⟨g, 0, none⟩) m cap) ∧ w.grownBy w' (some g) ∧ w'.ownsRow base 65 6 (.slice (some ⟨g, 0, none⟩) m cap) m (cts (l.eraseIdx i)) := by
  obtain ⟨-, hb, hnc, hcm, hlen, cur, hg, hcs, htake⟩ := own_parts h
  have i0 : (0 : Int) ≤ i := by omega
  have i1 : (i : Int) < (m : Int) + 1 := by omega
  have i2 : (i : Int) ≤ cap := by omega
  have i3 : (i : Int) + 1 ≤ (m : Int) + 1 := by omega
  have i4 : (m : Int) + 1 ≤ cap := by omega
  have e1 : ((i : Int) == (i : Int) + 1) = false := by simp; omega
  have i5 : (0 : Int) ≤ (i : Int) + 1 := by omega
  have HG := Lib.hid hg
  have hread : ∀ j u, ((cts l).drop ((i + 1) * 6))[j]? = some u → w.drew.cell? ((⟨g, (i + 1) * 6, none⟩ : Addr).add j) = some u := fun j u hu => by
    rw [List.getElem?_drop] at hu
    have := h.cells (g := g) rfl _ _ hu
    rw [show (⟨g, 0, none⟩ : Addr).add ((i + 1) * 6 + j) = ⟨g, 0 + ((i + 1) * 6 + j), none⟩ by unfold Addr.add; split <;> simp_all] at this
    rw [show (⟨g, (i + 1) * 6, none⟩ : Addr).add j = ⟨g, (i + 1) * 6 + j, none⟩ by unfold Addr.add; split <;> simp_all]
    rw [Nat.zero_add] at this
    exact this
  have hnl : ((cts l).drop ((i + 1) * 6)).length = (m - i) * 6 := by rw [List.length_drop, hlen]; omega
  have hone : ∀ u ∈ (cts l).drop ((i + 1) * 6), u.oneCell' = true := fun u hu => cts_one l u (List.mem_of_mem_drop hu)
  have him : i + (m - i) = m := by omega
  have HRUN : Hid (∀ ty ao c, (0 < m - i → ao = some ⟨g, (i + 1) * 6, none⟩) → (Builtin.append_ #[56, 56] ty #[.slice (some ⟨g, 0, none⟩) i cap, .slice ao (m - i) c]).run Try.prog w.drew = .ok (.slice (some ⟨g, 0, none⟩) m cap) (w.drew.setRow g (cur.toList.take (i * 6) ++ (cts l).drop ((i + 1) * 6) ++ cur.toList.drop (i * 6 + ((cts l).drop ((i + 1) * 6)).length)).toArray)) := Lib.hid (fun ty ao c hao => by
    have := run_app_row w.drew 56 ty 65 6 Try.underlying56 info_item g cap i cur hg ao (m - i) c ((cts l).drop ((i + 1) * 6)) hnl (fun h0 => ⟨_, hao h0, hread⟩) hone (by omega) (by rw [hnl, hcs]; omega)
    rwa [him] at this)
  have m0 : (0 : Int) ≤ m := by omega
  have m1 : (m : Int) ≤ (m : Int) + 1 := by omega
  have m2 : ¬ cap = m := by omega
  have TW := Lib.hid (two_writes (z := [.int .i64 0, .int .i64 0, .int .i64 0, .int .i64 0, .int .i64 0, .int .i64 0]) htake hlen (show i ≤ m by omega) rfl rfl)
  have fin : ∀ W : World, W = (w.drew.setRow g (cur.toList.take (i * 6) ++ (cts l).drop ((i + 1) * 6) ++ cur.toList.drop (i * 6 + ((cts l).drop ((i + 1) * 6)).length)).toArray) → ∀ ty c, ∃ W', (Builtin.clear_ #[56] ty #[.slice (some ⟨g, m * 6, none⟩) 1 c]).run Try.prog W = .ok (.tuple #[]) W' ∧ w.grownBy W' (some g) ∧ W'.ownsRow base 65 6 (.slice (some ⟨g, 0, none⟩) m cap) m (cts (l.eraseIdx i)) := fun W hW ty c => by
    have hg1 := setRow_get w.drew g cur 65 (cur.toList.take (i * 6) ++ (cts l).drop ((i + 1) * 6) ++ cur.toList.drop (i * 6 + ((cts l).drop ((i + 1) * 6)).length)) hg
    rw [← hW] at hg1
    have hs1 : (cur.toList.take (i * 6) ++ (cts l).drop ((i + 1) * 6) ++ cur.toList.drop (i * 6 + ((cts l).drop ((i + 1) * 6)).length)).length = cap * 6 := by
      simp only [List.length_append, List.length_take, List.length_drop, Array.length_toList, hcs, hlen]
      omega
    have hr := run_clear_one W 56 ty 65 _ 6 Try.underlying56 item_zero rfl item_zc (by decide) g (m * 6) c _ hg1 (by simp only [List.size_toArray, hs1]; omega)
    refine ⟨_, hr, ?_, ?_⟩
    · have g1 := setRow_grown w.drew g (cur.toList.take (i * 6) ++ (cts l).drop ((i + 1) * 6) ++ cur.toList.drop (i * 6 + ((cts l).drop ((i + 1) * 6)).length)).toArray
      rw [← hW] at g1
      have g2 := setRow_grown W g ((cur.toList.take (i * 6) ++ (cts l).drop ((i + 1) * 6) ++ cur.toList.drop (i * 6 + ((cts l).drop ((i + 1) * 6)).length)).toArray.toList.take (m * 6) ++ (Value.agg #[.int .i64 0, .int .i64 0, .int .i64 0, .int .i64 0, .int .i64 0, .int .i64 0]).cells.toList ++ (cur.toList.take (i * 6) ++ (cts l).drop ((i + 1) * 6) ++ cur.toList.drop (i * 6 + ((cts l).drop ((i + 1) * 6)).length)).toArray.toList.drop (m * 6 + 6)).toArray
      exact ⟨g2.os.trans g1.os, g2.tape.trans g1.tape, g2.output.trans g1.output, Nat.le_trans g1.size g2.size, fun k hk hne => (g2.block k (Nat.lt_of_lt_of_le hk g1.size) hne).trans (g1.block k hk hne)⟩
    · refine ⟨by rw [cts_erase, List.length_append, List.length_take, List.length_drop, hlen]; omega, .inr ⟨g, cap, _, rfl, hb, setRow_get W g _ _ _ hg1, by omega, hcm, ?_, ?_⟩⟩
      · have hzk : (Value.agg #[.int .i64 0, .int .i64 0, .int .i64 0, .int .i64 0, .int .i64 0, .int .i64 0]).cells.toList.length = 6 := rfl
        simp only [List.size_toArray, List.length_append, List.length_take, List.length_drop, hzk, Array.length_toList, hcs, hlen]
        omega
      · rw [cts_erase]
        exact TW.out
  have FIN := Lib.hid fin
  have HRUN2 : Hid (∀ ty ao c, (0 < m - i → ao = some ⟨g, (i + 1) * 6, none⟩) → ∃ W, (Builtin.append_ #[56, 56] ty #[.slice (some ⟨g, 0, none⟩) i cap, .slice ao (m - i) c]).run Try.prog w.drew = .ok (.slice (some ⟨g, 0, none⟩) m cap) W ∧ ∀ ty c, ∃ W', (Builtin.clear_ #[56] ty #[.slice (some ⟨g, m * 6, none⟩) 1 c]).run Try.prog W = .ok (.tuple #[]) W' ∧ w.grownBy W' (some g) ∧ W'.ownsRow base 65 6 (.slice (some ⟨g, 0, none⟩) m cap) m (cts (l.eraseIdx i))) := Lib.hid (fun ty ao c h => ⟨_, HRUN.out ty ao c h, FIN.out _ rfl⟩)
  clear h fin hread hnl hone hg HRUN FIN TW htake hcs
  by_cases hq : cap = i + 1
  · obtain rfl : i = m := by omega
    subst hq
    simp only [Nat.sub_self] at HRUN2
    go_enter Try.func91, Try.ntmps91
    go_wp2
    refine wp_region_tail 6 (by kernel_rfl) (by kernel_rfl) ?_
    simp only [List.take_succ_cons, List.take_zero, List.drop_succ_cons, List.drop_zero]
    repeat still_step
    refine wpStill_nil ?_
    go_wp2_with (at_builtin; apply stop_here)
    unfold Stop
    obtain ⟨W, hr, hc⟩ := HRUN2.out 56 (some ⟨g, 0, none⟩) (0) (fun h => absurd h (by simp))
    clear HRUN2
    refine wpList_append_runY _ rfl _ _ 56 56 rfl _ _ rfl rfl _ _ hr ?_
    clear hr
    obtain ⟨W', hcl, hgr, hown⟩ := hc 0 (1)
    have HH := Lib.hid (And.intro hgr hown)
    clear hgr hown hc
    go_wp2
    go_returns
    exact ⟨rfl, HH.out⟩
  · have hq' : ¬ (cap : Int) = (i : Int) + 1 := by omega
    go_enter Try.func91, Try.ntmps91
    go_wp2
    refine wp_region_tail 6 (by kernel_rfl) (by kernel_rfl) ?_
    simp only [List.take_succ_cons, List.take_zero, List.drop_succ_cons, List.drop_zero]
    repeat still_step
    refine wpStill_nil ?_
    go_wp2_with (at_builtin; apply stop_here)
    unfold Stop
    obtain ⟨W, hr, hc⟩ := HRUN2.out 56 (some ⟨g, (i + 1) * 6, none⟩) (cap - (i + 1)) (fun _ => rfl)
    clear HRUN2
    refine wpList_append_runY _ rfl _ _ 56 56 rfl _ _ rfl rfl _ _ hr ?_
    clear hr
    obtain ⟨W', hcl, hgr, hown⟩ := hc 0 (cap - m)
    have HH := Lib.hid (And.intro hgr hown)
    clear hgr hown hc
    go_wp2
    go_returns
    exact ⟨rfl, HH.out⟩

theorem info_item' : (Try.prog.info? 65).map (fun i => (i.zero, i.size, i.bytes)) = some (some (.agg #[.int .i64 0, .int .i64 0, .int .i64 0, .int .i64 0, .int .i64 0, .int .i64 0]), 6, 48) := by kernel_rfl

theorem own_capY {w : World} {b : Nat} {e : TypeId} {k n m c : Nat} {a : Option Addr} {xs : List Value} (h : w.ownsRow b e k (.slice a m c) n xs) : m ≤ c := by
  rcases h.2 with ⟨h2, _⟩ | ⟨g', cap, cur, hv, hg, hh, hnc, _⟩
  · cases h2; exact Nat.le_refl _
  · obtain ⟨_, rfl, rfl⟩ := Value.slice.inj hv
    exact hnc

theorem ins_end (l : List Ct) (a : Option Addr) (n c base vb : Nat) (x : Ct) (w0 w : World) (hx0 : Ext w0 w) (hb0 : w0.heap.size ≤ base) (hb : base ≤ w.heap.size) (h : w.ownsRow base 65 6 (.slice a n c) n (cts l)) (hn : n ≤ 1073741823) (hv : Rd w 6 1 (.slice (some ⟨vb, 0, none⟩) 1 1) (cts [x])) :
    Calls Try.prog 90 #[.slice a n c, .int .i64 n, .slice (some ⟨vb, 0, none⟩) 1 1] w fun e w' => ∃ b c', e = .returned (.slice b (n + 1) c') ∧ w.grownBy w' (Value.slice a n c).ownBlock ∧ (∃ y, w' = ext w0 y) ∧ w'.ownsRow base 65 6 (.slice b (n + 1) c') (n + 1) (cts (l ++ [x])) ∧ ((Value.slice a n c).ownBlock = (Value.slice b (n + 1) c').ownBlock ∨ (Value.slice b (n + 1) c').ownBlock = some w.heap.size) := by
  have H := Lib.hid h
  have HV := Lib.hid hv
  have e1 : ((n : Int) == (n : Int)) = true := by simp
  have i0 : (0 : Int) ≤ n := by omega
  have hcap := own_capY h
  have i1 : (n : Int) ≤ c := by omega
  rw [cts_append]
  have ONE := Lib.hid (cts_one [x])
  clear hv
  have key : ∀ (P : Prop), ((a = none ∧ n = 0) → P) → ((∃ g, a = some ⟨g, 0, none⟩) → c = n → P) → ((∃ g, a = some ⟨g, 0, none⟩) → c ≠ n → P) → P := fun P k1 k2 k3 => by
    rcases h.2 with ⟨h1, h2⟩ | ⟨g, cap, cur, h1, _⟩
    · cases h1; exact k1 ⟨rfl, h2⟩
    · obtain ⟨rfl, _, _⟩ := Value.slice.inj h1
      by_cases hq : c = n
      · exact k2 ⟨g, rfl⟩ hq
      · exact k3 ⟨g, rfl⟩ hq
  clear h
  refine key _ (fun hk => ?_) (fun hk hq => ?_) (fun hk hq => ?_)
  · obtain ⟨rfl, rfl⟩ := hk
    clear key
    go_enter Try.func90, Try.ntmps90
    go_wp2_with (at_builtin; apply stop_here)
    unfold Stop
    refine wpList_app rfl _ _ 56 rfl 65 (.agg #[.int .i64 0, .int .i64 0, .int .i64 0, .int .i64 0, .int .i64 0, .int .i64 0]) 6 48 Try.underlying56 info_item' rfl (by decide) w0 hx0 base _ _ _ H.out 1 _ _ rfl rfl HV.out ONE.out (by unfold maxLen; omega) (by omega) hb hb0 ?_
    intro b c' y hown hgr hat
    have HOWN := Lib.hid hown
    have HGR := Lib.hid hgr
    have HAT := Lib.hid hat
    clear hown hgr hat
    go_wp2
    go_returns
    exact ⟨b, c', by simp, HGR.out, ⟨y, rfl⟩, HOWN.out, HAT.out⟩
  · obtain ⟨g, rfl⟩ := hk
    subst hq
    clear key
    go_enter Try.func90, Try.ntmps90
    go_wp2_with (at_builtin; apply stop_here)
    unfold Stop
    refine wpList_app rfl _ _ 56 rfl 65 (.agg #[.int .i64 0, .int .i64 0, .int .i64 0, .int .i64 0, .int .i64 0, .int .i64 0]) 6 48 Try.underlying56 info_item' rfl (by decide) w0 hx0 base _ _ _ H.out 1 _ _ rfl rfl HV.out ONE.out (by unfold maxLen; omega) (by omega) hb hb0 ?_
    intro b c' y hown hgr hat
    have HOWN := Lib.hid hown
    have HGR := Lib.hid hgr
    have HAT := Lib.hid hat
    clear hown hgr hat
    go_wp2
    go_returns
    exact ⟨b, c', by simp, HGR.out, ⟨y, rfl⟩, HOWN.out, HAT.out⟩
  · obtain ⟨g, rfl⟩ := hk
    clear key
    go_enter Try.func90, Try.ntmps90
    go_wp2_with (at_builtin; apply stop_here)
    unfold Stop
    refine wpList_app rfl _ _ 56 rfl 65 (.agg #[.int .i64 0, .int .i64 0, .int .i64 0, .int .i64 0, .int .i64 0, .int .i64 0]) 6 48 Try.underlying56 info_item' rfl (by decide) w0 hx0 base _ _ _ H.out 1 _ _ rfl rfl HV.out ONE.out (by unfold maxLen; omega) (by omega) hb hb0 ?_
    intro b c' y hown hgr hat
    have HOWN := Lib.hid hown
    have HGR := Lib.hid hgr
    have HAT := Lib.hid hat
    clear hown hgr hat
    go_wp2
    go_returns
    exact ⟨b, c', by simp, HGR.out, ⟨y, rfl⟩, HOWN.out, HAT.out⟩

theorem shape_row {w : World} {g : Nat} {cur : Array Value} {e : TypeId} (h : w.heap[g]? = some (.cells cur e (0, 0))) : w.shape? g = some (e, cur.size) := by
  unfold World.shape?
  rw [h]
theorem frozen_row {w : World} {g i : Nat} {cur : Array Value} {e : TypeId} (h : w.heap[g]? = some (.cells cur e (0, 0))) : w.frozen? ⟨g, i, none⟩ = false := by
  simp [World.frozen?, h]
theorem ins_writes {cur xs z : List Value} {i n : Nat} (hx : cur.take (n * 6) = xs) (hl : xs.length = n * 6) (hi : i ≤ n) (hc : (n + 1) * 6 ≤ cur.length) (hz : z.length = 6) :
    ((cur.take ((i + 1) * 6) ++ xs.drop (i * 6) ++ cur.drop ((i + 1) * 6 + (xs.drop (i * 6)).length)).take (i * 6) ++ z ++ (cur.take ((i + 1) * 6) ++ xs.drop (i * 6) ++ cur.drop ((i + 1) * 6 + (xs.drop (i * 6)).length)).drop (i * 6 + z.length)).take ((n + 1) * 6) = xs.take (i * 6) ++ z ++ xs.drop (i * 6) := by
  have hdl : (xs.drop (i * 6)).length = (n - i) * 6 := by rw [List.length_drop, hl]; omega
  have h1 : (cur.take ((i + 1) * 6) ++ xs.drop (i * 6) ++ cur.drop ((i + 1) * 6 + (xs.drop (i * 6)).length)).take (i * 6) = xs.take (i * 6) := by
    rw [List.append_assoc, List.take_append_of_le_length (by rw [List.length_take]; omega), List.take_take, Nat.min_eq_left (by omega), ← hx, List.take_take, Nat.min_eq_left (by omega)]
  have h2 : (cur.take ((i + 1) * 6) ++ xs.drop (i * 6) ++ cur.drop ((i + 1) * 6 + (xs.drop (i * 6)).length)).drop (i * 6 + z.length) = xs.drop (i * 6) ++ cur.drop ((i + 1) * 6 + (xs.drop (i * 6)).length) := by
    rw [hz, show i * 6 + 6 = (cur.take ((i + 1) * 6)).length by rw [List.length_take]; omega, List.append_assoc, List.drop_left]
  rw [h1, h2]
  have h3 : (xs.take (i * 6) ++ z ++ xs.drop (i * 6)).length = (n + 1) * 6 := by simp only [List.length_append, List.length_take, hz, hdl, hl]; omega
  rw [← List.append_assoc, ← h3, List.take_left]
set_option maxHeartbeats 2000000 in
theorem ins_room (l : List Ct) (g n c base vb i : Nat) (x : Ct) (w : World) (h : w.ownsRow base 65 6 (.slice (some ⟨g, 0, none⟩) n c) n (cts l)) (hn : n ≤ 1073741823) (hi : i < n) (hroom : n + 1 ≤ c) (hne : vb ≠ g) (hv : w.heap[vb]? = some (.cells #[.int .i64 x.d, .int .i64 x.a, .int .i64 x.b, .int .i64 x.c, .int .i64 x.e, .int .i64 x.n] 65 (0, 0))) :
    Calls Try.prog 90 #[.slice (some ⟨g, 0, none⟩) n c, .int .i64 i, .slice (some ⟨vb, 0, none⟩) 1 1] w fun e w' => e = .returned (.slice (some ⟨g, 0, none⟩) (n + 1) c) ∧ w.grownBy w' (some g) ∧ w'.ownsRow base 65 6 (.slice (some ⟨g, 0, none⟩) (n + 1) c) (n + 1) ((cts l).take (i * 6) ++ cts [x] ++ (cts l).drop (i * 6)) := by
  obtain ⟨-, hb, hnc, hcm, hlen, cur, hg, hcs, htake⟩ := own_parts h
  have hread : ∀ j u, ((cts l).drop (i * 6))[j]? = some u → w.drew.cell? ((⟨g, i * 6, none⟩ : Addr).add j) = some u := fun j u hu => by
    rw [List.getElem?_drop] at hu
    have := h.cells (g := g) rfl _ _ hu
    rw [show (⟨g, 0, none⟩ : Addr).add (i * 6 + j) = ⟨g, 0 + (i * 6 + j), none⟩ by unfold Addr.add; split <;> simp_all] at this
    rw [show (⟨g, i * 6, none⟩ : Addr).add j = ⟨g, i * 6 + j, none⟩ by unfold Addr.add; split <;> simp_all]
    rw [Nat.zero_add] at this
    exact this
  have hdl : ((cts l).drop (i * 6)).length = (n - i) * 6 := by rw [List.length_drop, hlen]; omega
  have hz : (cts [x]).length = 6 := rfl
  have IW := ins_writes (z := cts [x]) htake hlen (show i ≤ n by omega) (by rw [Array.length_toList, hcs]; omega) hz
  have CP : Hid (∀ ty dc sc, ∃ W1, (Builtin.copy_ #[56, 56] ty #[.slice (some ⟨g, (i + 1) * 6, none⟩) (n - i) dc, .slice (some ⟨g, i * 6, none⟩) (n + 1 - i) sc]).run Try.prog w.drew = .ok (.int .i64 ((n - i : Nat) : Int)) W1 ∧ ∀ ty dc, ∃ W2, (Builtin.copy_ #[56, 56] ty #[.slice (some ⟨g, i * 6, none⟩) (n + 1 - i) dc, .slice (some ⟨vb, 0, none⟩) 1 1]).run Try.prog W1 = .ok (.int .i64 ((1 : Nat) : Int)) W2 ∧ w.grownBy W2 (some g) ∧ W2.ownsRow base 65 6 (.slice (some ⟨g, 0, none⟩) (n + 1) c) (n + 1) ((cts l).take (i * 6) ++ cts [x] ++ (cts l).drop (i * 6))) := Lib.hid (fun ty dc sc => by
    refine ⟨_, run_copy_rowk w.drew 56 ty 65 6 Try.underlying56 info_item g ((i + 1) * 6) (n - i) dc cur hg ⟨g, i * 6, none⟩ (n + 1 - i) sc (n - i) ((cts l).drop (i * 6)) (by simp only [Nat.min_def]; split <;> omega) hdl hread (by rw [hdl, hcs]; omega) (fun u hu => cts_one l u (List.mem_of_mem_drop hu)), fun ty dc => ?_⟩
    have hg1 := setRow_get w.drew g cur 65 (cur.toList.take ((i + 1) * 6) ++ (cts l).drop (i * 6) ++ cur.toList.drop ((i + 1) * 6 + ((cts l).drop (i * 6)).length)) hg
    have hr1 := setRow_grown w.drew g (cur.toList.take ((i + 1) * 6) ++ (cts l).drop (i * 6) ++ cur.toList.drop ((i + 1) * 6 + ((cts l).drop (i * 6)).length)).toArray
    have hs1 : (cur.toList.take ((i + 1) * 6) ++ (cts l).drop (i * 6) ++ cur.toList.drop ((i + 1) * 6 + ((cts l).drop (i * 6)).length)).length = c * 6 := by
      simp only [List.length_append, List.length_take, List.length_drop, Array.length_toList, hcs, hlen]
      omega
    generalize hW : w.drew.setRow g (cur.toList.take ((i + 1) * 6) ++ (cts l).drop (i * 6) ++ cur.toList.drop ((i + 1) * 6 + ((cts l).drop (i * 6)).length)).toArray = W at *
    have hvW : W.heap[vb]? = some (.cells #[.int .i64 x.d, .int .i64 x.a, .int .i64 x.b, .int .i64 x.c, .int .i64 x.e, .int .i64 x.n] 65 (0, 0)) := by
      rw [hr1.block vb (by have := (Array.getElem?_eq_some_iff.1 hv).1; simpa using this) (by simpa using hne)]
      exact hv
    refine ⟨_, run_copy_rowk W 56 ty 65 6 Try.underlying56 info_item g (i * 6) (n + 1 - i) dc _ hg1 ⟨vb, 0, none⟩ 1 1 1 (cts [x]) (by simp only [Nat.min_def]; split <;> omega) rfl ?_ (by rw [hz, List.size_toArray, hs1]; omega) (cts_one [x]), ?_, ?_⟩
    · intro j u hu
      rw [show (⟨vb, 0, none⟩ : Addr).add j = ⟨vb, 0 + j, none⟩ by unfold Addr.add; split <;> simp_all, Nat.zero_add, cell_of_row _ _ _ _ _ (0, 0) hvW]
      simpa [cts] using hu
    · have g2 := setRow_grown W g ((cur.toList.take ((i + 1) * 6) ++ (cts l).drop (i * 6) ++ cur.toList.drop ((i + 1) * 6 + ((cts l).drop (i * 6)).length)).toArray.toList.take (i * 6) ++ cts [x] ++ (cur.toList.take ((i + 1) * 6) ++ (cts l).drop (i * 6) ++ cur.toList.drop ((i + 1) * 6 + ((cts l).drop (i * 6)).length)).toArray.toList.drop (i * 6 + (cts [x]).length)).toArray
      exact ⟨g2.os.trans hr1.os, g2.tape.trans hr1.tape, g2.output.trans hr1.output, Nat.le_trans hr1.size g2.size, fun k hk hne => (g2.block k (Nat.lt_of_lt_of_le hk hr1.size) hne).trans (hr1.block k hk hne)⟩
    · refine ⟨by simp only [List.length_append, List.length_take, hz, hdl, hlen]; omega, .inr ⟨g, c, _, rfl, hb, setRow_get W g _ _ _ hg1, hroom, hcm, ?_, ?_⟩⟩
      · simp only [List.size_toArray, List.length_append, List.length_take, List.length_drop, hz, Array.length_toList, hcs, hlen]
        omega
      · exact IW)
  have hov : ∀ lb cb, (callFunc 95 #[.slice (some ⟨vb, 0, none⟩) 1 1, .slice (some ⟨g, (i + 1) * 6, none⟩) lb cb]).run Try.prog w = .ok (.value (.bool false)) w := fun lb cb => by
    rw [run_callFunc_extern Try.func95 (by kernel_rfl) (by kernel_rfl) (by kernel_rfl) (e := Extern.SlicesOverlaps.overlaps #[56, 56] #[4]) (by kernel_rfl),
      Lib.run_overlaps_apart w 56 4 65 Try.underlying56 6 (fun w => by rfl) ⟨vb, 0, none⟩ ⟨g, (i + 1) * 6, none⟩ 1 1 lb cb hne _ _ _ _ (shape_row hv) (shape_row hg) (by rw [hcs]; omega) (frozen_row hv) (frozen_row hv)]
    rfl
  have i0 : (0 : Int) ≤ i := by omega
  have i1 : (i : Int) < n := by omega
  have i2 : (i : Int) ≤ n := by omega
  have i3 : (n : Int) + 1 ≤ c := by omega
  have i4 : (i : Int) + 1 ≤ (n : Int) + 1 := by omega
  have i5 : (0 : Int) ≤ (i : Int) + 1 := by omega
  have i6 : (n : Int) ≤ 1073741823 := by omega
  have e1 : ((i : Int) == (n : Int)) = false := by simp; omega
  have e2 : decide ((c : Int) < (n : Int) + 1) = false := decide_eq_false (by omega)
  have q1 : ¬ c = i := by omega
  have q2 : ¬ c = i + 1 := by omega
  have q3 : (i : Int) ≤ (n : Int) + 1 := by omega
  clear h hread hdl hz IW hg hv htake hlen hcs
  go_enter Try.func90, Try.ntmps90
  go_wp2_with (simp only [hov])
  have ewk : IntKind.i64.wrap ((i : Int) + 1) = (i : Int) + 1 := by rw [IntKind.wrap_i64]; omega
  refine wp_region_tail 8 (by kernel_rfl) (by kernel_rfl) ?_
  simp only [List.take_succ_cons, List.take_zero, List.drop_succ_cons, List.drop_zero]
  repeat still_step
  refine wpStill_nil ?_
  obtain ⟨W1, hr1, hc2⟩ := CP.out 3 (c - (i + 1)) (c - i)
  clear CP ewk
  have hr1' : ∀ ty dc, (Builtin.copy_ #[56, 56] ty #[.slice (some ⟨g, (i + 1) * 6, none⟩) (n + 1 - (i + 1)) dc, .slice (some ⟨g, i * 6, none⟩) (n + 1 - i) (c - i)]).run Try.prog w.drew = (Builtin.copy_ #[56, 56] ty #[.slice (some ⟨g, (i + 1) * 6, none⟩) (n - i) dc, .slice (some ⟨g, i * 6, none⟩) (n + 1 - i) (c - i)]).run Try.prog w.drew := fun ty dc => by rw [show n + 1 - (i + 1) = n - i by omega]
  refine wpList_copy_runY _ rfl _ _ 56 56 rfl _ _ rfl rfl _ _ (by first | exact hr1 | exact (hr1' _ _).trans hr1) ?_
  clear hr1 hr1'
  obtain ⟨W2, hr2, hgr, hown⟩ := hc2 3 (c - i)
  have HH := Lib.hid (And.intro hgr hown)
  clear hc2 hgr hown
  go_wp2
  go_returns
  exact ⟨rfl, HH.out⟩

theorem grow_writes {row xs z : List Value} {i n : Nat} (hx : row.take (i * 6) = xs.take (i * 6)) (hl : xs.length = n * 6) (hi : i < n) (hc : (n + 1) * 6 ≤ row.length) (hz : z.length = 6) :
    ((row.take (i * 6) ++ z ++ row.drop (i * 6 + z.length)).take ((i + 1) * 6) ++ xs.drop (i * 6) ++ (row.take (i * 6) ++ z ++ row.drop (i * 6 + z.length)).drop ((i + 1) * 6 + (xs.drop (i * 6)).length)).take ((n + 1) * 6) = xs.take (i * 6) ++ z ++ xs.drop (i * 6) := by
  have hdl : (xs.drop (i * 6)).length = (n - i) * 6 := by rw [List.length_drop, hl]; omega
  have h1 : (row.take (i * 6) ++ z).length = (i + 1) * 6 := by rw [List.length_append, List.length_take, hz]; omega
  have h2 : (row.take (i * 6) ++ z ++ row.drop (i * 6 + z.length)).take ((i + 1) * 6) = xs.take (i * 6) ++ z := by
    rw [← h1, List.take_left, hx]
  rw [h2]
  have h3 : (xs.take (i * 6) ++ z ++ xs.drop (i * 6)).length = (n + 1) * 6 := by simp only [List.length_append, List.length_take, hz, hdl, hl]; omega
  rw [← h3, List.take_left]
set_option maxHeartbeats 2000000 in
theorem ins_grow (l : List Ct) (g n c base vb i : Nat) (x : Ct) (w : World) (h : w.ownsRow base 65 6 (.slice (some ⟨g, 0, none⟩) n c) n (cts l)) (hbw : base ≤ w.heap.size) (hn : n ≤ 1073741823) (hi : i < n) (hroom : c < n + 1) (hv : w.heap[vb]? = some (.cells #[.int .i64 x.d, .int .i64 x.a, .int .i64 x.b, .int .i64 x.c, .int .i64 x.e, .int .i64 x.n] 65 (0, 0))) :
    Calls Try.prog 90 #[.slice (some ⟨g, 0, none⟩) n c, .int .i64 i, .slice (some ⟨vb, 0, none⟩) 1 1] w fun e w' => ∃ G, e = .returned (.slice (some ⟨w.heap.size, 0, none⟩) (n + 1) G) ∧ w.grownBy w' none ∧ w'.ownsRow base 65 6 (.slice (some ⟨w.heap.size, 0, none⟩) (n + 1) G) (n + 1) ((cts l).take (i * 6) ++ cts [x] ++ (cts l).drop (i * 6)) := by
  obtain ⟨-, hb, hnc, hcm, hlen, cur, hg, hcs, htake⟩ := own_parts h
  obtain ⟨i0, hi0, hz0, hz1, hz2⟩ := info_parts info_item'
  have hread : ∀ j u, (cts l)[j]? = some u → w.cell? ⟨g, j, none⟩ = some u := fun j u hu => by
    have := h.cells (g := g) rfl _ _ hu
    rwa [show (⟨g, 0, none⟩ : Addr).add j = ⟨g, 0 + j, none⟩ by unfold Addr.add; split <;> simp_all, Nat.zero_add] at this
  have hold : (Builtin.firstCells i0.size i (.slice (some ⟨g, 0, none⟩) i c)).run Try.prog w.drew = .ok ((cts l).take (i * 6)).toArray w.drew := by
    rw [hz1]
    exact run_firstCells_some w.drew 6 i ⟨g, 0, none⟩ i c ((cts l).take (i * 6)) (by rw [List.length_take, hlen]; omega) (fun j v hj => by
      rw [show (⟨g, 0, none⟩ : Addr).add j = ⟨g, 0 + j, none⟩ by unfold Addr.add; split <;> simp_all, Nat.zero_add]
      rw [List.getElem?_take] at hj
      split at hj
      · exact hread j v hj
      · cases hj)
  have hik : i + (n + 1 - i) = n + 1 := by omega
  have hrz := fun ty => Lib.run_append_grow_zeros w 56 3 ty 65 i0 _ .i64 .i64 Try.underlying56 Try.underlying3 hi0 hz0 (some ⟨g, 0, none⟩) i c ((cts l).take (i * 6)) hold (n + 1 - i) (by omega) (by omega) (by omega) (by omega) (by rw [hz2]; omega) (by rw [hz2, hik]; exact growslice_fits hroom (by omega))
  simp only [hik] at hrz
  have hge := grownCap_ge w (n + 1) c 65
  have hle := grownCap_le_maxLen w (n + 1) c 65 (by unfold maxLen; omega)
  obtain ⟨G, hG⟩ : ∃ G, G = grownCap w (n + 1) c 65 := ⟨_, rfl⟩
  rw [← hG] at hrz hge hle
  obtain ⟨ROW, hROW⟩ : ∃ ROW : Array Value, ROW = ((cts l).take (i * 6)).toArray ++ Builtin.zeroCells (Value.agg #[.int .i64 0, .int .i64 0, .int .i64 0, .int .i64 0, .int .i64 0, .int .i64 0]).cells (n + 1 - i) ++ Builtin.zeroCells (Value.agg #[.int .i64 0, .int .i64 0, .int .i64 0, .int .i64 0, .int .i64 0, .int .i64 0]).cells (G - (n + 1)) := ⟨_, rfl⟩
  rw [← hROW] at hrz
  have htl : ((cts l).take (i * 6)).length = i * 6 := by rw [List.length_take, hlen]; omega
  have hRS : ROW.size = G * 6 := by
    rw [hROW]
    simp only [Array.size_append, List.size_toArray, size_zeroCells, htl]
    show i * 6 + (n + 1 - i) * 6 + (G - (n + 1)) * 6 = G * 6
    omega
  have hRT : ROW.toList.take (i * 6) = (cts l).take (i * 6) := by
    rw [hROW, Array.toList_append, Array.toList_append, List.append_assoc]
    have tk : ∀ A B : List Value, A.length = i * 6 → (A ++ B).take (i * 6) = A := fun A B h => by rw [← h, List.take_left]
    exact tk _ _ htl
  have hz : (cts [x]).length = 6 := rfl
  have hdl : ((cts l).drop (i * 6)).length = (n - i) * 6 := by rw [List.length_drop, hlen]; omega
  have GW := grow_writes (z := cts [x]) hRT hlen hi (by rw [Array.length_toList, hRS]; omega) hz
  have CP : Hid (∀ ty, ∃ W1, (Builtin.append_ #[56, 3] ty #[.slice (some ⟨g, 0, none⟩) i c, .int .i64 ((n : Int) + 1 - i)]).run Try.prog w = .ok (.slice (some ⟨w.heap.size, 0, none⟩) (n + 1) G) W1 ∧
      ∀ ty dc, ∃ W2, (Builtin.copy_ #[56, 56] ty #[.slice (some ⟨w.heap.size, i * 6, none⟩) (n + 1 - i) dc, .slice (some ⟨vb, 0, none⟩) 1 1]).run Try.prog W1 = .ok (.int .i64 ((1 : Nat) : Int)) W2 ∧
      ∀ ty dc sc, ∃ W3, (Builtin.copy_ #[56, 56] ty #[.slice (some ⟨w.heap.size, (i + 1) * 6, none⟩) (n - i) dc, .slice (some ⟨g, i * 6, none⟩) (n - i) sc]).run Try.prog W2.drew = .ok (.int .i64 ((n - i : Nat) : Int)) W3 ∧ w.grownBy W3 none ∧ W3.ownsRow base 65 6 (.slice (some ⟨w.heap.size, 0, none⟩) (n + 1) G) (n + 1) ((cts l).take (i * 6) ++ cts [x] ++ (cts l).drop (i * 6))) := Lib.hid (fun ty => by
    rw [show (n : Int) + 1 - i = ((n + 1 - i : Nat) : Int) by omega]
    refine ⟨_, hrz ty, fun ty dc => ?_⟩
    have hg1 : (w.drew.alloc (.cells ROW 65)).heap[w.heap.size]? = some (.cells ROW 65 (0, 0)) := heap_alloc_new w.drew _
    have ho1 : ∀ k, k < w.heap.size → (w.drew.alloc (.cells ROW 65)).heap[k]? = w.heap[k]? := fun k hk => Below.heap_alloc w.drew _ k hk
    have hsz1 : w.heap.size < (w.drew.alloc (.cells ROW 65)).heap.size := by simp
    have hvb : vb < w.heap.size := (Array.getElem?_eq_some_iff.1 hv).1
    have hgb : g < w.heap.size := (Array.getElem?_eq_some_iff.1 hg).1
    have hos : (w.drew.alloc (.cells ROW 65)).os = w.os ∧ (w.drew.alloc (.cells ROW 65)).tape = w.tape ∧ (w.drew.alloc (.cells ROW 65)).output = w.output := ⟨rfl, rfl, rfl⟩
    generalize hW1 : w.drew.alloc (.cells ROW 65) = W1 at *
    refine ⟨_, run_copy_rowk W1 56 ty 65 6 Try.underlying56 info_item w.heap.size (i * 6) (n + 1 - i) dc ROW hg1 ⟨vb, 0, none⟩ 1 1 1 (cts [x]) (by simp only [Nat.min_def]; split <;> omega) rfl ?_ (by rw [hz, hRS]; omega) (cts_one [x]), fun ty dc sc => ?_⟩
    · intro j u hu
      rw [show (⟨vb, 0, none⟩ : Addr).add j = ⟨vb, 0 + j, none⟩ by unfold Addr.add; split <;> simp_all, Nat.zero_add, cell_of_row _ _ _ _ _ (0, 0) ((ho1 vb hvb).trans hv)]
      simpa [cts] using hu
    have hg2 := setRow_get W1 w.heap.size ROW 65 (ROW.toList.take (i * 6) ++ cts [x] ++ ROW.toList.drop (i * 6 + (cts [x]).length)) hg1
    have hr2 := setRow_grown W1 w.heap.size (ROW.toList.take (i * 6) ++ cts [x] ++ ROW.toList.drop (i * 6 + (cts [x]).length)).toArray
    have hs2 : (ROW.toList.take (i * 6) ++ cts [x] ++ ROW.toList.drop (i * 6 + (cts [x]).length)).length = G * 6 := by
      simp only [List.length_append, List.length_take, List.length_drop, hz, Array.length_toList, hRS]
      omega
    generalize hW2 : W1.setRow w.heap.size (ROW.toList.take (i * 6) ++ cts [x] ++ ROW.toList.drop (i * 6 + (cts [x]).length)).toArray = W2 at *
    have ho2 : ∀ k, k < w.heap.size → W2.heap[k]? = w.heap[k]? := fun k hk => (hr2.block k (by omega) (by simp; omega)).trans (ho1 k hk)
    refine ⟨_, run_copy_rowk W2.drew 56 ty 65 6 Try.underlying56 info_item w.heap.size ((i + 1) * 6) (n - i) dc _ hg2 ⟨g, i * 6, none⟩ (n - i) sc (n - i) ((cts l).drop (i * 6)) (by simp only [Nat.min_def]; split <;> omega) hdl ?_ (by rw [hdl, List.size_toArray, hs2]; omega) (fun u hu => cts_one l u (List.mem_of_mem_drop hu)), ?_, ?_⟩
    · intro j u hu
      rw [List.getElem?_drop] at hu
      have h1 := hread _ _ hu
      rw [show (⟨g, i * 6, none⟩ : Addr).add j = ⟨g, i * 6 + j, none⟩ by unfold Addr.add; split <;> simp_all]
      rw [← h1]
      exact World.cell?_of_block (ho2 g hgb)
    · have g3 := setRow_grown W2.drew w.heap.size ((ROW.toList.take (i * 6) ++ cts [x] ++ ROW.toList.drop (i * 6 + (cts [x]).length)).toArray.toList.take ((i + 1) * 6) ++ (cts l).drop (i * 6) ++ (ROW.toList.take (i * 6) ++ cts [x] ++ ROW.toList.drop (i * 6 + (cts [x]).length)).toArray.toList.drop ((i + 1) * 6 + ((cts l).drop (i * 6)).length)).toArray
      have hs12 := hr2.size
      exact ⟨g3.os.trans (hr2.os.trans hos.1), g3.tape.trans (hr2.tape.trans hos.2.1), g3.output.trans (hr2.output.trans hos.2.2), Nat.le_trans (show w.heap.size ≤ W2.heap.size by omega) g3.size, fun k hk _ => (g3.block k (by show k < W2.heap.size; omega) (by simp; omega)).trans (ho2 k hk)⟩
    · refine ⟨by simp only [List.length_append, List.length_take, hz, hdl, hlen]; omega, .inr ⟨w.heap.size, G, _, rfl, hbw, setRow_get W2.drew w.heap.size _ _ _ hg2, hge, hle, ?_, ?_⟩⟩
      · simp only [List.size_toArray, List.length_append, List.length_take, List.length_drop, hz, Array.length_toList, hRS, hlen]
        omega
      · exact GW)
  have i0' : (0 : Int) ≤ i := by omega
  have i1 : (i : Int) < n := by omega
  have i2 : (i : Int) ≤ n := by omega
  have i3 : (c : Int) < (n : Int) + 1 := by omega
  have i4 : (i : Int) + 1 ≤ (n : Int) + 1 := by omega
  have i5 : (0 : Int) ≤ (i : Int) + 1 := by omega
  have i6 : (n : Int) ≤ 1073741823 := by omega
  have i7 : (i : Int) ≤ c := by omega
  have i8 : (n : Int) + 1 ≤ G := by omega
  have e1 : ((i : Int) == (n : Int)) = false := by simp; omega
  have e2 : decide ((c : Int) < (n : Int) + 1) = true := decide_eq_true i3
  have q1 : ¬ c = i := by omega
  have q2 : ¬ G = i + 1 := by omega
  have q3 : (i : Int) ≤ (n : Int) + 1 := by omega
  have q4 : ¬ G = i := by omega
  have hs : wrap64 ((n : Int) + 1 - i) = (n : Int) + 1 - i := IntWalk.wrap64_in _ ⟨by omega, by omega⟩
  clear h hread hold hik hrz hge hle hG hROW htl hRS hRT hz hdl GW hv hg hcs htake hlen hi0 hz0 hz1 hz2
  obtain ⟨W1, hr1, hc2⟩ := CP.out 56
  clear CP
  have HC2 := Lib.hid hc2
  have HR1 := Lib.hid hr1
  clear hc2 hr1
  go_enter Try.func90, Try.ntmps90
  go_wp2_with (at_builtin; apply stop_here)
  unfold Stop
  refine wpList_append_runY _ rfl _ _ 56 3 rfl _ _ rfl rfl _ _ HR1.out ?_
  obtain ⟨W2, hr2, hc3⟩ := HC2.out 3 (G - i)
  have HC3 := Lib.hid hc3
  clear hc3 HR1 HC2 hs
  go_wp2
  clear hr2
  have ewk : IntKind.i64.wrap ((i : Int) + 1) = (i : Int) + 1 := by rw [IntKind.wrap_i64]; omega
  refine wp_region_tail 8 (by kernel_rfl) (by kernel_rfl) ?_
  simp only [List.take_succ_cons, List.take_zero, List.drop_succ_cons, List.drop_zero]
  repeat still_step
  refine wpStill_nil ?_
  obtain ⟨W3, hr3, hgr, hown⟩ := HC3.out 3 (G - (i + 1)) (c - i)
  have hr3' : ∀ ty dc, (Builtin.copy_ #[56, 56] ty #[.slice (some ⟨w.heap.size, (i + 1) * 6, none⟩) (n + 1 - (i + 1)) dc, .slice (some ⟨g, i * 6, none⟩) (n - i) (c - i)]).run Try.prog W2.drew = (Builtin.copy_ #[56, 56] ty #[.slice (some ⟨w.heap.size, (i + 1) * 6, none⟩) (n - i) dc, .slice (some ⟨g, i * 6, none⟩) (n - i) (c - i)]).run Try.prog W2.drew := fun ty dc => by rw [show n + 1 - (i + 1) = n - i by omega]
  refine wpList_copy_runY _ rfl _ _ 56 56 rfl _ _ rfl rfl _ _ (by first | exact hr3 | exact (hr3' _ _).trans hr3) ?_
  clear hr3 hr3' ewk
  have HH := Lib.hid (And.intro hgr hown)
  clear hgr hown
  go_wp2
  go_returns
  exact ⟨G, rfl, HH.out⟩

/-- What a change of a row answers: another row of the call's own. -/
def Grows (w : World) (base : Nat) (v : Value) (l : List Ct) (e : Ending) (w' : World) : Prop :=
  ∃ b c, e = .returned (.slice b l.length c) ∧ w.grownBy w' v.ownBlock ∧ w'.ownsRow base 65 6 (.slice b l.length c) l.length (cts l) ∧ (v.ownBlock = (Value.slice b l.length c).ownBlock ∨ ∀ k, (Value.slice b l.length c).ownBlock = some k → w.heap.size ≤ k)
theorem grown_any {w w' : World} {r : Option Nat} (h : w.grownBy w' none) : w.grownBy w' r := ⟨h.os, h.tape, h.output, h.size, fun k hk _ => h.block k hk (by simp)⟩
theorem ins_any (l : List Ct) (a : Option Addr) (n c base vb i : Nat) (x : Ct) (w0 w : World) (hx0 : Ext w0 w) (hb0 : w0.heap.size ≤ base) (hb : base ≤ w.heap.size) (h : w.ownsRow base 65 6 (.slice a n c) n (cts l)) (hl : l.length = n) (hn : n ≤ 1073741823) (hi : i ≤ n) (hne : (Value.slice a n c).ownBlock ≠ some vb) (hv : w.heap[vb]? = some (.cells #[.int .i64 x.d, .int .i64 x.a, .int .i64 x.b, .int .i64 x.c, .int .i64 x.e, .int .i64 x.n] 65 (0, 0))) :
    Calls Try.prog 90 #[.slice a n c, .int .i64 i, .slice (some ⟨vb, 0, none⟩) 1 1] w (Grows w base (.slice a n c) (l.take i ++ x :: l.drop i)) := by
  have hlen : (l.take i ++ x :: l.drop i).length = n + 1 := by simp [hl]; omega
  have hits : cts (l.take i ++ x :: l.drop i) = (cts l).take (i * 6) ++ cts [x] ++ (cts l).drop (i * 6) := by
    rw [show l.take i ++ x :: l.drop i = l.take i ++ [x] ++ l.drop i by simp, cts_append, cts_append, cts_take, cts_drop]
  unfold Grows
  rw [hlen, hits]
  rcases Nat.lt_or_ge i n with hlt | hge
  · obtain ⟨g, rfl, hgb⟩ := own_form h (by omega)
    rcases Nat.lt_or_ge c (n + 1) with hc | hc
    · refine (ins_grow l g n c base vb i x w h hb hn hlt hc hv).mono ?_
      rintro e w' ⟨G, rfl, h1, h2⟩
      exact ⟨_, G, rfl, grown_any h1, h2, .inr (fun k hk => Nat.le_of_eq (by simpa [Value.ownBlock] using hk))⟩
    · refine (ins_room l g n c base vb i x w h hn hlt hc (fun e => hne (by rw [e]; rfl)) hv).mono ?_
      rintro e w' ⟨rfl, h1, h2⟩
      exact ⟨_, c, rfl, h1, h2, .inl rfl⟩
  · obtain rfl : i = n := by omega
    have hrd : Rd w 6 1 (.slice (some ⟨vb, 0, none⟩) 1 1) (cts [x]) := ⟨rfl, _, _, rfl, fun _ => ⟨vb, 0, rfl, fun j u hu => by
      rw [Nat.zero_add, cell_of_row _ _ _ _ _ (0, 0) hv]
      simpa [cts] using hu⟩⟩
    refine (ins_end l a i c base vb x w0 w hx0 hb0 hb h hn hrd).mono ?_
    rintro e w' ⟨b, c', rfl, h1, -, h2, h3⟩
    have e1 : (cts l).take (i * 6) ++ cts [x] ++ (cts l).drop (i * 6) = cts (l ++ [x]) := by
      rw [cts_append, List.take_of_length_le (by rw [cts_length, hl]; exact Nat.le_refl _), List.drop_of_length_le (by rw [cts_length, hl]; exact Nat.le_refl _), List.append_nil]
    rw [e1]
    exact ⟨b, c', rfl, h1, h2, h3.imp id (fun h k hk => by rw [h] at hk; cases hk; exact Nat.le_refl _)⟩
theorem del_all (l : List Ct) (g cap i n : Nat) (base : Nat) (w : World) (h : w.ownsRow base 65 6 (.slice (some ⟨g, 0, none⟩) n cap) n (cts l)) (hl : l.length = n) (hi : i < n) (hn : n ≤ 1073741823) :
    Calls Try.prog 91 #[.slice (some ⟨g, 0, none⟩) n cap, .int .i64 i, .int .i64 ((i : Int) + 1)] w (Grows w base (.slice (some ⟨g, 0, none⟩) n cap) (l.eraseIdx i)) := by
  obtain ⟨m, rfl⟩ : ∃ m, n = m + 1 := ⟨n - 1, by omega⟩
  refine (del_any l g cap m i base w h hi (by omega)).mono ?_
  rintro e w' ⟨rfl, h1, h2⟩
  have hlen : (l.eraseIdx i).length = m := by rw [List.length_eraseIdx_of_lt (by omega)]; omega
  unfold Grows
  rw [hlen]
  exact ⟨_, cap, rfl, h1, h2, .inl rfl⟩

theorem own_of_extY {w w' : World} {b : Nat} {e : TypeId} {size n : Nat} {v : Value} {xs : List Value} (h : w.ownsRow b e size v n xs) (hx : Ext w w') : w'.ownsRow b e size v n xs := by
  obtain ⟨z, rfl⟩ := hx
  exact own_ext h z
theorem Ext.grows {w w' : World} (hx : Ext w w') (r : Option Nat) : w.grownBy w' r := by
  obtain ⟨z, rfl⟩ := hx
  exact ⟨rfl, rfl, rfl, by simp, fun k hk _ => ext_get w z k hk⟩
theorem Grows.of_ext {w w1 w' : World} {base : Nat} {v : Value} {l : List Ct} {e : Ending} (h : Grows w1 base v l e w') (hx : Ext w w1) : Grows w base v l e w' := by
  obtain ⟨b, c, he, hg, ho, hat⟩ := h
  have g1 := Ext.grows hx v.ownBlock
  exact ⟨b, c, he, ⟨hg.os.trans g1.os, hg.tape.trans g1.tape, hg.output.trans g1.output, Nat.le_trans g1.size hg.size, fun k hk hne => (hg.block k (Nat.lt_of_lt_of_le hk g1.size) hne).trans (g1.block k hk hne)⟩, ho, hat.imp id (fun h k hk => Nat.le_trans g1.size (h k hk))⟩
theorem grows_same {w w' : World} {base n c : Nat} {a : Option Addr} {l : List Ct} (hl : l.length = n) (h : w.ownsRow base 65 6 (.slice a n c) n (cts l)) (hx : Ext w w') : Grows w base (.slice a n c) l (.returned (.slice a n c)) w' := by
  subst hl
  exact ⟨a, c, rfl, Ext.grows hx _, own_of_extY h hx, .inl rfl⟩
/-- A store of one cell into a row of the call's own. -/
theorem own_put {w : World} {b g k n c off : Nat} {e : TypeId} {xs : List Value} (h : w.ownsRow b e k (.slice (some ⟨g, 0, none⟩) n c) n xs) (u : Value) : (w.setCell ⟨g, off, none⟩ u).ownsRow b e k (.slice (some ⟨g, 0, none⟩) n c) n (xs.set off u) := by
  obtain ⟨-, hb, hnc, hcm, hlen, cur, hg, hcs, htake⟩ := own_parts h
  refine ⟨by rw [List.length_set, hlen], .inr ⟨g, c, cur.setIfInBounds off u, rfl, hb, ?_, hnc, hcm, by rw [Array.size_setIfInBounds, hcs], ?_⟩⟩
  · simp [World.setCell, Array.getElem?_modify, hg]
  · rw [Array.toList_setIfInBounds, List.take_set, htake]
theorem put_grown (w : World) (g off : Nat) (u : Value) : w.grownBy (w.setCell ⟨g, off, none⟩ u) (some g) := by
  refine ⟨rfl, rfl, rfl, by rw [World.size_setCell]; exact Nat.le_refl _, fun k hk hne => ?_⟩
  simp only [World.setCell, Array.getElem?_modify]
  rw [if_neg (fun e => hne (by rw [e]))]
def Row (w0 : World) (base : Nat) (l : List Ct) (v : Value) (w : World) : Prop :=
  Ext w0 w ∧ ∃ a c, v = .slice a l.length c ∧ w.ownsRow base 65 6 (.slice a l.length c) l.length (cts l)
theorem Row.of_grows {w0 w w' : World} {base : Nat} {v : Value} {l : List Ct} {e : Ending} (hx : Ext w0 w) (hv : ∀ k, v.ownBlock = some k → w0.heap.size ≤ k) (h : Grows w base v l e w') : ∃ v', e = .returned v' ∧ Row w0 base l v' w' := by
  obtain ⟨b, c, rfl, hg, ho, -⟩ := h
  exact ⟨_, rfl, hx.grown hg hv, b, c, rfl, ho⟩
/-- The value reads as these timestamps. -/
def Rb (w : World) (l : List Ct) (v : Value) : Prop := ∃ a c, v = .slice a l.length c ∧ Rd w 6 l.length (.slice a l.length c) (cts l)
theorem Rb.on {w w' : World} {l : List Ct} {v : Value} (h : Rb w l v) (hx : Ext w w') : Rb w' l v := by
  obtain ⟨a, c, rfl, h⟩ := h
  exact ⟨a, c, rfl, h.of_ext hx⟩
theorem Rb.nil (w : World) : Rb w [] (.slice none 0 0) := ⟨none, 0, rfl, Rd.nil _ _ _ _⟩
theorem Row.rb {w0 w : World} {b : Nat} {l : List Ct} {v : Value} (h : Row w0 b l v w) : Ext w0 w ∧ Rb w l v := by
  obtain ⟨hx, a, c, rfl, ho⟩ := h
  exact ⟨hx, a, c, rfl, own_rd ho⟩
theorem Row.on {w0 w w' : World} {base : Nat} {l : List Ct} {v : Value} (h : Row w0 base l v w) (hx : Ext w w') : Row w0 base l v w' := by
  obtain ⟨h1, a, c, rfl, ho⟩ := h
  exact ⟨h1.trans hx, a, c, rfl, own_of_extY ho hx⟩
theorem Row.up {w0 w1 w : World} {base : Nat} {l : List Ct} {v : Value} (h : Row w1 base l v w) (hx : Ext w0 w1) : Row w0 base l v w := ⟨hx.trans h.1, h.2⟩
theorem Row.low {w0 w : World} {b b' : Nat} {l : List Ct} {v : Value} (h : Row w0 b l v w) (hb : b' ≤ b) : Row w0 b' l v w := by
  obtain ⟨hx, a, c, rfl, ho⟩ := h
  exact ⟨hx, a, c, rfl, own_base ho hb⟩
theorem Row.from0 {w0 w1 w : World} {l : List Ct} {v : Value} (h : Row w1 w1.heap.size l v w) (hx : Ext w0 w1) : Row w0 w0.heap.size l v w := (h.up hx).low ((Ext.grows hx none).size)
section
variable {ops : Array Oper} {rest : List Oper} {o : Oper} {a : Act} {Q : Exit → Act → World → Prop}
theorem app_row {w : World} (hgd : o.guard = none) (s x : Operand) (ho : o.op = .call { callee := .builtin .append, args := #[s, x], argTypes := #[56, 56] })
    (w0 : World) (base : Nat) (l m : List Ct) (v u : Value) (hs : a.eval s = v) (hx : a.eval x = u) (hr : Row w0 base l v w) (hu : Rb w m u) (hb0 : w0.heap.size ≤ base) (hb : base ≤ w.heap.size) (hl : l.length + m.length ≤ 1073741823)
    (k : ∀ v' w', Row w0 base (l ++ m) v' w' → wpList Try.prog ops Q rest (a.put o.dst v') w') :
    wpList Try.prog ops Q (o :: rest) a w := by
  obtain ⟨a0, c0, rfl, hu⟩ := hu
  obtain ⟨hx0, a1, c1, rfl, hown⟩ := hr
  refine wpList_app hgd s x 56 ho 65 (.agg #[.int .i64 0, .int .i64 0, .int .i64 0, .int .i64 0, .int .i64 0, .int .i64 0]) 6 48 Try.underlying56 info_item' rfl (by decide) w0 hx0 base _ l.length (cts l) hown m.length _ (cts m) hs hx hu (cts_one m) (by unfold maxLen; omega) (by omega) hb hb0 ?_
  intro b c y hown1 hgr hat
  rw [← cts_append, ← List.length_append] at hown1
  rw [← List.length_append]
  exact k _ _ ⟨⟨y, rfl⟩, b, c, rfl, hown1⟩
/-- 'append(T{}, x...)'. -/
theorem app_new (w1 : World) (hgd : o.guard = none) (s x : Operand) (ho : o.op = .call { callee := .builtin .append, args := #[s, x], argTypes := #[56, 56] })
    (b : Nat) (hs : a.eval s = .slice (some ⟨b, 0, none⟩) 0 0) (hb : b = w1.heap.size) (l : List Ct) (u : Value) (hx : a.eval x = u) (hr : Rb w1 l u) (hl : l.length ≤ 1073741823)
    (k : ∀ v' w', Row w1 w1.heap.size l v' w' → wpList Try.prog ops Q rest (a.put o.dst v') w') :
    wpList Try.prog ops Q (o :: rest) a (w1.alloc (.cells #[] 65)) := by
  subst hb
  have hx0 : Ext w1 (w1.alloc (.cells #[] 65)) := (Ext.refl w1).alloc _
  exact app_row hgd s x ho w1 w1.heap.size [] l _ u hs hx ⟨hx0, _, 0, rfl, World.ownsRow_made w1 #[] 0 (Nat.le_refl _) (by decide) (by simp)⟩ (hr.on hx0) (Nat.le_refl _) (by rw [World.size_alloc]; omega) (by simpa using hl) k
end
/-- 'append(v, x)' of one element. -/
theorem push_row {ops : Array Oper} {rest : List Oper} {o : Oper} {a : Act} {Q : Exit → Act → World → Prop} (hgd : o.guard = none) (s x : Operand) (ho : o.op = .call { callee := .builtin .append, args := #[s, x], argTypes := #[56, 56] })
    (w0 w1 : World) (l : List Ct) (v : Value) (h : Row w0 w0.heap.size l v w1) (b c : Nat) (hs : a.eval s = v) (hx : a.eval x = .slice (some ⟨b, 0, none⟩) 1 c) (hb : b = w1.heap.size) (hl : l.length ≤ 1073741823) (it : Ct)
    (k : ∀ v' w', Row w0 w0.heap.size (l ++ [it]) v' w' → wpList Try.prog ops Q rest (a.put o.dst v') w') :
    wpList Try.prog ops Q (o :: rest) a (w1.alloc (.cells #[.int .i64 it.d, .int .i64 it.a, .int .i64 it.b, .int .i64 it.c, .int .i64 it.e, .int .i64 it.n] 65)) := by
  obtain ⟨⟨i, rfl⟩, a', c', rfl, hown⟩ := h
  refine wpList_pushF hgd s x 56 ho 65 (.agg #[.int .i64 0, .int .i64 0, .int .i64 0, .int .i64 0, .int .i64 0, .int .i64 0]) 6 48 Try.underlying56 info_item' rfl (by decide) w0 i w0.heap.size _ l.length (cts l) hown b 1 c #[.int .i64 it.d, .int .i64 it.a, .int .i64 it.b, .int .i64 it.c, .int .i64 it.e, .int .i64 it.n] hs hx rfl (by simp [Value.oneCell']) (by decide) hb (by unfold maxLen; omega) (by omega) (by simp) (Nat.le_refl _) ?_
  intro g cap y hown1 hgr hat
  refine k _ _ ⟨⟨y, rfl⟩, some ⟨g, 0, none⟩, cap, ?_, ?_⟩
  · rw [List.length_append]; rfl
  · rw [List.length_append, cts_append]
    exact hown1
theorem Row.nil (w : World) (b : Nat) : Row w b [] (.slice none 0 0) w := ⟨Ext.refl w, none, 0, rfl, World.ownsRow_nil _ _ _ _⟩
def Ct.t (x : Ct) : Tm := ⟨x.d, x.a, x.b, x.c, x.e⟩
def mayB (n : Int) : Bool := decide (-2147483648 ≤ n ∧ n ≤ 2147483648)
theorem may_any (n : Int) (w : World) : Calls Try.prog 81 #[.int .i64 n] w fun e w' => e = .returned (.bool (mayB n)) ∧ w' = w := by
  unfold mayB
  obtain ⟨b1, f1⟩ : ∃ b, decide (-2147483648 ≤ n) = b := ⟨_, rfl⟩
  obtain ⟨b2, f2⟩ : ∃ b, decide (n ≤ 2147483648) = b := ⟨_, rfl⟩
  rw [Bool.decide_and, f1, f2]
  cases b1 <;> cases b2
  all_goals
    go_enter Try.func81, Try.ntmps81
    go_wp2
    go_returns
    exact ⟨retb rfl rfl, rfl⟩
def okC (x : Ct) : Bool := _root_.Go.Proofs.Ytmngjifcgfnogaa.rightB x.t && (!(x.n == 0) && mayB x.n)
def lessC (x y : Ct) : Bool := lessB x.t y.t
def chainB : List Ct → Bool
  | x :: y :: l => lessC x y && chainB (y :: l)
  | _ => true
def rightC (l : List Ct) : Bool := l.all okC && chainB l
theorem chain_iff : ∀ l : List Ct, chainB l = true ↔ ∀ j x y, l[j]? = some x → l[j + 1]? = some y → lessC x y = true
  | [] => by simp [chainB]
  | [x] => by simp [chainB]
  | x :: y :: l => by
    rw [chainB, Bool.and_eq_true, chain_iff (y :: l)]
    constructor
    · rintro ⟨h1, h2⟩ j a b ha hb
      cases j with
      | zero =>
        obtain rfl : x = a := by simpa using ha
        obtain rfl : y = b := by simpa using hb
        exact h1
      | succ j => exact h2 j a b (by simpa using ha) (by simpa using hb)
    · intro h
      exact ⟨h 0 x y rfl rfl, fun j a b ha hb => h (j + 1) a b (by simpa using ha) (by simpa using hb)⟩
theorem right_no1 {l : List Ct} {j : Nat} {x : Ct} (hj : l[j]? = some x) (h : okC x = false) : rightC l = false := by
  have : l.all okC = false := by rw [List.all_eq_false]; exact ⟨x, List.mem_of_getElem? hj, by simp [h]⟩
  rw [rightC, this, Bool.false_and]
theorem right_no2 {l : List Ct} {j : Nat} {x y : Ct} (hj : l[j]? = some x) (hk : l[j + 1]? = some y) (h : lessC x y = false) : rightC l = false := by
  have : chainB l = false := by
    cases hc : chainB l with
    | false => rfl
    | true => rw [(chain_iff l).1 hc j x y hj hk] at h; cases h
  rw [rightC, this, Bool.and_false]
theorem right_yes {l : List Ct} (h : ∀ j x, l[j]? = some x → okC x = true ∧ (∀ i y, j = i + 1 → l[i]? = some y → lessC y x = true)) : rightC l = true := by
  rw [rightC, Bool.and_eq_true]
  refine ⟨?_, (chain_iff l).2 fun j x y hx hy => (h (j + 1) y hy).2 j x rfl hx⟩
  rw [List.all_eq_true]
  intro x hx
  obtain ⟨j, hj⟩ := List.getElem?_of_mem hx
  exact (h j x hj).1
set_option maxHeartbeats 4000000 in
theorem right_any (l : List Ct) (a : Option Addr) (n c : Nat) (w : World) (h : Rd w 6 n (.slice a n c) (cts l)) (hn : l.length = n) (hl : n ≤ 1073741824) :
    Calls Try.prog 56 #[.slice a n c] w fun e w' => e = .returned (.bool (rightC l)) ∧ Ext w w' := by
  have H := Lib.hid h
  have HN := Lib.hid hn
  have HL := Lib.hid hl
  have M := Lib.hid may_any
  have LS := Lib.hid (fun x y : Ct => fun w => less_any x.d x.a x.b x.c x.e y.d y.a y.b y.c y.e w)
  have RT := Lib.hid (fun x : Ct => fun w => _root_.Go.Proofs.Ytmngjifcgfnogaa.right_any x.d x.a x.b x.c x.e w)
  obtain ⟨R, hR⟩ : ∃ R, R = rightC l := ⟨_, rfl⟩
  rw [← hR]
  have HR := Lib.hid hR
  clear h hn hl hR
  go_enter Try.func56, Try.ntmps56
  go_wp2
  go_loopw [7] (fun i wr => ∃ j : Nat, j ≤ n ∧ i = .int .i64 j ∧ Ext w wr ∧ ∀ (k : Nat) (x : Ct), k < j → l[k]? = some x → okC x = true ∧ (∀ i y, k = i + 1 → l[i]? = some y → lessC y x = true)) (fun i _ => n - (intOf i).toNat)
  case atStart => exact ⟨0, by omega, rfl, by (repeat' (first | with_reducible exact Ext.refl _ | with_reducible refine Ext.ext ?_ _ | with_reducible refine Ext.alloc ?_ _ | with_reducible refine Ext.drew ?_ | with_reducible refine Ext.drewN ?_ _ | with_reducible assumption)), fun k x hk => absurd hk (Nat.not_lt_zero k)⟩
  case round =>
    obtain ⟨j, hj, rfl, ⟨z, rfl⟩, hok⟩ := hrel
    have HOK := Lib.hid hok
    clear hok
    by_cases hlt : j < n
    · obtain ⟨x, hx⟩ : ∃ x, l[j]? = some x := ⟨l[j]'(by have := HN.out; omega), List.getElem?_eq_getElem _⟩
      obtain ⟨b, off, rfl, -⟩ := H.out.cells (by omega)
      obtain ⟨q0, q1, q2, q3, q4, q5⟩ := cts_at H.out j x hx
      haveI : LtSz b w.heap.size := ⟨World.block_lt_of_cell? _ _ q0⟩
      have i1 : (0 : Int) ≤ j := by omega
      have i2 : (j : Int) < n := by omega
      have ew : wrap64 ((j : Int) + 1) = ((j + 1 : Nat) : Int) := (IntWalk.wrap64_in _ ⟨by omega, by have := HL.out; omega⟩).trans (by omega)
      have HX := Lib.hid hx
      have STEP : okC x = true → (∀ i y, j = i + 1 → l[i]? = some y → lessC y x = true) → ∀ (k : Nat) (x : Ct), k < j + 1 → l[k]? = some x → okC x = true ∧ (∀ i y, k = i + 1 → l[i]? = some y → lessC y x = true) := fun h1 h2 k x' hk hx' => by
        rcases Nat.lt_or_ge k j with h | h
        · exact HOK.out k x' h hx'
        · obtain rfl : k = j := by omega
          rw [HX.out] at hx'
          cases hx'
          exact ⟨h1, h2⟩
      have ST := Lib.hid STEP
      clear STEP hx
      have RX := Lib.hid (fun w => RT.out x w)
      obtain ⟨b0, f0⟩ : ∃ b, _root_.Go.Proofs.Ytmngjifcgfnogaa.rightB x.t = b := ⟨_, rfl⟩
      obtain ⟨b1, f1⟩ : ∃ b, (x.n == 0) = b := ⟨_, rfl⟩
      obtain ⟨b2, f2⟩ : ∃ b, mayB x.n = b := ⟨_, rfl⟩
      have hk : okC x = (b0 && (!b1 && b2)) := by subst f0 f1 f2; rfl
      have HK := Lib.hid hk
      have MN := Lib.hid (fun w => M.out x.n w)
      rw [f2] at MN
      unfold Ct.t at f0
      rw [f0] at RX
      obtain ⟨xd, xa, xb, xc, xe, xn⟩ := x
      dsimp only at q0 q1 q2 q3 q4 q5 MN RX f1
      clear hk f2 f0
      cases b0
      case false =>
        have RR := Lib.hid (show false = R by rw [HR.out, right_no1 HX.out (by rw [HK.out]; rfl)])
        clear f1
        go_wp2
        refine wp_region_ext (by kernel_rfl) (by kernel_rfl) ?_
        repeat (go_big_quiet_step (first | (go_at_call 20; (apply quiet_of; (with_reducible exact RX.out _); (intro w' hx; obtain ⟨z, rfl⟩ := hx; (try simp only [ext_ext, add_assoc]); exact ⟨_, rfl⟩)))))
        refine wpQuiet_nil ?_
        intro xK
        go_wp2
        go_returns
        exact ⟨retb rfl RR.out, by (repeat' (first | with_reducible exact Ext.refl _ | with_reducible refine Ext.ext ?_ _ | with_reducible refine Ext.alloc ?_ _ | with_reducible refine Ext.drew ?_ | with_reducible refine Ext.drewN ?_ _ | with_reducible assumption))⟩
      case true =>
      cases b1
      case true =>
        have RR := Lib.hid (show false = R by rw [HR.out, right_no1 HX.out (by rw [HK.out]; rfl)])
        go_wp2
        refine wp_region_ext (by kernel_rfl) (by kernel_rfl) ?_
        repeat (go_big_quiet_step (first | (go_at_call 20; (apply quiet_of; (with_reducible exact RX.out _); (intro w' hx; obtain ⟨z, rfl⟩ := hx; (try simp only [ext_ext, add_assoc]); exact ⟨_, rfl⟩)))))
        refine wpQuiet_nil ?_
        intro xK
        go_wp2
        go_returns
        exact ⟨retb rfl RR.out, by (repeat' (first | with_reducible exact Ext.refl _ | with_reducible refine Ext.ext ?_ _ | with_reducible refine Ext.alloc ?_ _ | with_reducible refine Ext.drew ?_ | with_reducible refine Ext.drewN ?_ _ | with_reducible assumption))⟩
      case false =>
      cases b2
      case false =>
        have RR := Lib.hid (show false = R by rw [HR.out, right_no1 HX.out (by rw [HK.out]; rfl)])
        go_wp2
        refine wp_region_ext (by kernel_rfl) (by kernel_rfl) ?_
        repeat (go_big_quiet_step (first | (go_at_call 20; (apply quiet_of; (with_reducible exact RX.out _); (intro w' hx; obtain ⟨z, rfl⟩ := hx; (try simp only [ext_ext, add_assoc]); exact ⟨_, rfl⟩))) | (go_at_call 81; (apply quiet_of; (with_reducible exact still_quiet (MN.out _)); (intro w' hx; obtain ⟨z, rfl⟩ := hx; (try simp only [ext_ext, add_assoc]); exact ⟨_, rfl⟩)))))
        refine wpQuiet_nil ?_
        intro xK
        go_wp2
        go_returns
        exact ⟨retb rfl RR.out, by (repeat' (first | with_reducible exact Ext.refl _ | with_reducible refine Ext.ext ?_ _ | with_reducible refine Ext.alloc ?_ _ | with_reducible refine Ext.drew ?_ | with_reducible refine Ext.drewN ?_ _ | with_reducible assumption))⟩
      case true =>
        by_cases h0 : j = 0
        · have j0 : decide (0 < (j : Int)) = false := decide_eq_false (by omega)
          have j0' : decide (0 < j) = false := decide_eq_false (by omega)
          have H0 := Lib.hid h0
          clear h0
          go_wp2
          refine wp_region_ext (by kernel_rfl) (by kernel_rfl) ?_
          repeat (go_big_quiet_step (first | (go_at_call 20; (apply quiet_of; (with_reducible exact RX.out _); (intro w' hx; obtain ⟨z, rfl⟩ := hx; (try simp only [ext_ext, add_assoc]); exact ⟨_, rfl⟩))) | (go_at_call 81; (apply quiet_of; (with_reducible exact still_quiet (MN.out _)); (intro w' hx; obtain ⟨z, rfl⟩ := hx; (try simp only [ext_ext, add_assoc]); exact ⟨_, rfl⟩)))))
          refine wpQuiet_nil ?_
          intro xK
          go_wp2
          exact ⟨⟨j + 1, by omega, congrArg (Value.int .i64) ew, by (repeat' (first | with_reducible exact Ext.refl _ | with_reducible refine Ext.ext ?_ _ | with_reducible refine Ext.alloc ?_ _ | with_reducible refine Ext.drew ?_ | with_reducible refine Ext.drewN ?_ _ | with_reducible assumption)), ST.out (by rw [HK.out]; rfl) (fun i y hi => by have := H0.out; omega)⟩, by rw [ew]; simp only [intOf]; omega⟩
        · have j0 : decide (0 < (j : Int)) = true := decide_eq_true (by omega)
          have j0' : decide (0 < j) = true := decide_eq_true (by omega)
          obtain ⟨i, hi⟩ : ∃ i, j = i + 1 := ⟨j - 1, by omega⟩
          have HI := Lib.hid hi
          have ei : wrap64 ((j : Int) - 1) = (i : Int) := (IntWalk.wrap64_in _ ⟨by omega, by have := HL.out; omega⟩).trans (by omega)
          have i3 : (0 : Int) ≤ i := by omega
          have i4 : (i : Int) < n := by omega
          obtain ⟨y, hy⟩ : ∃ y, l[i]? = some y := ⟨l[i]'(by have := HN.out; omega), List.getElem?_eq_getElem _⟩
          have HY := Lib.hid hy
          obtain ⟨p0, p1, p2, p3, p4, p5⟩ := cts_at H.out i y hy
          have LN := Lib.hid (fun w => LS.out y ⟨xd, xa, xb, xc, xe, xn⟩ w)
          obtain ⟨b4, f4⟩ : ∃ b, lessC y ⟨xd, xa, xb, xc, xe, xn⟩ = b := ⟨_, rfl⟩
          have HL4 := Lib.hid f4
          unfold lessC Ct.t at f4
          rw [f4] at LN
          obtain ⟨yd, ya, yb, yc, ye, yn⟩ := y
          dsimp only at LN p0 p1 p2 p3 p4 p5
          clear h0 hi hy f4
          cases b4
          · have RR := Lib.hid (show false = R by rw [HR.out, right_no2 HY.out (by rw [← HI.out]; exact HX.out) HL4.out])
            go_wp2
            refine wp_region_ext (by kernel_rfl) (by kernel_rfl) ?_
            repeat (go_big_quiet_step (first | (go_at_call 20; (apply quiet_of; (with_reducible exact RX.out _); (intro w' hx; obtain ⟨z, rfl⟩ := hx; (try simp only [ext_ext, add_assoc]); exact ⟨_, rfl⟩))) | (go_at_call 81; (apply quiet_of; (with_reducible exact still_quiet (MN.out _)); (intro w' hx; obtain ⟨z, rfl⟩ := hx; (try simp only [ext_ext, add_assoc]); exact ⟨_, rfl⟩))) | (go_at_call 50; (apply quiet_of; (with_reducible exact LN.out _); (intro w' hx; obtain ⟨z, rfl⟩ := hx; (try simp only [ext_ext, add_assoc]); exact ⟨_, rfl⟩)))))
            refine wpQuiet_nil ?_
            intro xK
            go_wp2
            go_returns
            exact ⟨retb rfl RR.out, by (repeat' (first | with_reducible exact Ext.refl _ | with_reducible refine Ext.ext ?_ _ | with_reducible refine Ext.alloc ?_ _ | with_reducible refine Ext.drew ?_ | with_reducible refine Ext.drewN ?_ _ | with_reducible assumption))⟩
          · go_wp2
            refine wp_region_ext (by kernel_rfl) (by kernel_rfl) ?_
            repeat (go_big_quiet_step (first | (go_at_call 20; (apply quiet_of; (with_reducible exact RX.out _); (intro w' hx; obtain ⟨z, rfl⟩ := hx; (try simp only [ext_ext, add_assoc]); exact ⟨_, rfl⟩))) | (go_at_call 81; (apply quiet_of; (with_reducible exact still_quiet (MN.out _)); (intro w' hx; obtain ⟨z, rfl⟩ := hx; (try simp only [ext_ext, add_assoc]); exact ⟨_, rfl⟩))) | (go_at_call 50; (apply quiet_of; (with_reducible exact LN.out _); (intro w' hx; obtain ⟨z, rfl⟩ := hx; (try simp only [ext_ext, add_assoc]); exact ⟨_, rfl⟩)))))
            refine wpQuiet_nil ?_
            intro xK
            go_wp2
            exact ⟨⟨j + 1, by omega, congrArg (Value.int .i64) ew, by (repeat' (first | with_reducible exact Ext.refl _ | with_reducible refine Ext.ext ?_ _ | with_reducible refine Ext.alloc ?_ _ | with_reducible refine Ext.drew ?_ | with_reducible refine Ext.drewN ?_ _ | with_reducible assumption)), ST.out (by rw [HK.out]; rfl) (fun i' y hi' hy' => by
              have := HI.out
              obtain rfl : i' = i := by omega
              rw [HY.out] at hy'
              cases hy'
              exact HL4.out)⟩, by rw [ew]; simp only [intOf]; omega⟩
    · obtain rfl : j = n := by omega
      have RR := Lib.hid (show true = R by rw [HR.out, right_yes (fun k x hx => HOK.out k x (by have := (List.getElem?_eq_some_iff.1 hx).1; have := HN.out; omega) hx)])
      go_wp2
      go_returns
      exact ⟨retb rfl RR.out, by (repeat' (first | with_reducible exact Ext.refl _ | with_reducible refine Ext.ext ?_ _ | with_reducible refine Ext.alloc ?_ _ | with_reducible refine Ext.drew ?_ | with_reducible refine Ext.drewN ?_ _ | with_reducible assumption))⟩
def ordC (x : Ct) (t : Tm) : Int := if eqT x.t t then 0 else if lessB x.t t then -1 else 1
theorem place1_any (x : Ct) (t : Tm) (w : World) : Calls Try.prog 93 #[.agg #[.int .i64 x.d, .int .i64 x.a, .int .i64 x.b, .int .i64 x.c, .int .i64 x.e, .int .i64 x.n], .agg #[.int .i64 t.d, .int .i64 t.a, .int .i64 t.b, .int .i64 t.c, .int .i64 t.e]] w fun e w' => e = .returned (.int .i64 (ordC x t)) ∧ Ext w w' := by
  have LE := Lib.hid (fun w => less_any x.d x.a x.b x.c x.e t.d t.a t.b t.c t.e w)
  obtain ⟨r, hr⟩ : ∃ r, eqT x.t t = r := ⟨_, rfl⟩
  obtain ⟨s, hs⟩ : ∃ s, lessB x.t t = s := ⟨_, rfl⟩
  unfold ordC
  rw [hr, hs]
  unfold eqT Ct.t at hr
  unfold Ct.t at hs
  obtain ⟨xd, xa, xb, xc, xe, xn⟩ := x
  obtain ⟨td, ta, tb, tc, te⟩ := t
  dsimp only at LE hr hs ⊢
  rw [hs] at LE
  clear hs
  cases r <;> cases s
  all_goals
    go_enter Try.func93, Try.ntmps93
    go_wp2_with (go_at_call 50; (with_reducible refine (LE.out _).mono ?_); rintro e w' ⟨rfl, x1, rfl⟩)
    go_returns
    exact ⟨reti rfl rfl, by (repeat' (first | with_reducible exact Ext.refl _ | with_reducible refine Ext.ext ?_ _ | with_reducible refine Ext.alloc ?_ _ | with_reducible refine Ext.drew ?_ | with_reducible refine Ext.drewN ?_ _ | with_reducible assumption))⟩
theorem ord_lt {x : Ct} {t : Tm} : ordC x t < 0 ↔ lessB x.t t = true := by
  unfold ordC
  cases h : eqT x.t t
  · cases lessB x.t t <;> simp
  · have := (eqT_iff _ _).1 h
    rw [this, lessB_irrefl]
    simp
theorem ord_eq {x : Ct} {t : Tm} : ordC x t = 0 ↔ eqT x.t t = true := by
  unfold ordC
  cases h : eqT x.t t <;> cases lessB x.t t <;> simp
def ts (l : List Ct) : List Tm := l.map Ct.t
theorem ts_at {l : List Ct} {i : Nat} {x : Ct} (h : l[i]? = some x) : (ts l)[i]? = some x.t := by
  unfold ts
  rw [List.getElem?_map, h]; rfl
theorem ts_len (l : List Ct) : (ts l).length = l.length := List.length_map _
def posC (l : List Ct) (t : Tm) : Nat := posT (ts l) t
def hasC (l : List Ct) (t : Tm) : Bool := match l[posC l t]? with
  | some x => eqT x.t t
  | none => false
theorem posC_le (l : List Ct) (t : Tm) : posC l t ≤ l.length := by have := posT_le t (ts l); rwa [ts_len] at this
theorem chain_srt {l : List Ct} (h : chainB l = true) : Srt (ts l) := by
  have key : ∀ (d i : Nat) (x y : Ct), l[i]? = some x → l[i + d + 1]? = some y → lessB x.t y.t = true := by
    intro d
    induction d with
    | zero => intro i x y hx hy; exact (chain_iff l).1 h i x y hx hy
    | succ d ih =>
      intro i x y hx hy
      have hlt := (List.getElem?_eq_some_iff.1 hy).1
      obtain ⟨u, hu⟩ : ∃ u, l[i + d + 1]? = some u := ⟨l[i + d + 1], List.getElem?_eq_getElem (by omega)⟩
      exact lessB_trans (ih i x u hx hu) ((chain_iff l).1 h (i + d + 1) u y hu hy)
  unfold Srt
  rw [List.pairwise_iff_getElem]
  intro i j hi hj hij
  rw [ts_len] at hi hj
  obtain ⟨d, rfl⟩ : ∃ d, j = i + d + 1 := ⟨j - i - 1, by omega⟩
  have := key d i l[i] l[i + d + 1] (List.getElem?_eq_getElem hi) (List.getElem?_eq_getElem hj)
  simpa [ts] using this
theorem right_srt {l : List Ct} (h : rightC l = true) : Srt (ts l) := by
  unfold rightC at h
  rw [Bool.and_eq_true] at h
  exact chain_srt h.2
set_option maxHeartbeats 4000000 in
theorem bsf_any (l : List Ct) (a : Option Addr) (n c : Nat) (w : World) (h : Rd w 6 n (.slice a n c) (cts l)) (hn : l.length = n) (hl : n ≤ 1073741824) (hc : Srt (ts l)) (t : Tm) :
    Calls Try.prog 92 #[.slice a n c, .agg #[.int .i64 t.d, .int .i64 t.a, .int .i64 t.b, .int .i64 t.c, .int .i64 t.e], .func (Fn.func 93) #[] #[]] w fun e w' => e = .returned (.tuple #[.int .i64 (posC l t), .bool (hasC l t)]) ∧ Ext w w' := by
  have H := Lib.hid h
  have HN := Lib.hid hn
  have HL := Lib.hid hl
  have HC := Lib.hid (fun (i j : Nat) (x y : Ct) (hij : i < j) (hx : l[i]? = some x) (hy : l[j]? = some y) => hc.at hij (ts_at hx) (ts_at hy))
  obtain ⟨R1, hR1⟩ : ∃ R, R = ((posC l t : Nat) : Int) := ⟨_, rfl⟩
  obtain ⟨R2, hR2⟩ : ∃ R, R = hasC l t := ⟨_, rfl⟩
  rw [← hR1, ← hR2]
  have HR1 := Lib.hid hR1
  have HR2 := Lib.hid hR2
  have P1 := Lib.hid (fun x w => place1_any x t w)
  obtain ⟨td, ta, tb, tc, te⟩ := t
  clear h hn hl hc hR1 hR2
  dsimp only at P1 ⊢
  obtain ⟨T, hT⟩ : ∃ T : Tm, T = ⟨td, ta, tb, tc, te⟩ := ⟨_, rfl⟩
  rw [← hT] at HR1 HR2
  rw [← hT] at P1
  have HT := Lib.hid hT
  clear hT
  go_enter Try.func92, Try.ntmps92
  go_wp2
  go_loopw [9, 10] (fun i k wr => ∃ lo hi : Nat, lo ≤ hi ∧ hi ≤ n ∧ i = .int .i64 lo ∧ k = .int .i64 hi ∧ (∃ z, wr = ext (w.alloc (.cells #[.int .i64 td, .int .i64 ta, .int .i64 tb, .int .i64 tc, .int .i64 te] 47)) z) ∧ (∀ q x, q < lo → l[q]? = some x → lessB x.t T = true) ∧ (∀ q x, hi ≤ q → l[q]? = some x → lessB x.t T = false)) (fun i k _ => (intOf k).toNat - (intOf i).toNat)
  case atStart => exact ⟨0, n, Nat.zero_le _, Nat.le_refl _, rfl, rfl, ⟨_, (ext_zero _).symm⟩, fun q x hq => absurd hq (Nat.not_lt_zero q), fun q x hq hx => by have := (List.getElem?_eq_some_iff.1 hx).1; have := HN.out; omega⟩
  case round =>
    obtain ⟨lo, hi, hlh, hhn, rfl, rfl, ⟨z, rfl⟩, h1, h2⟩ := hrel
    have H1 := Lib.hid h1
    have H2 := Lib.hid h2
    clear h1 h2
    by_cases hlt : lo < hi
    · have i0 : (lo : Int) < hi := by omega
      have hx30 := HL.out
      obtain ⟨m, hm⟩ : ∃ m, m = (lo + hi) / 2 := ⟨_, rfl⟩
      have em : ((lo : Int) + hi) / 2 = (m : Int) := by omega
      have hm1 : lo ≤ m := by omega
      have hm2 : m < hi := by omega
      have i1 : (0 : Int) ≤ m := by omega
      have i2 : (m : Int) < n := by omega
      obtain ⟨x, hx⟩ : ∃ x, l[m]? = some x := ⟨l[m]'(by have := HN.out; omega), List.getElem?_eq_getElem _⟩
      obtain ⟨b, off, rfl, -⟩ := H.out.cells (by omega)
      obtain ⟨c0, c1, c2, c3, c4, c5⟩ := cts_at H.out m _ hx
      haveI : LtSz b w.heap.size := ⟨World.block_lt_of_cell? _ _ c0⟩
      have HX := Lib.hid hx
      have PN := Lib.hid (fun w => P1.out x w)
      have hol := ord_lt (x := x) (t := T)
      generalize ordC x T = q at *
      have HOL := Lib.hid hol
      clear hx hol
      obtain ⟨X, hX⟩ : ∃ X, X = x := ⟨_, rfl⟩
      rw [← hX] at HX HOL
      have HXX := Lib.hid hX
      clear hX
      obtain ⟨xd, xa, xb, xc, xe, xn⟩ := x
      dsimp only at PN c0 c1 c2 c3 c4 c5
      cases hq : decide (q < 0)
      · have hge : lessB X.t T = false := by
          rw [Bool.eq_false_iff]
          exact fun h => absurd (HOL.out.2 h) (by simpa using hq)
        have HGE := Lib.hid hge
        clear hge hm
        go_wp2
        refine wp_region_ext (by kernel_rfl) (by kernel_rfl) ?_
        repeat (go_big_quiet_step (first | (go_at_call 93; (apply quiet_of; (with_reducible exact PN.out _); (intro w' hx; obtain ⟨z, rfl⟩ := hx; (try simp only [ext_ext, add_assoc]); exact ⟨_, rfl⟩)))))
        refine wpQuiet_nil ?_
        intro xK
        go_wp2
        refine ⟨⟨lo, m, by omega, by omega, rfl, rfl, ⟨_, by first | exact ext_ext _ _ _ | rfl⟩, H1.out, fun p x hp hx => ?_⟩, by simp only [intOf]; omega⟩
        rcases Nat.lt_or_ge m p with hlt | hle
        · rw [Bool.eq_false_iff]
          exact fun h => absurd (lessB_trans (HC.out _ _ _ _ hlt HX.out hx) h) (by rw [HGE.out]; decide)
        · obtain rfl : p = m := by omega
          rw [HX.out] at hx
          cases hx
          exact HGE.out
      · have hlt' : lessB X.t T = true := HOL.out.1 (by simpa using hq)
        have HLT := Lib.hid hlt'
        have ew : wrap64 ((m : Int) + 1) = ((m + 1 : Nat) : Int) := (IntWalk.wrap64_in _ ⟨by omega, by omega⟩).trans (by omega)
        clear hlt' hm
        go_wp2
        refine wp_region_ext (by kernel_rfl) (by kernel_rfl) ?_
        repeat (go_big_quiet_step (first | (go_at_call 93; (apply quiet_of; (with_reducible exact PN.out _); (intro w' hx; obtain ⟨z, rfl⟩ := hx; (try simp only [ext_ext, add_assoc]); exact ⟨_, rfl⟩)))))
        refine wpQuiet_nil ?_
        intro xK
        go_wp2
        refine ⟨⟨m + 1, hi, by omega, by omega, congrArg (Value.int .i64) (by omega), rfl, ⟨_, by first | exact ext_ext _ _ _ | rfl⟩, fun p x hp hx => ?_, H2.out⟩, by simp only [intOf]; omega⟩
        rcases Nat.lt_or_ge p m with hlt | hle
        · exact lessB_trans (HC.out _ _ _ _ hlt hx HX.out) HLT.out
        · obtain rfl : p = m := by omega
          rw [HX.out] at hx
          cases hx
          exact HLT.out
    · obtain rfl : lo = hi := by omega
      have hp : posC l T = lo := posT_at (by rw [ts_len]; have := HN.out; omega) (fun i x hi hx => by
        unfold ts at hx
        rw [List.getElem?_map, Option.map_eq_some_iff] at hx
        obtain ⟨y, hy, rfl⟩ := hx
        exact H1.out i y hi hy) (fun x hx => by
        unfold ts at hx
        rw [List.getElem?_map, Option.map_eq_some_iff] at hx
        obtain ⟨y, hy, rfl⟩ := hx
        exact H2.out lo y (Nat.le_refl _) hy)
      have hr1 : (lo : Int) = R1 := by rw [HR1.out, hp]
      have HR := Lib.hid hr1
      by_cases hn' : lo = n
      · have hr2 : false = R2 := by rw [HR2.out, hasC, hp, List.getElem?_eq_none (by have := HN.out; omega)]
        have HRB := Lib.hid hr2
        have e1 : ¬ (lo : Int) < n := by omega
        have e2 : decide ((lo : Int) < n) = false := decide_eq_false e1
        clear hr1 hr2 hp e1
        subst hn'
        go_wp2
        refine wp_region_ext (by kernel_rfl) (by kernel_rfl) ?_
        repeat (go_big_quiet_step (fail))
        refine wpQuiet_nil ?_
        intro xK
        go_wp2
        go_returns
        exact ⟨rett rfl (by rw [← HR.out, ← HRB.out]; rfl), by (repeat' (first | with_reducible exact Ext.refl _ | with_reducible refine Ext.ext ?_ _ | with_reducible refine Ext.alloc ?_ _ | with_reducible refine Ext.drew ?_ | with_reducible refine Ext.drewN ?_ _ | with_reducible assumption))⟩
      · obtain ⟨x, hx⟩ : ∃ x, l[lo]? = some x := ⟨l[lo]'(by have := HN.out; omega), List.getElem?_eq_getElem _⟩
        obtain ⟨b, off, rfl, -⟩ := H.out.cells (by omega)
        obtain ⟨c0, c1, c2, c3, c4, c5⟩ := cts_at H.out lo _ hx
        haveI : LtSz b w.heap.size := ⟨World.block_lt_of_cell? _ _ c0⟩
        have hr2 : (ordC x T == 0) = R2 := by
          rw [HR2.out, hasC, hp, hx]
          dsimp only
          rw [Bool.eq_iff_iff, beq_iff_eq]
          exact ord_eq
        have HRB := Lib.hid hr2
        have PN := Lib.hid (fun w => P1.out x w)
        have i1 : (0 : Int) ≤ lo := by omega
        have i2 : (lo : Int) < n := by omega
        have e2 : decide ((lo : Int) < n) = true := decide_eq_true i2
        have e3 : decide (lo < n) = true := decide_eq_true (by omega)
        generalize ordC x T = q at *
        obtain ⟨xd, xa, xb, xc, xe, xn⟩ := x
        dsimp only at PN c0 c1 c2 c3 c4 c5
        clear hr1 hr2 hp hx
        go_wp2
        refine wp_region_ext (by kernel_rfl) (by kernel_rfl) ?_
        repeat (go_big_quiet_step (first | (go_at_call 93; (apply quiet_of; (with_reducible exact PN.out _); (intro w' hx; obtain ⟨z, rfl⟩ := hx; (try simp only [ext_ext, add_assoc]); exact ⟨_, rfl⟩)))))
        refine wpQuiet_nil ?_
        intro xK
        go_wp2
        go_returns
        exact ⟨rett rfl (by rw [← HR.out, ← HRB.out]; rfl), by (repeat' (first | with_reducible exact Ext.refl _ | with_reducible refine Ext.ext ?_ _ | with_reducible refine Ext.alloc ?_ _ | with_reducible refine Ext.drew ?_ | with_reducible refine Ext.drewN ?_ _ | with_reducible assumption))⟩
theorem place_any (l : List Ct) (a : Option Addr) (n c : Nat) (w : World) (h : Rd w 6 n (.slice a n c) (cts l)) (hn : l.length = n) (hl : n ≤ 1073741824) (hc : Srt (ts l)) (t : Tm) :
    Calls Try.prog 87 #[.slice a n c, .agg #[.int .i64 t.d, .int .i64 t.a, .int .i64 t.b, .int .i64 t.c, .int .i64 t.e]] w fun e w' => e = .returned (.tuple #[.int .i64 (posC l t), .bool (hasC l t)]) ∧ Ext w w' := by
  have BS := Lib.hid (fun w' (hx : Ext w w') => bsf_any l a n c w' (h.of_ext hx) hn hl hc t)
  generalize posC l t = p at *
  generalize hasC l t = b at *
  obtain ⟨td, ta, tb, tc, te⟩ := t
  dsimp only at BS ⊢
  clear h hn hl hc
  go_enter Try.func87, Try.ntmps87
  go_wp2_with (go_at_call 92; refine (BS.out _ (by (repeat' (first | with_reducible exact Ext.refl _ | with_reducible refine Ext.ext ?_ _ | with_reducible refine Ext.alloc ?_ _ | with_reducible refine Ext.drew ?_ | with_reducible refine Ext.drewN ?_ _ | with_reducible assumption)))).mono ?_; rintro e w' ⟨rfl, x1, rfl⟩)
  go_returns
  exact ⟨rett rfl rfl, by (repeat' (first | with_reducible exact Ext.refl _ | with_reducible refine Ext.ext ?_ _ | with_reducible refine Ext.alloc ?_ _ | with_reducible refine Ext.drew ?_ | with_reducible refine Ext.drewN ?_ _ | with_reducible assumption))⟩
theorem cts_set : ∀ (l : List Ct) (i : Nat) (x : Ct) (s : Int), l[i]? = some x → (cts l).set (i * 6 + 5) (.int .i64 s) = cts (l.set i { x with n := s })
  | [], i, x, s, h => by simp at h
  | a :: l, 0, x, s, h => by
    obtain rfl : a = x := by simpa using h
    rfl
  | a :: l, i + 1, x, s, h => by
    have := cts_set l i x s (by simpa using h)
    rw [show (i + 1) * 6 + 5 = (i * 6 + 5) + 1 + 1 + 1 + 1 + 1 + 1 by omega]
    simp only [cts, List.set_cons_succ, this]
theorem put_at {w w' : World} {base g n c off : Nat} {u : Value} {l l' : List Ct} (h : w.ownsRow base 65 6 (.slice (some ⟨g, 0, none⟩) n c) n (cts l)) (hl : l.length = n) (hs : (cts l).set off u = cts l') (hx : Ext (w.setCell ⟨g, off, none⟩ u) w') : Grows w base (.slice (some ⟨g, 0, none⟩) n c) l' (.returned (.slice (some ⟨g, 0, none⟩) n c)) w' := by
  have h2 := own_put h u (off := off)
  rw [hs] at h2
  have hl' : l'.length = n := by
    have := h2.1
    rw [cts_length] at this
    omega
  subst hl'
  refine ⟨some ⟨g, 0, none⟩, c, rfl, ?_, own_of_extY h2 hx, .inl rfl⟩
  have g1 := put_grown w g off u
  have g2 := Ext.grows hx (some g)
  exact ⟨g2.os.trans g1.os, g2.tape.trans g1.tape, g2.output.trans g1.output, Nat.le_trans g1.size g2.size, fun k hk hne => (g2.block k (Nat.lt_of_lt_of_le hk g1.size) hne).trans (g1.block k hk hne)⟩
/-- A count of a timestamp. -/
def ctOf (t : Tm) (q : Int) : Ct := ⟨t.d, t.a, t.b, t.c, t.e, q⟩
/-- So many times more. -/
def putS (l : List Ct) (t : Tm) (q : Int) : List Ct :=
  if (q == 0 || (!mayB q || !_root_.Go.Proofs.Ytmngjifcgfnogaa.rightB t)) then l
  else match l[posC l t]? with
    | some x => if eqT x.t t = true then (if x.n + q = 0 then l.eraseIdx (posC l t) else if mayB (x.n + q) then l.set (posC l t) { x with n := x.n + q } else l) else l.take (posC l t) ++ ctOf t q :: l.drop (posC l t)
    | none => l.take (posC l t) ++ ctOf t q :: l.drop (posC l t)
set_option maxHeartbeats 4000000 in
theorem put_any (l : List Ct) (a : Option Addr) (n c base : Nat) (w0 w : World) (hx0 : Ext w0 w) (hb0 : w0.heap.size ≤ base) (hb : base ≤ w.heap.size) (h : w.ownsRow base 65 6 (.slice a n c) n (cts l)) (hl : l.length = n) (hn : n ≤ 1073741823) (hr : rightC l = true) (t : Tm) (q : Int) :
    Calls Try.prog 85 #[.slice a n c, .agg #[.int .i64 t.d, .int .i64 t.a, .int .i64 t.b, .int .i64 t.c, .int .i64 t.e], .int .i64 q] w (Grows w base (.slice a n c) (putS l t q)) := by
  have hch := right_srt hr
  have H := Lib.hid h
  have PL := Lib.hid (fun w' (hx : Ext w w') => place_any l a n c w' ((own_rd h).of_ext hx) hl (by omega) hch t)
  have MQ := Lib.hid (fun w' => may_any q w')
  have RT := Lib.hid (fun w' => _root_.Go.Proofs.Ytmngjifcgfnogaa.right_any t.d t.a t.b t.c t.e w')
  obtain ⟨b1, f1⟩ : ∃ b, (q == 0) = b := ⟨_, rfl⟩
  obtain ⟨b2, f2⟩ : ∃ b, mayB q = b := ⟨_, rfl⟩
  obtain ⟨b3, f3⟩ : ∃ b, _root_.Go.Proofs.Ytmngjifcgfnogaa.rightB t = b := ⟨_, rfl⟩
  obtain ⟨b4, f4⟩ : ∃ b, _root_.Go.Proofs.Ytmngjifcgfnogaa.rightB ⟨t.d, t.a, t.b, t.c, t.e⟩ = b := ⟨_, rfl⟩
  rw [f2] at MQ
  rw [f4] at RT
  obtain rfl : b3 = b4 := f3.symm.trans f4
  by_cases hA : (b1 || (!b2 || !b3)) = true
  · have hS : putS l t q = l := by unfold putS; rw [f1, f2, f3, if_pos hA]
    rw [hS]
    have HL := Lib.hid hl
    clear hS hr hch hn hl h f2 hb hb0 hx0 f3 f4
    generalize posC l t = p at *
    generalize hasC l t = hs at *
    obtain ⟨td, ta, tb, tc, te⟩ := t
    dsimp only at PL RT ⊢
    cases b1 <;> cases b2 <;> cases b3 <;> first | (exfalso; simp at hA; done) | skip
    all_goals
      clear hA
      go_enter Try.func85, Try.ntmps85
      go_wp2_with (first | (go_at_call 87; (with_reducible refine (PL.out _ (by (repeat' (first | with_reducible exact Ext.refl _ | with_reducible refine Ext.ext ?_ _ | with_reducible refine Ext.alloc ?_ _ | with_reducible refine Ext.drew ?_ | with_reducible refine Ext.drewN ?_ _ | with_reducible assumption)))).mono ?_); rintro e w' ⟨rfl, x1, rfl⟩) | (go_at_call 81; (with_reducible refine (MQ.out _).mono ?_); rintro e w' ⟨rfl, rfl⟩) | (go_at_call 20; (with_reducible refine (RT.out _).mono ?_); rintro e w' ⟨rfl, x2, rfl⟩))
      go_returns
      exact grows_same HL.out H.out (by (repeat' (first | with_reducible exact Ext.refl _ | with_reducible refine Ext.ext ?_ _ | with_reducible refine Ext.alloc ?_ _ | with_reducible refine Ext.drew ?_ | with_reducible refine Ext.drewN ?_ _ | with_reducible assumption)))
  · have hb1 : b1 = false := by cases b1 <;> simp at hA ⊢
    have hb2 : b2 = true := by cases b2 <;> simp at hA ⊢
    have hb3 : b3 = true := by cases b3 <;> simp at hA ⊢
    subst hb1 hb2 hb3
    have hq0 : q ≠ 0 := by simpa using f1
    have hmq : -2147483648 ≤ q ∧ q ≤ 2147483648 := by unfold mayB at f2; exact of_decide_eq_true f2
    have hple := posC_le l t
    cases hh : hasC l t with
    | false =>
      have hS : putS l t q = l.take (posC l t) ++ ctOf t q :: l.drop (posC l t) := by
        unfold putS
        rw [f1, f2, f3, if_neg (by decide)]
        unfold hasC at hh
        cases hx : l[posC l t]? with
        | none => rfl
        | some x =>
          rw [hx] at hh
          dsimp only at hh ⊢
          rw [if_neg (by rw [hh]; decide)]
      rw [hS]
      rw [hh] at PL
      have INS := Lib.hid (fun (W : World) (hW : Ext w W) (vb : Nat) (hvb : vb = W.heap.size) => (ins_any l a n c base vb (posC l t) (ctOf t q) w0 (W.alloc (.cells #[.int .i64 t.d, .int .i64 t.a, .int .i64 t.b, .int .i64 t.c, .int .i64 t.e, .int .i64 q] 65)) ((hx0.trans hW).alloc _) hb0 (by have := (Ext.grows hW none).size; rw [World.size_alloc]; omega) (own_of_extY h (hW.alloc _)) hl hn (by omega) (fun e => by have := (h.lt _ e).2; have := (Ext.grows hW none).size; omega) (by rw [hvb]; exact heap_alloc_new W _)).mono (fun e w' hg => Grows.of_ext hg (hW.alloc _)))
      clear hS hr hch hn hl h f2 f3 f4 hb hb0 hx0 hh hple hq0 hmq hA
      generalize posC l t = p at *
      generalize hT : ctOf t q = T at *
      have HT := Lib.hid hT
      clear hT HT
      obtain ⟨td, ta, tb, tc, te⟩ := t
      dsimp only at PL RT INS ⊢
      go_enter Try.func85, Try.ntmps85
      go_wp2_with (first | (go_at_call 87; (with_reducible refine (PL.out _ (by (repeat' (first | with_reducible exact Ext.refl _ | with_reducible refine Ext.ext ?_ _ | with_reducible refine Ext.alloc ?_ _ | with_reducible refine Ext.drew ?_ | with_reducible refine Ext.drewN ?_ _ | with_reducible assumption)))).mono ?_); rintro e w' ⟨rfl, x1, rfl⟩) | (go_at_call 81; (with_reducible refine (MQ.out _).mono ?_); rintro e w' ⟨rfl, rfl⟩) | (go_at_call 20; (with_reducible refine (RT.out _).mono ?_); rintro e w' ⟨rfl, x2, rfl⟩) | (go_at_call 90; refine (INS.out _ (by (repeat' (first | with_reducible exact Ext.refl _ | with_reducible refine Ext.ext ?_ _ | with_reducible refine Ext.alloc ?_ _ | with_reducible refine Ext.drew ?_ | with_reducible refine Ext.drewN ?_ _ | with_reducible assumption))) _ (by simp)).mono ?_; intro e w' hg; obtain ⟨b', c', rfl, hg⟩ := hg; have HG := Lib.hid hg; clear hg))
      go_returns
      exact ⟨b', c', by first | rfl | (simp; done), HG.out⟩
    | true =>
      obtain ⟨x, hx⟩ : ∃ x, l[posC l t]? = some x := by
        unfold hasC at hh
        cases hx : l[posC l t]? with
        | none => rw [hx] at hh; cases hh
        | some x => exact ⟨x, rfl⟩
      have ho : eqT x.t t = true := by
        unfold hasC at hh
        rw [hx] at hh
        exact hh
      have hS : putS l t q = if x.n + q = 0 then l.eraseIdx (posC l t) else if mayB (x.n + q) then l.set (posC l t) { x with n := x.n + q } else l := by
        unfold putS
        rw [f1, f2, f3, if_neg (by decide), hx]
        dsimp only
        rw [if_pos ho]
      have hN : -2147483648 ≤ x.n ∧ x.n ≤ 2147483648 := by
        unfold rightC at hr
        simp only [Bool.and_eq_true, List.all_eq_true] at hr
        have := hr.1 _ (List.mem_of_getElem? hx)
        unfold okC at this
        simp only [Bool.and_eq_true] at this
        have := this.2.2
        unfold mayB at this
        exact of_decide_eq_true this
      rw [hh] at PL
      have hlt : posC l t < n := by have := (List.getElem?_eq_some_iff.1 hx).1; omega
      obtain ⟨g, rfl, hgb⟩ := own_form h (by omega)
      have ew : wrap64 (x.n + q) = x.n + q := IntWalk.wrap64_in _ ⟨by omega, by omega⟩
      have hcell := (cts_at (own_rd h) _ _ hx).2.2.2.2.2
      have hset := cts_set l (posC l t) _ (x.n + q) hx
      rw [Nat.zero_add] at hcell
      have p0 : (0 : Int) ≤ (posC l t : Nat) := by omega
      have p1 : ((posC l t : Nat) : Int) < n := by omega
      have p2 : ((posC l t : Nat) : Int) ≤ 1073741823 := by omega
      have hlw : g < w.heap.size := World.block_lt_of_cell? _ _ hcell
      haveI : LtSz g w.heap.size := ⟨hlw⟩
      obtain ⟨xd, xa, xb, xc, xe, xn⟩ := x
      dsimp only at hcell hset ew hS hN
      have hfz : w.frozen? ⟨g, posC l t * 6 + 5, none⟩ = false := by
        obtain ⟨-, -, -, -, -, cur, hg, -, -⟩ := own_parts h
        exact frozen_row hg
      by_cases h0 : xn + q = 0
      · rw [hS, if_pos h0]
        have DEL := Lib.hid (fun (W : World) (hW : Ext w W) => (del_all l g c (posC l t) n base W (own_of_extY h hW) hl hlt hn).mono (fun e w' hg => Grows.of_ext hg hW))
        have e0 : (xn + q == 0) = true := by simp [h0]
        clear hS hr hch hn hl h f2 f3 f4 hb hb0 hx0 hh hple hq0 hmq hA hx ho hset hlt h0 hN
        generalize posC l t = p at *
        obtain ⟨td, ta, tb, tc, te⟩ := t
        dsimp only at PL RT ⊢
        go_enter Try.func85, Try.ntmps85
        go_wp2_with (first | (go_at_call 87; (with_reducible refine (PL.out _ (by (repeat' (first | with_reducible exact Ext.refl _ | with_reducible refine Ext.ext ?_ _ | with_reducible refine Ext.alloc ?_ _ | with_reducible refine Ext.drew ?_ | with_reducible refine Ext.drewN ?_ _ | with_reducible assumption)))).mono ?_); rintro e w' ⟨rfl, x1, rfl⟩) | (go_at_call 81; (with_reducible refine (MQ.out _).mono ?_); rintro e w' ⟨rfl, rfl⟩) | (go_at_call 20; (with_reducible refine (RT.out _).mono ?_); rintro e w' ⟨rfl, x2, rfl⟩) | (go_at_call 91; refine (DEL.out _ (by (repeat' (first | with_reducible exact Ext.refl _ | with_reducible refine Ext.ext ?_ _ | with_reducible refine Ext.alloc ?_ _ | with_reducible refine Ext.drew ?_ | with_reducible refine Ext.drewN ?_ _ | with_reducible assumption)))).mono ?_; intro e w' hg; obtain ⟨b', c', rfl, hg⟩ := hg; have HG := Lib.hid hg; clear hg))
        go_returns
        exact ⟨b', c', by first | rfl | (simp; done), HG.out⟩
      · have e0 : (xn + q == 0) = false := by simp [h0]
        have M2 := Lib.hid (fun w' => may_any (xn + q) w')
        obtain ⟨b3, f3'⟩ : ∃ b, mayB (xn + q) = b := ⟨_, rfl⟩
        rw [hS, if_neg h0, f3']
        rw [f3'] at M2
        have HLN := Lib.hid hl
        have HST := Lib.hid hset
        clear hS hr hch hn hl h f2 f3 f4 hb hb0 hx0 hh hple hq0 hmq hA hx ho hset hlt h0 hN f3'
        generalize posC l t = p at *
        obtain ⟨td, ta, tb, tc, te⟩ := t
        dsimp only at PL RT ⊢
        cases b3
        · rw [if_neg (by decide)]
          go_enter Try.func85, Try.ntmps85
          go_wp2_with (first | (go_at_call 87; (with_reducible refine (PL.out _ (by (repeat' (first | with_reducible exact Ext.refl _ | with_reducible refine Ext.ext ?_ _ | with_reducible refine Ext.alloc ?_ _ | with_reducible refine Ext.drew ?_ | with_reducible refine Ext.drewN ?_ _ | with_reducible assumption)))).mono ?_); rintro e w' ⟨rfl, x1, rfl⟩) | (go_at_call 81; (with_reducible refine (MQ.out _).mono ?_); rintro e w' ⟨rfl, rfl⟩) | (go_at_call 81; (with_reducible refine (M2.out _).mono ?_); rintro e w' ⟨rfl, rfl⟩) | (go_at_call 20; (with_reducible refine (RT.out _).mono ?_); rintro e w' ⟨rfl, x2, rfl⟩))
          go_returns
          exact grows_same HLN.out H.out (by (repeat' (first | with_reducible exact Ext.refl _ | with_reducible refine Ext.ext ?_ _ | with_reducible refine Ext.alloc ?_ _ | with_reducible refine Ext.drew ?_ | with_reducible refine Ext.drewN ?_ _ | with_reducible assumption)))
        · rw [if_pos rfl]
          go_enter Try.func85, Try.ntmps85
          go_wp2_with (first | (go_at_call 87; (with_reducible refine (PL.out _ (by (repeat' (first | with_reducible exact Ext.refl _ | with_reducible refine Ext.ext ?_ _ | with_reducible refine Ext.alloc ?_ _ | with_reducible refine Ext.drew ?_ | with_reducible refine Ext.drewN ?_ _ | with_reducible assumption)))).mono ?_); rintro e w' ⟨rfl, x1, rfl⟩) | (go_at_call 81; (with_reducible refine (MQ.out _).mono ?_); rintro e w' ⟨rfl, rfl⟩) | (go_at_call 81; (with_reducible refine (M2.out _).mono ?_); rintro e w' ⟨rfl, rfl⟩) | (go_at_call 20; (with_reducible refine (RT.out _).mono ?_); rintro e w' ⟨rfl, x2, rfl⟩))
          go_returns
          refine put_at (u := .int .i64 (xn + q)) (off := p * 6 + 5) H.out HLN.out HST.out ?_
          (repeat' (first | with_reducible exact Ext.refl _ | with_reducible refine Ext.ext ?_ _ | with_reducible refine Ext.alloc ?_ _ | with_reducible refine Ext.drew ?_ | with_reducible refine Ext.drewN ?_ _ | with_reducible assumption))
end Go.Proofs.Ytmngjifcgfnogaa.Fr
