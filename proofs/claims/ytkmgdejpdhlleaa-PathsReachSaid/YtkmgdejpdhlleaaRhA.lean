/- Chain, in a namespace of its own: rows of timestamps, their lowest. -/
import Derived.Test.YtkmgdejpdhlleaaTs1
import Derived.Test.YtkmgdejpdhlleaaApp
import Derived.Test.YtkmgdejpdhlleaaMem
import Derived.StillTailTactics
import Derived.Laws.CopyRow
import Derived.Lib.Overlaps
import Derived.Laws.Externs
import Derived.Lib.AppendZerosOnto
namespace Go.Proofs.Ytkmgdejpdhlleaa.Rc
set_option linter.unusedSimpArgs false
set_option linter.unusedVariables false
set_option maxRecDepth 100000
open Go.RowKit

/-- A region that draws its order: all but its last operations only read, or call what leaves the world alone. -/
theorem wp_region_tail {P : Program} {id : Nat} {Q : Exit → Act → World → Prop} {a : Act} {w : World} {l : List Oper} (n : Nat) (hm : P.follows .mixedOrders = true) (hB : Region.lexTailB .any l.toArray n = true)
    (h : wpStill P l.toArray w.drew (fun a' => wpList P l.toArray Q (l.drop n) a' w.drew) (l.take n) a) : (Code.region id l.toArray true).wp P Q a w := wp_region_still_tail n hm hB h
theorem cell_lit (w : World) (cs : Array Value) (e : TypeId) (g i : Nat) (u : Value) (hg : g = w.heap.size) (hu : cs[i]? = some u) : (w.alloc (.cells cs e)).cell? ⟨g, i, none⟩ = some u := by
  subst hg
  rw [cell_of_row _ _ _ cs e (0, 0) (heap_alloc_new w _), hu]
def tms : List Tm → List Value
  | [] => []
  | x :: l => .int .i64 x.d :: .int .i64 x.a :: .int .i64 x.b :: .int .i64 x.c :: .int .i64 x.e :: tms l
theorem tms_length (l : List Tm) : (tms l).length = l.length * 5 := by
  induction l with
  | nil => rfl
  | cons a l ih => simp only [tms, List.length_cons, ih]; omega
theorem tms_append (l m : List Tm) : tms (l ++ m) = tms l ++ tms m := by
  induction l with
  | nil => rfl
  | cons a l ih => simp only [List.cons_append, tms, ih]
theorem tms_one (l : List Tm) : ∀ u ∈ tms l, u.oneCell' = true := by
  induction l with
  | nil => intro u hu; cases hu
  | cons a l ih =>
    intro u hu
    simp only [tms, List.mem_cons] at hu
    rcases hu with rfl | rfl | rfl | rfl | rfl | hu
    · rfl
    · rfl
    · rfl
    · rfl
    · rfl
    · exact ih u hu
theorem tms_get : ∀ (l : List Tm) (j : Nat) (x : Tm), l[j]? = some x → (tms l)[j * 5]? = some (.int .i64 x.d) ∧ (tms l)[j * 5 + 1]? = some (.int .i64 x.a) ∧ (tms l)[j * 5 + 2]? = some (.int .i64 x.b) ∧ (tms l)[j * 5 + 3]? = some (.int .i64 x.c) ∧ (tms l)[j * 5 + 4]? = some (.int .i64 x.e)
  | [], j, x, h => by simp at h
  | a :: l, 0, x, h => by
    obtain rfl : a = x := by simpa using h
    exact ⟨rfl, rfl, rfl, rfl, rfl⟩
  | a :: l, j + 1, x, h => by
    have := tms_get l j x (by simpa using h)
    rw [show (j + 1) * 5 = j * 5 + 1 + 1 + 1 + 1 + 1 by omega]
    simpa [tms] using this
/-- The cells of a timestamp. -/
theorem tm_at {w : World} {b off n c : Nat} {l : List Tm} (h : Rd w 5 n (.slice (some ⟨b, off, none⟩) n c) (tms l)) (j : Nat) (x : Tm) (hj : l[j]? = some x) :
    w.cell? ⟨b, off + j * 5, none⟩ = some (.int .i64 x.d) ∧ w.cell? ⟨b, off + j * 5 + 1, none⟩ = some (.int .i64 x.a) ∧ w.cell? ⟨b, off + j * 5 + 2, none⟩ = some (.int .i64 x.b) ∧ w.cell? ⟨b, off + j * 5 + 3, none⟩ = some (.int .i64 x.c) ∧ w.cell? ⟨b, off + j * 5 + 4, none⟩ = some (.int .i64 x.e) := by
  obtain ⟨h1, h2, h3, h4, h5⟩ := tms_get l j x hj
  have hlt := (List.getElem?_eq_some_iff.1 hj).1
  have hl := h.len
  rw [tms_length] at hl
  obtain ⟨b', off', hb, hc⟩ := h.cells (by omega)
  obtain ⟨rfl, rfl⟩ : b = b' ∧ off = off' := by simpa using hb
  have c1 := hc _ _ h1
  have c2 := hc _ _ h2
  have c3 := hc _ _ h3
  have c4 := hc _ _ h4
  have c5 := hc _ _ h5
  rw [← Nat.add_assoc] at c2 c3 c4 c5
  exact ⟨c1, c2, c3, c4, c5⟩
theorem rightB_iff (t : Tm) : rightB t = true ↔ 1 ≤ t.d ∧ t.d ≤ 4 ∧ 0 ≤ t.a ∧ 0 ≤ t.b ∧ 0 ≤ t.c ∧ 0 ≤ t.e ∧ t.a ≤ 1048576 ∧ t.b ≤ 64 ∧ t.c ≤ 64 ∧ t.e ≤ 64 ∧
    (1 < t.d ∨ t.b = 0) ∧ (2 < t.d ∨ t.c = 0) ∧ (3 < t.d ∨ t.e = 0) := by
  simp [rightB, okTo, okAt, cAt, gr]
  omega
theorem at_0 (t : Tm) : t.at 0 = t.a := rfl
theorem at_1 (t : Tm) : t.at 1 = t.b := rfl
theorem at_2 (t : Tm) : t.at 2 = t.c := rfl
theorem at_3 (t : Tm) : t.at 3 = t.e := rfl
theorem leB_iff (s t : Tm) : leB s t = true ↔ rightB s = true ∧ rightB t = true ∧ s.d = t.d ∧ s.a ≤ t.a ∧ s.b ≤ t.b ∧ s.c ≤ t.c ∧ s.e ≤ t.e := by
  simp only [leB, bothB, Bool.and_eq_true, decide_eq_true_eq]
  constructor
  · rintro ⟨⟨h1, h2, h3⟩, h4⟩; exact ⟨h1, h2, h3, h4⟩
  · rintro ⟨h1, h2, h3, h4⟩; exact ⟨⟨h1, h2, h3⟩, h4⟩
theorem leB_refl {s : Tm} (h : rightB s = true) : leB s s = true := (leB_iff _ _).2 ⟨h, h, rfl, by omega, by omega, by omega, by omega⟩
section
variable {P : Program}
theorem run_copy_rowk (w : World) (t ty e : TypeId) (k : Nat) (ht : P.underlying t = some (.slice e)) (hk : (P.info? e).map (·.size) = some k) (g d dLen dCap : Nat) (cur : Array Value) (hg : w.heap[g]? = some (.cells cur e (0, 0))) (a : Addr) (sLen sCap m : Nat) (cs : List Value)
    (hm : Nat.min sLen dLen = m) (hl : cs.length = m * k) (hsrc : ∀ j v, cs[j]? = some v → w.cell? (a.add j) = some v) (hfit : d + cs.length ≤ cur.size) (h1 : ∀ v ∈ cs, v.oneCell' = true) :
    (Builtin.copy_ #[t, t] ty #[.slice (some ⟨g, d, none⟩) dLen dCap, .slice (some a) sLen sCap]).run P w = .ok (goInt m) (w.setRow g (cur.toList.take d ++ cs ++ cur.toList.drop (d + cs.length)).toArray) := by
  obtain ⟨ti, hti, hts⟩ := Option.map_eq_some_iff.1 hk
  have hll := run_loadCells_list (P := P) w a cs hsrc
  rw [hl] at hll
  have hst := run_storeCells_at P g d e cs 0 cur w hg (by simpa using hfit) h1
  simp only [Nat.add_zero] at hst
  simp [Builtin.copy_, run_underlying ht, Builtin.lenOf, Builtin.firstCells, sizeOf, typeInfo, hti, hts, hm, hll, hst]
variable {ops : Array Oper} {rest : List Oper} {o : Oper} {a : Act} {Q : Exit → Act → World → Prop}
theorem wpList_append_runY (w : World) (hgd : o.guard = none) (s x : Operand) (t tn : TypeId) (ho : o.op = .call { callee := .builtin .append, args := #[s, x], argTypes := #[t, tn] }) (vs vx : Value) (hs : a.eval s = vs) (hx : a.eval x = vx)
    (v' : Value) (w' : World) (hr : (Builtin.append_ #[t, tn] o.type #[vs, vx]).run P w = .ok v' w') (h : wpList P ops Q rest (a.put o.dst v') w') : wpList P ops Q (o :: rest) a w := by
  refine wpList_plain hgd fun K hK => ?_
  unfold Oper.wp execOp
  simp only [ho, resolve, invoke, builtin, Sem.run_bind, Sem.run_pure, Result.andThen_ok, List.map_toArray, List.map_cons, List.map_nil, hs, hx, hr]
  exact hK _ _ h
theorem wpList_copy_runY (w : World) (hgd : o.guard = none) (s x : Operand) (t tn : TypeId) (ho : o.op = .call { callee := .builtin .copy, args := #[s, x], argTypes := #[t, tn] }) (vs vx : Value) (hs : a.eval s = vs) (hx : a.eval x = vx)
    (v' : Value) (w' : World) (hr : (Builtin.copy_ #[t, tn] o.type #[vs, vx]).run P w = .ok v' w') (h : wpList P ops Q rest (a.put o.dst v') w') : wpList P ops Q (o :: rest) a w := by
  refine wpList_plain hgd fun K hK => ?_
  unfold Oper.wp execOp
  simp only [ho, resolve, invoke, builtin, Sem.run_bind, Sem.run_pure, Result.andThen_ok, List.map_toArray, List.map_cons, List.map_nil, hs, hx, hr]
  exact hK _ _ h
end
theorem setRow_grown (w : World) (g : Nat) (cur : Array Value) : w.grownBy (w.setRow g cur) (some g) :=
  ⟨rfl, rfl, rfl, by simp [World.setRow], fun k _ hk => setRow_other _ g k _ (fun e => hk (by rw [e]))⟩
theorem info_item : (Try.prog.info? 73).map (·.size) = some 5 := by kernel_rfl
theorem own_parts {w : World} {b : Nat} {e : TypeId} {k n m c g : Nat} {xs : List Value} (h : w.ownsRow b e k (.slice (some ⟨g, 0, none⟩) m c) n xs) : m = n ∧ b ≤ g ∧ n ≤ c ∧ c ≤ maxLen ∧ xs.length = n * k ∧ ∃ cur : Array Value, w.heap[g]? = some (.cells cur e (0, 0)) ∧ cur.size = c * k ∧ cur.toList.take (n * k) = xs := by
  obtain ⟨h1, h2⟩ := h
  rcases h2 with ⟨h2, _⟩ | ⟨g', cap, cur, hv, hg, hh, hnc, hcm, hcs, htake⟩
  · cases h2
  · obtain ⟨hg', rfl, rfl⟩ := Value.slice.inj hv
    obtain rfl : g = g' := by simpa using hg'
    exact ⟨rfl, hg, hnc, hcm, h1, cur, hh, hcs, htake⟩
theorem tms_take : ∀ (l : List Tm) (m : Nat), tms (l.take m) = (tms l).take (m * 5)
  | [], m => by simp [tms]
  | a :: l, 0 => by simp [tms]
  | a :: l, m + 1 => by
    rw [show (m + 1) * 5 = m * 5 + 1 + 1 + 1 + 1 + 1 by omega]
    simp only [List.take_succ_cons, tms, tms_take l m]
theorem tms_drop : ∀ (l : List Tm) (m : Nat), tms (l.drop m) = (tms l).drop (m * 5)
  | [], m => by simp [tms]
  | a :: l, 0 => by simp
  | a :: l, m + 1 => by
    rw [show (m + 1) * 5 = m * 5 + 1 + 1 + 1 + 1 + 1 by omega]
    simp only [List.drop_succ_cons, tms, tms_drop l m]
theorem setRow_get (w : World) (g : Nat) (cur : Array Value) (e : TypeId) (c : List Value) (hg : w.heap[g]? = some (.cells cur e (0, 0))) : (w.setRow g c.toArray).heap[g]? = some (.cells c.toArray e (0, 0)) := setRow_heap w g cur c.toArray e (0, 0) hg
theorem info_item' : (Try.prog.info? 73).map (fun i => (i.zero, i.size, i.bytes)) = some (some (.agg #[.int .i64 0, .int .i64 0, .int .i64 0, .int .i64 0, .int .i64 0]), 5, 40) := by kernel_rfl
theorem own_capY {w : World} {b : Nat} {e : TypeId} {k n m c : Nat} {a : Option Addr} {xs : List Value} (h : w.ownsRow b e k (.slice a m c) n xs) : m ≤ c := by
  rcases h.2 with ⟨h2, _⟩ | ⟨g', cap, cur, hv, hg, hh, hnc, _⟩
  · cases h2; exact Nat.le_refl _
  · obtain ⟨_, rfl, rfl⟩ := Value.slice.inj hv
    exact hnc
theorem ins_end (l : List Tm) (a : Option Addr) (n c base vb : Nat) (x : Tm) (w0 w : World) (hx0 : Ext w0 w) (hb0 : w0.heap.size ≤ base) (hb : base ≤ w.heap.size) (h : w.ownsRow base 73 5 (.slice a n c) n (tms l)) (hn : n ≤ 1073741823) (hv : Rd w 5 1 (.slice (some ⟨vb, 0, none⟩) 1 1) (tms [x])) :
    Calls Try.prog 150 #[.slice a n c, .int .i64 n, .slice (some ⟨vb, 0, none⟩) 1 1] w fun e w' => ∃ b c', e = .returned (.slice b (n + 1) c') ∧ w.grownBy w' (Value.slice a n c).ownBlock ∧ (∃ y, w' = ext w0 y) ∧ w'.ownsRow base 73 5 (.slice b (n + 1) c') (n + 1) (tms (l ++ [x])) ∧ ((Value.slice a n c).ownBlock = (Value.slice b (n + 1) c').ownBlock ∨ (Value.slice b (n + 1) c').ownBlock = some w.heap.size) := by
  have H := Lib.hid h
  have HV := Lib.hid hv
  have e1 : ((n : Int) == (n : Int)) = true := by simp
  have i0 : (0 : Int) ≤ n := by omega
  have hcap := own_capY h
  have i1 : (n : Int) ≤ c := by omega
  rw [tms_append]
  have ONE := Lib.hid (tms_one [x])
  clear hv
  have key : ∀ (P : Prop), ((a = none ∧ n = 0) → P) → ((∃ g, a = some ⟨g, 0, none⟩) → c = n → P) → ((∃ g, a = some ⟨g, 0, none⟩) → c ≠ n → P) → P := fun P k1 k2 k3 => by
    rcases h.2 with ⟨h1, h2⟩ | ⟨g, cap, cur, h1, _⟩
    · cases h1; exact k1 ⟨rfl, h2⟩
    · obtain ⟨rfl, _, _⟩ := Value.slice.inj h1
      by_cases hq : c = n
      · exact k2 ⟨g, rfl⟩ hq
      · exact k3 ⟨g, rfl⟩ hq
  clear h
  refine key _ (fun hk => ?_) (fun hk hq => ?_) (fun hk hq => ?_)
  · obtain ⟨rfl, rfl⟩ := hk
    clear key
    go_enter Try.func150, Try.ntmps150
    go_wp2_with (at_builtin; apply stop_here)
    unfold Stop
    refine wpList_app rfl _ _ 90 rfl 73 (.agg #[.int .i64 0, .int .i64 0, .int .i64 0, .int .i64 0, .int .i64 0]) 5 40 Try.underlying90 info_item' rfl (by decide) w0 hx0 base _ _ _ H.out 1 _ _ rfl rfl HV.out ONE.out (by unfold maxLen; omega) (by omega) hb hb0 ?_
    intro b c' y hown hgr hat
    have HOWN := Lib.hid hown
    have HGR := Lib.hid hgr
    have HAT := Lib.hid hat
    clear hown hgr hat
    go_wp2
    go_returns
    exact ⟨b, c', by simp, HGR.out, ⟨y, rfl⟩, HOWN.out, HAT.out⟩
  · obtain ⟨g, rfl⟩ := hk
    subst hq
    clear key
    go_enter Try.func150, Try.ntmps150
    go_wp2_with (at_builtin; apply stop_here)
    unfold Stop
    refine wpList_app rfl _ _ 90 rfl 73 (.agg #[.int .i64 0, .int .i64 0, .int .i64 0, .int .i64 0, .int .i64 0]) 5 40 Try.underlying90 info_item' rfl (by decide) w0 hx0 base _ _ _ H.out 1 _ _ rfl rfl HV.out ONE.out (by unfold maxLen; omega) (by omega) hb hb0 ?_
    intro b c' y hown hgr hat
    have HOWN := Lib.hid hown
    have HGR := Lib.hid hgr
    have HAT := Lib.hid hat
    clear hown hgr hat
    go_wp2
    go_returns
    exact ⟨b, c', by simp, HGR.out, ⟨y, rfl⟩, HOWN.out, HAT.out⟩
  · obtain ⟨g, rfl⟩ := hk
    clear key
    go_enter Try.func150, Try.ntmps150
    go_wp2_with (at_builtin; apply stop_here)
    unfold Stop
    refine wpList_app rfl _ _ 90 rfl 73 (.agg #[.int .i64 0, .int .i64 0, .int .i64 0, .int .i64 0, .int .i64 0]) 5 40 Try.underlying90 info_item' rfl (by decide) w0 hx0 base _ _ _ H.out 1 _ _ rfl rfl HV.out ONE.out (by unfold maxLen; omega) (by omega) hb hb0 ?_
    intro b c' y hown hgr hat
    have HOWN := Lib.hid hown
    have HGR := Lib.hid hgr
    have HAT := Lib.hid hat
    clear hown hgr hat
    go_wp2
    go_returns
    exact ⟨b, c', by simp, HGR.out, ⟨y, rfl⟩, HOWN.out, HAT.out⟩
theorem shape_row {w : World} {g : Nat} {cur : Array Value} {e : TypeId} (h : w.heap[g]? = some (.cells cur e (0, 0))) : w.shape? g = some (e, cur.size) := by
  unfold World.shape?
  rw [h]
theorem frozen_row {w : World} {g i : Nat} {cur : Array Value} {e : TypeId} (h : w.heap[g]? = some (.cells cur e (0, 0))) : w.frozen? ⟨g, i, none⟩ = false := by
  simp [World.frozen?, h]
theorem ins_writes {cur xs z : List Value} {i n : Nat} (hx : cur.take (n * 5) = xs) (hl : xs.length = n * 5) (hi : i ≤ n) (hc : (n + 1) * 5 ≤ cur.length) (hz : z.length = 5) :
    ((cur.take ((i + 1) * 5) ++ xs.drop (i * 5) ++ cur.drop ((i + 1) * 5 + (xs.drop (i * 5)).length)).take (i * 5) ++ z ++ (cur.take ((i + 1) * 5) ++ xs.drop (i * 5) ++ cur.drop ((i + 1) * 5 + (xs.drop (i * 5)).length)).drop (i * 5 + z.length)).take ((n + 1) * 5) = xs.take (i * 5) ++ z ++ xs.drop (i * 5) := by
  have hdl : (xs.drop (i * 5)).length = (n - i) * 5 := by rw [List.length_drop, hl]; omega
  have h1 : (cur.take ((i + 1) * 5) ++ xs.drop (i * 5) ++ cur.drop ((i + 1) * 5 + (xs.drop (i * 5)).length)).take (i * 5) = xs.take (i * 5) := by
    rw [List.append_assoc, List.take_append_of_le_length (by rw [List.length_take]; omega), List.take_take, Nat.min_eq_left (by omega), ← hx, List.take_take, Nat.min_eq_left (by omega)]
  have h2 : (cur.take ((i + 1) * 5) ++ xs.drop (i * 5) ++ cur.drop ((i + 1) * 5 + (xs.drop (i * 5)).length)).drop (i * 5 + z.length) = xs.drop (i * 5) ++ cur.drop ((i + 1) * 5 + (xs.drop (i * 5)).length) := by
    rw [hz, show i * 5 + 5 = (cur.take ((i + 1) * 5)).length by rw [List.length_take]; omega, List.append_assoc, List.drop_left]
  rw [h1, h2]
  have h3 : (xs.take (i * 5) ++ z ++ xs.drop (i * 5)).length = (n + 1) * 5 := by simp only [List.length_append, List.length_take, hz, hdl, hl]; omega
  rw [← List.append_assoc, ← h3, List.take_left]
set_option maxHeartbeats 2000000 in
theorem ins_room (l : List Tm) (g n c base vb i : Nat) (x : Tm) (w : World) (h : w.ownsRow base 73 5 (.slice (some ⟨g, 0, none⟩) n c) n (tms l)) (hn : n ≤ 1073741823) (hi : i < n) (hroom : n + 1 ≤ c) (hne : vb ≠ g) (hv : w.heap[vb]? = some (.cells #[.int .i64 x.d, .int .i64 x.a, .int .i64 x.b, .int .i64 x.c, .int .i64 x.e] 73 (0, 0))) :
    Calls Try.prog 150 #[.slice (some ⟨g, 0, none⟩) n c, .int .i64 i, .slice (some ⟨vb, 0, none⟩) 1 1] w fun e w' => e = .returned (.slice (some ⟨g, 0, none⟩) (n + 1) c) ∧ w.grownBy w' (some g) ∧ w'.ownsRow base 73 5 (.slice (some ⟨g, 0, none⟩) (n + 1) c) (n + 1) ((tms l).take (i * 5) ++ tms [x] ++ (tms l).drop (i * 5)) := by
  obtain ⟨-, hb, hnc, hcm, hlen, cur, hg, hcs, htake⟩ := own_parts h
  have hread : ∀ j u, ((tms l).drop (i * 5))[j]? = some u → w.drew.cell? ((⟨g, i * 5, none⟩ : Addr).add j) = some u := fun j u hu => by
    rw [List.getElem?_drop] at hu
    have := h.cells (g := g) rfl _ _ hu
    rw [show (⟨g, 0, none⟩ : Addr).add (i * 5 + j) = ⟨g, 0 + (i * 5 + j), none⟩ by unfold Addr.add; split <;> simp_all] at this
    rw [show (⟨g, i * 5, none⟩ : Addr).add j = ⟨g, i * 5 + j, none⟩ by unfold Addr.add; split <;> simp_all]
    rw [Nat.zero_add] at this
    exact this
  have hdl : ((tms l).drop (i * 5)).length = (n - i) * 5 := by rw [List.length_drop, hlen]; omega
  have hz : (tms [x]).length = 5 := rfl
  have IW := ins_writes (z := tms [x]) htake hlen (show i ≤ n by omega) (by rw [Array.length_toList, hcs]; omega) hz
  have CP : Hid (∀ ty dc sc, ∃ W1, (Builtin.copy_ #[90, 90] ty #[.slice (some ⟨g, (i + 1) * 5, none⟩) (n - i) dc, .slice (some ⟨g, i * 5, none⟩) (n + 1 - i) sc]).run Try.prog w.drew = .ok (.int .i64 ((n - i : Nat) : Int)) W1 ∧ ∀ ty dc, ∃ W2, (Builtin.copy_ #[90, 90] ty #[.slice (some ⟨g, i * 5, none⟩) (n + 1 - i) dc, .slice (some ⟨vb, 0, none⟩) 1 1]).run Try.prog W1 = .ok (.int .i64 ((1 : Nat) : Int)) W2 ∧ w.grownBy W2 (some g) ∧ W2.ownsRow base 73 5 (.slice (some ⟨g, 0, none⟩) (n + 1) c) (n + 1) ((tms l).take (i * 5) ++ tms [x] ++ (tms l).drop (i * 5))) := Lib.hid (fun ty dc sc => by
    refine ⟨_, run_copy_rowk w.drew 90 ty 73 5 Try.underlying90 info_item g ((i + 1) * 5) (n - i) dc cur hg ⟨g, i * 5, none⟩ (n + 1 - i) sc (n - i) ((tms l).drop (i * 5)) (by simp only [Nat.min_def]; split <;> omega) hdl hread (by rw [hdl, hcs]; omega) (fun u hu => tms_one l u (List.mem_of_mem_drop hu)), fun ty dc => ?_⟩
    have hg1 := setRow_get w.drew g cur 73 (cur.toList.take ((i + 1) * 5) ++ (tms l).drop (i * 5) ++ cur.toList.drop ((i + 1) * 5 + ((tms l).drop (i * 5)).length)) hg
    have hr1 := setRow_grown w.drew g (cur.toList.take ((i + 1) * 5) ++ (tms l).drop (i * 5) ++ cur.toList.drop ((i + 1) * 5 + ((tms l).drop (i * 5)).length)).toArray
    have hs1 : (cur.toList.take ((i + 1) * 5) ++ (tms l).drop (i * 5) ++ cur.toList.drop ((i + 1) * 5 + ((tms l).drop (i * 5)).length)).length = c * 5 := by
      simp only [List.length_append, List.length_take, List.length_drop, Array.length_toList, hcs, hlen]
      omega
    generalize hW : w.drew.setRow g (cur.toList.take ((i + 1) * 5) ++ (tms l).drop (i * 5) ++ cur.toList.drop ((i + 1) * 5 + ((tms l).drop (i * 5)).length)).toArray = W at *
    have hvW : W.heap[vb]? = some (.cells #[.int .i64 x.d, .int .i64 x.a, .int .i64 x.b, .int .i64 x.c, .int .i64 x.e] 73 (0, 0)) := by
      rw [hr1.block vb (by have := (Array.getElem?_eq_some_iff.1 hv).1; simpa using this) (by simpa using hne)]
      exact hv
    refine ⟨_, run_copy_rowk W 90 ty 73 5 Try.underlying90 info_item g (i * 5) (n + 1 - i) dc _ hg1 ⟨vb, 0, none⟩ 1 1 1 (tms [x]) (by simp only [Nat.min_def]; split <;> omega) rfl ?_ (by rw [hz, List.size_toArray, hs1]; omega) (tms_one [x]), ?_, ?_⟩
    · intro j u hu
      rw [show (⟨vb, 0, none⟩ : Addr).add j = ⟨vb, 0 + j, none⟩ by unfold Addr.add; split <;> simp_all, Nat.zero_add, cell_of_row _ _ _ _ _ (0, 0) hvW]
      simpa [tms] using hu
    · have g2 := setRow_grown W g ((cur.toList.take ((i + 1) * 5) ++ (tms l).drop (i * 5) ++ cur.toList.drop ((i + 1) * 5 + ((tms l).drop (i * 5)).length)).toArray.toList.take (i * 5) ++ tms [x] ++ (cur.toList.take ((i + 1) * 5) ++ (tms l).drop (i * 5) ++ cur.toList.drop ((i + 1) * 5 + ((tms l).drop (i * 5)).length)).toArray.toList.drop (i * 5 + (tms [x]).length)).toArray
      exact ⟨g2.os.trans hr1.os, g2.tape.trans hr1.tape, g2.output.trans hr1.output, Nat.le_trans hr1.size g2.size, fun k hk hne => (g2.block k (Nat.lt_of_lt_of_le hk hr1.size) hne).trans (hr1.block k hk hne)⟩
    · refine ⟨by simp only [List.length_append, List.length_take, hz, hdl, hlen]; omega, .inr ⟨g, c, _, rfl, hb, setRow_get W g _ _ _ hg1, hroom, hcm, ?_, ?_⟩⟩
      · simp only [List.size_toArray, List.length_append, List.length_take, List.length_drop, hz, Array.length_toList, hcs, hlen]
        omega
      · exact IW)
  have hov : ∀ lb cb, (callFunc 177 #[.slice (some ⟨vb, 0, none⟩) 1 1, .slice (some ⟨g, (i + 1) * 5, none⟩) lb cb]).run Try.prog w = .ok (.value (.bool false)) w := fun lb cb => by
    rw [run_callFunc_extern Try.func177 (by kernel_rfl) (by kernel_rfl) (by kernel_rfl) (e := Extern.SlicesOverlaps.overlaps #[90, 90] #[4]) (by kernel_rfl),
      Lib.run_overlaps_apart w 90 4 73 Try.underlying90 5 (fun w => by rfl) ⟨vb, 0, none⟩ ⟨g, (i + 1) * 5, none⟩ 1 1 lb cb hne _ _ _ _ (shape_row hv) (shape_row hg) (by rw [hcs]; omega) (frozen_row hv) (frozen_row hv)]
    rfl
  have i0 : (0 : Int) ≤ i := by omega
  have i1 : (i : Int) < n := by omega
  have i2 : (i : Int) ≤ n := by omega
  have i3 : (n : Int) + 1 ≤ c := by omega
  have i4 : (i : Int) + 1 ≤ (n : Int) + 1 := by omega
  have i5 : (0 : Int) ≤ (i : Int) + 1 := by omega
  have i6 : (n : Int) ≤ 1073741823 := by omega
  have e1 : ((i : Int) == (n : Int)) = false := by simp; omega
  have e2 : decide ((c : Int) < (n : Int) + 1) = false := decide_eq_false (by omega)
  have q1 : ¬ c = i := by omega
  have q2 : ¬ c = i + 1 := by omega
  have q3 : (i : Int) ≤ (n : Int) + 1 := by omega
  clear h hread hdl hz IW hg hv htake hlen hcs
  go_enter Try.func150, Try.ntmps150
  go_wp2_with (simp only [hov])
  have ewk : IntKind.i64.wrap ((i : Int) + 1) = (i : Int) + 1 := by rw [IntKind.wrap_i64]; omega
  refine wp_region_tail 8 (by kernel_rfl) (by kernel_rfl) ?_
  simp only [List.take_succ_cons, List.take_zero, List.drop_succ_cons, List.drop_zero]
  repeat still_step
  refine wpStill_nil ?_
  obtain ⟨W1, hr1, hc2⟩ := CP.out 3 (c - (i + 1)) (c - i)
  clear CP ewk
  have hr1' : ∀ ty dc, (Builtin.copy_ #[90, 90] ty #[.slice (some ⟨g, (i + 1) * 5, none⟩) (n + 1 - (i + 1)) dc, .slice (some ⟨g, i * 5, none⟩) (n + 1 - i) (c - i)]).run Try.prog w.drew = (Builtin.copy_ #[90, 90] ty #[.slice (some ⟨g, (i + 1) * 5, none⟩) (n - i) dc, .slice (some ⟨g, i * 5, none⟩) (n + 1 - i) (c - i)]).run Try.prog w.drew := fun ty dc => by rw [show n + 1 - (i + 1) = n - i by omega]
  refine wpList_copy_runY _ rfl _ _ 90 90 rfl _ _ rfl rfl _ _ (by first | exact hr1 | exact (hr1' _ _).trans hr1) ?_
  clear hr1 hr1'
  obtain ⟨W2, hr2, hgr, hown⟩ := hc2 3 (c - i)
  have HH := Lib.hid (And.intro hgr hown)
  clear hc2 hgr hown
  go_wp2
  go_returns
  exact ⟨rfl, HH.out⟩
theorem grow_writes {row xs z : List Value} {i n : Nat} (hx : row.take (i * 5) = xs.take (i * 5)) (hl : xs.length = n * 5) (hi : i < n) (hc : (n + 1) * 5 ≤ row.length) (hz : z.length = 5) :
    ((row.take (i * 5) ++ z ++ row.drop (i * 5 + z.length)).take ((i + 1) * 5) ++ xs.drop (i * 5) ++ (row.take (i * 5) ++ z ++ row.drop (i * 5 + z.length)).drop ((i + 1) * 5 + (xs.drop (i * 5)).length)).take ((n + 1) * 5) = xs.take (i * 5) ++ z ++ xs.drop (i * 5) := by
  have hdl : (xs.drop (i * 5)).length = (n - i) * 5 := by rw [List.length_drop, hl]; omega
  have h1 : (row.take (i * 5) ++ z).length = (i + 1) * 5 := by rw [List.length_append, List.length_take, hz]; omega
  have h2 : (row.take (i * 5) ++ z ++ row.drop (i * 5 + z.length)).take ((i + 1) * 5) = xs.take (i * 5) ++ z := by
    rw [← h1, List.take_left, hx]
  rw [h2]
  have h3 : (xs.take (i * 5) ++ z ++ xs.drop (i * 5)).length = (n + 1) * 5 := by simp only [List.length_append, List.length_take, hz, hdl, hl]; omega
  rw [← h3, List.take_left]
set_option maxHeartbeats 2000000 in
theorem ins_grow (l : List Tm) (g n c base vb i : Nat) (x : Tm) (w : World) (h : w.ownsRow base 73 5 (.slice (some ⟨g, 0, none⟩) n c) n (tms l)) (hbw : base ≤ w.heap.size) (hn : n ≤ 1073741823) (hi : i < n) (hroom : c < n + 1) (hv : w.heap[vb]? = some (.cells #[.int .i64 x.d, .int .i64 x.a, .int .i64 x.b, .int .i64 x.c, .int .i64 x.e] 73 (0, 0))) :
    Calls Try.prog 150 #[.slice (some ⟨g, 0, none⟩) n c, .int .i64 i, .slice (some ⟨vb, 0, none⟩) 1 1] w fun e w' => ∃ G, e = .returned (.slice (some ⟨w.heap.size, 0, none⟩) (n + 1) G) ∧ w.grownBy w' none ∧ w'.ownsRow base 73 5 (.slice (some ⟨w.heap.size, 0, none⟩) (n + 1) G) (n + 1) ((tms l).take (i * 5) ++ tms [x] ++ (tms l).drop (i * 5)) := by
  obtain ⟨-, hb, hnc, hcm, hlen, cur, hg, hcs, htake⟩ := own_parts h
  obtain ⟨i0, hi0, hz0, hz1, hz2⟩ := info_parts info_item'
  have hread : ∀ j u, (tms l)[j]? = some u → w.cell? ⟨g, j, none⟩ = some u := fun j u hu => by
    have := h.cells (g := g) rfl _ _ hu
    rwa [show (⟨g, 0, none⟩ : Addr).add j = ⟨g, 0 + j, none⟩ by unfold Addr.add; split <;> simp_all, Nat.zero_add] at this
  have hold : (Builtin.firstCells i0.size i (.slice (some ⟨g, 0, none⟩) i c)).run Try.prog w.drew = .ok ((tms l).take (i * 5)).toArray w.drew := by
    rw [hz1]
    exact run_firstCells_some w.drew 5 i ⟨g, 0, none⟩ i c ((tms l).take (i * 5)) (by rw [List.length_take, hlen]; omega) (fun j v hj => by
      rw [show (⟨g, 0, none⟩ : Addr).add j = ⟨g, 0 + j, none⟩ by unfold Addr.add; split <;> simp_all, Nat.zero_add]
      rw [List.getElem?_take] at hj
      split at hj
      · exact hread j v hj
      · cases hj)
  have hik : i + (n + 1 - i) = n + 1 := by omega
  have hrz := fun ty => Lib.run_append_grow_zeros w 90 3 ty 73 i0 _ .i64 .i64 Try.underlying90 Try.underlying3 hi0 hz0 (some ⟨g, 0, none⟩) i c ((tms l).take (i * 5)) hold (n + 1 - i) (by omega) (by omega) (by omega) (by omega) (by rw [hz2]; omega) (by rw [hz2, hik]; exact growslice_fits hroom (by omega))
  simp only [hik] at hrz
  have hge := grownCap_ge w (n + 1) c 73
  have hle := grownCap_le_maxLen w (n + 1) c 73 (by unfold maxLen; omega)
  obtain ⟨G, hG⟩ : ∃ G, G = grownCap w (n + 1) c 73 := ⟨_, rfl⟩
  rw [← hG] at hrz hge hle
  obtain ⟨ROW, hROW⟩ : ∃ ROW : Array Value, ROW = ((tms l).take (i * 5)).toArray ++ Builtin.zeroCells (Value.agg #[.int .i64 0, .int .i64 0, .int .i64 0, .int .i64 0, .int .i64 0]).cells (n + 1 - i) ++ Builtin.zeroCells (Value.agg #[.int .i64 0, .int .i64 0, .int .i64 0, .int .i64 0, .int .i64 0]).cells (G - (n + 1)) := ⟨_, rfl⟩
  rw [← hROW] at hrz
  have htl : ((tms l).take (i * 5)).length = i * 5 := by rw [List.length_take, hlen]; omega
  have hRS : ROW.size = G * 5 := by
    rw [hROW]
    simp only [Array.size_append, List.size_toArray, size_zeroCells, htl]
    show i * 5 + (n + 1 - i) * 5 + (G - (n + 1)) * 5 = G * 5
    omega
  have hRT : ROW.toList.take (i * 5) = (tms l).take (i * 5) := by
    rw [hROW, Array.toList_append, Array.toList_append, List.append_assoc]
    have tk : ∀ A B : List Value, A.length = i * 5 → (A ++ B).take (i * 5) = A := fun A B h => by rw [← h, List.take_left]
    exact tk _ _ htl
  have hz : (tms [x]).length = 5 := rfl
  have hdl : ((tms l).drop (i * 5)).length = (n - i) * 5 := by rw [List.length_drop, hlen]; omega
  have GW := grow_writes (z := tms [x]) hRT hlen hi (by rw [Array.length_toList, hRS]; omega) hz
  have CP : Hid (∀ ty, ∃ W1, (Builtin.append_ #[90, 3] ty #[.slice (some ⟨g, 0, none⟩) i c, .int .i64 ((n : Int) + 1 - i)]).run Try.prog w = .ok (.slice (some ⟨w.heap.size, 0, none⟩) (n + 1) G) W1 ∧
      ∀ ty dc, ∃ W2, (Builtin.copy_ #[90, 90] ty #[.slice (some ⟨w.heap.size, i * 5, none⟩) (n + 1 - i) dc, .slice (some ⟨vb, 0, none⟩) 1 1]).run Try.prog W1 = .ok (.int .i64 ((1 : Nat) : Int)) W2 ∧
      ∀ ty dc sc, ∃ W3, (Builtin.copy_ #[90, 90] ty #[.slice (some ⟨w.heap.size, (i + 1) * 5, none⟩) (n - i) dc, .slice (some ⟨g, i * 5, none⟩) (n - i) sc]).run Try.prog W2.drew = .ok (.int .i64 ((n - i : Nat) : Int)) W3 ∧ w.grownBy W3 none ∧ W3.ownsRow base 73 5 (.slice (some ⟨w.heap.size, 0, none⟩) (n + 1) G) (n + 1) ((tms l).take (i * 5) ++ tms [x] ++ (tms l).drop (i * 5))) := Lib.hid (fun ty => by
    rw [show (n : Int) + 1 - i = ((n + 1 - i : Nat) : Int) by omega]
    refine ⟨_, hrz ty, fun ty dc => ?_⟩
    have hg1 : (w.drew.alloc (.cells ROW 73)).heap[w.heap.size]? = some (.cells ROW 73 (0, 0)) := heap_alloc_new w.drew _
    have ho1 : ∀ k, k < w.heap.size → (w.drew.alloc (.cells ROW 73)).heap[k]? = w.heap[k]? := fun k hk => Below.heap_alloc w.drew _ k hk
    have hsz1 : w.heap.size < (w.drew.alloc (.cells ROW 73)).heap.size := by simp
    have hvb : vb < w.heap.size := (Array.getElem?_eq_some_iff.1 hv).1
    have hgb : g < w.heap.size := (Array.getElem?_eq_some_iff.1 hg).1
    have hos : (w.drew.alloc (.cells ROW 73)).os = w.os ∧ (w.drew.alloc (.cells ROW 73)).tape = w.tape ∧ (w.drew.alloc (.cells ROW 73)).output = w.output := ⟨rfl, rfl, rfl⟩
    generalize hW1 : w.drew.alloc (.cells ROW 73) = W1 at *
    refine ⟨_, run_copy_rowk W1 90 ty 73 5 Try.underlying90 info_item w.heap.size (i * 5) (n + 1 - i) dc ROW hg1 ⟨vb, 0, none⟩ 1 1 1 (tms [x]) (by simp only [Nat.min_def]; split <;> omega) rfl ?_ (by rw [hz, hRS]; omega) (tms_one [x]), fun ty dc sc => ?_⟩
    · intro j u hu
      rw [show (⟨vb, 0, none⟩ : Addr).add j = ⟨vb, 0 + j, none⟩ by unfold Addr.add; split <;> simp_all, Nat.zero_add, cell_of_row _ _ _ _ _ (0, 0) ((ho1 vb hvb).trans hv)]
      simpa [tms] using hu
    have hg2 := setRow_get W1 w.heap.size ROW 73 (ROW.toList.take (i * 5) ++ tms [x] ++ ROW.toList.drop (i * 5 + (tms [x]).length)) hg1
    have hr2 := setRow_grown W1 w.heap.size (ROW.toList.take (i * 5) ++ tms [x] ++ ROW.toList.drop (i * 5 + (tms [x]).length)).toArray
    have hs2 : (ROW.toList.take (i * 5) ++ tms [x] ++ ROW.toList.drop (i * 5 + (tms [x]).length)).length = G * 5 := by
      simp only [List.length_append, List.length_take, List.length_drop, hz, Array.length_toList, hRS]
      omega
    generalize hW2 : W1.setRow w.heap.size (ROW.toList.take (i * 5) ++ tms [x] ++ ROW.toList.drop (i * 5 + (tms [x]).length)).toArray = W2 at *
    have ho2 : ∀ k, k < w.heap.size → W2.heap[k]? = w.heap[k]? := fun k hk => (hr2.block k (by omega) (by simp; omega)).trans (ho1 k hk)
    refine ⟨_, run_copy_rowk W2.drew 90 ty 73 5 Try.underlying90 info_item w.heap.size ((i + 1) * 5) (n - i) dc _ hg2 ⟨g, i * 5, none⟩ (n - i) sc (n - i) ((tms l).drop (i * 5)) (by simp only [Nat.min_def]; split <;> omega) hdl ?_ (by rw [hdl, List.size_toArray, hs2]; omega) (fun u hu => tms_one l u (List.mem_of_mem_drop hu)), ?_, ?_⟩
    · intro j u hu
      rw [List.getElem?_drop] at hu
      have h1 := hread _ _ hu
      rw [show (⟨g, i * 5, none⟩ : Addr).add j = ⟨g, i * 5 + j, none⟩ by unfold Addr.add; split <;> simp_all]
      rw [← h1]
      exact World.cell?_of_block (ho2 g hgb)
    · have g3 := setRow_grown W2.drew w.heap.size ((ROW.toList.take (i * 5) ++ tms [x] ++ ROW.toList.drop (i * 5 + (tms [x]).length)).toArray.toList.take ((i + 1) * 5) ++ (tms l).drop (i * 5) ++ (ROW.toList.take (i * 5) ++ tms [x] ++ ROW.toList.drop (i * 5 + (tms [x]).length)).toArray.toList.drop ((i + 1) * 5 + ((tms l).drop (i * 5)).length)).toArray
      have hs12 := hr2.size
      exact ⟨g3.os.trans (hr2.os.trans hos.1), g3.tape.trans (hr2.tape.trans hos.2.1), g3.output.trans (hr2.output.trans hos.2.2), Nat.le_trans (show w.heap.size ≤ W2.heap.size by omega) g3.size, fun k hk _ => (g3.block k (by show k < W2.heap.size; omega) (by simp; omega)).trans (ho2 k hk)⟩
    · refine ⟨by simp only [List.length_append, List.length_take, hz, hdl, hlen]; omega, .inr ⟨w.heap.size, G, _, rfl, hbw, setRow_get W2.drew w.heap.size _ _ _ hg2, hge, hle, ?_, ?_⟩⟩
      · simp only [List.size_toArray, List.length_append, List.length_take, List.length_drop, hz, Array.length_toList, hRS, hlen]
        omega
      · exact GW)
  have i0' : (0 : Int) ≤ i := by omega
  have i1 : (i : Int) < n := by omega
  have i2 : (i : Int) ≤ n := by omega
  have i3 : (c : Int) < (n : Int) + 1 := by omega
  have i4 : (i : Int) + 1 ≤ (n : Int) + 1 := by omega
  have i5 : (0 : Int) ≤ (i : Int) + 1 := by omega
  have i6 : (n : Int) ≤ 1073741823 := by omega
  have i7 : (i : Int) ≤ c := by omega
  have i8 : (n : Int) + 1 ≤ G := by omega
  have e1 : ((i : Int) == (n : Int)) = false := by simp; omega
  have e2 : decide ((c : Int) < (n : Int) + 1) = true := decide_eq_true i3
  have q1 : ¬ c = i := by omega
  have q2 : ¬ G = i + 1 := by omega
  have q3 : (i : Int) ≤ (n : Int) + 1 := by omega
  have q4 : ¬ G = i := by omega
  have hs : wrap64 ((n : Int) + 1 - i) = (n : Int) + 1 - i := IntWalk.wrap64_in _ ⟨by omega, by omega⟩
  clear h hread hold hik hrz hge hle hG hROW htl hRS hRT hz hdl GW hv hg hcs htake hlen hi0 hz0 hz1 hz2
  obtain ⟨W1, hr1, hc2⟩ := CP.out 90
  clear CP
  have HC2 := Lib.hid hc2
  have HR1 := Lib.hid hr1
  clear hc2 hr1
  go_enter Try.func150, Try.ntmps150
  go_wp2_with (at_builtin; apply stop_here)
  unfold Stop
  refine wpList_append_runY _ rfl _ _ 90 3 rfl _ _ rfl rfl _ _ HR1.out ?_
  obtain ⟨W2, hr2, hc3⟩ := HC2.out 3 (G - i)
  have HC3 := Lib.hid hc3
  clear hc3 HR1 HC2 hs
  go_wp2
  clear hr2
  have ewk : IntKind.i64.wrap ((i : Int) + 1) = (i : Int) + 1 := by rw [IntKind.wrap_i64]; omega
  refine wp_region_tail 8 (by kernel_rfl) (by kernel_rfl) ?_
  simp only [List.take_succ_cons, List.take_zero, List.drop_succ_cons, List.drop_zero]
  repeat still_step
  refine wpStill_nil ?_
  obtain ⟨W3, hr3, hgr, hown⟩ := HC3.out 3 (G - (i + 1)) (c - i)
  have hr3' : ∀ ty dc, (Builtin.copy_ #[90, 90] ty #[.slice (some ⟨w.heap.size, (i + 1) * 5, none⟩) (n + 1 - (i + 1)) dc, .slice (some ⟨g, i * 5, none⟩) (n - i) (c - i)]).run Try.prog W2.drew = (Builtin.copy_ #[90, 90] ty #[.slice (some ⟨w.heap.size, (i + 1) * 5, none⟩) (n - i) dc, .slice (some ⟨g, i * 5, none⟩) (n - i) (c - i)]).run Try.prog W2.drew := fun ty dc => by rw [show n + 1 - (i + 1) = n - i by omega]
  refine wpList_copy_runY _ rfl _ _ 90 90 rfl _ _ rfl rfl _ _ (by first | exact hr3 | exact (hr3' _ _).trans hr3) ?_
  clear hr3 hr3' ewk
  have HH := Lib.hid (And.intro hgr hown)
  clear hgr hown
  go_wp2
  go_returns
  exact ⟨G, rfl, HH.out⟩
/-- What a change of a row answers: another row of the call's own. -/
def Grows (w : World) (base : Nat) (v : Value) (l : List Tm) (e : Ending) (w' : World) : Prop :=
  ∃ b c, e = .returned (.slice b l.length c) ∧ w.grownBy w' v.ownBlock ∧ w'.ownsRow base 73 5 (.slice b l.length c) l.length (tms l) ∧ (v.ownBlock = (Value.slice b l.length c).ownBlock ∨ ∀ k, (Value.slice b l.length c).ownBlock = some k → w.heap.size ≤ k)
theorem grown_any {w w' : World} {r : Option Nat} (h : w.grownBy w' none) : w.grownBy w' r := ⟨h.os, h.tape, h.output, h.size, fun k hk _ => h.block k hk (by simp)⟩
theorem ins_any (l : List Tm) (a : Option Addr) (n c base vb i : Nat) (x : Tm) (w0 w : World) (hx0 : Ext w0 w) (hb0 : w0.heap.size ≤ base) (hb : base ≤ w.heap.size) (h : w.ownsRow base 73 5 (.slice a n c) n (tms l)) (hl : l.length = n) (hn : n ≤ 1073741823) (hi : i ≤ n) (hne : (Value.slice a n c).ownBlock ≠ some vb) (hv : w.heap[vb]? = some (.cells #[.int .i64 x.d, .int .i64 x.a, .int .i64 x.b, .int .i64 x.c, .int .i64 x.e] 73 (0, 0))) :
    Calls Try.prog 150 #[.slice a n c, .int .i64 i, .slice (some ⟨vb, 0, none⟩) 1 1] w (Grows w base (.slice a n c) (l.take i ++ x :: l.drop i)) := by
  have hlen : (l.take i ++ x :: l.drop i).length = n + 1 := by simp [hl]; omega
  have hits : tms (l.take i ++ x :: l.drop i) = (tms l).take (i * 5) ++ tms [x] ++ (tms l).drop (i * 5) := by
    rw [show l.take i ++ x :: l.drop i = l.take i ++ [x] ++ l.drop i by simp, tms_append, tms_append, tms_take, tms_drop]
  unfold Grows
  rw [hlen, hits]
  rcases Nat.lt_or_ge i n with hlt | hge
  · obtain ⟨g, rfl, hgb⟩ := own_form h (by omega)
    rcases Nat.lt_or_ge c (n + 1) with hc | hc
    · refine (ins_grow l g n c base vb i x w h hb hn hlt hc hv).mono ?_
      rintro e w' ⟨G, rfl, h1, h2⟩
      exact ⟨_, G, rfl, grown_any h1, h2, .inr (fun k hk => Nat.le_of_eq (by simpa [Value.ownBlock] using hk))⟩
    · refine (ins_room l g n c base vb i x w h hn hlt hc (fun e => hne (by rw [e]; rfl)) hv).mono ?_
      rintro e w' ⟨rfl, h1, h2⟩
      exact ⟨_, c, rfl, h1, h2, .inl rfl⟩
  · obtain rfl : i = n := by omega
    have hrd : Rd w 5 1 (.slice (some ⟨vb, 0, none⟩) 1 1) (tms [x]) := ⟨rfl, _, _, rfl, fun _ => ⟨vb, 0, rfl, fun j u hu => by
      rw [Nat.zero_add, cell_of_row _ _ _ _ _ (0, 0) hv]
      simpa [tms] using hu⟩⟩
    refine (ins_end l a i c base vb x w0 w hx0 hb0 hb h hn hrd).mono ?_
    rintro e w' ⟨b, c', rfl, h1, -, h2, h3⟩
    have e1 : (tms l).take (i * 5) ++ tms [x] ++ (tms l).drop (i * 5) = tms (l ++ [x]) := by
      rw [tms_append, List.take_of_length_le (by rw [tms_length, hl]; exact Nat.le_refl _), List.drop_of_length_le (by rw [tms_length, hl]; exact Nat.le_refl _), List.append_nil]
    rw [e1]
    exact ⟨b, c', rfl, h1, h2, h3.imp id (fun h k hk => by rw [h] at hk; cases hk; exact Nat.le_refl _)⟩
/-- A box with a timestamp. -/
def BoxT (w : World) (p : Nat) (t : Tm) : Prop := w.cell? ⟨p, 0, none⟩ = some (.int .i64 t.d) ∧ w.cell? ⟨p, 1, none⟩ = some (.int .i64 t.a) ∧ w.cell? ⟨p, 2, none⟩ = some (.int .i64 t.b) ∧ w.cell? ⟨p, 3, none⟩ = some (.int .i64 t.c) ∧ w.cell? ⟨p, 4, none⟩ = some (.int .i64 t.e)
theorem keep_cell {w w' : World} {b i : Nat} {u : Value} (h : w.cell? ⟨b, i, none⟩ = some u) (hx : Ext w w') : (∀ z, (ext w' z).cell? ⟨b, i, none⟩ = some u) ∧ w'.cell? ⟨b, i, none⟩ = some u := by
  obtain ⟨x, rfl⟩ := hx
  have h1 : (ext w x).cell? ⟨b, i, none⟩ = some u := by rw [cell_ext_a _ _ _ (World.block_lt_of_cell? _ _ h), h]
  exact ⟨fun z => by rw [cell_ext_a _ _ _ (World.block_lt_of_cell? _ _ h1), h1], h1⟩
theorem BoxT.on {w w' : World} {p : Nat} {t : Tm} (h : BoxT w p t) (hx : Ext w w') : BoxT w' p t :=
  ⟨(keep_cell h.1 hx).2, (keep_cell h.2.1 hx).2, (keep_cell h.2.2.1 hx).2, (keep_cell h.2.2.2.1 hx).2, (keep_cell h.2.2.2.2 hx).2⟩
def idxN (P : Tm → Bool) : List Tm → Nat
  | [] => 0
  | x :: l => if P x then 0 else idxN P l + 1
theorem idxN_at {P : Tm → Bool} : ∀ {l : List Tm} {j : Nat} {x : Tm}, l[j]? = some x → P x = true → (∀ (k : Nat) y, k < j → l[k]? = some y → P y = false) → idxN P l = j
  | [], j, x, h, _, _ => by simp at h
  | y :: l, 0, x, h, hp, _ => by
    obtain rfl : y = x := by simpa using h
    rw [idxN, if_pos hp]
  | y :: l, j + 1, x, h, hp, hn => by
    rw [idxN, if_neg (by rw [hn 0 y (by omega) rfl]; decide), idxN_at (j := j) (by simpa using h) hp (fun k z hk hz => hn (k + 1) z (by omega) (by simpa using hz))]
theorem any_at {P : Tm → Bool} {l : List Tm} {j : Nat} {x : Tm} (h : l[j]? = some x) (hp : P x = true) : l.any P = true := List.any_eq_true.2 ⟨x, List.mem_of_getElem? h, hp⟩
theorem any_no {P : Tm → Bool} {l : List Tm} (h : ∀ (k : Nat) y, l[k]? = some y → P y = false) : l.any P = false := by
  rw [List.any_eq_false]
  intro x hx
  obtain ⟨k, hk⟩ := List.getElem?_of_mem hx
  rw [h k x hk]
  decide
def idxI (P : Tm → Bool) (l : List Tm) : Int := if l.any P then (idxN P l : Int) else -1
theorem cov1_any (x t : Tm) (p : Nat) (w : World) (hb : BoxT w p t) : Calls Try.prog 175 #[.agg #[.int .i64 x.d, .int .i64 x.a, .int .i64 x.b, .int .i64 x.c, .int .i64 x.e], .pointer (some ⟨p, 0, none⟩)] w fun e w' => e = .returned (.bool (leB x t)) ∧ Ext w w' := by
  have LE := Lib.hid (fun w => le_any x.d x.a x.b x.c x.e t.d t.a t.b t.c t.e w)
  obtain ⟨xd, xa, xb, xc, xe⟩ := x
  obtain ⟨td, ta, tb, tc, te⟩ := t
  dsimp only at LE ⊢
  obtain ⟨b0, b1, b2, b3, b4⟩ := hb
  dsimp only at b0 b1 b2 b3 b4
  generalize leB ⟨xd, xa, xb, xc, xe⟩ ⟨td, ta, tb, tc, te⟩ = r at *
  haveI : LtSz p w.heap.size := ⟨World.block_lt_of_cell? _ _ b0⟩
  go_enter Try.func175, Try.ntmps175
  go_wp2_with (go_at_call 93; (with_reducible refine (LE.out _).mono ?_); rintro e w' ⟨rfl, x1, rfl⟩)
  go_returns
  exact ⟨retb rfl rfl, by (repeat' (first | with_reducible exact Ext.refl _ | with_reducible refine Ext.ext ?_ _ | with_reducible refine Ext.alloc ?_ _ | with_reducible refine Ext.drew ?_ | with_reducible refine Ext.drewN ?_ _ | with_reducible assumption))⟩
theorem of1_any (x t : Tm) (p : Nat) (w : World) (hb : BoxT w p t) : Calls Try.prog 146 #[.agg #[.int .i64 x.d, .int .i64 x.a, .int .i64 x.b, .int .i64 x.c, .int .i64 x.e], .pointer (some ⟨p, 0, none⟩)] w fun e w' => e = .returned (.bool (leB t x)) ∧ Ext w w' := by
  have LE := Lib.hid (fun w => le_any t.d t.a t.b t.c t.e x.d x.a x.b x.c x.e w)
  obtain ⟨xd, xa, xb, xc, xe⟩ := x
  obtain ⟨td, ta, tb, tc, te⟩ := t
  dsimp only at LE ⊢
  obtain ⟨b0, b1, b2, b3, b4⟩ := hb
  dsimp only at b0 b1 b2 b3 b4
  generalize leB ⟨td, ta, tb, tc, te⟩ ⟨xd, xa, xb, xc, xe⟩ = r at *
  haveI : LtSz p w.heap.size := ⟨World.block_lt_of_cell? _ _ b0⟩
  go_enter Try.func146, Try.ntmps146
  go_wp2_with (go_at_call 93; (with_reducible refine (LE.out _).mono ?_); rintro e w' ⟨rfl, x1, rfl⟩)
  go_returns
  exact ⟨retb rfl rfl, by (repeat' (first | with_reducible exact Ext.refl _ | with_reducible refine Ext.ext ?_ _ | with_reducible refine Ext.alloc ?_ _ | with_reducible refine Ext.drew ?_ | with_reducible refine Ext.drewN ?_ _ | with_reducible assumption))⟩
set_option maxHeartbeats 4000000 in
theorem index_cov (l : List Tm) (a : Option Addr) (c p : Nat) (t : Tm) (w : World) (h : Rd w 5 l.length (.slice a l.length c) (tms l)) (hb : BoxT w p t) (hn : l.length ≤ 1073741823) :
    Calls Try.prog 176 #[.slice a l.length c, .func (Fn.func 175) #[] #[.pointer (some ⟨p, 0, none⟩)]] w fun e w' => e = .returned (.int .i64 (idxI (fun x => leB x t) l)) ∧ Ext w w' := by
  have H := Lib.hid h
  have HB := Lib.hid hb
  have HN := Lib.hid hn
  obtain ⟨P, hP⟩ : ∃ P : Tm → Bool, P = (fun x => leB x t) := ⟨_, rfl⟩
  have CF := Lib.hid (fun x W (hx : Ext w W) => cov1_any x t p W (hb.on hx))
  have hpx : ∀ x, (fun x => leB x t) x = P x := fun x => by rw [hP]
  dsimp only at hpx
  simp only [hpx] at CF
  rw [← hP]
  obtain ⟨R, hR⟩ : ∃ R, R = idxI P l := ⟨_, rfl⟩
  rw [← hR]
  have HR := Lib.hid hR
  clear h hb hn hP hpx hR
  go_enter Try.func176, Try.ntmps176
  go_wp2
  go_loopw [8] (fun i wr => ∃ j : Nat, j ≤ l.length ∧ i = .int .i64 j ∧ Ext w wr ∧ ∀ (k : Nat) y, k < j → l[k]? = some y → P y = false) (fun i _ => l.length - (intOf i).toNat)
  case atStart => exact ⟨0, by omega, rfl, by (repeat' (first | with_reducible exact Ext.refl _ | with_reducible refine Ext.ext ?_ _ | with_reducible refine Ext.alloc ?_ _ | with_reducible refine Ext.drew ?_ | with_reducible refine Ext.drewN ?_ _ | with_reducible assumption)), fun k y hk => absurd hk (Nat.not_lt_zero k)⟩
  case round =>
    obtain ⟨j, hj, rfl, hx, hall⟩ := hrel
    have HX1 := Lib.hid hx
    have HA := Lib.hid hall
    clear hx hall
    by_cases hlt : j < l.length
    · obtain ⟨x, hx⟩ : ∃ x, l[j]? = some x := ⟨l[j], List.getElem?_eq_getElem _⟩
      obtain ⟨b, off, rfl, -⟩ := H.out.cells (by omega)
      obtain ⟨q0, q1, q2, q3, q4⟩ := tm_at (H.out.of_ext HX1.out) j x hx
      have i1 : (0 : Int) ≤ j := by omega
      have i2 : (j : Int) < l.length := by omega
      have ew : wrap64 ((j : Int) + 1) = ((j + 1 : Nat) : Int) := (IntWalk.wrap64_in _ ⟨by omega, by have := HN.out; omega⟩).trans (by omega)
      have CX := Lib.hid (fun W hx => CF.out x W hx)
      obtain ⟨bp, hp⟩ : ∃ b, P x = b := ⟨_, rfl⟩
      rw [hp] at CX
      have HX := Lib.hid hx
      have HP := Lib.hid hp
      clear hx hp
      cases bp
      · go_wp2_with (go_at_call 175; (with_reducible refine (CX.out _ (by (repeat' (first | with_reducible exact Ext.refl _ | with_reducible refine Ext.ext ?_ _ | with_reducible refine Ext.alloc ?_ _ | with_reducible refine Ext.drew ?_ | with_reducible refine Ext.drewN ?_ _ | with_reducible refine Ext.trans ?_ HX1.out | with_reducible refine Ext.trans ?_ HX2.out | with_reducible refine Ext.trans ?_ HX3.out | with_reducible refine Ext.trans ?_ HX4.out | with_reducible refine Ext.trans ?_ HX5.out | with_reducible refine Ext.trans ?_ HX6.out | with_reducible refine Ext.trans ?_ HX7.out | with_reducible refine Ext.trans ?_ HX8.out | with_reducible refine Ext.trans ?_ HX9.out | with_reducible refine Ext.trans ?_ HX10.out | with_reducible refine Ext.trans ?_ HX11.out | with_reducible refine Ext.trans ?_ HX12.out | with_reducible refine Ext.trans ?_ HX13.out | with_reducible refine Ext.trans ?_ HX14.out | with_reducible refine Ext.trans ?_ HX15.out | with_reducible refine Ext.trans ?_ HX16.out | with_reducible refine Ext.trans ?_ HX17.out | with_reducible refine Ext.trans ?_ HX18.out | with_reducible refine Ext.trans ?_ HX19.out | with_reducible refine Ext.trans ?_ HX20.out | with_reducible refine Ext.trans ?_ HX21.out | with_reducible refine Ext.trans ?_ HX22.out | with_reducible refine Ext.trans ?_ HX23.out | with_reducible refine Ext.trans ?_ HX24.out)))).mono ?_); rintro e w2 ⟨rfl, hx⟩; have HX2 := Lib.hid hx; clear hx)
        exact ⟨⟨j + 1, by omega, congrArg (Value.int .i64) ew, by (repeat' (first | with_reducible exact Ext.refl _ | with_reducible refine Ext.ext ?_ _ | with_reducible refine Ext.alloc ?_ _ | with_reducible refine Ext.drew ?_ | with_reducible refine Ext.drewN ?_ _ | with_reducible refine Ext.trans ?_ HX1.out | with_reducible refine Ext.trans ?_ HX2.out | with_reducible refine Ext.trans ?_ HX3.out | with_reducible refine Ext.trans ?_ HX4.out | with_reducible refine Ext.trans ?_ HX5.out | with_reducible refine Ext.trans ?_ HX6.out | with_reducible refine Ext.trans ?_ HX7.out | with_reducible refine Ext.trans ?_ HX8.out | with_reducible refine Ext.trans ?_ HX9.out | with_reducible refine Ext.trans ?_ HX10.out | with_reducible refine Ext.trans ?_ HX11.out | with_reducible refine Ext.trans ?_ HX12.out | with_reducible refine Ext.trans ?_ HX13.out | with_reducible refine Ext.trans ?_ HX14.out | with_reducible refine Ext.trans ?_ HX15.out | with_reducible refine Ext.trans ?_ HX16.out | with_reducible refine Ext.trans ?_ HX17.out | with_reducible refine Ext.trans ?_ HX18.out | with_reducible refine Ext.trans ?_ HX19.out | with_reducible refine Ext.trans ?_ HX20.out | with_reducible refine Ext.trans ?_ HX21.out | with_reducible refine Ext.trans ?_ HX22.out | with_reducible refine Ext.trans ?_ HX23.out | with_reducible refine Ext.trans ?_ HX24.out)), fun k y hk hy => by
          rcases Nat.lt_or_ge k j with h | h
          · exact HA.out k y h hy
          · obtain rfl : k = j := by omega
            rw [HX.out] at hy
            cases hy
            exact HP.out⟩, by rw [ew]; simp only [intOf]; omega⟩
      · have RR := Lib.hid (show (j : Int) = R by rw [HR.out, idxI, any_at HX.out HP.out, if_pos rfl, idxN_at HX.out HP.out (fun k y hk hy => HA.out k y hk hy)])
        go_wp2_with (go_at_call 175; (with_reducible refine (CX.out _ (by (repeat' (first | with_reducible exact Ext.refl _ | with_reducible refine Ext.ext ?_ _ | with_reducible refine Ext.alloc ?_ _ | with_reducible refine Ext.drew ?_ | with_reducible refine Ext.drewN ?_ _ | with_reducible refine Ext.trans ?_ HX1.out | with_reducible refine Ext.trans ?_ HX2.out | with_reducible refine Ext.trans ?_ HX3.out | with_reducible refine Ext.trans ?_ HX4.out | with_reducible refine Ext.trans ?_ HX5.out | with_reducible refine Ext.trans ?_ HX6.out | with_reducible refine Ext.trans ?_ HX7.out | with_reducible refine Ext.trans ?_ HX8.out | with_reducible refine Ext.trans ?_ HX9.out | with_reducible refine Ext.trans ?_ HX10.out | with_reducible refine Ext.trans ?_ HX11.out | with_reducible refine Ext.trans ?_ HX12.out | with_reducible refine Ext.trans ?_ HX13.out | with_reducible refine Ext.trans ?_ HX14.out | with_reducible refine Ext.trans ?_ HX15.out | with_reducible refine Ext.trans ?_ HX16.out | with_reducible refine Ext.trans ?_ HX17.out | with_reducible refine Ext.trans ?_ HX18.out | with_reducible refine Ext.trans ?_ HX19.out | with_reducible refine Ext.trans ?_ HX20.out | with_reducible refine Ext.trans ?_ HX21.out | with_reducible refine Ext.trans ?_ HX22.out | with_reducible refine Ext.trans ?_ HX23.out | with_reducible refine Ext.trans ?_ HX24.out)))).mono ?_); rintro e w2 ⟨rfl, hx⟩; have HX2 := Lib.hid hx; clear hx)
        go_returns
        exact ⟨reti rfl RR.out, by (repeat' (first | with_reducible exact Ext.refl _ | with_reducible refine Ext.ext ?_ _ | with_reducible refine Ext.alloc ?_ _ | with_reducible refine Ext.drew ?_ | with_reducible refine Ext.drewN ?_ _ | with_reducible refine Ext.trans ?_ HX1.out | with_reducible refine Ext.trans ?_ HX2.out | with_reducible refine Ext.trans ?_ HX3.out | with_reducible refine Ext.trans ?_ HX4.out | with_reducible refine Ext.trans ?_ HX5.out | with_reducible refine Ext.trans ?_ HX6.out | with_reducible refine Ext.trans ?_ HX7.out | with_reducible refine Ext.trans ?_ HX8.out | with_reducible refine Ext.trans ?_ HX9.out | with_reducible refine Ext.trans ?_ HX10.out | with_reducible refine Ext.trans ?_ HX11.out | with_reducible refine Ext.trans ?_ HX12.out | with_reducible refine Ext.trans ?_ HX13.out | with_reducible refine Ext.trans ?_ HX14.out | with_reducible refine Ext.trans ?_ HX15.out | with_reducible refine Ext.trans ?_ HX16.out | with_reducible refine Ext.trans ?_ HX17.out | with_reducible refine Ext.trans ?_ HX18.out | with_reducible refine Ext.trans ?_ HX19.out | with_reducible refine Ext.trans ?_ HX20.out | with_reducible refine Ext.trans ?_ HX21.out | with_reducible refine Ext.trans ?_ HX22.out | with_reducible refine Ext.trans ?_ HX23.out | with_reducible refine Ext.trans ?_ HX24.out))⟩
    · have RR := Lib.hid (show (-1 : Int) = R by rw [HR.out, idxI, any_no (fun k y hy => HA.out k y (by have := (List.getElem?_eq_some_iff.1 hy).1; omega) hy)]; rfl)
      obtain rfl : j = l.length := by omega
      go_wp2
      go_returns
      exact ⟨reti rfl RR.out, by (repeat' (first | with_reducible exact Ext.refl _ | with_reducible refine Ext.ext ?_ _ | with_reducible refine Ext.alloc ?_ _ | with_reducible refine Ext.drew ?_ | with_reducible refine Ext.drewN ?_ _ | with_reducible refine Ext.trans ?_ HX1.out | with_reducible refine Ext.trans ?_ HX2.out | with_reducible refine Ext.trans ?_ HX3.out | with_reducible refine Ext.trans ?_ HX4.out | with_reducible refine Ext.trans ?_ HX5.out | with_reducible refine Ext.trans ?_ HX6.out | with_reducible refine Ext.trans ?_ HX7.out | with_reducible refine Ext.trans ?_ HX8.out | with_reducible refine Ext.trans ?_ HX9.out | with_reducible refine Ext.trans ?_ HX10.out | with_reducible refine Ext.trans ?_ HX11.out | with_reducible refine Ext.trans ?_ HX12.out | with_reducible refine Ext.trans ?_ HX13.out | with_reducible refine Ext.trans ?_ HX14.out | with_reducible refine Ext.trans ?_ HX15.out | with_reducible refine Ext.trans ?_ HX16.out | with_reducible refine Ext.trans ?_ HX17.out | with_reducible refine Ext.trans ?_ HX18.out | with_reducible refine Ext.trans ?_ HX19.out | with_reducible refine Ext.trans ?_ HX20.out | with_reducible refine Ext.trans ?_ HX21.out | with_reducible refine Ext.trans ?_ HX22.out | with_reducible refine Ext.trans ?_ HX23.out | with_reducible refine Ext.trans ?_ HX24.out))⟩
set_option maxHeartbeats 4000000 in
theorem index_of (l : List Tm) (a : Option Addr) (c p : Nat) (t : Tm) (w : World) (h : Rd w 5 l.length (.slice a l.length c) (tms l)) (hb : BoxT w p t) (hn : l.length ≤ 1073741823) :
    Calls Try.prog 176 #[.slice a l.length c, .func (Fn.func 146) #[] #[.pointer (some ⟨p, 0, none⟩)]] w fun e w' => e = .returned (.int .i64 (idxI (fun x => leB t x) l)) ∧ Ext w w' := by
  have H := Lib.hid h
  have HB := Lib.hid hb
  have HN := Lib.hid hn
  obtain ⟨P, hP⟩ : ∃ P : Tm → Bool, P = (fun x => leB t x) := ⟨_, rfl⟩
  have CF := Lib.hid (fun x W (hx : Ext w W) => of1_any x t p W (hb.on hx))
  have hpx : ∀ x, (fun x => leB t x) x = P x := fun x => by rw [hP]
  dsimp only at hpx
  simp only [hpx] at CF
  rw [← hP]
  obtain ⟨R, hR⟩ : ∃ R, R = idxI P l := ⟨_, rfl⟩
  rw [← hR]
  have HR := Lib.hid hR
  clear h hb hn hP hpx hR
  go_enter Try.func176, Try.ntmps176
  go_wp2
  go_loopw [8] (fun i wr => ∃ j : Nat, j ≤ l.length ∧ i = .int .i64 j ∧ Ext w wr ∧ ∀ (k : Nat) y, k < j → l[k]? = some y → P y = false) (fun i _ => l.length - (intOf i).toNat)
  case atStart => exact ⟨0, by omega, rfl, by (repeat' (first | with_reducible exact Ext.refl _ | with_reducible refine Ext.ext ?_ _ | with_reducible refine Ext.alloc ?_ _ | with_reducible refine Ext.drew ?_ | with_reducible refine Ext.drewN ?_ _ | with_reducible assumption)), fun k y hk => absurd hk (Nat.not_lt_zero k)⟩
  case round =>
    obtain ⟨j, hj, rfl, hx, hall⟩ := hrel
    have HX1 := Lib.hid hx
    have HA := Lib.hid hall
    clear hx hall
    by_cases hlt : j < l.length
    · obtain ⟨x, hx⟩ : ∃ x, l[j]? = some x := ⟨l[j], List.getElem?_eq_getElem _⟩
      obtain ⟨b, off, rfl, -⟩ := H.out.cells (by omega)
      obtain ⟨q0, q1, q2, q3, q4⟩ := tm_at (H.out.of_ext HX1.out) j x hx
      have i1 : (0 : Int) ≤ j := by omega
      have i2 : (j : Int) < l.length := by omega
      have ew : wrap64 ((j : Int) + 1) = ((j + 1 : Nat) : Int) := (IntWalk.wrap64_in _ ⟨by omega, by have := HN.out; omega⟩).trans (by omega)
      have CX := Lib.hid (fun W hx => CF.out x W hx)
      obtain ⟨bp, hp⟩ : ∃ b, P x = b := ⟨_, rfl⟩
      rw [hp] at CX
      have HX := Lib.hid hx
      have HP := Lib.hid hp
      clear hx hp
      cases bp
      · go_wp2_with (go_at_call 146; (with_reducible refine (CX.out _ (by (repeat' (first | with_reducible exact Ext.refl _ | with_reducible refine Ext.ext ?_ _ | with_reducible refine Ext.alloc ?_ _ | with_reducible refine Ext.drew ?_ | with_reducible refine Ext.drewN ?_ _ | with_reducible refine Ext.trans ?_ HX1.out | with_reducible refine Ext.trans ?_ HX2.out | with_reducible refine Ext.trans ?_ HX3.out | with_reducible refine Ext.trans ?_ HX4.out | with_reducible refine Ext.trans ?_ HX5.out | with_reducible refine Ext.trans ?_ HX6.out | with_reducible refine Ext.trans ?_ HX7.out | with_reducible refine Ext.trans ?_ HX8.out | with_reducible refine Ext.trans ?_ HX9.out | with_reducible refine Ext.trans ?_ HX10.out | with_reducible refine Ext.trans ?_ HX11.out | with_reducible refine Ext.trans ?_ HX12.out | with_reducible refine Ext.trans ?_ HX13.out | with_reducible refine Ext.trans ?_ HX14.out | with_reducible refine Ext.trans ?_ HX15.out | with_reducible refine Ext.trans ?_ HX16.out | with_reducible refine Ext.trans ?_ HX17.out | with_reducible refine Ext.trans ?_ HX18.out | with_reducible refine Ext.trans ?_ HX19.out | with_reducible refine Ext.trans ?_ HX20.out | with_reducible refine Ext.trans ?_ HX21.out | with_reducible refine Ext.trans ?_ HX22.out | with_reducible refine Ext.trans ?_ HX23.out | with_reducible refine Ext.trans ?_ HX24.out)))).mono ?_); rintro e w2 ⟨rfl, hx⟩; have HX2 := Lib.hid hx; clear hx)
        exact ⟨⟨j + 1, by omega, congrArg (Value.int .i64) ew, by (repeat' (first | with_reducible exact Ext.refl _ | with_reducible refine Ext.ext ?_ _ | with_reducible refine Ext.alloc ?_ _ | with_reducible refine Ext.drew ?_ | with_reducible refine Ext.drewN ?_ _ | with_reducible refine Ext.trans ?_ HX1.out | with_reducible refine Ext.trans ?_ HX2.out | with_reducible refine Ext.trans ?_ HX3.out | with_reducible refine Ext.trans ?_ HX4.out | with_reducible refine Ext.trans ?_ HX5.out | with_reducible refine Ext.trans ?_ HX6.out | with_reducible refine Ext.trans ?_ HX7.out | with_reducible refine Ext.trans ?_ HX8.out | with_reducible refine Ext.trans ?_ HX9.out | with_reducible refine Ext.trans ?_ HX10.out | with_reducible refine Ext.trans ?_ HX11.out | with_reducible refine Ext.trans ?_ HX12.out | with_reducible refine Ext.trans ?_ HX13.out | with_reducible refine Ext.trans ?_ HX14.out | with_reducible refine Ext.trans ?_ HX15.out | with_reducible refine Ext.trans ?_ HX16.out | with_reducible refine Ext.trans ?_ HX17.out | with_reducible refine Ext.trans ?_ HX18.out | with_reducible refine Ext.trans ?_ HX19.out | with_reducible refine Ext.trans ?_ HX20.out | with_reducible refine Ext.trans ?_ HX21.out | with_reducible refine Ext.trans ?_ HX22.out | with_reducible refine Ext.trans ?_ HX23.out | with_reducible refine Ext.trans ?_ HX24.out)), fun k y hk hy => by
          rcases Nat.lt_or_ge k j with h | h
          · exact HA.out k y h hy
          · obtain rfl : k = j := by omega
            rw [HX.out] at hy
            cases hy
            exact HP.out⟩, by rw [ew]; simp only [intOf]; omega⟩
      · have RR := Lib.hid (show (j : Int) = R by rw [HR.out, idxI, any_at HX.out HP.out, if_pos rfl, idxN_at HX.out HP.out (fun k y hk hy => HA.out k y hk hy)])
        go_wp2_with (go_at_call 146; (with_reducible refine (CX.out _ (by (repeat' (first | with_reducible exact Ext.refl _ | with_reducible refine Ext.ext ?_ _ | with_reducible refine Ext.alloc ?_ _ | with_reducible refine Ext.drew ?_ | with_reducible refine Ext.drewN ?_ _ | with_reducible refine Ext.trans ?_ HX1.out | with_reducible refine Ext.trans ?_ HX2.out | with_reducible refine Ext.trans ?_ HX3.out | with_reducible refine Ext.trans ?_ HX4.out | with_reducible refine Ext.trans ?_ HX5.out | with_reducible refine Ext.trans ?_ HX6.out | with_reducible refine Ext.trans ?_ HX7.out | with_reducible refine Ext.trans ?_ HX8.out | with_reducible refine Ext.trans ?_ HX9.out | with_reducible refine Ext.trans ?_ HX10.out | with_reducible refine Ext.trans ?_ HX11.out | with_reducible refine Ext.trans ?_ HX12.out | with_reducible refine Ext.trans ?_ HX13.out | with_reducible refine Ext.trans ?_ HX14.out | with_reducible refine Ext.trans ?_ HX15.out | with_reducible refine Ext.trans ?_ HX16.out | with_reducible refine Ext.trans ?_ HX17.out | with_reducible refine Ext.trans ?_ HX18.out | with_reducible refine Ext.trans ?_ HX19.out | with_reducible refine Ext.trans ?_ HX20.out | with_reducible refine Ext.trans ?_ HX21.out | with_reducible refine Ext.trans ?_ HX22.out | with_reducible refine Ext.trans ?_ HX23.out | with_reducible refine Ext.trans ?_ HX24.out)))).mono ?_); rintro e w2 ⟨rfl, hx⟩; have HX2 := Lib.hid hx; clear hx)
        go_returns
        exact ⟨reti rfl RR.out, by (repeat' (first | with_reducible exact Ext.refl _ | with_reducible refine Ext.ext ?_ _ | with_reducible refine Ext.alloc ?_ _ | with_reducible refine Ext.drew ?_ | with_reducible refine Ext.drewN ?_ _ | with_reducible refine Ext.trans ?_ HX1.out | with_reducible refine Ext.trans ?_ HX2.out | with_reducible refine Ext.trans ?_ HX3.out | with_reducible refine Ext.trans ?_ HX4.out | with_reducible refine Ext.trans ?_ HX5.out | with_reducible refine Ext.trans ?_ HX6.out | with_reducible refine Ext.trans ?_ HX7.out | with_reducible refine Ext.trans ?_ HX8.out | with_reducible refine Ext.trans ?_ HX9.out | with_reducible refine Ext.trans ?_ HX10.out | with_reducible refine Ext.trans ?_ HX11.out | with_reducible refine Ext.trans ?_ HX12.out | with_reducible refine Ext.trans ?_ HX13.out | with_reducible refine Ext.trans ?_ HX14.out | with_reducible refine Ext.trans ?_ HX15.out | with_reducible refine Ext.trans ?_ HX16.out | with_reducible refine Ext.trans ?_ HX17.out | with_reducible refine Ext.trans ?_ HX18.out | with_reducible refine Ext.trans ?_ HX19.out | with_reducible refine Ext.trans ?_ HX20.out | with_reducible refine Ext.trans ?_ HX21.out | with_reducible refine Ext.trans ?_ HX22.out | with_reducible refine Ext.trans ?_ HX23.out | with_reducible refine Ext.trans ?_ HX24.out))⟩
    · have RR := Lib.hid (show (-1 : Int) = R by rw [HR.out, idxI, any_no (fun k y hy => HA.out k y (by have := (List.getElem?_eq_some_iff.1 hy).1; omega) hy)]; rfl)
      obtain rfl : j = l.length := by omega
      go_wp2
      go_returns
      exact ⟨reti rfl RR.out, by (repeat' (first | with_reducible exact Ext.refl _ | with_reducible refine Ext.ext ?_ _ | with_reducible refine Ext.alloc ?_ _ | with_reducible refine Ext.drew ?_ | with_reducible refine Ext.drewN ?_ _ | with_reducible refine Ext.trans ?_ HX1.out | with_reducible refine Ext.trans ?_ HX2.out | with_reducible refine Ext.trans ?_ HX3.out | with_reducible refine Ext.trans ?_ HX4.out | with_reducible refine Ext.trans ?_ HX5.out | with_reducible refine Ext.trans ?_ HX6.out | with_reducible refine Ext.trans ?_ HX7.out | with_reducible refine Ext.trans ?_ HX8.out | with_reducible refine Ext.trans ?_ HX9.out | with_reducible refine Ext.trans ?_ HX10.out | with_reducible refine Ext.trans ?_ HX11.out | with_reducible refine Ext.trans ?_ HX12.out | with_reducible refine Ext.trans ?_ HX13.out | with_reducible refine Ext.trans ?_ HX14.out | with_reducible refine Ext.trans ?_ HX15.out | with_reducible refine Ext.trans ?_ HX16.out | with_reducible refine Ext.trans ?_ HX17.out | with_reducible refine Ext.trans ?_ HX18.out | with_reducible refine Ext.trans ?_ HX19.out | with_reducible refine Ext.trans ?_ HX20.out | with_reducible refine Ext.trans ?_ HX21.out | with_reducible refine Ext.trans ?_ HX22.out | with_reducible refine Ext.trans ?_ HX23.out | with_reducible refine Ext.trans ?_ HX24.out))⟩
theorem contains_cov (l : List Tm) (a : Option Addr) (c p : Nat) (t : Tm) (w : World) (h : Rd w 5 l.length (.slice a l.length c) (tms l)) (hb : BoxT w p t) (hn : l.length ≤ 1073741823) :
    Calls Try.prog 174 #[.slice a l.length c, .func (Fn.func 175) #[] #[.pointer (some ⟨p, 0, none⟩)]] w fun e w' => e = .returned (.bool (l.any (fun x => leB x t))) ∧ Ext w w' := by
  have IX := Lib.hid (fun W (hx : Ext w W) => index_cov l a c p t W (h.of_ext hx) (hb.on hx) hn)
  obtain ⟨q, hq⟩ : ∃ q, idxI (fun x => leB x t) l = q := ⟨_, rfl⟩
  have hq2 : decide (0 ≤ q) = l.any (fun x => leB x t) := by
    rw [← hq]
    unfold idxI
    cases l.any (fun x => leB x t)
    · exact decide_eq_false (by rw [if_neg (by decide)]; decide)
    · exact decide_eq_true (by rw [if_pos rfl]; omega)
  rw [hq] at IX
  rw [← hq2]
  clear h hb hn hq hq2
  go_enter Try.func174, Try.ntmps174
  go_wp2_with (go_at_call 176; (with_reducible refine (IX.out _ (by (repeat' (first | with_reducible exact Ext.refl _ | with_reducible refine Ext.ext ?_ _ | with_reducible refine Ext.alloc ?_ _ | with_reducible refine Ext.drew ?_ | with_reducible refine Ext.drewN ?_ _ | with_reducible assumption)))).mono ?_); rintro e w' ⟨rfl, x1, rfl⟩)
  go_returns
  exact ⟨retb rfl rfl, by (repeat' (first | with_reducible exact Ext.refl _ | with_reducible refine Ext.ext ?_ _ | with_reducible refine Ext.alloc ?_ _ | with_reducible refine Ext.drew ?_ | with_reducible refine Ext.drewN ?_ _ | with_reducible assumption))⟩
theorem covers_any (l : List Tm) (a : Option Addr) (c : Nat) (t : Tm) (w : World) (h : Rd w 5 l.length (.slice a l.length c) (tms l)) (hn : l.length ≤ 1073741823) :
    Calls Try.prog 144 #[.slice a l.length c, .agg #[.int .i64 t.d, .int .i64 t.a, .int .i64 t.b, .int .i64 t.c, .int .i64 t.e]] w fun e w' => e = .returned (.bool (l.any (fun x => leB x t))) ∧ Ext w w' := by
  obtain ⟨td, ta, tb, tc, te⟩ := t
  dsimp only
  have CT := Lib.hid (fun p W (hp : p = W.heap.size) (hx : Ext w W) => contains_cov l a c p ⟨td, ta, tb, tc, te⟩ (W.alloc (.cells #[.int .i64 td, .int .i64 ta, .int .i64 tb, .int .i64 tc, .int .i64 te] 73)) (h.of_ext (hx.alloc _)) ⟨cell_lit _ _ _ _ _ _ hp rfl, cell_lit _ _ _ _ _ _ hp rfl, cell_lit _ _ _ _ _ _ hp rfl, cell_lit _ _ _ _ _ _ hp rfl, cell_lit _ _ _ _ _ _ hp rfl⟩ hn)
  generalize l.any (fun x => leB x ⟨td, ta, tb, tc, te⟩) = r at *
  clear h hn
  go_enter Try.func144, Try.ntmps144
  go_wp2_with (go_at_call 174; (with_reducible refine (CT.out _ _ (by rfl) (by (repeat' (first | with_reducible exact Ext.refl _ | with_reducible refine Ext.ext ?_ _ | with_reducible refine Ext.alloc ?_ _ | with_reducible refine Ext.drew ?_ | with_reducible refine Ext.drewN ?_ _ | with_reducible assumption)))).mono ?_); rintro e w' ⟨rfl, x1, rfl⟩)
  go_returns
  exact ⟨retb rfl rfl, by (repeat' (first | with_reducible exact Ext.refl _ | with_reducible refine Ext.ext ?_ _ | with_reducible refine Ext.alloc ?_ _ | with_reducible refine Ext.drew ?_ | with_reducible refine Ext.drewN ?_ _ | with_reducible assumption))⟩
end Go.Proofs.Ytkmgdejpdhlleaa.Rc
