/- Contract of backwashref02.Then. -/
import Derived.Test.YtfdgeomomafnbaaRef2e
import Derived.Test.YtfdgeomomafnbaaStop
import Derived.Test.YtfdgeomomafnbaaRef2f1
import Derived.Test.YtfdgeomomafnbaaRef2f2
import Derived.Test.YtfdgeomomafnbaaRef2f3
import Derived.Test.YtfdgeomomafnbaaRef2f4
namespace Go.Proofs.Ytfdgeomomafnbaa
set_option linter.unusedSimpArgs false
set_option linter.unusedVariables false
open Go.RowKit

theorem alloc_drew (w : World) (o : Obj) : (w.alloc o).drew = w.drew.alloc o := rfl
theorem own_of_ext {w w' : World} {b : Nat} {e : TypeId} {size n : Nat} {v : Value} {xs : List Value} (h : w.ownsRow b e size v n xs) (hx : Ext w w') : w'.ownsRow b e size v n xs := by
  obtain ⟨z, rfl⟩ := hx
  exact own_ext h z
section
variable {P : Program} {ops : Array Oper} {rest : List Oper} {o : Oper} {a : Act} {Q : Exit → Act → World → Prop}
/-- XOwnF's 'wpList_pushF' in any later world. -/
theorem wpList_pushX (hgd : o.guard = none) (s x : Operand) (t : TypeId)
    (ho : o.op = .call { callee := .builtin .append, args := #[s, x], argTypes := #[t, t] })
    (e : TypeId) (z : Value) (size bytes : Nat) (ht : P.underlying t = some (.slice e)) (hi : (P.info? e).map (fun i => (i.zero, i.size, i.bytes)) = some (some z, size, bytes))
    (hzs : z.cells.size = size) (hsz : 0 < size)
    (w0 w1 : World) (hx01 : Ext w0 w1) (base : Nat) (v : Value) (n : Nat) (xs : List Value) (hown : w1.ownsRow base e size v n xs)
    (h m c : Nat) (cs : Array Value) (hs : a.eval s = v) (hx : a.eval x = .slice (some ⟨h, 0, none⟩) m c) (hcs : cs.size = m * size) (hone : ∀ u ∈ cs.toList, u.oneCell' = true)
    (hm : 0 < m) (hh : h = w1.heap.size) (h63 : n + m ≤ maxLen) (hbytes : (n + m) * bytes ≤ 140737488355328) (hb : base ≤ w1.heap.size) (hb0 : w0.heap.size ≤ base)
    (k : ∀ g cap y, (ext w0 y).ownsRow base e size (.slice (some ⟨g, 0, none⟩) (n + m) cap) (n + m) (xs ++ cs.toList) → w1.grownBy (ext w0 y) v.ownBlock → (v.ownBlock = some g ∨ w1.heap.size ≤ g) → wpList P ops Q rest (a.put o.dst (.slice (some ⟨g, 0, none⟩) (n + m) cap)) (ext w0 y)) :
    wpList P ops Q (o :: rest) a (w1.alloc (.cells cs e)) := by
  obtain ⟨i, rfl⟩ := hx01
  exact wpList_pushF hgd s x t ho e z size bytes ht hi hzs hsz w0 i base v n xs hown h m c cs hs hx hcs hone hm hh h63 hbytes hb hb0 k
end
theorem of2_any (f : Int) (m n : Nat) (V : Nat → Int) (g cap : Nat) (w : World) (h1 : 1 ≤ n) (h4 : n ≤ 4) (hm : m ≤ n) (hg : g < w.heap.size) (hc : PC w g n (kO m) V) :
    Calls Try.prog 50 #[.int .i64 f, .slice (some ⟨g, 0, none⟩) n cap] w fun r w' => r = .returned (.tuple #[hv (madeR (mkH f m n V)).1, .bool (madeR (mkH f m n V)).2]) ∧ Ext w w' := by
  obtain rfl | rfl | rfl | rfl : n = 1 ∨ n = 2 ∨ n = 3 ∨ n = 4 := by omega
  · obtain rfl | rfl : m = 0 ∨ m = 1 := by omega
    · exact of2_0_1 f (V 0) g cap w hg (hc 0 (by decide)).1 (hc 0 (by decide)).2
    · exact of2_1_1 f (V 0) g cap w hg (hc 0 (by decide)).1 (hc 0 (by decide)).2
  · obtain rfl | rfl | rfl : m = 0 ∨ m = 1 ∨ m = 2 := by omega
    · exact of2_0_2 f (V 0) (V 1) g cap w hg (hc 0 (by decide)).1 (hc 0 (by decide)).2 (hc 1 (by decide)).1 (hc 1 (by decide)).2
    · exact of2_1_2 f (V 0) (V 1) g cap w hg (hc 0 (by decide)).1 (hc 0 (by decide)).2 (hc 1 (by decide)).1 (hc 1 (by decide)).2
    · exact of2_2_2 f (V 0) (V 1) g cap w hg (hc 0 (by decide)).1 (hc 0 (by decide)).2 (hc 1 (by decide)).1 (hc 1 (by decide)).2
  · obtain rfl | rfl | rfl | rfl : m = 0 ∨ m = 1 ∨ m = 2 ∨ m = 3 := by omega
    · exact of2_0_3 f (V 0) (V 1) (V 2) g cap w hg (hc 0 (by decide)).1 (hc 0 (by decide)).2 (hc 1 (by decide)).1 (hc 1 (by decide)).2 (hc 2 (by decide)).1 (hc 2 (by decide)).2
    · exact of2_1_3 f (V 0) (V 1) (V 2) g cap w hg (hc 0 (by decide)).1 (hc 0 (by decide)).2 (hc 1 (by decide)).1 (hc 1 (by decide)).2 (hc 2 (by decide)).1 (hc 2 (by decide)).2
    · exact of2_2_3 f (V 0) (V 1) (V 2) g cap w hg (hc 0 (by decide)).1 (hc 0 (by decide)).2 (hc 1 (by decide)).1 (hc 1 (by decide)).2 (hc 2 (by decide)).1 (hc 2 (by decide)).2
    · exact of2_3_3 f (V 0) (V 1) (V 2) g cap w hg (hc 0 (by decide)).1 (hc 0 (by decide)).2 (hc 1 (by decide)).1 (hc 1 (by decide)).2 (hc 2 (by decide)).1 (hc 2 (by decide)).2
  · obtain rfl | rfl | rfl | rfl | rfl : m = 0 ∨ m = 1 ∨ m = 2 ∨ m = 3 ∨ m = 4 := by omega
    · exact of2_0_4 f (V 0) (V 1) (V 2) (V 3) g cap w hg (hc 0 (by decide)).1 (hc 0 (by decide)).2 (hc 1 (by decide)).1 (hc 1 (by decide)).2 (hc 2 (by decide)).1 (hc 2 (by decide)).2 (hc 3 (by decide)).1 (hc 3 (by decide)).2
    · exact of2_1_4 f (V 0) (V 1) (V 2) (V 3) g cap w hg (hc 0 (by decide)).1 (hc 0 (by decide)).2 (hc 1 (by decide)).1 (hc 1 (by decide)).2 (hc 2 (by decide)).1 (hc 2 (by decide)).2 (hc 3 (by decide)).1 (hc 3 (by decide)).2
    · exact of2_2_4 f (V 0) (V 1) (V 2) (V 3) g cap w hg (hc 0 (by decide)).1 (hc 0 (by decide)).2 (hc 1 (by decide)).1 (hc 1 (by decide)).2 (hc 2 (by decide)).1 (hc 2 (by decide)).2 (hc 3 (by decide)).1 (hc 3 (by decide)).2
    · exact of2_3_4 f (V 0) (V 1) (V 2) (V 3) g cap w hg (hc 0 (by decide)).1 (hc 0 (by decide)).2 (hc 1 (by decide)).1 (hc 1 (by decide)).2 (hc 2 (by decide)).1 (hc 2 (by decide)).2 (hc 3 (by decide)).1 (hc 3 (by decide)).2
    · exact of2_4_4 f (V 0) (V 1) (V 2) (V 3) g cap w hg (hc 0 (by decide)).1 (hc 0 (by decide)).2 (hc 1 (by decide)).1 (hc 1 (by decide)).2 (hc 2 (by decide)).1 (hc 2 (by decide)).2 (hc 3 (by decide)).1 (hc 3 (by decide)).2

set_option maxHeartbeats 2000000 in
theorem ref2_th_no (x y : Hp) (w : World) (h : hopB x = false ∨ hopB y = false) : Calls Try.prog 36 #[hv x, hv y] w fun r w' => r = .returned (.tuple #[hv hz, .bool false]) ∧ Ext w w' := by
  rw [hv_eq, hv_eq]
  cases hx : hopB x
  · have P1 := parts_no' hx
    cases hy : hopB y
    · have P2 := parts_no' hy
      clear h hx hy
      go_enter Try.func36, Try.ntmps36
      go_wp2_with (first | (go_at_call 33; (with_reducible refine (P1.out _).mono ?_); rintro r w' ⟨rfl, ⟨z1, rfl⟩⟩) | (go_at_call 33; (with_reducible refine (P2.out _).mono ?_); rintro r w' ⟨rfl, ⟨z2, rfl⟩⟩))
      go_returns
      exact ⟨rett rfl rfl, by (repeat' (first | with_reducible exact Ext.refl _ | with_reducible refine Ext.ext ?_ _ | with_reducible refine Ext.alloc ?_ _ | with_reducible refine Ext.drew ?_ | with_reducible refine Ext.drewN ?_ _ | with_reducible assumption))⟩
    · obtain ⟨n, hn⟩ := Int.eq_ofNat_of_zero_le (show 0 ≤ y.k + y.l by have := hopB_bd hy; omega)
      have P2 := parts_yes' hy hn
      clear h hx hy hn
      go_enter Try.func36, Try.ntmps36
      go_wp2_with (first | (go_at_call 33; (with_reducible refine (P1.out _).mono ?_); rintro r w' ⟨rfl, ⟨z1, rfl⟩⟩) | (go_at_call 33; (with_reducible refine (P2.out _).mono ?_); rintro r w' ⟨g2, c2, z2, rfl, rfl, ho2⟩; have HO2 := Lib.hid ho2; clear ho2))
      go_returns
      exact ⟨rett rfl rfl, by (repeat' (first | with_reducible exact Ext.refl _ | with_reducible refine Ext.ext ?_ _ | with_reducible refine Ext.alloc ?_ _ | with_reducible refine Ext.drew ?_ | with_reducible refine Ext.drewN ?_ _ | with_reducible assumption))⟩
  · have hy : hopB y = false := by simpa [hx] using h
    obtain ⟨n, hn⟩ := Int.eq_ofNat_of_zero_le (show 0 ≤ x.k + x.l by have := hopB_bd hx; omega)
    have P1 := parts_yes' hx hn
    have P2 := parts_no' hy
    clear h hx hy hn
    go_enter Try.func36, Try.ntmps36
    go_wp2_with (first | (go_at_call 33; (with_reducible refine (P1.out _).mono ?_); rintro r w' ⟨g1, c1, z1, rfl, rfl, ho1⟩; have HO1 := Lib.hid ho1; clear ho1) | (go_at_call 33; (with_reducible refine (P2.out _).mono ?_); rintro r w' ⟨rfl, ⟨z2, rfl⟩⟩))
    go_returns
    exact ⟨rett rfl rfl, by (repeat' (first | with_reducible exact Ext.refl _ | with_reducible refine Ext.ext ?_ _ | with_reducible refine Ext.alloc ?_ _ | with_reducible refine Ext.drew ?_ | with_reducible refine Ext.drewN ?_ _ | with_reducible assumption))⟩
set_option maxHeartbeats 2000000 in
theorem ref2_th_ne (x y : Hp) (w : World) (hx : hopB x = true) (hy : hopB y = true) (m n : Nat) (hm : x.k + x.l = m) (hn : y.k + y.l = n) (h : (m : Int) ≠ y.f) : Calls Try.prog 36 #[hv x, hv y] w fun r w' => r = .returned (.tuple #[hv hz, .bool false]) ∧ Ext w w' := by
  rw [hv_eq, hv_eq]
  have P1 := parts_yes' hx hm
  have P2 := parts_yes' hy hn
  have hfb : ((m : Int) != y.f) = true := by simp [h]
  clear hx hy hm hn h
  go_enter Try.func36, Try.ntmps36
  go_wp2_with (first | (go_at_call 33; (with_reducible refine (P1.out _).mono ?_); rintro r w' ⟨g1, c1, z1, rfl, rfl, ho1⟩; have HO1 := Lib.hid ho1; clear ho1) | (go_at_call 33; (with_reducible refine (P2.out _).mono ?_); rintro r w' ⟨g2, c2, z2, rfl, rfl, ho2⟩; have HO2 := Lib.hid ho2; clear ho2))
  go_returns
  exact ⟨rett rfl rfl, by (repeat' (first | with_reducible exact Ext.refl _ | with_reducible refine Ext.ext ?_ _ | with_reducible refine Ext.alloc ?_ _ | with_reducible refine Ext.drew ?_ | with_reducible refine Ext.drewN ?_ _ | with_reducible assumption))⟩

set_option maxHeartbeats 4000000 in
theorem ref2_th_in (x y : Hp) (w : World) (hx : hopB x = true) (hy : hopB y = true) (q n m : Nat) (hq : x.k + x.l = q) (hn : y.k + y.l = n) (h : (q : Int) = y.f) (hm : imin x.k y.k = m) :
    Calls Try.prog 36 #[hv x, hv y] w fun r w' => r = .returned (.tuple #[hv (madeR (mkH x.f m n (tV x y))).1, .bool (madeR (mkH x.f m n (tV x y))).2]) ∧ Ext w w' := by
  have bx := hopB_bd hx
  have bY := hopB_bd hy
  have hn1 : 1 ≤ n := by omega
  have hn4 : n ≤ 4 := by omega
  have hmn : m ≤ n := by unfold imin at hm; split at hm <;> omega
  have hbd : ∀ {z : Hp}, hopB z = true → ∀ j : Nat, (j : Int) < z.k + z.l → 0 ≤ ptV z j ∧ ptV z j ≤ 1048576 := by
    intro z hz j hj
    have bz := hopB_bd hz
    obtain ⟨-, w1, w2⟩ := (hopB_iff z).1 hz
    unfold ptV atV
    split
    · exact wi_bd w1 j (by omega)
    · exact wi_bd w2 (j - z.k) (by omega)
  have hw : ∀ j : Nat, j < n → (j : Int) < y.k → wrap64 (ptV x j + ptV y j) = ptV x j + ptV y j := by
    intro j hj hk
    have b1 := hbd hx j (by omega)
    have b2 := hbd hy j (by omega)
    exact IntWalk.wrap64_in _ ⟨by omega, by omega⟩
  have hO : ∀ j : Nat, (j : Int) < y.k → ptO y j = j ∧ kO m j = ptO x j ∧ tV x y j = ptV x j + ptV y j := fun j hj => ⟨if_pos hj, by
    unfold kO ptO
    unfold imin at hm
    split at hm <;> (split <;> split <;> omega), by unfold tV; rw [if_pos hj]⟩
  have hO' : ∀ j : Nat, y.k ≤ (j : Int) → ptO y j = -1 ∧ kO m j = -1 ∧ tV x y j = ptV y j := fun j hj => ⟨if_neg (by omega), by
    unfold kO
    unfold imin at hm
    rw [if_neg (by split at hm <;> omega)], by unfold tV; rw [if_neg (by omega), Int.zero_add]⟩
  have HW := Lib.hid hw
  have HOO := Lib.hid hO
  have HOO' := Lib.hid hO'
  have HKM : Hid (y.k ≤ q) := Lib.hid (by omega)
  rw [hv_eq, hv_eq]
  have P1 := parts_yes' hx hq
  have P2 := parts_yes' hy hn
  have hfb : ((q : Int) != y.f) = false := by simp [h]
  clear hx hy hq hn h hw bx bY hO hO' hbd hm
  go_enter Try.func36, Try.ntmps36
  go_wp2_with (first | (go_at_call 33; (with_reducible refine (P1.out _).mono ?_); rintro r w' ⟨g1, c1, z1, rfl, rfl, ho1⟩; have HO1 := Lib.hid ho1; clear ho1) | (go_at_call 33; (with_reducible refine (P2.out _).mono ?_); rintro r w' ⟨g2, c2, z2, rfl, rfl, ho2⟩; have HO2 := Lib.hid ho2; clear ho2))
  have c1 := PC.add (own_PC HO1.out) z2
  have c2 := own_PC HO2.out
  simp only [ext_ext] at c2
  have b1 := (own_lt HO1.out).2
  have b2 := (own_lt HO2.out).2
  simp only [size_ext, Inc.add, List.length_append, World.size_alloc] at b1 b2
  have C1 := Lib.hid c1
  have C2 := Lib.hid c2
  have B1 := Lib.hid b1
  have B2 := Lib.hid b2
  clear c1 c2 b1 b2
  go_loopw [10, 11] (fun v i wr => ∃ j : Nat, j ≤ n ∧ i = .int .i64 j ∧ (∃ z, wr = ext (((w.alloc (.cells #[.int .i64 x.f, .int .i64 x.k, .int .i64 x.l, .int .i64 x.a, .int .i64 x.b, .int .i64 x.c, .int .i64 x.e, .int .i64 x.p, .int .i64 x.q, .int .i64 x.r, .int .i64 x.s] 43)).alloc (.cells #[.int .i64 y.f, .int .i64 y.k, .int .i64 y.l, .int .i64 y.a, .int .i64 y.b, .int .i64 y.c, .int .i64 y.e, .int .i64 y.p, .int .i64 y.q, .int .i64 y.r, .int .i64 y.s] 43)).alloc (.cells #[.int .i64 0, .int .i64 0, .int .i64 0, .int .i64 0, .int .i64 0, .int .i64 0, .int .i64 0, .int .i64 0, .int .i64 0, .int .i64 0, .int .i64 0] 43)) z) ∧
      wr.ownsRow (w.heap.size + 1 + 1 + 1 + z1.hs.length + z2.hs.length) 69 2 v j (prs (kO m) (tV x y) j) ∧ PC wr g1 q (ptO x) (ptV x) ∧ PC wr g2 n (ptO y) (ptV y) ∧ w.heap.size + 1 + 1 + 1 + z1.hs.length + z2.hs.length ≤ wr.heap.size) (fun _ i _ => n - (intOf i).toNat)
  case atStart => exact ⟨0, by omega, rfl, ⟨_, rfl⟩, World.ownsRow_nil _ _ _ _, C1.out, C2.out, by simp [Inc.add]; omega⟩
  case round =>
    obtain ⟨j, hj, rfl, ⟨z, rfl⟩, hown, hc1, hc2, hsz⟩ := hrel
    have HOWN := Lib.hid hown
    have C1' := Lib.hid hc1
    have C2' := Lib.hid hc2
    have SZ := Lib.hid hsz
    clear hown hc1 hc2 hsz
    by_cases hlt : j < n
    · obtain ⟨d1, d2⟩ := C2'.out j hlt
      have i1 : (0 : Int) ≤ j := by omega
      have i2 : (j : Int) < n := by omega
      by_cases hk : (j : Int) < y.k
      · obtain ⟨d3, d4⟩ := C1'.out j (by have := HKM.out; omega)
        have i3 : (j : Int) < q := by have := HKM.out; omega
        obtain ⟨e1, e2, e3⟩ := HOO.out j hk
        rw [e1] at d1
        have hwr := HW.out j hlt hk
        have E2 := Lib.hid e2
        have E3 := Lib.hid e3
        haveI : LtSz g1 (w.heap.size + 1 + 1 + 1 + z.hs.length) := ⟨by have := (World.block_lt_of_cell? _ _ d3); simpa using this⟩
        haveI : LtSz g2 (w.heap.size + 1 + 1 + 1 + z.hs.length) := ⟨by have := (World.block_lt_of_cell? _ _ d1); simpa using this⟩
        clear e1 e2 e3 hk
        generalize ptV x j = v1 at *
        generalize ptV y j = v2 at *
        generalize ptO x j = o1 at *
        go_wp2
        go_region
        go_wp2_with (at_builtin; apply stop_here)
        all_goals
          unfold Stop
          (try rw [alloc_drew])
          refine wpList_pushX rfl _ _ 48 rfl 69 (.agg #[.int .i64 0, .int .i64 0]) 2 16 Try.underlying48 info_part rfl (by decide) (((w.alloc (.cells #[.int .i64 x.f, .int .i64 x.k, .int .i64 x.l, .int .i64 x.a, .int .i64 x.b, .int .i64 x.c, .int .i64 x.e, .int .i64 x.p, .int .i64 x.q, .int .i64 x.r, .int .i64 x.s] 43)).alloc (.cells #[.int .i64 y.f, .int .i64 y.k, .int .i64 y.l, .int .i64 y.a, .int .i64 y.b, .int .i64 y.c, .int .i64 y.e, .int .i64 y.p, .int .i64 y.q, .int .i64 y.r, .int .i64 y.s] 43)).alloc (.cells #[.int .i64 0, .int .i64 0, .int .i64 0, .int .i64 0, .int .i64 0, .int .i64 0, .int .i64 0, .int .i64 0, .int .i64 0, .int .i64 0, .int .i64 0] 43)) _ ?_ (w.heap.size + 1 + 1 + 1 + z1.hs.length + z2.hs.length) _ _ _ (own_of_ext HOWN.out ?_) _ 1 1 #[.int .i64 _, .int .i64 _] rfl rfl rfl (by simp [Value.oneCell']) (by decide) ?_ (by simp [maxLen]; omega) (by omega) ?_ (by simp; omega) ?_
          · (repeat' (first | with_reducible exact Ext.refl _ | with_reducible refine Ext.ext ?_ _ | with_reducible refine Ext.alloc ?_ _ | with_reducible refine Ext.drew ?_ | with_reducible refine Ext.drewN ?_ _ | with_reducible assumption))
          · (repeat' (first | with_reducible exact Ext.refl _ | with_reducible refine Ext.ext ?_ _ | with_reducible refine Ext.alloc ?_ _ | with_reducible refine Ext.drew ?_ | with_reducible refine Ext.drewN ?_ _ | with_reducible assumption))
          · simp
          · have := SZ.out
            simp at this ⊢
            omega
          intro g cap y hown1 hgr hat
          have HOWN1 := Lib.hid hown1
          have HGR := Lib.hid hgr
          clear hown1 hgr hat
          go_wp2
          refine ⟨⟨j + 1, by omega, by go_num, ⟨y, rfl⟩, ?_, (C1'.out.ext (by (repeat' (first | with_reducible exact Ext.refl _ | with_reducible refine Ext.ext ?_ _ | with_reducible refine Ext.alloc ?_ _ | with_reducible refine Ext.drew ?_ | with_reducible refine Ext.drewN ?_ _ | with_reducible assumption)))).grown HGR.out (own_of_ext HOWN.out (by (repeat' (first | with_reducible exact Ext.refl _ | with_reducible refine Ext.ext ?_ _ | with_reducible refine Ext.alloc ?_ _ | with_reducible refine Ext.drew ?_ | with_reducible refine Ext.drewN ?_ _ | with_reducible assumption)))) (by have := B1.out; omega), (C2'.out.ext (by (repeat' (first | with_reducible exact Ext.refl _ | with_reducible refine Ext.ext ?_ _ | with_reducible refine Ext.alloc ?_ _ | with_reducible refine Ext.drew ?_ | with_reducible refine Ext.drewN ?_ _ | with_reducible assumption)))).grown HGR.out (own_of_ext HOWN.out (by (repeat' (first | with_reducible exact Ext.refl _ | with_reducible refine Ext.ext ?_ _ | with_reducible refine Ext.alloc ?_ _ | with_reducible refine Ext.drew ?_ | with_reducible refine Ext.drewN ?_ _ | with_reducible assumption)))) (by have := B2.out; omega), Nat.le_trans SZ.out (Nat.le_trans (by simp) HGR.out.size)⟩, by simp [intOf]; omega⟩
          rw [prs, E2.out, E3.out]
          exact HOWN1.out
      · obtain ⟨e1, e2, e3⟩ := HOO'.out j (by omega)
        rw [e1] at d1
        have E2 := Lib.hid e2
        have E3 := Lib.hid e3
        haveI : LtSz g2 (w.heap.size + 1 + 1 + 1 + z.hs.length) := ⟨by have := (World.block_lt_of_cell? _ _ d1); simpa using this⟩
        clear e1 e2 e3 hk
        generalize ptV y j = v2 at *
        go_wp2_with (at_builtin; apply stop_here)
        all_goals
          unfold Stop
          (try rw [alloc_drew])
          refine wpList_pushX rfl _ _ 48 rfl 69 (.agg #[.int .i64 0, .int .i64 0]) 2 16 Try.underlying48 info_part rfl (by decide) (((w.alloc (.cells #[.int .i64 x.f, .int .i64 x.k, .int .i64 x.l, .int .i64 x.a, .int .i64 x.b, .int .i64 x.c, .int .i64 x.e, .int .i64 x.p, .int .i64 x.q, .int .i64 x.r, .int .i64 x.s] 43)).alloc (.cells #[.int .i64 y.f, .int .i64 y.k, .int .i64 y.l, .int .i64 y.a, .int .i64 y.b, .int .i64 y.c, .int .i64 y.e, .int .i64 y.p, .int .i64 y.q, .int .i64 y.r, .int .i64 y.s] 43)).alloc (.cells #[.int .i64 0, .int .i64 0, .int .i64 0, .int .i64 0, .int .i64 0, .int .i64 0, .int .i64 0, .int .i64 0, .int .i64 0, .int .i64 0, .int .i64 0] 43)) _ ?_ (w.heap.size + 1 + 1 + 1 + z1.hs.length + z2.hs.length) _ _ _ (own_of_ext HOWN.out ?_) _ 1 1 #[.int .i64 _, .int .i64 _] rfl rfl rfl (by simp [Value.oneCell']) (by decide) ?_ (by simp [maxLen]; omega) (by omega) ?_ (by simp; omega) ?_
          · (repeat' (first | with_reducible exact Ext.refl _ | with_reducible refine Ext.ext ?_ _ | with_reducible refine Ext.alloc ?_ _ | with_reducible refine Ext.drew ?_ | with_reducible refine Ext.drewN ?_ _ | with_reducible assumption))
          · (repeat' (first | with_reducible exact Ext.refl _ | with_reducible refine Ext.ext ?_ _ | with_reducible refine Ext.alloc ?_ _ | with_reducible refine Ext.drew ?_ | with_reducible refine Ext.drewN ?_ _ | with_reducible assumption))
          · simp
          · have := SZ.out
            simp at this ⊢
            omega
          intro g cap y hown1 hgr hat
          have HOWN1 := Lib.hid hown1
          have HGR := Lib.hid hgr
          clear hown1 hgr hat
          go_wp2
          refine ⟨⟨j + 1, by omega, by go_num, ⟨y, rfl⟩, ?_, (C1'.out.ext (by (repeat' (first | with_reducible exact Ext.refl _ | with_reducible refine Ext.ext ?_ _ | with_reducible refine Ext.alloc ?_ _ | with_reducible refine Ext.drew ?_ | with_reducible refine Ext.drewN ?_ _ | with_reducible assumption)))).grown HGR.out (own_of_ext HOWN.out (by (repeat' (first | with_reducible exact Ext.refl _ | with_reducible refine Ext.ext ?_ _ | with_reducible refine Ext.alloc ?_ _ | with_reducible refine Ext.drew ?_ | with_reducible refine Ext.drewN ?_ _ | with_reducible assumption)))) (by have := B1.out; omega), (C2'.out.ext (by (repeat' (first | with_reducible exact Ext.refl _ | with_reducible refine Ext.ext ?_ _ | with_reducible refine Ext.alloc ?_ _ | with_reducible refine Ext.drew ?_ | with_reducible refine Ext.drewN ?_ _ | with_reducible assumption)))).grown HGR.out (own_of_ext HOWN.out (by (repeat' (first | with_reducible exact Ext.refl _ | with_reducible refine Ext.ext ?_ _ | with_reducible refine Ext.alloc ?_ _ | with_reducible refine Ext.drew ?_ | with_reducible refine Ext.drewN ?_ _ | with_reducible assumption)))) (by have := B2.out; omega), Nat.le_trans SZ.out (Nat.le_trans (by simp) HGR.out.size)⟩, by simp [intOf]; omega⟩
          rw [prs, E2.out, E3.out]
          exact HOWN1.out
    · obtain rfl : j = n := by omega
      obtain ⟨g, cap, hv, _⟩ := HOWN.out.form (by omega)
      subst hv
      have OF := Lib.hid (fun w h1 h2 => of2_any x.f m j (tV x y) g cap w hn1 hn4 hmn h1 h2)
      have hg := (own_lt HOWN.out).2
      have L := Lib.hid (own_PC HOWN.out)
      go_wp2_with (go_at_call 50; refine (OF.out _ hg L.out).mono ?_; rintro r w' ⟨rfl, u, rfl⟩)
      go_returns
      exact ⟨rett rfl rfl, by (repeat' (first | with_reducible exact Ext.refl _ | with_reducible refine Ext.ext ?_ _ | with_reducible refine Ext.alloc ?_ _ | with_reducible refine Ext.drew ?_ | with_reducible refine Ext.drewN ?_ _ | with_reducible assumption))⟩
theorem ref2_th_any (x y : Hp) (w : World) : Calls Try.prog 36 #[hv x, hv y] w fun o w' => o = .returned (.tuple #[hv (thR x y), .bool (thOk x y)]) ∧ Ext w w' := by
  by_cases h : hopB x = true ∧ hopB y = true
  · obtain ⟨hx, hy⟩ := h
    have bx := hopB_bd hx
    have bY := hopB_bd hy
    obtain ⟨q, hq⟩ := Int.eq_ofNat_of_zero_le (show 0 ≤ x.k + x.l by omega)
    obtain ⟨n, hn⟩ := Int.eq_ofNat_of_zero_le (show 0 ≤ y.k + y.l by omega)
    obtain ⟨m, hm⟩ := Int.eq_ofNat_of_zero_le (show 0 ≤ imin x.k y.k by unfold imin; split <;> omega)
    by_cases hf : (q : Int) = y.f
    · have e := then_mk x y hx hy (hq.trans hf) m n hm hn
      have e1 : thOk x y = (madeR (mkH x.f m n (tV x y))).2 := by
        unfold thOk madeR
        rw [hx, hy, e, decide_eq_true (hq.trans hf)]
        cases hopB (mkH x.f m n (tV x y)) <;> rfl
      have e2 : thR x y = (madeR (mkH x.f m n (tV x y))).1 := by
        unfold thR
        rw [e1, e]
        unfold madeR
        cases hopB (mkH x.f m n (tV x y)) <;> rfl
      rw [e1, e2]
      exact ref2_th_in x y w hx hy q n m hq hn hf hm
    · have e1 : thOk x y = false := by
        unfold thOk
        rw [decide_eq_false (p := x.k + x.l = y.f) (by omega)]
        simp
      have e2 : thR x y = hz := by unfold thR; rw [e1]; rfl
      rw [e1, e2]
      exact ref2_th_ne x y w hx hy q n hq hn hf
  · have h' : hopB x = false ∨ hopB y = false := by
      cases hx : hopB x
      · exact .inl rfl
      · cases hy : hopB y
        · exact .inr rfl
        · exact absurd ⟨hx, hy⟩ h
    have e1 : thOk x y = false := by
      unfold thOk
      rcases h' with h | h
      · rw [h]; rfl
      · rw [h]; simp
    have e2 : thR x y = hz := by unfold thR; rw [e1]; rfl
    rw [e1, e2]
    exact ref2_th_no x y w h'
end Go.Proofs.Ytfdgeomomafnbaa
