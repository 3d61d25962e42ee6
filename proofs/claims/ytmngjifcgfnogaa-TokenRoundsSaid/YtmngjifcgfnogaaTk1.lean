/- law 17: lists of chains; a token's Right; New. -/
import Derived.Test.YtmngjifcgfnogaaEn
import Derived.Test.YtmngjifcgfnogaaChM
import Derived.Test.YtmngjifcgfnogaaOpenTm
import Derived.Test.YtmngjifcgfnogaaInv4
namespace Go.Proofs.Ytmngjifcgfnogaa
set_option linter.unusedSimpArgs false
set_option linter.unusedVariables false
set_option maxRecDepth 100000
open Go.RowKit

section
variable {α : Type}
def gidN (P : α → Bool) : List α → Nat
  | [] => 0
  | x :: l => if P x then 0 else gidN P l + 1
theorem gidN_at {P : α → Bool} : ∀ {l : List α} {j : Nat} {x : α}, l[j]? = some x → P x = true → (∀ (k : Nat) y, k < j → l[k]? = some y → P y = false) → gidN P l = j
  | [], j, x, h, _, _ => by simp at h
  | y :: l, 0, x, h, hp, _ => by
    obtain rfl : y = x := by simpa using h
    rw [gidN, if_pos hp]
  | y :: l, j + 1, x, h, hp, hn => by
    rw [gidN, if_neg (by rw [hn 0 y (by omega) rfl]; decide), gidN_at (j := j) (by simpa using h) hp (fun k z hk hz => hn (k + 1) z (by omega) (by simpa using hz))]
theorem gany_at {P : α → Bool} {l : List α} {j : Nat} {x : α} (h : l[j]? = some x) (hp : P x = true) : l.any P = true := List.any_eq_true.2 ⟨x, List.mem_of_getElem? h, hp⟩
theorem gany_no {P : α → Bool} {l : List α} (h : ∀ (k : Nat) y, l[k]? = some y → P y = false) : l.any P = false := by
  rw [List.any_eq_false]
  intro x hx
  obtain ⟨k, hk⟩ := List.getElem?_of_mem hx
  rw [h k x hk]
  decide
def gid (P : α → Bool) (l : List α) : Int := if l.any P then (gidN P l : Int) else -1
end
def tmE : En Tm := En.flat 5 (by decide) (fun x => [Value.int .i64 x.d, Value.int .i64 x.a, Value.int .i64 x.b, Value.int .i64 x.c, Value.int .i64 x.e]) (fun _ => rfl) (fun x c hc => by
  simp only [List.mem_cons, List.not_mem_nil, or_false] at hc
  rcases hc with rfl | rfl | rfl | rfl | rfl <;> rfl)
def tml : En (List Tm) := tmE.list
def noB : Nat → Prop := fun _ => False
theorem rb_rs {A : Nat → Prop} {w : World} {l : List Tm} {v : Value} (h : Rs tmE A w l v) : Rb w l v := by
  obtain ⟨a, c, rfl⟩ := h.form
  have := h.rd
  rw [tms_flat] at this
  exact ⟨a, c, rfl, this⟩
theorem rs_rb {A : Nat → Prop} {w : World} {l : List Tm} {v : Value} (h : Rb w l v) (hA : ∀ b, v.ownBlock = some b → ¬ A b) : Rs tmE A w l v := by
  obtain ⟨a, c, rfl, h⟩ := h
  rw [← tms_flat] at h
  exact Rs.of_rd h hA
theorem rs_row {A : Nat → Prop} {w0 w : World} {base : Nat} {l : List Tm} {v : Value} (h : Row w0 base l v w) (hA : ∀ b, A b → b < base) : Rs tmE A w l v := by
  refine rs_rb h.rb.2 (fun b hb e => ?_)
  obtain ⟨-, a, c, rfl, ho⟩ := h
  have h1 := (ho.lt b hb).1
  have h2 := hA b e
  omega
theorem concat_three (l m n : List Tm) (v u t : Value) (q : Nat) (w : World) (h : Rb w l v) (h' : Rb w m u) (h'' : Rb w n t) (hn : l.length + m.length + n.length ≤ 1073741823) (c0 : w.cell? ⟨q, 0, none⟩ = some v) (c1 : w.cell? ⟨q, 1, none⟩ = some u) (c2 : w.cell? ⟨q, 2, none⟩ = some t) :
    Calls Try.prog 76 #[.slice (some ⟨q, 0, none⟩) 3 3] w fun e w' => ∃ v', e = .returned v' ∧ Row w w.heap.size (l ++ m ++ n) v' w' := by
  have H := Lib.hid h
  have H' := Lib.hid h'
  have H'' := Lib.hid h''
  have HN := Lib.hid hn
  haveI : LtSz q w.heap.size := ⟨World.block_lt_of_cell? _ _ c0⟩
  have GR := Lib.hid (fun W => grow_any (l.length + m.length + n.length) (by omega) W)
  obtain ⟨a0, k0, rfl, -⟩ := h
  obtain ⟨a1, k1, rfl, -⟩ := h'
  obtain ⟨a2, k2, rfl, -⟩ := h''
  obtain ⟨n0, hn0⟩ : ∃ n, l.length = n := ⟨_, rfl⟩
  obtain ⟨n1, hn1⟩ : ∃ n, m.length = n := ⟨_, rfl⟩
  obtain ⟨n2, hn2⟩ : ∃ k, n.length = k := ⟨_, rfl⟩
  rw [hn0] at c0 H
  rw [hn1] at c1 H'
  rw [hn2] at c2 H''
  rw [hn0, hn1, hn2] at GR
  have b0 : (n0 : Int) + n1 ≤ 1073741823 := by omega
  have b1 : (0 : Int) ≤ n0 := by omega
  have b2 : (0 : Int) ≤ n1 := by omega
  have b3 : (0 : Int) ≤ (n0 : Int) + n1 := by omega
  have b4 : (0 : Int) ≤ n2 := by omega
  have b5 : (n0 : Int) + n1 + n2 ≤ 1073741823 := by omega
  have b6 : (0 : Int) ≤ (n0 : Int) + n1 + n2 := by omega
  have hca : ((n0 + n1 + n2 : Nat) : Int) = (n0 : Int) + n1 + n2 := by omega
  rw [hca] at GR
  have LN := Lib.hid (And.intro hn0 (And.intro hn1 hn2))
  clear hn hn0 hn1 hn2 hca
  go_enter Try.func76, Try.ntmps76
  go_wp2
  refine wp_loop_rounds 4 ?_
  rw [rounds_succ]
  go_wp2
  rw [rounds_succ]
  go_wp2
  rw [rounds_succ]
  go_wp2
  rw [rounds_succ]
  go_wp2_with (go_at_call 88; refine (GR.out _).mono ?_; rintro e w1 ⟨v1, rfl, hr1⟩; obtain ⟨⟨z1, rfl⟩, -⟩ := id hr1; obtain ⟨-, a1', c1', rfl, -⟩ := id hr1; have HR1 := Lib.hid (hr1.from0 (w0 := w) (by (repeat' (first | with_reducible exact Ext.refl _ | with_reducible refine Ext.ext ?_ _ | with_reducible refine Ext.alloc ?_ _ | with_reducible refine Ext.drew ?_ | with_reducible refine Ext.drewN ?_ _ | with_reducible assumption)))); clear hr1)
  refine wp_loop_rounds 4 ?_
  rw [rounds_succ]
  go_wp2_with (at_builtin; refine app_row rfl _ _ rfl w w.heap.size [] l _ _ rfl rfl HR1.out (H.out.on (by (repeat' (first | with_reducible exact Ext.refl _ | with_reducible refine Ext.ext ?_ _ | with_reducible refine Ext.alloc ?_ _ | with_reducible refine Ext.drew ?_ | with_reducible refine Ext.drewN ?_ _ | with_reducible assumption)))) (Nat.le_refl _) (by simp) (by have := HN.out; simp; omega) ?_; intro v2 w2 hr2; obtain ⟨⟨z2, rfl⟩, -⟩ := id hr2; obtain ⟨-, a2', c2', rfl, -⟩ := id hr2; have HR2 := Lib.hid hr2; clear hr2)
  rw [rounds_succ]
  go_wp2_with (at_builtin; refine app_row rfl _ _ rfl w w.heap.size ([] ++ l) m _ _ rfl rfl HR2.out (H'.out.on (by (repeat' (first | with_reducible exact Ext.refl _ | with_reducible refine Ext.ext ?_ _ | with_reducible refine Ext.alloc ?_ _ | with_reducible refine Ext.drew ?_ | with_reducible refine Ext.drewN ?_ _ | with_reducible assumption)))) (Nat.le_refl _) (by simp) (by have := HN.out; simp; omega) ?_; intro v3 w3 hr3; obtain ⟨⟨z3, rfl⟩, -⟩ := id hr3; obtain ⟨-, a3', c3', rfl, -⟩ := id hr3; simp only [List.nil_append, List.length_append] at hr3; have HR3 := Lib.hid hr3; clear hr3)
  rw [rounds_succ]
  go_wp2_with (at_builtin; refine app_row rfl _ _ rfl w w.heap.size (l ++ m) n _ _ rfl rfl HR3.out (H''.out.on (by (repeat' (first | with_reducible exact Ext.refl _ | with_reducible refine Ext.ext ?_ _ | with_reducible refine Ext.alloc ?_ _ | with_reducible refine Ext.drew ?_ | with_reducible refine Ext.drewN ?_ _ | with_reducible assumption)))) (Nat.le_refl _) (by simp) (by have := HN.out; simp; omega) ?_; intro v4 w4 hr4; obtain ⟨⟨z4, rfl⟩, -⟩ := id hr4; obtain ⟨-, a4', c4', rfl, -⟩ := id hr4; have HR4 := Lib.hid hr4; clear hr4)
  rw [rounds_succ]
  go_wp2
  go_returns
  exact ⟨_, rfl, by have := HR4.out; simp only [List.nil_append, List.length_append, Nat.add_assoc] at this; exact this⟩
noncomputable def badC (l : List Tm) : Bool := !sameB l (chT l)
theorem chain_closure {A : Nat → Prop} {w : World} {l : List Tm} {v : Value} (h : Rs tmE A w l v) (hn : l.length ≤ 1073741823) (b : Bool) (hb : badC l = b) :
    Calls Try.prog 37 #[v] w fun e w' => e = .returned (.bool b) ∧ Ext w w' := by
  have R := Lib.hid (right_rb (rb_rs h) hn (sameB l (chT l)) rfl)
  have HB := Lib.hid (show (!sameB l (chT l)) = b from hb)
  obtain ⟨a, c, rfl⟩ := h.form
  generalize sameB l (chT l) = s at *
  clear h hb
  cases s
  all_goals
    go_enter Try.func37, Try.ntmps37
    go_wp2_with (go_at_call 38; (with_reducible refine R.out.mono ?_); rintro e w' ⟨rfl, x, rfl⟩)
    go_returns
    exact ⟨retb rfl HB.out, by (repeat' (first | with_reducible exact Ext.refl _ | with_reducible refine Ext.ext ?_ _ | with_reducible refine Ext.alloc ?_ _ | with_reducible refine Ext.drew ?_ | with_reducible refine Ext.drewN ?_ _ | with_reducible assumption))⟩
set_option maxHeartbeats 4000000 in
theorem index_chains {A : Nat → Prop} {w : World} {L : List (List Tm)} {a : Option Addr} {c : Nat} (h : Rs tml A w L (.slice a L.length c)) (hn : L.length ≤ 1073741823) (hs : ∀ l ∈ L, l.length ≤ 1073741823) :
    Calls Try.prog 73 #[.slice a L.length c, .func (Fn.func 37) #[] #[]] w fun e w' => e = .returned (.int .i64 (gid badC L)) ∧ Ext w w' := by
  have H := Lib.hid h
  have HN := Lib.hid hn
  have HS := Lib.hid hs
  obtain ⟨R, hR⟩ : ∃ R, R = gid badC L := ⟨_, rfl⟩
  rw [← hR]
  have HR := Lib.hid hR
  clear h hn hs hR
  go_enter Try.func73, Try.ntmps73
  go_wp2
  go_loopw [8] (fun i wr => ∃ j : Nat, j ≤ L.length ∧ i = .int .i64 j ∧ Ext w wr ∧ ∀ (k : Nat) y, k < j → L[k]? = some y → badC y = false) (fun i _ => L.length - (intOf i).toNat)
  case atStart => exact ⟨0, by omega, rfl, by (repeat' (first | with_reducible exact Ext.refl _ | with_reducible refine Ext.ext ?_ _ | with_reducible refine Ext.alloc ?_ _ | with_reducible refine Ext.drew ?_ | with_reducible refine Ext.drewN ?_ _ | with_reducible assumption)), fun k y hk => absurd hk (Nat.not_lt_zero k)⟩
  case round =>
    obtain ⟨j, hj, rfl, hx, hall⟩ := hrel
    have HX1 := Lib.hid hx
    have HA := Lib.hid hall
    clear hx hall
    by_cases hlt : j < L.length
    · obtain ⟨x, hx⟩ : ∃ x, L[j]? = some x := ⟨L[j], List.getElem?_eq_getElem _⟩
      obtain ⟨b, off, u, rfl, -, -, hu, hc⟩ := (H.out.on HX1.out).atl hx
      have i1 : (0 : Int) ≤ j := by omega
      have i2 : (j : Int) < L.length := by omega
      have ew : wrap64 ((j : Int) + 1) = ((j + 1 : Nat) : Int) := (IntWalk.wrap64_in _ ⟨by omega, by have := HN.out; omega⟩).trans (by omega)
      obtain ⟨bp, hp⟩ : ∃ b, badC x = b := ⟨_, rfl⟩
      have CX := Lib.hid (chain_closure hu (HS.out x (List.mem_of_getElem? hx)) bp hp)
      obtain ⟨ua, uc, rfl⟩ := hu.form
      have HX := Lib.hid hx
      have HP := Lib.hid hp
      clear hx hp hu
      cases bp
      · go_wp2_with (go_at_call 37; (with_reducible refine CX.out.mono ?_); rintro e w2 ⟨rfl, hx⟩; have HX2 := Lib.hid hx; clear hx)
        exact ⟨⟨j + 1, by omega, congrArg (Value.int .i64) ew, by (repeat' (first | with_reducible exact Ext.refl _ | with_reducible refine Ext.ext ?_ _ | with_reducible refine Ext.alloc ?_ _ | with_reducible refine Ext.drew ?_ | with_reducible refine Ext.drewN ?_ _ | with_reducible refine Ext.trans ?_ HX1.out | with_reducible refine Ext.trans ?_ HX2.out | with_reducible refine Ext.trans ?_ HX3.out | with_reducible refine Ext.trans ?_ HX4.out | with_reducible refine Ext.trans ?_ HX5.out | with_reducible refine Ext.trans ?_ HX6.out | with_reducible refine Ext.trans ?_ HX7.out | with_reducible refine Ext.trans ?_ HX8.out | with_reducible refine Ext.trans ?_ HX9.out | with_reducible refine Ext.trans ?_ HX10.out | with_reducible refine Ext.trans ?_ HX11.out | with_reducible refine Ext.trans ?_ HX12.out | with_reducible refine Ext.trans ?_ HX13.out | with_reducible refine Ext.trans ?_ HX14.out | with_reducible refine Ext.trans ?_ HX15.out | with_reducible refine Ext.trans ?_ HX16.out | with_reducible refine Ext.trans ?_ HX17.out | with_reducible refine Ext.trans ?_ HX18.out | with_reducible refine Ext.trans ?_ HX19.out | with_reducible refine Ext.trans ?_ HX20.out | with_reducible refine Ext.trans ?_ HX21.out | with_reducible refine Ext.trans ?_ HX22.out | with_reducible refine Ext.trans ?_ HX23.out | with_reducible refine Ext.trans ?_ HX24.out)), fun k y hk hy => by
          rcases Nat.lt_or_ge k j with h | h
          · exact HA.out k y h hy
          · obtain rfl : k = j := by omega
            rw [HX.out] at hy
            cases hy
            exact HP.out⟩, by rw [ew]; simp only [intOf]; omega⟩
      · have RR := Lib.hid (show (j : Int) = R by rw [HR.out, gid, gany_at HX.out HP.out, if_pos rfl, gidN_at HX.out HP.out (fun k y hk hy => HA.out k y hk hy)])
        go_wp2_with (go_at_call 37; (with_reducible refine CX.out.mono ?_); rintro e w2 ⟨rfl, hx⟩; have HX2 := Lib.hid hx; clear hx)
        go_returns
        exact ⟨reti rfl RR.out, by (repeat' (first | with_reducible exact Ext.refl _ | with_reducible refine Ext.ext ?_ _ | with_reducible refine Ext.alloc ?_ _ | with_reducible refine Ext.drew ?_ | with_reducible refine Ext.drewN ?_ _ | with_reducible refine Ext.trans ?_ HX1.out | with_reducible refine Ext.trans ?_ HX2.out | with_reducible refine Ext.trans ?_ HX3.out | with_reducible refine Ext.trans ?_ HX4.out | with_reducible refine Ext.trans ?_ HX5.out | with_reducible refine Ext.trans ?_ HX6.out | with_reducible refine Ext.trans ?_ HX7.out | with_reducible refine Ext.trans ?_ HX8.out | with_reducible refine Ext.trans ?_ HX9.out | with_reducible refine Ext.trans ?_ HX10.out | with_reducible refine Ext.trans ?_ HX11.out | with_reducible refine Ext.trans ?_ HX12.out | with_reducible refine Ext.trans ?_ HX13.out | with_reducible refine Ext.trans ?_ HX14.out | with_reducible refine Ext.trans ?_ HX15.out | with_reducible refine Ext.trans ?_ HX16.out | with_reducible refine Ext.trans ?_ HX17.out | with_reducible refine Ext.trans ?_ HX18.out | with_reducible refine Ext.trans ?_ HX19.out | with_reducible refine Ext.trans ?_ HX20.out | with_reducible refine Ext.trans ?_ HX21.out | with_reducible refine Ext.trans ?_ HX22.out | with_reducible refine Ext.trans ?_ HX23.out | with_reducible refine Ext.trans ?_ HX24.out))⟩
    · have RR := Lib.hid (show (-1 : Int) = R by rw [HR.out, gid, gany_no (fun k y hy => HA.out k y (by have := (List.getElem?_eq_some_iff.1 hy).1; omega) hy)]; rfl)
      obtain rfl : j = L.length := by omega
      go_wp2
      go_returns
      exact ⟨reti rfl RR.out, by (repeat' (first | with_reducible exact Ext.refl _ | with_reducible refine Ext.ext ?_ _ | with_reducible refine Ext.alloc ?_ _ | with_reducible refine Ext.drew ?_ | with_reducible refine Ext.drewN ?_ _ | with_reducible refine Ext.trans ?_ HX1.out | with_reducible refine Ext.trans ?_ HX2.out | with_reducible refine Ext.trans ?_ HX3.out | with_reducible refine Ext.trans ?_ HX4.out | with_reducible refine Ext.trans ?_ HX5.out | with_reducible refine Ext.trans ?_ HX6.out | with_reducible refine Ext.trans ?_ HX7.out | with_reducible refine Ext.trans ?_ HX8.out | with_reducible refine Ext.trans ?_ HX9.out | with_reducible refine Ext.trans ?_ HX10.out | with_reducible refine Ext.trans ?_ HX11.out | with_reducible refine Ext.trans ?_ HX12.out | with_reducible refine Ext.trans ?_ HX13.out | with_reducible refine Ext.trans ?_ HX14.out | with_reducible refine Ext.trans ?_ HX15.out | with_reducible refine Ext.trans ?_ HX16.out | with_reducible refine Ext.trans ?_ HX17.out | with_reducible refine Ext.trans ?_ HX18.out | with_reducible refine Ext.trans ?_ HX19.out | with_reducible refine Ext.trans ?_ HX20.out | with_reducible refine Ext.trans ?_ HX21.out | with_reducible refine Ext.trans ?_ HX22.out | with_reducible refine Ext.trans ?_ HX23.out | with_reducible refine Ext.trans ?_ HX24.out))⟩
theorem contains_chains {A : Nat → Prop} {w : World} {L : List (List Tm)} {a : Option Addr} {c : Nat} (h : Rs tml A w L (.slice a L.length c)) (hn : L.length ≤ 1073741823) (hs : ∀ l ∈ L, l.length ≤ 1073741823) :
    Calls Try.prog 36 #[.slice a L.length c, .func (Fn.func 37) #[] #[]] w fun e w' => e = .returned (.bool (L.any badC)) ∧ Ext w w' := by
  have IX := Lib.hid (fun W (hx : Ext w W) => index_chains (h.on hx) hn hs)
  obtain ⟨q, hq⟩ : ∃ q, gid badC L = q := ⟨_, rfl⟩
  have hq2 : decide (0 ≤ q) = L.any badC := by
    rw [← hq]
    unfold gid
    cases L.any badC
    · exact decide_eq_false (by rw [if_neg (by decide)]; decide)
    · exact decide_eq_true (by rw [if_pos rfl]; omega)
  rw [hq] at IX
  rw [← hq2]
  clear h hn hs hq hq2
  go_enter Try.func36, Try.ntmps36
  go_wp2_with (go_at_call 73; (with_reducible refine (IX.out _ (by (repeat' (first | with_reducible exact Ext.refl _ | with_reducible refine Ext.ext ?_ _ | with_reducible refine Ext.alloc ?_ _ | with_reducible refine Ext.drew ?_ | with_reducible refine Ext.drewN ?_ _ | with_reducible assumption)))).mono ?_); rintro e w' ⟨rfl, x1, rfl⟩)
  go_returns
  exact ⟨retb rfl rfl, by (repeat' (first | with_reducible exact Ext.refl _ | with_reducible refine Ext.ext ?_ _ | with_reducible refine Ext.alloc ?_ _ | with_reducible refine Ext.drew ?_ | with_reducible refine Ext.drewN ?_ _ | with_reducible assumption))⟩
/-- A token. -/
structure Tk where
  p : Int
  a : Int
  c : Int
  w : Int
  l : List (List Tm)
noncomputable def Tk.bad (t : Tk) (nw : Int) : Bool := decide (t.p < 0) || decide (1 < t.p) || decide (t.c < 0) || decide (1 < t.c) || decide (nw < 1) || decide (64 < nw) || decide (t.a < 0) || decide (nw ≤ t.a)
noncomputable def rightK (t : Tk) (nodes nw : Int) : Bool := !t.bad nw && (decide ((t.l.length : Int) = nodes) && !t.l.any badC)
set_option maxHeartbeats 8000000 in
theorem tkRight_any {A : Nat → Prop} {w : World} (t : Tk) {a : Option Addr} {c : Nat} (h : Rs tml A w t.l (.slice a t.l.length c)) (hn : t.l.length ≤ 1073741823) (hs : ∀ l ∈ t.l, l.length ≤ 1073741823) (nodes nw : Int) (r : Bool) (hr : rightK t nodes nw = r) :
    Calls Try.prog 13 #[.agg #[.int .i64 t.p, .int .i64 t.a, .int .i64 t.c, .int .i64 t.w, .slice a t.l.length c], .int .i64 nodes, .int .i64 nw] w fun e w' => e = .returned (.bool r) ∧ Ext w w' := by
  obtain ⟨p, ta, tc, tw, l⟩ := t
  dsimp only at *
  have CF := Lib.hid (fun W (hx : Ext w W) => contains_chains (h.on hx) hn hs)
  obtain ⟨b0, f0⟩ : ∃ b, l.any badC = b := ⟨_, rfl⟩
  obtain ⟨b1, f1⟩ : ∃ b, decide (p < 0) = b := ⟨_, rfl⟩
  obtain ⟨b2, f2⟩ : ∃ b, decide (1 < p) = b := ⟨_, rfl⟩
  obtain ⟨b3, f3⟩ : ∃ b, decide (tc < 0) = b := ⟨_, rfl⟩
  obtain ⟨b4, f4⟩ : ∃ b, decide (1 < tc) = b := ⟨_, rfl⟩
  obtain ⟨b5, f5⟩ : ∃ b, decide (nw < 1) = b := ⟨_, rfl⟩
  obtain ⟨b6, f6⟩ : ∃ b, decide (64 < nw) = b := ⟨_, rfl⟩
  obtain ⟨b7, f7⟩ : ∃ b, decide (ta < 0) = b := ⟨_, rfl⟩
  obtain ⟨b8, f8⟩ : ∃ b, decide (nw ≤ ta) = b := ⟨_, rfl⟩
  obtain ⟨b9, f9⟩ : ∃ b, ((l.length : Int) == nodes) = b := ⟨_, rfl⟩
  have hb : r = (!(b1 || b2 || b3 || b4 || b5 || b6 || b7 || b8) && (b9 && !b0)) := by
    rw [← hr, ← f0, ← f1, ← f2, ← f3, ← f4, ← f5, ← f6, ← f7, ← f8, ← f9]
    unfold rightK Tk.bad
    congr 2
  rw [f0] at CF
  have HB := Lib.hid hb
  clear h hn hs hr hb f0
  go_enter Try.func13, Try.ntmps13
  go_wp2_with (go_at_call 36; (with_reducible refine (CF.out _ (by (repeat' (first | with_reducible exact Ext.refl _ | with_reducible refine Ext.ext ?_ _ | with_reducible refine Ext.alloc ?_ _ | with_reducible refine Ext.drew ?_ | with_reducible refine Ext.drewN ?_ _ | with_reducible assumption)))).mono ?_); rintro e w' ⟨rfl, x, rfl⟩)
  all_goals (go_returns; exact ⟨retb rfl (by rw [HB.out]; simp [*]), by (repeat' (first | with_reducible exact Ext.refl _ | with_reducible refine Ext.ext ?_ _ | with_reducible refine Ext.alloc ?_ _ | with_reducible refine Ext.drew ?_ | with_reducible refine Ext.drewN ?_ _ | with_reducible assumption))⟩)
end Go.Proofs.Ytmngjifcgfnogaa
