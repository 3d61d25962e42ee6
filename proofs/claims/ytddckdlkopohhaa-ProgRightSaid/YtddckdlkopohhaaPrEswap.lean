/- The reference of layer 7: one way of a round: swap. -/
import Derived.Test.YtddckdlkopohhaaPrE
namespace Go.Proofs.Ytddckdlkopohhaa
set_option linter.unusedSimpArgs false
set_option linter.unusedVariables false
open Go.RowKit

section
variable (ps : List (Int × Int)) (K V : Int) (w W : World) (TB GB : Nat) (a : Option Addr) (c : Nat) (HW : Hid (RefW w K V TB GB W)) (HL : Hid (ps.length ≤ 64)) (c19 c20 c21 c22 c23 : Value) (Q0 : Exit → Act → World → Prop)
include HW HL
set_option maxRecDepth 1000000 in
set_option maxHeartbeats 8000000 in
theorem ref_swap (j t : Nat) (ht : t < 256) (hj : (j : Int) < ps.length) (pb off : Nat) (ha : a = some ⟨pb, off, none⟩) (z : Inc) (m : Int) (f sc : Nat) (s : List Int) (o : List (Int × Int)) (oa : Option Addr) (oc : Nat) (hs : s.length = f) (hf8 : (f : Int) ≤ 6) (hsc : ((f + 2 : Nat) : Int) ≤ sc) (htk : (ext W z).cell? ⟨TB, 12, none⟩ = some (.int .i64 2)) (hgv : (ext W z).cell? ⟨GB, 12, none⟩ = some (.int .i64 2)) (g : Nat) (x x' : Int) (hc0 : (ext W z).cell? ⟨g, f, none⟩ = some (.int .i64 x)) (hc1 : (ext W z).cell? ⟨g, f + 1, none⟩ = some (.int .i64 x')) (HT : Hid ((ext W z).ownsRow W.heap.size 2 1 (.slice (some ⟨g, 0, none⟩) f sc) f (ints s))) (HO : Hid ((ext W z).ownsRow W.heap.size 24 2 (.slice oa o.length oc) o.length (recs o))) (HN : Hid ((Value.slice (some ⟨g, 0, none⟩) f sc).ownBlock = none ∨ (Value.slice (some ⟨g, 0, none⟩) f sc).ownBlock ≠ (Value.slice oa o.length oc).ownBlock)) (hg : Good ps.length K V ⟨K, V, x :: x' :: s, o, ((j : Int) + 1), 0⟩) (hr : runM ps 256 (m0 K V) = runM ps (255 - t) ⟨K, V, x :: x' :: s, o, ((j : Int) + 1), 0⟩) (hp0 : (ext W z).cell? ⟨pb, off + j * 2, none⟩ = some (.int .i64 12)) (hp1 : (ext W z).cell? ⟨pb, off + j * 2 + 1, none⟩ = some (.int .i64 m)) (u13 u14 u15 u16 u17 u18 u24 u25 u26 u27 u28 u29 u30 u31 u32 u33 u34 u35 u36 u37 u38 u39 u40 u41 u42 u43 u44 u45 u46 u47 u48 u49 u50 u51 u52 u53 u54 u55 u56 u57 u58 u59 u60 u61 u62 u63 u64 u65 u66 u67 u68 u69 u70 u71 u72 u73 u74 u75 u76 u77 u78 u79 u80 u81 u82 u83 u84 u85 u86 u87 u88 u89 u90 u91 u92 u93 u94 u95 u96 u97 u98 u99 u100 u101 u102 u103 u104 u105 u106 u107 u108 u109 u110 u111 u112 u113 u114 u115 u116 u117 u118 u119 u120 u121 u122 u123 u124 u125 u126 u127 u128 u129 u130 u131 u132 u133 u134 u135 u136 u137 u138 u139 u140 u141 u142 u143 u144 u145 u146 u147 u148 u149 u150 u151 u152 u153 u154 u155 u156 u157 u158 : Value) : Code.wp Try.prog body7 (Exit.then (fun a' w'' => WI ps K V w W TB GB a c c19 c20 c21 c22 c23 a' w'' ∧ Wmu a' < Wmu ⟨#[.slice a ps.length c, .agg #[.int .i64 K, .int .i64 V], undef, .pointer (some ⟨w.heap.size, 0, none⟩), .slice none 0 0, .int .i64 0, .pointer (some ⟨TB, 0, none⟩), .pointer (some ⟨GB, 0, none⟩), .slice (some ⟨g, 0, none⟩) (f + 2) sc, .slice oa o.length oc, .int .i64 j, .int .i64 0, .int .i64 t, u13, u14, u15, u16, u17, u18, c19, c20, c21, c22, c23, u24, u25, u26, u27, u28, u29, u30, u31, u32, u33, u34, u35, u36, u37, u38, u39, u40, u41, u42, u43, u44, u45, u46, u47, u48, u49, u50, u51, u52, u53, u54, u55, u56, u57, u58, u59, u60, u61, u62, u63, u64, u65, u66, u67, u68, u69, u70, u71, u72, u73, u74, u75, u76, u77, u78, u79, u80, u81, u82, u83, u84, u85, u86, u87, u88, u89, u90, u91, u92, u93, u94, u95, u96, u97, u98, u99, u100, u101, u102, u103, u104, u105, u106, u107, u108, u109, u110, u111, u112, u113, u114, u115, u116, u117, u118, u119, u120, u121, u122, u123, u124, u125, u126, u127, u128, u129, u130, u131, u132, u133, u134, u135, u136, u137, u138, u139, u140, u141, u142, u143, u144, u145, u146, u147, u148, u149, u150, u151, u152, u153, u154, u155, u156, u157, u158, undef, undef, undef, undef, undef, undef, undef, undef, undef, undef], []⟩) Q0) ⟨#[.slice a ps.length c, .agg #[.int .i64 K, .int .i64 V], undef, .pointer (some ⟨w.heap.size, 0, none⟩), .slice none 0 0, .int .i64 0, .pointer (some ⟨TB, 0, none⟩), .pointer (some ⟨GB, 0, none⟩), .slice (some ⟨g, 0, none⟩) (f + 2) sc, .slice oa o.length oc, .int .i64 j, .int .i64 0, .int .i64 t, u13, u14, u15, u16, u17, u18, c19, c20, c21, c22, c23, u24, u25, u26, u27, u28, u29, u30, u31, u32, u33, u34, u35, u36, u37, u38, u39, u40, u41, u42, u43, u44, u45, u46, u47, u48, u49, u50, u51, u52, u53, u54, u55, u56, u57, u58, u59, u60, u61, u62, u63, u64, u65, u66, u67, u68, u69, u70, u71, u72, u73, u74, u75, u76, u77, u78, u79, u80, u81, u82, u83, u84, u85, u86, u87, u88, u89, u90, u91, u92, u93, u94, u95, u96, u97, u98, u99, u100, u101, u102, u103, u104, u105, u106, u107, u108, u109, u110, u111, u112, u113, u114, u115, u116, u117, u118, u119, u120, u121, u122, u123, u124, u125, u126, u127, u128, u129, u130, u131, u132, u133, u134, u135, u136, u137, u138, u139, u140, u141, u142, u143, u144, u145, u146, u147, u148, u149, u150, u151, u152, u153, u154, u155, u156, u157, u158, undef, undef, undef, undef, undef, undef, undef, undef, undef, undef], []⟩ (ext W z) := by
  obtain rfl := ha
  have ht2 : ((t : Int) == 256) = false := by simp; omega
  have ej : wrap64 ((j : Int) + 1) = (j : Int) + 1 := IntWalk.wrap64_in _ ⟨by omega, by have := HL.out; omega⟩
  have et : wrap64 ((t : Int) + 1) = ((t + 1 : Nat) : Int) := (IntWalk.wrap64_in _ ⟨by omega, by omega⟩).trans (by omega)
  have hj' : decide ((j : Int) < ps.length) = true := decide_eq_true hj
  have i1 : (0 : Int) ≤ j := by omega
  have hW := HW.out
  haveI : LtSz TB (W.heap.size + z.hs.length) := ⟨by have := hW.t; omega⟩
  haveI : LtSz GB (W.heap.size + z.hs.length) := ⟨by have := hW.g; omega⟩
  haveI : LtSz w.heap.size (W.heap.size + z.hs.length) := ⟨by have := hW.r; omega⟩
  clear hW
  have hf0 : (0 : Int) ≤ f := by omega
  have hsc1 : (f : Int) ≤ sc := by omega
  have hsc2 : (f : Int) + 2 ≤ sc := by omega
  have en : wrap64 ((f : Int) + 2 - 2) = (f : Int) := (IntWalk.wrap64_in _ ⟨by omega, by omega⟩).trans (by omega)
  have e8 : decide (8 < (f : Int) + 2) = false := decide_eq_false (by omega)
  have e80 : decide (8 < (f : Int)) = false := decide_eq_false (by omega)
  have e00 : decide ((f : Int) < 0) = false := decide_eq_false (by omega)
  haveI : LtSz g (W.heap.size + z.hs.length) := ⟨by have := World.block_lt_of_cell? _ _ hc0; simpa using this⟩
  have hf1 : (f : Int) < (f : Int) + 2 := by omega
  have hf2 : (f : Int) + 1 < (f : Int) + 2 := by omega
  have iW : W.heap.size ≤ W.heap.size := Nat.le_refl _
  conv => arg 2; whnf
  go_wp2
  refine wp_region_ext (by kernel_rfl) (by kernel_rfl) ?_
  repeat (go_big_quiet_step (fail))
  refine wpQuiet_nil ?_
  intro xK
  go_wp2_with (at_builtin; apply stop_here)
  all_goals
    unfold Stop
    (try rw [alloc_drew'])
    refine wpList_pushY rfl _ _ 40 rfl 2 (.int .i64 0) 1 8 Try.underlying40 info_i64q rfl (by decide) W _ ?_ W.heap.size _ f _ (own_of_ext' HT.out ?_) _ 2 _ _ rfl rfl rfl (by simp [Value.oneCell']) (by decide) (by simp) (by unfold maxLen; omega) (by omega) (by simp; omega) (Nat.le_refl _) ?_
    · (repeat' (first | with_reducible exact Ext.refl _ | with_reducible refine Ext.ext ?_ _ | with_reducible refine Ext.alloc ?_ _ | with_reducible refine Ext.drew ?_ | with_reducible refine Ext.drewN ?_ _ | with_reducible assumption))
    · (repeat' (first | with_reducible exact Ext.refl _ | with_reducible refine Ext.ext ?_ _ | with_reducible refine Ext.alloc ?_ _ | with_reducible refine Ext.drew ?_ | with_reducible refine Ext.drewN ?_ _ | with_reducible assumption))
    intro g' cap y hown hgr hat
    have e3 := (own_of_ext' HO.out (by (repeat' (first | with_reducible exact Ext.refl _ | with_reducible refine Ext.ext ?_ _ | with_reducible refine Ext.alloc ?_ _ | with_reducible refine Ext.drew ?_ | with_reducible refine Ext.drewN ?_ _ | with_reducible assumption)))).kept hgr (apart_sym HN.out)
    have e2 := apartS (n := f + 2) (c := cap) HN.out (own_of_ext' HO.out (by (repeat' (first | with_reducible exact Ext.refl _ | with_reducible refine Ext.ext ?_ _ | with_reducible refine Ext.alloc ?_ _ | with_reducible refine Ext.drew ?_ | with_reducible refine Ext.drewN ?_ _ | with_reducible assumption)))) hat
    have E2 := Lib.hid e2
    have E3 := Lib.hid e3
    have HOWN := Lib.hid hown
    clear e2 e3 hown hgr hat
    go_wp2
    refine ⟨⟨_, _, _, _, _, _, _, _, _, _, _, _, _, _, _, _, _, _, _, _, _, _, _, _, _, _, _, _, _, _, _, _, _, _, _, _, _, _, _, _, _, _, _, _, _, _, _, _, _, _, _, _, _, _, _, _, _, _, _, _, _, _, _, _, _, _, _, _, _, _, _, _, _, _, _, _, _, _, _, _, _, _, _, _, _, _, _, _, _, _, _, _, _, _, _, _, _, _, _, _, _, _, _, _, _, _, _, _, _, _, _, _, _, _, _, _, _, _, _, _, _, _, _, _, _, _, _, _, _, _, _, _, _, _, _, _, _, _, _, _, _, _, _, _, _, _, ?_, rfl⟩, by simp [Wmu, intOf]; omega⟩
    exact refAt_go t (x :: x' :: s) o _ _ (by first | exact ej | with_reducible rfl) (by omega) (by (repeat' (first | with_reducible exact Ext.refl _ | with_reducible refine Ext.ext ?_ _ | with_reducible refine Ext.alloc ?_ _ | with_reducible refine Ext.drew ?_ | with_reducible refine Ext.drewN ?_ _ | with_reducible assumption))) hg hr (by simpa [ints, hs] using HOWN.out) E3.out E2.out
end
end Go.Proofs.Ytddckdlkopohhaa
