/- The reference of layer 7: the loop of Run: a round, the loop. -/
import Derived.Test.YtddckdlkopohhaaPrEfew
import Derived.Test.YtddckdlkopohhaaPrEover
import Derived.Test.YtddckdlkopohhaaPrEpush
import Derived.Test.YtddckdlkopohhaaPrEkey
import Derived.Test.YtddckdlkopohhaaPrEval
import Derived.Test.YtddckdlkopohhaaPrEdup
import Derived.Test.YtddckdlkopohhaaPrEswap
import Derived.Test.YtddckdlkopohhaaPrEdrop
import Derived.Test.YtddckdlkopohhaaPrEjump
import Derived.Test.YtddckdlkopohhaaPrEzero
import Derived.Test.YtddckdlkopohhaaPrEnonz
import Derived.Test.YtddckdlkopohhaaPrEemit
import Derived.Test.YtddckdlkopohhaaPrEfull
import Derived.Test.YtddckdlkopohhaaPrEtwo
import Derived.Test.YtddckdlkopohhaaPrElim
import Derived.Test.YtddckdlkopohhaaPrEexit1
import Derived.Test.YtddckdlkopohhaaPrEexit2
namespace Go.Proofs.Ytddckdlkopohhaa
set_option linter.unusedSimpArgs false
set_option linter.unusedVariables false
open Go.RowKit

theorem out_bad {ps : List (Int × Int)} {f : Nat} {m : Mc} {K b : Int} (hk : m.k = K) (hb : m.bad = b) (h0 : b ≠ 0) : outP (runM ps f m) = ([(K, -9223372036854775808 + b)], b) := by
  have e : runM ps f m = m := by cases f <;> (unfold runM; rw [if_neg (fun h => h0 (hb ▸ h.2))])
  rw [e, outP, if_neg (by rw [hb]; exact h0), hk, hb]
theorem ints_cons (x : Int) (l : List Int) : ints (x :: l) = ints l ++ [.int .i64 x] := by simp [ints]
theorem ints_length (l : List Int) : (ints l).length = l.length := by simp [ints]
theorem pop1_facts {w : World} {B : Nat} {g sc : Nat} {x : Int} {l : List Int} (h : w.ownsRow B 2 1 (.slice (some ⟨g, 0, none⟩) (l.length + 1) sc) (l.length + 1) (ints (x :: l))) :
    w.cell? ⟨g, l.length, none⟩ = some (.int .i64 x) ∧ w.ownsRow B 2 1 (.slice (some ⟨g, 0, none⟩) l.length sc) l.length (ints l) ∧ l.length + 1 ≤ sc := by
  have hc := own_cap h
  rw [ints_cons] at h
  exact ⟨(own_cell h l.length (.int .i64 x) (by rw [List.getElem?_append_right (by rw [ints_length]; exact Nat.le_refl _), ints_length, Nat.sub_self]; rfl)).2, own_take h (by omega) (by rw [ints_length, Nat.mul_one]), hc⟩
theorem pop2_facts {w : World} {B : Nat} {g sc : Nat} {x y : Int} {l : List Int} (h : w.ownsRow B 2 1 (.slice (some ⟨g, 0, none⟩) (l.length + 2) sc) (l.length + 2) (ints (y :: x :: l))) :
    w.cell? ⟨g, l.length, none⟩ = some (.int .i64 x) ∧ w.cell? ⟨g, l.length + 1, none⟩ = some (.int .i64 y) ∧ w.ownsRow B 2 1 (.slice (some ⟨g, 0, none⟩) l.length sc) l.length (ints l) ∧ l.length + 2 ≤ sc := by
  have hc := own_cap h
  rw [ints_cons, ints_cons, List.append_assoc] at h
  exact ⟨(own_cell h l.length (.int .i64 x) (by rw [List.getElem?_append_right (by rw [ints_length]; exact Nat.le_refl _), ints_length, Nat.sub_self]; rfl)).2,
    (own_cell h (l.length + 1) (.int .i64 y) (by rw [List.getElem?_append_right (by rw [ints_length]; omega), ints_length, Nat.add_sub_cancel_left]; rfl)).2, own_take h (by omega) (by rw [ints_length, Nat.mul_one]), hc⟩
theorem apart_len {g n n' c c' : Nat} {vo : Value} (h : (Value.slice (some ⟨g, 0, none⟩) n c).ownBlock = none ∨ (Value.slice (some ⟨g, 0, none⟩) n c).ownBlock ≠ vo.ownBlock) : (Value.slice (some ⟨g, 0, none⟩) n' c').ownBlock = none ∨ (Value.slice (some ⟨g, 0, none⟩) n' c').ownBlock ≠ vo.ownBlock := h
section
variable (ps : List (Int × Int)) (K V : Int) (w W : World) (TB GB : Nat) (a : Option Addr) (c : Nat) (HW : Hid (RefW w K V TB GB W)) (HL : Hid (ps.length ≤ 64)) (c19 c20 c21 c22 c23 : Value) (Q0 : Exit → Act → World → Prop)
include HW HL
set_option maxRecDepth 1000000 in
set_option maxHeartbeats 8000000 in
theorem round_good (j t : Nat) (ht : t < 256) (hj : (j : Int) < ps.length) (pb off : Nat) (ha : a = some ⟨pb, off, none⟩) (z : Inc) (q : Nat) (m : Int) (s : List Int) (o : List (Int × Int)) (sa oa : Option Addr) (sc oc : Nat) (hq1 : 1 ≤ q) (hq2 : q ≤ 16) (hs8 : s.length ≤ 8) (hi : ∀ x ∈ s, In64 x) (ho8 : o.length ≤ 8)
    (hs : (ext W z).ownsRow W.heap.size 2 1 (.slice sa s.length sc) s.length (ints s)) (ho : (ext W z).ownsRow W.heap.size 24 2 (.slice oa o.length oc) o.length (recs o)) (hne : (Value.slice sa s.length sc).ownBlock = none ∨ (Value.slice sa s.length sc).ownBlock ≠ (Value.slice oa o.length oc).ownBlock)
    (hg : Good ps.length K V (stepS twoS q m ⟨K, V, s, o, j, 0⟩)) (hr : runM ps 256 (m0 K V) = runM ps (255 - t) (stepS twoS q m ⟨K, V, s, o, j, 0⟩))
    (hp0 : (ext W z).cell? ⟨pb, off + j * 2, none⟩ = some (.int .i64 (q : Int))) (hp1 : (ext W z).cell? ⟨pb, off + j * 2 + 1, none⟩ = some (.int .i64 m)) (u13 u14 u15 u16 u17 u18 u24 u25 u26 u27 u28 u29 u30 u31 u32 u33 u34 u35 u36 u37 u38 u39 u40 u41 u42 u43 u44 u45 u46 u47 u48 u49 u50 u51 u52 u53 u54 u55 u56 u57 u58 u59 u60 u61 u62 u63 u64 u65 u66 u67 u68 u69 u70 u71 u72 u73 u74 u75 u76 u77 u78 u79 u80 u81 u82 u83 u84 u85 u86 u87 u88 u89 u90 u91 u92 u93 u94 u95 u96 u97 u98 u99 u100 u101 u102 u103 u104 u105 u106 u107 u108 u109 u110 u111 u112 u113 u114 u115 u116 u117 u118 u119 u120 u121 u122 u123 u124 u125 u126 u127 u128 u129 u130 u131 u132 u133 u134 u135 u136 u137 u138 u139 u140 u141 u142 u143 u144 u145 u146 u147 u148 u149 u150 u151 u152 u153 u154 u155 u156 u157 u158 : Value) :
    Code.wp Try.prog body7 (Exit.then (fun a' w'' => WI ps K V w W TB GB a c c19 c20 c21 c22 c23 a' w'' ∧ Wmu a' < Wmu ⟨#[.slice a ps.length c, .agg #[.int .i64 K, .int .i64 V], undef, .pointer (some ⟨w.heap.size, 0, none⟩), .slice none 0 0, .int .i64 0, .pointer (some ⟨TB, 0, none⟩), .pointer (some ⟨GB, 0, none⟩), .slice sa s.length sc, .slice oa o.length oc, .int .i64 j, .int .i64 0, .int .i64 t, u13, u14, u15, u16, u17, u18, c19, c20, c21, c22, c23, u24, u25, u26, u27, u28, u29, u30, u31, u32, u33, u34, u35, u36, u37, u38, u39, u40, u41, u42, u43, u44, u45, u46, u47, u48, u49, u50, u51, u52, u53, u54, u55, u56, u57, u58, u59, u60, u61, u62, u63, u64, u65, u66, u67, u68, u69, u70, u71, u72, u73, u74, u75, u76, u77, u78, u79, u80, u81, u82, u83, u84, u85, u86, u87, u88, u89, u90, u91, u92, u93, u94, u95, u96, u97, u98, u99, u100, u101, u102, u103, u104, u105, u106, u107, u108, u109, u110, u111, u112, u113, u114, u115, u116, u117, u118, u119, u120, u121, u122, u123, u124, u125, u126, u127, u128, u129, u130, u131, u132, u133, u134, u135, u136, u137, u138, u139, u140, u141, u142, u143, u144, u145, u146, u147, u148, u149, u150, u151, u152, u153, u154, u155, u156, u157, u158, undef, undef, undef, undef, undef, undef, undef, undef, undef, undef], []⟩) Q0) ⟨#[.slice a ps.length c, .agg #[.int .i64 K, .int .i64 V], undef, .pointer (some ⟨w.heap.size, 0, none⟩), .slice none 0 0, .int .i64 0, .pointer (some ⟨TB, 0, none⟩), .pointer (some ⟨GB, 0, none⟩), .slice sa s.length sc, .slice oa o.length oc, .int .i64 j, .int .i64 0, .int .i64 t, u13, u14, u15, u16, u17, u18, c19, c20, c21, c22, c23, u24, u25, u26, u27, u28, u29, u30, u31, u32, u33, u34, u35, u36, u37, u38, u39, u40, u41, u42, u43, u44, u45, u46, u47, u48, u49, u50, u51, u52, u53, u54, u55, u56, u57, u58, u59, u60, u61, u62, u63, u64, u65, u66, u67, u68, u69, u70, u71, u72, u73, u74, u75, u76, u77, u78, u79, u80, u81, u82, u83, u84, u85, u86, u87, u88, u89, u90, u91, u92, u93, u94, u95, u96, u97, u98, u99, u100, u101, u102, u103, u104, u105, u106, u107, u108, u109, u110, u111, u112, u113, u114, u115, u116, u117, u118, u119, u120, u121, u122, u123, u124, u125, u126, u127, u128, u129, u130, u131, u132, u133, u134, u135, u136, u137, u138, u139, u140, u141, u142, u143, u144, u145, u146, u147, u148, u149, u150, u151, u152, u153, u154, u155, u156, u157, u158, undef, undef, undef, undef, undef, undef, undef, undef, undef, undef], []⟩ (ext W z) := by
  have HO := Lib.hid ho
  have HN := Lib.hid hne
  have HO8 := Lib.hid ho8
  have hcap := own_cap hs
  have tkc := fun i u h => HW.out.tk i u h z
  have gvc := fun i u h => HW.out.gv i u h z
  have bad1 : (stepS twoS q m ⟨K, V, s, o, j, 0⟩).bad = 1 → outP (runM ps 256 (m0 K V)) = ([(K, -9223372036854775808 + 1)], 1) := fun h => by rw [hr]; exact out_bad hg.k h (by decide)
  obtain rfl | rfl | rfl | hq | rfl | rfl | rfl | rfl | rfl | rfl : q = 1 ∨ q = 2 ∨ q = 3 ∨ (4 ≤ q ∧ q ≤ 10) ∨ q = 11 ∨ q = 12 ∨ q = 13 ∨ q = 14 ∨ q = 15 ∨ q = 16 := by omega
  · by_cases h8 : s.length = 8
    · have hb : (stepS twoS 1 m ⟨K, V, s, o, j, 0⟩).bad = 1 := by
        show (pushS ⟨K, V, s, o, (j : Int) + 1, 0⟩ m).bad = 1
        unfold pushS
        rw [if_pos h8]
      exact ref_over ps K V w W TB GB a c HW HL c19 c20 c21 c22 c23 Q0 j t ht hj pb off ha z 1 m 0 1 sa s.length sc _ (by omega) (tkc _ _ rfl) (gvc _ _ rfl) (by omega) (by omega) hs8 (by decide) (by decide) (bad1 hb) hp0 hp1 u13 u14 u15 u16 u17 u18 u24 u25 u26 u27 u28 u29 u30 u31 u32 u33 u34 u35 u36 u37 u38 u39 u40 u41 u42 u43 u44 u45 u46 u47 u48 u49 u50 u51 u52 u53 u54 u55 u56 u57 u58 u59 u60 u61 u62 u63 u64 u65 u66 u67 u68 u69 u70 u71 u72 u73 u74 u75 u76 u77 u78 u79 u80 u81 u82 u83 u84 u85 u86 u87 u88 u89 u90 u91 u92 u93 u94 u95 u96 u97 u98 u99 u100 u101 u102 u103 u104 u105 u106 u107 u108 u109 u110 u111 u112 u113 u114 u115 u116 u117 u118 u119 u120 u121 u122 u123 u124 u125 u126 u127 u128 u129 u130 u131 u132 u133 u134 u135 u136 u137 u138 u139 u140 u141 u142 u143 u144 u145 u146 u147 u148 u149 u150 u151 u152 u153 u154 u155 u156 u157 u158
    · have e : stepS twoS 1 m ⟨K, V, s, o, j, 0⟩ = ⟨K, V, m :: s, o, (j : Int) + 1, 0⟩ := by
        show pushS ⟨K, V, s, o, (j : Int) + 1, 0⟩ m = _
        unfold pushS
        rw [if_neg h8]
      have hg' := hg
      have hr' := hr
      rw [show (((1 : Nat) : Int)) = 1 from rfl, e] at hg' hr'
      exact ref_push ps K V w W TB GB a c HW HL c19 c20 c21 c22 c23 Q0 j t ht hj pb off ha z m s.length sc s o oa oc rfl (by omega) (by omega) (tkc _ _ rfl) (gvc _ _ rfl) sa (Lib.hid hs) HO HN hg' hr' hp0 hp1 u13 u14 u15 u16 u17 u18 u24 u25 u26 u27 u28 u29 u30 u31 u32 u33 u34 u35 u36 u37 u38 u39 u40 u41 u42 u43 u44 u45 u46 u47 u48 u49 u50 u51 u52 u53 u54 u55 u56 u57 u58 u59 u60 u61 u62 u63 u64 u65 u66 u67 u68 u69 u70 u71 u72 u73 u74 u75 u76 u77 u78 u79 u80 u81 u82 u83 u84 u85 u86 u87 u88 u89 u90 u91 u92 u93 u94 u95 u96 u97 u98 u99 u100 u101 u102 u103 u104 u105 u106 u107 u108 u109 u110 u111 u112 u113 u114 u115 u116 u117 u118 u119 u120 u121 u122 u123 u124 u125 u126 u127 u128 u129 u130 u131 u132 u133 u134 u135 u136 u137 u138 u139 u140 u141 u142 u143 u144 u145 u146 u147 u148 u149 u150 u151 u152 u153 u154 u155 u156 u157 u158
  · by_cases h8 : s.length = 8
    · have hb : (stepS twoS 2 m ⟨K, V, s, o, j, 0⟩).bad = 1 := by
        show (pushS ⟨K, V, s, o, (j : Int) + 1, 0⟩ K).bad = 1
        unfold pushS
        rw [if_pos h8]
      exact ref_over ps K V w W TB GB a c HW HL c19 c20 c21 c22 c23 Q0 j t ht hj pb off ha z 2 m 0 1 sa s.length sc _ (by omega) (tkc _ _ rfl) (gvc _ _ rfl) (by omega) (by omega) hs8 (by decide) (by decide) (bad1 hb) hp0 hp1 u13 u14 u15 u16 u17 u18 u24 u25 u26 u27 u28 u29 u30 u31 u32 u33 u34 u35 u36 u37 u38 u39 u40 u41 u42 u43 u44 u45 u46 u47 u48 u49 u50 u51 u52 u53 u54 u55 u56 u57 u58 u59 u60 u61 u62 u63 u64 u65 u66 u67 u68 u69 u70 u71 u72 u73 u74 u75 u76 u77 u78 u79 u80 u81 u82 u83 u84 u85 u86 u87 u88 u89 u90 u91 u92 u93 u94 u95 u96 u97 u98 u99 u100 u101 u102 u103 u104 u105 u106 u107 u108 u109 u110 u111 u112 u113 u114 u115 u116 u117 u118 u119 u120 u121 u122 u123 u124 u125 u126 u127 u128 u129 u130 u131 u132 u133 u134 u135 u136 u137 u138 u139 u140 u141 u142 u143 u144 u145 u146 u147 u148 u149 u150 u151 u152 u153 u154 u155 u156 u157 u158
    · have e : stepS twoS 2 m ⟨K, V, s, o, j, 0⟩ = ⟨K, V, K :: s, o, (j : Int) + 1, 0⟩ := by
        show pushS ⟨K, V, s, o, (j : Int) + 1, 0⟩ K = _
        unfold pushS
        rw [if_neg h8]
      have hg' := hg
      have hr' := hr
      rw [show (((2 : Nat) : Int)) = 2 from rfl, e] at hg' hr'
      exact ref_key ps K V w W TB GB a c HW HL c19 c20 c21 c22 c23 Q0 j t ht hj pb off ha z m s.length sc s o oa oc rfl (by omega) (by omega) (tkc _ _ rfl) (gvc _ _ rfl) sa (Lib.hid hs) HO HN hg' hr' hp0 hp1 u13 u14 u15 u16 u17 u18 u24 u25 u26 u27 u28 u29 u30 u31 u32 u33 u34 u35 u36 u37 u38 u39 u40 u41 u42 u43 u44 u45 u46 u47 u48 u49 u50 u51 u52 u53 u54 u55 u56 u57 u58 u59 u60 u61 u62 u63 u64 u65 u66 u67 u68 u69 u70 u71 u72 u73 u74 u75 u76 u77 u78 u79 u80 u81 u82 u83 u84 u85 u86 u87 u88 u89 u90 u91 u92 u93 u94 u95 u96 u97 u98 u99 u100 u101 u102 u103 u104 u105 u106 u107 u108 u109 u110 u111 u112 u113 u114 u115 u116 u117 u118 u119 u120 u121 u122 u123 u124 u125 u126 u127 u128 u129 u130 u131 u132 u133 u134 u135 u136 u137 u138 u139 u140 u141 u142 u143 u144 u145 u146 u147 u148 u149 u150 u151 u152 u153 u154 u155 u156 u157 u158
  · by_cases h8 : s.length = 8
    · have hb : (stepS twoS 3 m ⟨K, V, s, o, j, 0⟩).bad = 1 := by
        show (pushS ⟨K, V, s, o, (j : Int) + 1, 0⟩ V).bad = 1
        unfold pushS
        rw [if_pos h8]
      exact ref_over ps K V w W TB GB a c HW HL c19 c20 c21 c22 c23 Q0 j t ht hj pb off ha z 3 m 0 1 sa s.length sc _ (by omega) (tkc _ _ rfl) (gvc _ _ rfl) (by omega) (by omega) hs8 (by decide) (by decide) (bad1 hb) hp0 hp1 u13 u14 u15 u16 u17 u18 u24 u25 u26 u27 u28 u29 u30 u31 u32 u33 u34 u35 u36 u37 u38 u39 u40 u41 u42 u43 u44 u45 u46 u47 u48 u49 u50 u51 u52 u53 u54 u55 u56 u57 u58 u59 u60 u61 u62 u63 u64 u65 u66 u67 u68 u69 u70 u71 u72 u73 u74 u75 u76 u77 u78 u79 u80 u81 u82 u83 u84 u85 u86 u87 u88 u89 u90 u91 u92 u93 u94 u95 u96 u97 u98 u99 u100 u101 u102 u103 u104 u105 u106 u107 u108 u109 u110 u111 u112 u113 u114 u115 u116 u117 u118 u119 u120 u121 u122 u123 u124 u125 u126 u127 u128 u129 u130 u131 u132 u133 u134 u135 u136 u137 u138 u139 u140 u141 u142 u143 u144 u145 u146 u147 u148 u149 u150 u151 u152 u153 u154 u155 u156 u157 u158
    · have e : stepS twoS 3 m ⟨K, V, s, o, j, 0⟩ = ⟨K, V, V :: s, o, (j : Int) + 1, 0⟩ := by
        show pushS ⟨K, V, s, o, (j : Int) + 1, 0⟩ V = _
        unfold pushS
        rw [if_neg h8]
      have hg' := hg
      have hr' := hr
      rw [show (((3 : Nat) : Int)) = 3 from rfl, e] at hg' hr'
      exact ref_val ps K V w W TB GB a c HW HL c19 c20 c21 c22 c23 Q0 j t ht hj pb off ha z m s.length sc s o oa oc rfl (by omega) (by omega) (tkc _ _ rfl) (gvc _ _ rfl) sa (Lib.hid hs) HO HN hg' hr' hp0 hp1 u13 u14 u15 u16 u17 u18 u24 u25 u26 u27 u28 u29 u30 u31 u32 u33 u34 u35 u36 u37 u38 u39 u40 u41 u42 u43 u44 u45 u46 u47 u48 u49 u50 u51 u52 u53 u54 u55 u56 u57 u58 u59 u60 u61 u62 u63 u64 u65 u66 u67 u68 u69 u70 u71 u72 u73 u74 u75 u76 u77 u78 u79 u80 u81 u82 u83 u84 u85 u86 u87 u88 u89 u90 u91 u92 u93 u94 u95 u96 u97 u98 u99 u100 u101 u102 u103 u104 u105 u106 u107 u108 u109 u110 u111 u112 u113 u114 u115 u116 u117 u118 u119 u120 u121 u122 u123 u124 u125 u126 u127 u128 u129 u130 u131 u132 u133 u134 u135 u136 u137 u138 u139 u140 u141 u142 u143 u144 u145 u146 u147 u148 u149 u150 u151 u152 u153 u154 u155 u156 u157 u158
  · obtain ⟨hq4, hq10⟩ := hq
    have htq : tkA[q]? = some (.int .i64 2) := by
      obtain rfl | rfl | rfl | rfl | rfl | rfl | rfl : q = 4 ∨ q = 5 ∨ q = 6 ∨ q = 7 ∨ q = 8 ∨ q = 9 ∨ q = 10 := by omega
      all_goals rfl
    have hgq : gvA[q]? = some (.int .i64 1) := by
      obtain rfl | rfl | rfl | rfl | rfl | rfl | rfl : q = 4 ∨ q = 5 ∨ q = 6 ∨ q = 7 ∨ q = 8 ∨ q = 9 ∨ q = 10 := by omega
      all_goals rfl
    have hS : ∀ s, stepS twoS q m ⟨K, V, s, o, j, 0⟩ = (match s with
        | b :: a :: t => pushS ⟨K, V, t, o, (j : Int) + 1, (twoS q a b).2⟩ (twoS q a b).1
        | _ => ⟨K, V, s, o, (j : Int) + 1, 1⟩) := fun s => by
      unfold stepS
      rw [if_neg (by simp only [isMove, decide_eq_true_eq]; omega), if_neg (by omega), if_neg (by omega), if_neg (by omega)]
      rcases s with _ | ⟨b, _ | ⟨a, t⟩⟩ <;> rfl
    rcases s with _ | ⟨y, _ | ⟨x, l⟩⟩
    · exact ref_few ps K V w W TB GB a c HW HL c19 c20 c21 c22 c23 Q0 j t ht hj pb off ha z q m 2 _ _ sc _ (by omega) (tkc _ _ htq) (by simp) (by simp) (by decide) (bad1 (by rw [hS])) hp0 hp1 u13 u14 u15 u16 u17 u18 u24 u25 u26 u27 u28 u29 u30 u31 u32 u33 u34 u35 u36 u37 u38 u39 u40 u41 u42 u43 u44 u45 u46 u47 u48 u49 u50 u51 u52 u53 u54 u55 u56 u57 u58 u59 u60 u61 u62 u63 u64 u65 u66 u67 u68 u69 u70 u71 u72 u73 u74 u75 u76 u77 u78 u79 u80 u81 u82 u83 u84 u85 u86 u87 u88 u89 u90 u91 u92 u93 u94 u95 u96 u97 u98 u99 u100 u101 u102 u103 u104 u105 u106 u107 u108 u109 u110 u111 u112 u113 u114 u115 u116 u117 u118 u119 u120 u121 u122 u123 u124 u125 u126 u127 u128 u129 u130 u131 u132 u133 u134 u135 u136 u137 u138 u139 u140 u141 u142 u143 u144 u145 u146 u147 u148 u149 u150 u151 u152 u153 u154 u155 u156 u157 u158
    · exact ref_few ps K V w W TB GB a c HW HL c19 c20 c21 c22 c23 Q0 j t ht hj pb off ha z q m 2 _ _ sc _ (by omega) (tkc _ _ htq) (by simp) (by simp) (by decide) (bad1 (by rw [hS])) hp0 hp1 u13 u14 u15 u16 u17 u18 u24 u25 u26 u27 u28 u29 u30 u31 u32 u33 u34 u35 u36 u37 u38 u39 u40 u41 u42 u43 u44 u45 u46 u47 u48 u49 u50 u51 u52 u53 u54 u55 u56 u57 u58 u59 u60 u61 u62 u63 u64 u65 u66 u67 u68 u69 u70 u71 u72 u73 u74 u75 u76 u77 u78 u79 u80 u81 u82 u83 u84 u85 u86 u87 u88 u89 u90 u91 u92 u93 u94 u95 u96 u97 u98 u99 u100 u101 u102 u103 u104 u105 u106 u107 u108 u109 u110 u111 u112 u113 u114 u115 u116 u117 u118 u119 u120 u121 u122 u123 u124 u125 u126 u127 u128 u129 u130 u131 u132 u133 u134 u135 u136 u137 u138 u139 u140 u141 u142 u143 u144 u145 u146 u147 u148 u149 u150 u151 u152 u153 u154 u155 u156 u157 u158
    · obtain ⟨g, rfl, -⟩ := own_form hs (by simp)
      obtain ⟨c0, c1, HT, hsc⟩ := pop2_facts hs
      simp only [List.length_cons] at hs8
      have e := hS (y :: x :: l)
      dsimp only at e
      rw [pushS, if_neg (by dsimp only; omega)] at e
      rw [e] at hg hr
      generalize hv : twoS q x y = v at *
      obtain ⟨yv, ev⟩ := v
      have hO := of_any q x y (by omega) (by omega) (hi x (by simp)) (hi y (by simp))
      rw [hv] at hO
      exact ref_two ps K V w W TB GB a c HW HL c19 c20 c21 c22 c23 Q0 j t ht hj pb off ha z q hq4 hq10 m l.length sc l o oa oc rfl (by omega) (by omega) (tkc _ _ htq) (gvc _ _ hgq) g x y c0 c1 (Lib.hid HT) HO (Lib.hid (apart_len HN.out)) yv ev (Lib.hid hO) (Lib.hid (fun h => by subst h; exact ⟨hg, hr⟩)) (Lib.hid (fun h => ⟨by have := hg.b0; dsimp only at this; omega, hg.b1, by rw [hr]; exact out_bad hg.k rfl h⟩)) hp0 hp1 u13 u14 u15 u16 u17 u18 u24 u25 u26 u27 u28 u29 u30 u31 u32 u33 u34 u35 u36 u37 u38 u39 u40 u41 u42 u43 u44 u45 u46 u47 u48 u49 u50 u51 u52 u53 u54 u55 u56 u57 u58 u59 u60 u61 u62 u63 u64 u65 u66 u67 u68 u69 u70 u71 u72 u73 u74 u75 u76 u77 u78 u79 u80 u81 u82 u83 u84 u85 u86 u87 u88 u89 u90 u91 u92 u93 u94 u95 u96 u97 u98 u99 u100 u101 u102 u103 u104 u105 u106 u107 u108 u109 u110 u111 u112 u113 u114 u115 u116 u117 u118 u119 u120 u121 u122 u123 u124 u125 u126 u127 u128 u129 u130 u131 u132 u133 u134 u135 u136 u137 u138 u139 u140 u141 u142 u143 u144 u145 u146 u147 u148 u149 u150 u151 u152 u153 u154 u155 u156 u157 u158
  · cases s with
    | nil => exact ref_few ps K V w W TB GB a c HW HL c19 c20 c21 c22 c23 Q0 j t ht hj pb off ha z 11 m 1 _ _ sc _ (by omega) (tkc _ _ rfl) (by simp) (by simp) (by decide) (bad1 rfl) hp0 hp1 u13 u14 u15 u16 u17 u18 u24 u25 u26 u27 u28 u29 u30 u31 u32 u33 u34 u35 u36 u37 u38 u39 u40 u41 u42 u43 u44 u45 u46 u47 u48 u49 u50 u51 u52 u53 u54 u55 u56 u57 u58 u59 u60 u61 u62 u63 u64 u65 u66 u67 u68 u69 u70 u71 u72 u73 u74 u75 u76 u77 u78 u79 u80 u81 u82 u83 u84 u85 u86 u87 u88 u89 u90 u91 u92 u93 u94 u95 u96 u97 u98 u99 u100 u101 u102 u103 u104 u105 u106 u107 u108 u109 u110 u111 u112 u113 u114 u115 u116 u117 u118 u119 u120 u121 u122 u123 u124 u125 u126 u127 u128 u129 u130 u131 u132 u133 u134 u135 u136 u137 u138 u139 u140 u141 u142 u143 u144 u145 u146 u147 u148 u149 u150 u151 u152 u153 u154 u155 u156 u157 u158
    | cons x l =>
      obtain ⟨g, rfl, -⟩ := own_form hs (by simp)
      obtain ⟨c0, HT, hsc⟩ := pop1_facts hs
      simp only [List.length_cons] at hs8
      by_cases h7 : l.length = 7
      · have hb : (stepS twoS 11 m ⟨K, V, x :: l, o, j, 0⟩).bad = 1 := by
          show (pushS (pushS ⟨K, V, l, o, (j : Int) + 1, 0⟩ x) x).bad = 1
          rw [show pushS ⟨K, V, l, o, (j : Int) + 1, 0⟩ x = ⟨K, V, x :: l, o, (j : Int) + 1, 0⟩ by rw [pushS, if_neg (by dsimp only; omega)], pushS, if_pos (by simp [h7])]
        exact ref_over ps K V w W TB GB a c HW HL c19 c20 c21 c22 c23 Q0 j t ht hj pb off ha z 11 m 1 2 _ (l.length + 1) sc _ (by omega) (tkc _ _ rfl) (gvc _ _ rfl) (by omega) (by omega) hs8 (by decide) (by decide) (bad1 hb) hp0 hp1 u13 u14 u15 u16 u17 u18 u24 u25 u26 u27 u28 u29 u30 u31 u32 u33 u34 u35 u36 u37 u38 u39 u40 u41 u42 u43 u44 u45 u46 u47 u48 u49 u50 u51 u52 u53 u54 u55 u56 u57 u58 u59 u60 u61 u62 u63 u64 u65 u66 u67 u68 u69 u70 u71 u72 u73 u74 u75 u76 u77 u78 u79 u80 u81 u82 u83 u84 u85 u86 u87 u88 u89 u90 u91 u92 u93 u94 u95 u96 u97 u98 u99 u100 u101 u102 u103 u104 u105 u106 u107 u108 u109 u110 u111 u112 u113 u114 u115 u116 u117 u118 u119 u120 u121 u122 u123 u124 u125 u126 u127 u128 u129 u130 u131 u132 u133 u134 u135 u136 u137 u138 u139 u140 u141 u142 u143 u144 u145 u146 u147 u148 u149 u150 u151 u152 u153 u154 u155 u156 u157 u158
      · have e : stepS twoS 11 m ⟨K, V, x :: l, o, j, 0⟩ = ⟨K, V, x :: x :: l, o, (j : Int) + 1, 0⟩ := by
          show pushS (pushS ⟨K, V, l, o, (j : Int) + 1, 0⟩ x) x = _
          rw [show pushS ⟨K, V, l, o, (j : Int) + 1, 0⟩ x = ⟨K, V, x :: l, o, (j : Int) + 1, 0⟩ by rw [pushS, if_neg (by dsimp only; omega)], pushS, if_neg (by simp; omega)]
        rw [show (((11 : Nat) : Int)) = 11 from rfl, e] at hg hr
        exact ref_dup ps K V w W TB GB a c HW HL c19 c20 c21 c22 c23 Q0 j t ht hj pb off ha z m l.length sc l o oa oc rfl (by omega) (by omega) (tkc _ _ rfl) (gvc _ _ rfl) g x c0 (Lib.hid HT) HO (Lib.hid (apart_len HN.out)) hg hr hp0 hp1 u13 u14 u15 u16 u17 u18 u24 u25 u26 u27 u28 u29 u30 u31 u32 u33 u34 u35 u36 u37 u38 u39 u40 u41 u42 u43 u44 u45 u46 u47 u48 u49 u50 u51 u52 u53 u54 u55 u56 u57 u58 u59 u60 u61 u62 u63 u64 u65 u66 u67 u68 u69 u70 u71 u72 u73 u74 u75 u76 u77 u78 u79 u80 u81 u82 u83 u84 u85 u86 u87 u88 u89 u90 u91 u92 u93 u94 u95 u96 u97 u98 u99 u100 u101 u102 u103 u104 u105 u106 u107 u108 u109 u110 u111 u112 u113 u114 u115 u116 u117 u118 u119 u120 u121 u122 u123 u124 u125 u126 u127 u128 u129 u130 u131 u132 u133 u134 u135 u136 u137 u138 u139 u140 u141 u142 u143 u144 u145 u146 u147 u148 u149 u150 u151 u152 u153 u154 u155 u156 u157 u158
  · rcases s with _ | ⟨y, _ | ⟨x, l⟩⟩
    · exact ref_few ps K V w W TB GB a c HW HL c19 c20 c21 c22 c23 Q0 j t ht hj pb off ha z 12 m 2 _ _ sc _ (by omega) (tkc _ _ rfl) (by simp) (by simp) (by decide) (bad1 rfl) hp0 hp1 u13 u14 u15 u16 u17 u18 u24 u25 u26 u27 u28 u29 u30 u31 u32 u33 u34 u35 u36 u37 u38 u39 u40 u41 u42 u43 u44 u45 u46 u47 u48 u49 u50 u51 u52 u53 u54 u55 u56 u57 u58 u59 u60 u61 u62 u63 u64 u65 u66 u67 u68 u69 u70 u71 u72 u73 u74 u75 u76 u77 u78 u79 u80 u81 u82 u83 u84 u85 u86 u87 u88 u89 u90 u91 u92 u93 u94 u95 u96 u97 u98 u99 u100 u101 u102 u103 u104 u105 u106 u107 u108 u109 u110 u111 u112 u113 u114 u115 u116 u117 u118 u119 u120 u121 u122 u123 u124 u125 u126 u127 u128 u129 u130 u131 u132 u133 u134 u135 u136 u137 u138 u139 u140 u141 u142 u143 u144 u145 u146 u147 u148 u149 u150 u151 u152 u153 u154 u155 u156 u157 u158
    · exact ref_few ps K V w W TB GB a c HW HL c19 c20 c21 c22 c23 Q0 j t ht hj pb off ha z 12 m 2 _ _ sc _ (by omega) (tkc _ _ rfl) (by simp) (by simp) (by decide) (bad1 rfl) hp0 hp1 u13 u14 u15 u16 u17 u18 u24 u25 u26 u27 u28 u29 u30 u31 u32 u33 u34 u35 u36 u37 u38 u39 u40 u41 u42 u43 u44 u45 u46 u47 u48 u49 u50 u51 u52 u53 u54 u55 u56 u57 u58 u59 u60 u61 u62 u63 u64 u65 u66 u67 u68 u69 u70 u71 u72 u73 u74 u75 u76 u77 u78 u79 u80 u81 u82 u83 u84 u85 u86 u87 u88 u89 u90 u91 u92 u93 u94 u95 u96 u97 u98 u99 u100 u101 u102 u103 u104 u105 u106 u107 u108 u109 u110 u111 u112 u113 u114 u115 u116 u117 u118 u119 u120 u121 u122 u123 u124 u125 u126 u127 u128 u129 u130 u131 u132 u133 u134 u135 u136 u137 u138 u139 u140 u141 u142 u143 u144 u145 u146 u147 u148 u149 u150 u151 u152 u153 u154 u155 u156 u157 u158
    · obtain ⟨g, rfl, -⟩ := own_form hs (by simp)
      obtain ⟨c0, c1, HT, hsc⟩ := pop2_facts hs
      simp only [List.length_cons] at hs8
      have e : stepS twoS 12 m ⟨K, V, y :: x :: l, o, j, 0⟩ = ⟨K, V, x :: y :: l, o, (j : Int) + 1, 0⟩ := by
        show pushS (pushS ⟨K, V, l, o, (j : Int) + 1, 0⟩ y) x = _
        rw [show pushS ⟨K, V, l, o, (j : Int) + 1, 0⟩ y = ⟨K, V, y :: l, o, (j : Int) + 1, 0⟩ by rw [pushS, if_neg (by dsimp only; omega)], pushS, if_neg (by simp; omega)]
      rw [show (((12 : Nat) : Int)) = 12 from rfl, e] at hg hr
      exact ref_swap ps K V w W TB GB a c HW HL c19 c20 c21 c22 c23 Q0 j t ht hj pb off ha z m l.length sc l o oa oc rfl (by omega) (by omega) (tkc _ _ rfl) (gvc _ _ rfl) g x y c0 c1 (Lib.hid HT) HO (Lib.hid (apart_len HN.out)) hg hr hp0 hp1 u13 u14 u15 u16 u17 u18 u24 u25 u26 u27 u28 u29 u30 u31 u32 u33 u34 u35 u36 u37 u38 u39 u40 u41 u42 u43 u44 u45 u46 u47 u48 u49 u50 u51 u52 u53 u54 u55 u56 u57 u58 u59 u60 u61 u62 u63 u64 u65 u66 u67 u68 u69 u70 u71 u72 u73 u74 u75 u76 u77 u78 u79 u80 u81 u82 u83 u84 u85 u86 u87 u88 u89 u90 u91 u92 u93 u94 u95 u96 u97 u98 u99 u100 u101 u102 u103 u104 u105 u106 u107 u108 u109 u110 u111 u112 u113 u114 u115 u116 u117 u118 u119 u120 u121 u122 u123 u124 u125 u126 u127 u128 u129 u130 u131 u132 u133 u134 u135 u136 u137 u138 u139 u140 u141 u142 u143 u144 u145 u146 u147 u148 u149 u150 u151 u152 u153 u154 u155 u156 u157 u158
  · cases s with
    | nil => exact ref_few ps K V w W TB GB a c HW HL c19 c20 c21 c22 c23 Q0 j t ht hj pb off ha z 13 m 1 _ _ sc _ (by omega) (tkc _ _ rfl) (by simp) (by simp) (by decide) (bad1 rfl) hp0 hp1 u13 u14 u15 u16 u17 u18 u24 u25 u26 u27 u28 u29 u30 u31 u32 u33 u34 u35 u36 u37 u38 u39 u40 u41 u42 u43 u44 u45 u46 u47 u48 u49 u50 u51 u52 u53 u54 u55 u56 u57 u58 u59 u60 u61 u62 u63 u64 u65 u66 u67 u68 u69 u70 u71 u72 u73 u74 u75 u76 u77 u78 u79 u80 u81 u82 u83 u84 u85 u86 u87 u88 u89 u90 u91 u92 u93 u94 u95 u96 u97 u98 u99 u100 u101 u102 u103 u104 u105 u106 u107 u108 u109 u110 u111 u112 u113 u114 u115 u116 u117 u118 u119 u120 u121 u122 u123 u124 u125 u126 u127 u128 u129 u130 u131 u132 u133 u134 u135 u136 u137 u138 u139 u140 u141 u142 u143 u144 u145 u146 u147 u148 u149 u150 u151 u152 u153 u154 u155 u156 u157 u158
    | cons x l =>
      obtain ⟨g, rfl, -⟩ := own_form hs (by simp)
      obtain ⟨c0, HT, hsc⟩ := pop1_facts hs
      simp only [List.length_cons] at hs8
      exact ref_drop ps K V w W TB GB a c HW HL c19 c20 c21 c22 c23 Q0 j t ht hj pb off ha z m l.length sc l o oa oc rfl (by omega) (by omega) (tkc _ _ rfl) (gvc _ _ rfl) g x c0 (Lib.hid HT) HO (Lib.hid (apart_len HN.out)) hg hr hp0 hp1 u13 u14 u15 u16 u17 u18 u24 u25 u26 u27 u28 u29 u30 u31 u32 u33 u34 u35 u36 u37 u38 u39 u40 u41 u42 u43 u44 u45 u46 u47 u48 u49 u50 u51 u52 u53 u54 u55 u56 u57 u58 u59 u60 u61 u62 u63 u64 u65 u66 u67 u68 u69 u70 u71 u72 u73 u74 u75 u76 u77 u78 u79 u80 u81 u82 u83 u84 u85 u86 u87 u88 u89 u90 u91 u92 u93 u94 u95 u96 u97 u98 u99 u100 u101 u102 u103 u104 u105 u106 u107 u108 u109 u110 u111 u112 u113 u114 u115 u116 u117 u118 u119 u120 u121 u122 u123 u124 u125 u126 u127 u128 u129 u130 u131 u132 u133 u134 u135 u136 u137 u138 u139 u140 u141 u142 u143 u144 u145 u146 u147 u148 u149 u150 u151 u152 u153 u154 u155 u156 u157 u158
  · exact ref_jump ps K V w W TB GB a c HW HL c19 c20 c21 c22 c23 Q0 j t ht hj pb off ha z m s.length sc s o oa oc rfl (by omega) (by omega) (tkc _ _ rfl) (gvc _ _ rfl) sa (Lib.hid hs) HO HN hg hr hp0 hp1 u13 u14 u15 u16 u17 u18 u24 u25 u26 u27 u28 u29 u30 u31 u32 u33 u34 u35 u36 u37 u38 u39 u40 u41 u42 u43 u44 u45 u46 u47 u48 u49 u50 u51 u52 u53 u54 u55 u56 u57 u58 u59 u60 u61 u62 u63 u64 u65 u66 u67 u68 u69 u70 u71 u72 u73 u74 u75 u76 u77 u78 u79 u80 u81 u82 u83 u84 u85 u86 u87 u88 u89 u90 u91 u92 u93 u94 u95 u96 u97 u98 u99 u100 u101 u102 u103 u104 u105 u106 u107 u108 u109 u110 u111 u112 u113 u114 u115 u116 u117 u118 u119 u120 u121 u122 u123 u124 u125 u126 u127 u128 u129 u130 u131 u132 u133 u134 u135 u136 u137 u138 u139 u140 u141 u142 u143 u144 u145 u146 u147 u148 u149 u150 u151 u152 u153 u154 u155 u156 u157 u158
  · cases s with
    | nil => exact ref_few ps K V w W TB GB a c HW HL c19 c20 c21 c22 c23 Q0 j t ht hj pb off ha z 15 m 1 _ _ sc _ (by omega) (tkc _ _ rfl) (by simp) (by simp) (by decide) (bad1 rfl) hp0 hp1 u13 u14 u15 u16 u17 u18 u24 u25 u26 u27 u28 u29 u30 u31 u32 u33 u34 u35 u36 u37 u38 u39 u40 u41 u42 u43 u44 u45 u46 u47 u48 u49 u50 u51 u52 u53 u54 u55 u56 u57 u58 u59 u60 u61 u62 u63 u64 u65 u66 u67 u68 u69 u70 u71 u72 u73 u74 u75 u76 u77 u78 u79 u80 u81 u82 u83 u84 u85 u86 u87 u88 u89 u90 u91 u92 u93 u94 u95 u96 u97 u98 u99 u100 u101 u102 u103 u104 u105 u106 u107 u108 u109 u110 u111 u112 u113 u114 u115 u116 u117 u118 u119 u120 u121 u122 u123 u124 u125 u126 u127 u128 u129 u130 u131 u132 u133 u134 u135 u136 u137 u138 u139 u140 u141 u142 u143 u144 u145 u146 u147 u148 u149 u150 u151 u152 u153 u154 u155 u156 u157 u158
    | cons x l =>
      obtain ⟨g, rfl, -⟩ := own_form hs (by simp)
      obtain ⟨c0, HT, hsc⟩ := pop1_facts hs
      simp only [List.length_cons] at hs8
      have e : stepS twoS 15 m ⟨K, V, x :: l, o, j, 0⟩ = ⟨K, V, l, o, if x = 0 then m else (j : Int) + 1, 0⟩ := rfl
      rw [show (((15 : Nat) : Int)) = 15 from rfl, e] at hg hr
      by_cases hx : x = 0
      · rw [if_pos hx] at hg hr
        exact ref_zero ps K V w W TB GB a c HW HL c19 c20 c21 c22 c23 Q0 j t ht hj pb off ha z m l.length sc l o oa oc rfl (by omega) (by omega) (tkc _ _ rfl) (gvc _ _ rfl) g x c0 (Lib.hid HT) HO (Lib.hid (apart_len HN.out)) hx hg hr hp0 hp1 u13 u14 u15 u16 u17 u18 u24 u25 u26 u27 u28 u29 u30 u31 u32 u33 u34 u35 u36 u37 u38 u39 u40 u41 u42 u43 u44 u45 u46 u47 u48 u49 u50 u51 u52 u53 u54 u55 u56 u57 u58 u59 u60 u61 u62 u63 u64 u65 u66 u67 u68 u69 u70 u71 u72 u73 u74 u75 u76 u77 u78 u79 u80 u81 u82 u83 u84 u85 u86 u87 u88 u89 u90 u91 u92 u93 u94 u95 u96 u97 u98 u99 u100 u101 u102 u103 u104 u105 u106 u107 u108 u109 u110 u111 u112 u113 u114 u115 u116 u117 u118 u119 u120 u121 u122 u123 u124 u125 u126 u127 u128 u129 u130 u131 u132 u133 u134 u135 u136 u137 u138 u139 u140 u141 u142 u143 u144 u145 u146 u147 u148 u149 u150 u151 u152 u153 u154 u155 u156 u157 u158
      · rw [if_neg hx] at hg hr
        exact ref_nonz ps K V w W TB GB a c HW HL c19 c20 c21 c22 c23 Q0 j t ht hj pb off ha z m l.length sc l o oa oc rfl (by omega) (by omega) (tkc _ _ rfl) (gvc _ _ rfl) g x c0 (Lib.hid HT) HO (Lib.hid (apart_len HN.out)) hx hg hr hp0 hp1 u13 u14 u15 u16 u17 u18 u24 u25 u26 u27 u28 u29 u30 u31 u32 u33 u34 u35 u36 u37 u38 u39 u40 u41 u42 u43 u44 u45 u46 u47 u48 u49 u50 u51 u52 u53 u54 u55 u56 u57 u58 u59 u60 u61 u62 u63 u64 u65 u66 u67 u68 u69 u70 u71 u72 u73 u74 u75 u76 u77 u78 u79 u80 u81 u82 u83 u84 u85 u86 u87 u88 u89 u90 u91 u92 u93 u94 u95 u96 u97 u98 u99 u100 u101 u102 u103 u104 u105 u106 u107 u108 u109 u110 u111 u112 u113 u114 u115 u116 u117 u118 u119 u120 u121 u122 u123 u124 u125 u126 u127 u128 u129 u130 u131 u132 u133 u134 u135 u136 u137 u138 u139 u140 u141 u142 u143 u144 u145 u146 u147 u148 u149 u150 u151 u152 u153 u154 u155 u156 u157 u158
  · rcases s with _ | ⟨y, _ | ⟨x, l⟩⟩
    · exact ref_few ps K V w W TB GB a c HW HL c19 c20 c21 c22 c23 Q0 j t ht hj pb off ha z 16 m 2 _ _ sc _ (by omega) (tkc _ _ rfl) (by simp) (by simp) (by decide) (bad1 rfl) hp0 hp1 u13 u14 u15 u16 u17 u18 u24 u25 u26 u27 u28 u29 u30 u31 u32 u33 u34 u35 u36 u37 u38 u39 u40 u41 u42 u43 u44 u45 u46 u47 u48 u49 u50 u51 u52 u53 u54 u55 u56 u57 u58 u59 u60 u61 u62 u63 u64 u65 u66 u67 u68 u69 u70 u71 u72 u73 u74 u75 u76 u77 u78 u79 u80 u81 u82 u83 u84 u85 u86 u87 u88 u89 u90 u91 u92 u93 u94 u95 u96 u97 u98 u99 u100 u101 u102 u103 u104 u105 u106 u107 u108 u109 u110 u111 u112 u113 u114 u115 u116 u117 u118 u119 u120 u121 u122 u123 u124 u125 u126 u127 u128 u129 u130 u131 u132 u133 u134 u135 u136 u137 u138 u139 u140 u141 u142 u143 u144 u145 u146 u147 u148 u149 u150 u151 u152 u153 u154 u155 u156 u157 u158
    · exact ref_few ps K V w W TB GB a c HW HL c19 c20 c21 c22 c23 Q0 j t ht hj pb off ha z 16 m 2 _ _ sc _ (by omega) (tkc _ _ rfl) (by simp) (by simp) (by decide) (bad1 rfl) hp0 hp1 u13 u14 u15 u16 u17 u18 u24 u25 u26 u27 u28 u29 u30 u31 u32 u33 u34 u35 u36 u37 u38 u39 u40 u41 u42 u43 u44 u45 u46 u47 u48 u49 u50 u51 u52 u53 u54 u55 u56 u57 u58 u59 u60 u61 u62 u63 u64 u65 u66 u67 u68 u69 u70 u71 u72 u73 u74 u75 u76 u77 u78 u79 u80 u81 u82 u83 u84 u85 u86 u87 u88 u89 u90 u91 u92 u93 u94 u95 u96 u97 u98 u99 u100 u101 u102 u103 u104 u105 u106 u107 u108 u109 u110 u111 u112 u113 u114 u115 u116 u117 u118 u119 u120 u121 u122 u123 u124 u125 u126 u127 u128 u129 u130 u131 u132 u133 u134 u135 u136 u137 u138 u139 u140 u141 u142 u143 u144 u145 u146 u147 u148 u149 u150 u151 u152 u153 u154 u155 u156 u157 u158
    · obtain ⟨g, rfl, -⟩ := own_form hs (by simp)
      obtain ⟨c0, c1, HT, hsc⟩ := pop2_facts hs
      simp only [List.length_cons] at hs8
      have e : stepS twoS 16 m ⟨K, V, y :: x :: l, o, j, 0⟩ = if o.length = 8 then ⟨K, V, l, o, (j : Int) + 1, 5⟩ else ⟨K, V, l, o ++ [(x, y)], (j : Int) + 1, 0⟩ := rfl
      rw [show (((16 : Nat) : Int)) = 16 from rfl, e] at hg hr
      by_cases h8 : o.length = 8
      · rw [if_pos h8] at hg hr
        exact ref_full ps K V w W TB GB a c HW HL c19 c20 c21 c22 c23 Q0 j t ht hj pb off ha z m l.length sc l o oa oc rfl (by omega) (by omega) (tkc _ _ rfl) (gvc _ _ rfl) g x y c0 c1 (Lib.hid HT) HO (Lib.hid (apart_len HN.out)) HO8 (by simp; omega) (by rw [hr]; exact out_bad rfl rfl (by decide)) hp0 hp1 u13 u14 u15 u16 u17 u18 u24 u25 u26 u27 u28 u29 u30 u31 u32 u33 u34 u35 u36 u37 u38 u39 u40 u41 u42 u43 u44 u45 u46 u47 u48 u49 u50 u51 u52 u53 u54 u55 u56 u57 u58 u59 u60 u61 u62 u63 u64 u65 u66 u67 u68 u69 u70 u71 u72 u73 u74 u75 u76 u77 u78 u79 u80 u81 u82 u83 u84 u85 u86 u87 u88 u89 u90 u91 u92 u93 u94 u95 u96 u97 u98 u99 u100 u101 u102 u103 u104 u105 u106 u107 u108 u109 u110 u111 u112 u113 u114 u115 u116 u117 u118 u119 u120 u121 u122 u123 u124 u125 u126 u127 u128 u129 u130 u131 u132 u133 u134 u135 u136 u137 u138 u139 u140 u141 u142 u143 u144 u145 u146 u147 u148 u149 u150 u151 u152 u153 u154 u155 u156 u157 u158
      · rw [if_neg h8] at hg hr
        exact ref_emit ps K V w W TB GB a c HW HL c19 c20 c21 c22 c23 Q0 j t ht hj pb off ha z m l.length sc l o oa oc rfl (by omega) (by omega) (tkc _ _ rfl) (gvc _ _ rfl) g x y c0 c1 (Lib.hid HT) HO (Lib.hid (apart_len HN.out)) HO8 (by simp; omega) hg hr hp0 hp1 u13 u14 u15 u16 u17 u18 u24 u25 u26 u27 u28 u29 u30 u31 u32 u33 u34 u35 u36 u37 u38 u39 u40 u41 u42 u43 u44 u45 u46 u47 u48 u49 u50 u51 u52 u53 u54 u55 u56 u57 u58 u59 u60 u61 u62 u63 u64 u65 u66 u67 u68 u69 u70 u71 u72 u73 u74 u75 u76 u77 u78 u79 u80 u81 u82 u83 u84 u85 u86 u87 u88 u89 u90 u91 u92 u93 u94 u95 u96 u97 u98 u99 u100 u101 u102 u103 u104 u105 u106 u107 u108 u109 u110 u111 u112 u113 u114 u115 u116 u117 u118 u119 u120 u121 u122 u123 u124 u125 u126 u127 u128 u129 u130 u131 u132 u133 u134 u135 u136 u137 u138 u139 u140 u141 u142 u143 u144 u145 u146 u147 u148 u149 u150 u151 u152 u153 u154 u155 u156 u157 u158
end
end Go.Proofs.Ytddckdlkopohhaa
