/- The reference of layer 7: Run. -/
import Derived.Test.YtddckdlkopohhaaPrF
namespace Go.Proofs.Ytddckdlkopohhaa
set_option linter.unusedSimpArgs false
set_option linter.unusedVariables false
open Go.RowKit

section
variable (ps : List (Int × Int)) (K V : Int) (w W : World) (TB GB : Nat) (a : Option Addr) (c : Nat) (HW : Hid (RefW w K V TB GB W)) (HL : Hid (ps.length ≤ 64)) (c19 c20 c21 c22 c23 : Value) (Q0 : Exit → Act → World → Prop)
include HW HL
set_option maxRecDepth 1000000 in
set_option maxHeartbeats 8000000 in
theorem round7 (H : Rd w 2 ps.length (.slice a ps.length c) (recs ps)) (hK : In64 K) (hV : In64 V) (hn : ∀ r ∈ ps, In64 r.2) (hright : rightP ps = true) (hexit : ∀ a' w'', WX ps K V w W TB GB a c c19 c20 c21 c22 c23 a' w'' → Q0 (.exit 0) a' w'') (act : Act) (w' : World) (hI : WI ps K V w W TB GB a c c19 c20 c21 c22 c23 act w') :
    Code.wp Try.prog body7 (Exit.then (fun a' w'' => WI ps K V w W TB GB a c c19 c20 c21 c22 c23 a' w'' ∧ Wmu a' < Wmu act) Q0) act w' := by
  unfold WI at hI
  obtain ⟨u8, hI⟩ := hI
  obtain ⟨u9, hI⟩ := hI
  obtain ⟨u10, hI⟩ := hI
  obtain ⟨u11, hI⟩ := hI
  obtain ⟨u12, hI⟩ := hI
  obtain ⟨u13, hI⟩ := hI
  obtain ⟨u14, hI⟩ := hI
  obtain ⟨u15, hI⟩ := hI
  obtain ⟨u16, hI⟩ := hI
  obtain ⟨u17, hI⟩ := hI
  obtain ⟨u18, hI⟩ := hI
  obtain ⟨u24, hI⟩ := hI
  obtain ⟨u25, hI⟩ := hI
  obtain ⟨u26, hI⟩ := hI
  obtain ⟨u27, hI⟩ := hI
  obtain ⟨u28, hI⟩ := hI
  obtain ⟨u29, hI⟩ := hI
  obtain ⟨u30, hI⟩ := hI
  obtain ⟨u31, hI⟩ := hI
  obtain ⟨u32, hI⟩ := hI
  obtain ⟨u33, hI⟩ := hI
  obtain ⟨u34, hI⟩ := hI
  obtain ⟨u35, hI⟩ := hI
  obtain ⟨u36, hI⟩ := hI
  obtain ⟨u37, hI⟩ := hI
  obtain ⟨u38, hI⟩ := hI
  obtain ⟨u39, hI⟩ := hI
  obtain ⟨u40, hI⟩ := hI
  obtain ⟨u41, hI⟩ := hI
  obtain ⟨u42, hI⟩ := hI
  obtain ⟨u43, hI⟩ := hI
  obtain ⟨u44, hI⟩ := hI
  obtain ⟨u45, hI⟩ := hI
  obtain ⟨u46, hI⟩ := hI
  obtain ⟨u47, hI⟩ := hI
  obtain ⟨u48, hI⟩ := hI
  obtain ⟨u49, hI⟩ := hI
  obtain ⟨u50, hI⟩ := hI
  obtain ⟨u51, hI⟩ := hI
  obtain ⟨u52, hI⟩ := hI
  obtain ⟨u53, hI⟩ := hI
  obtain ⟨u54, hI⟩ := hI
  obtain ⟨u55, hI⟩ := hI
  obtain ⟨u56, hI⟩ := hI
  obtain ⟨u57, hI⟩ := hI
  obtain ⟨u58, hI⟩ := hI
  obtain ⟨u59, hI⟩ := hI
  obtain ⟨u60, hI⟩ := hI
  obtain ⟨u61, hI⟩ := hI
  obtain ⟨u62, hI⟩ := hI
  obtain ⟨u63, hI⟩ := hI
  obtain ⟨u64, hI⟩ := hI
  obtain ⟨u65, hI⟩ := hI
  obtain ⟨u66, hI⟩ := hI
  obtain ⟨u67, hI⟩ := hI
  obtain ⟨u68, hI⟩ := hI
  obtain ⟨u69, hI⟩ := hI
  obtain ⟨u70, hI⟩ := hI
  obtain ⟨u71, hI⟩ := hI
  obtain ⟨u72, hI⟩ := hI
  obtain ⟨u73, hI⟩ := hI
  obtain ⟨u74, hI⟩ := hI
  obtain ⟨u75, hI⟩ := hI
  obtain ⟨u76, hI⟩ := hI
  obtain ⟨u77, hI⟩ := hI
  obtain ⟨u78, hI⟩ := hI
  obtain ⟨u79, hI⟩ := hI
  obtain ⟨u80, hI⟩ := hI
  obtain ⟨u81, hI⟩ := hI
  obtain ⟨u82, hI⟩ := hI
  obtain ⟨u83, hI⟩ := hI
  obtain ⟨u84, hI⟩ := hI
  obtain ⟨u85, hI⟩ := hI
  obtain ⟨u86, hI⟩ := hI
  obtain ⟨u87, hI⟩ := hI
  obtain ⟨u88, hI⟩ := hI
  obtain ⟨u89, hI⟩ := hI
  obtain ⟨u90, hI⟩ := hI
  obtain ⟨u91, hI⟩ := hI
  obtain ⟨u92, hI⟩ := hI
  obtain ⟨u93, hI⟩ := hI
  obtain ⟨u94, hI⟩ := hI
  obtain ⟨u95, hI⟩ := hI
  obtain ⟨u96, hI⟩ := hI
  obtain ⟨u97, hI⟩ := hI
  obtain ⟨u98, hI⟩ := hI
  obtain ⟨u99, hI⟩ := hI
  obtain ⟨u100, hI⟩ := hI
  obtain ⟨u101, hI⟩ := hI
  obtain ⟨u102, hI⟩ := hI
  obtain ⟨u103, hI⟩ := hI
  obtain ⟨u104, hI⟩ := hI
  obtain ⟨u105, hI⟩ := hI
  obtain ⟨u106, hI⟩ := hI
  obtain ⟨u107, hI⟩ := hI
  obtain ⟨u108, hI⟩ := hI
  obtain ⟨u109, hI⟩ := hI
  obtain ⟨u110, hI⟩ := hI
  obtain ⟨u111, hI⟩ := hI
  obtain ⟨u112, hI⟩ := hI
  obtain ⟨u113, hI⟩ := hI
  obtain ⟨u114, hI⟩ := hI
  obtain ⟨u115, hI⟩ := hI
  obtain ⟨u116, hI⟩ := hI
  obtain ⟨u117, hI⟩ := hI
  obtain ⟨u118, hI⟩ := hI
  obtain ⟨u119, hI⟩ := hI
  obtain ⟨u120, hI⟩ := hI
  obtain ⟨u121, hI⟩ := hI
  obtain ⟨u122, hI⟩ := hI
  obtain ⟨u123, hI⟩ := hI
  obtain ⟨u124, hI⟩ := hI
  obtain ⟨u125, hI⟩ := hI
  obtain ⟨u126, hI⟩ := hI
  obtain ⟨u127, hI⟩ := hI
  obtain ⟨u128, hI⟩ := hI
  obtain ⟨u129, hI⟩ := hI
  obtain ⟨u130, hI⟩ := hI
  obtain ⟨u131, hI⟩ := hI
  obtain ⟨u132, hI⟩ := hI
  obtain ⟨u133, hI⟩ := hI
  obtain ⟨u134, hI⟩ := hI
  obtain ⟨u135, hI⟩ := hI
  obtain ⟨u136, hI⟩ := hI
  obtain ⟨u137, hI⟩ := hI
  obtain ⟨u138, hI⟩ := hI
  obtain ⟨u139, hI⟩ := hI
  obtain ⟨u140, hI⟩ := hI
  obtain ⟨u141, hI⟩ := hI
  obtain ⟨u142, hI⟩ := hI
  obtain ⟨u143, hI⟩ := hI
  obtain ⟨u144, hI⟩ := hI
  obtain ⟨u145, hI⟩ := hI
  obtain ⟨u146, hI⟩ := hI
  obtain ⟨u147, hI⟩ := hI
  obtain ⟨u148, hI⟩ := hI
  obtain ⟨u149, hI⟩ := hI
  obtain ⟨u150, hI⟩ := hI
  obtain ⟨u151, hI⟩ := hI
  obtain ⟨u152, hI⟩ := hI
  obtain ⟨u153, hI⟩ := hI
  obtain ⟨u154, hI⟩ := hI
  obtain ⟨u155, hI⟩ := hI
  obtain ⟨u156, hI⟩ := hI
  obtain ⟨u157, hI⟩ := hI
  obtain ⟨u158, hI⟩ := hI
  obtain ⟨hR, rfl⟩ := hI
  obtain ⟨t, b, ht, rfl, rfl, hx, h⟩ := hR
  rcases h with ⟨rfl, ht2, m, hb, hg, hrun, rfl, hs, ho, hne⟩ | ⟨h1, h5, hr, p, rfl⟩
  · obtain ⟨mk, mv, s, o, p, bad⟩ := m
    obtain rfl : mk = K := hg.k
    obtain rfl : mv = V := hg.v
    obtain rfl : bad = 0 := hb
    obtain ⟨j, rfl⟩ : ∃ j : Nat, p = j := Int.eq_ofNat_of_zero_le hg.p0
    by_cases hj : (j : Int) < ps.length
    · obtain ⟨z, rfl⟩ := hx
      have hj' : j < ps.length := by omega
      obtain ⟨⟨op, m⟩, hpj⟩ : ∃ r, ps[j]? = some r := ⟨ps[j], List.getElem?_eq_getElem hj'⟩
      obtain ⟨pb, off, ha, hc⟩ := H.cells (by omega)
      have d1 := hc _ _ (recs_get ps j _ hpj).1
      have d2 : w.cell? ⟨pb, off + j * 2 + 1, none⟩ = some (.int .i64 m) := by rw [Nat.add_assoc]; exact hc _ _ (recs_get ps j _ hpj).2
      have hp0 := (keep_cell d1 (HW.out.x.ext z)).2
      have hp1 := (keep_cell d2 (HW.out.x.ext z)).2
      obtain ⟨hok, hget⟩ := (right_ins hright).2 j op m hpj
      obtain ⟨q, rfl⟩ : ∃ q : Nat, op = q := Int.eq_ofNat_of_zero_le (by have := hok.1; omega)
      have hq1 := hok.1
      have hq2 := hok.2.1
      by_cases h256 : t = 256
      · subst h256
        refine ref_lim ps mk mv w W TB GB a c HL c19 c20 c21 c22 c23 Q0 j hj pb off ha z q m _ _ ?_ hp0 hp1 u13 u14 u15 u16 u17 u18 u24 u25 u26 u27 u28 u29 u30 u31 u32 u33 u34 u35 u36 u37 u38 u39 u40 u41 u42 u43 u44 u45 u46 u47 u48 u49 u50 u51 u52 u53 u54 u55 u56 u57 u58 u59 u60 u61 u62 u63 u64 u65 u66 u67 u68 u69 u70 u71 u72 u73 u74 u75 u76 u77 u78 u79 u80 u81 u82 u83 u84 u85 u86 u87 u88 u89 u90 u91 u92 u93 u94 u95 u96 u97 u98 u99 u100 u101 u102 u103 u104 u105 u106 u107 u108 u109 u110 u111 u112 u113 u114 u115 u116 u117 u118 u119 u120 u121 u122 u123 u124 u125 u126 u127 u128 u129 u130 u131 u132 u133 u134 u135 u136 u137 u138 u139 u140 u141 u142 u143 u144 u145 u146 u147 u148 u149 u150 u151 u152 u153 u154 u155 u156 u157 u158
        rw [hrun]
        show outP (runM ps 0 ⟨mk, mv, s, o, j, 0⟩) = _
        rw [runM, if_pos ⟨hj, rfl⟩]
        rfl
      · have hrun' : runM ps 256 (m0 mk mv) = runM ps (255 - t) (stepS twoS q m ⟨mk, mv, s, o, j, 0⟩) := by
          rw [hrun, show 256 - t = (255 - t) + 1 by omega, runM, if_pos ⟨hj, rfl⟩]
          dsimp only
          rw [Int.toNat_natCast, hget]
        have hg' : Good ps.length mk mv (stepS twoS q m ⟨mk, mv, s, o, j, 0⟩) := by
          refine good_step hg hK hV q m (hn _ (List.mem_of_getElem? hpj)) hj (fun e => ?_)
          unfold rightP at hright
          simp only [Bool.and_eq_true, List.all_eq_true] at hright
          have ho := hright.2 _ (List.mem_of_getElem? hpj)
          unfold okB at ho
          rw [if_pos e] at ho
          simp only [Bool.and_eq_true] at ho
          exact of_decide_eq_true ho.2
        obtain ⟨sa, sc, rfl⟩ := (own_rd hs).form
        obtain ⟨oa, oc, rfl⟩ := (own_rd ho).form
        exact round_good ps mk mv w W TB GB a c HW HL c19 c20 c21 c22 c23 Q0 j t (by omega) hj pb off ha z q m s o sa oa sc oc (by omega) (by omega) hg.s hg.i hg.o hs ho hne hg' hrun' hp0 hp1 u13 u14 u15 u16 u17 u18 u24 u25 u26 u27 u28 u29 u30 u31 u32 u33 u34 u35 u36 u37 u38 u39 u40 u41 u42 u43 u44 u45 u46 u47 u48 u49 u50 u51 u52 u53 u54 u55 u56 u57 u58 u59 u60 u61 u62 u63 u64 u65 u66 u67 u68 u69 u70 u71 u72 u73 u74 u75 u76 u77 u78 u79 u80 u81 u82 u83 u84 u85 u86 u87 u88 u89 u90 u91 u92 u93 u94 u95 u96 u97 u98 u99 u100 u101 u102 u103 u104 u105 u106 u107 u108 u109 u110 u111 u112 u113 u114 u115 u116 u117 u118 u119 u120 u121 u122 u123 u124 u125 u126 u127 u128 u129 u130 u131 u132 u133 u134 u135 u136 u137 u138 u139 u140 u141 u142 u143 u144 u145 u146 u147 u148 u149 u150 u151 u152 u153 u154 u155 u156 u157 u158
    · refine ref_exit1 ps mk mv w W TB GB a c c19 c20 c21 c22 c23 Q0 j 0 _ _ _ w' (Lib.hid ⟨0, rfl, hx, .inl ⟨rfl, o, ?_, ho⟩⟩) (decide_eq_false hj) hexit u13 u14 u15 u16 u17 u18 u24 u25 u26 u27 u28 u29 u30 u31 u32 u33 u34 u35 u36 u37 u38 u39 u40 u41 u42 u43 u44 u45 u46 u47 u48 u49 u50 u51 u52 u53 u54 u55 u56 u57 u58 u59 u60 u61 u62 u63 u64 u65 u66 u67 u68 u69 u70 u71 u72 u73 u74 u75 u76 u77 u78 u79 u80 u81 u82 u83 u84 u85 u86 u87 u88 u89 u90 u91 u92 u93 u94 u95 u96 u97 u98 u99 u100 u101 u102 u103 u104 u105 u106 u107 u108 u109 u110 u111 u112 u113 u114 u115 u116 u117 u118 u119 u120 u121 u122 u123 u124 u125 u126 u127 u128 u129 u130 u131 u132 u133 u134 u135 u136 u137 u138 u139 u140 u141 u142 u143 u144 u145 u146 u147 u148 u149 u150 u151 u152 u153 u154 u155 u156 u157 u158
      rw [hrun, show runM ps (256 - t) ⟨mk, mv, s, o, j, 0⟩ = ⟨mk, mv, s, o, j, 0⟩ by cases (256 - t) <;> (unfold runM; rw [if_neg (fun h => hj h.1)]), outP, if_pos rfl]
  · by_cases hp : p < ps.length
    · exact ref_exit2 ps K V w W TB GB a c c19 c20 c21 c22 c23 Q0 p b _ _ _ w' (Lib.hid ⟨b, rfl, hx, .inr ⟨h1, h5, hr⟩⟩) (decide_eq_true hp) (by simp; omega) hexit u13 u14 u15 u16 u17 u18 u24 u25 u26 u27 u28 u29 u30 u31 u32 u33 u34 u35 u36 u37 u38 u39 u40 u41 u42 u43 u44 u45 u46 u47 u48 u49 u50 u51 u52 u53 u54 u55 u56 u57 u58 u59 u60 u61 u62 u63 u64 u65 u66 u67 u68 u69 u70 u71 u72 u73 u74 u75 u76 u77 u78 u79 u80 u81 u82 u83 u84 u85 u86 u87 u88 u89 u90 u91 u92 u93 u94 u95 u96 u97 u98 u99 u100 u101 u102 u103 u104 u105 u106 u107 u108 u109 u110 u111 u112 u113 u114 u115 u116 u117 u118 u119 u120 u121 u122 u123 u124 u125 u126 u127 u128 u129 u130 u131 u132 u133 u134 u135 u136 u137 u138 u139 u140 u141 u142 u143 u144 u145 u146 u147 u148 u149 u150 u151 u152 u153 u154 u155 u156 u157 u158
    · exact ref_exit1 ps K V w W TB GB a c c19 c20 c21 c22 c23 Q0 p b _ _ _ w' (Lib.hid ⟨b, rfl, hx, .inr ⟨h1, h5, hr⟩⟩) (decide_eq_false hp) hexit u13 u14 u15 u16 u17 u18 u24 u25 u26 u27 u28 u29 u30 u31 u32 u33 u34 u35 u36 u37 u38 u39 u40 u41 u42 u43 u44 u45 u46 u47 u48 u49 u50 u51 u52 u53 u54 u55 u56 u57 u58 u59 u60 u61 u62 u63 u64 u65 u66 u67 u68 u69 u70 u71 u72 u73 u74 u75 u76 u77 u78 u79 u80 u81 u82 u83 u84 u85 u86 u87 u88 u89 u90 u91 u92 u93 u94 u95 u96 u97 u98 u99 u100 u101 u102 u103 u104 u105 u106 u107 u108 u109 u110 u111 u112 u113 u114 u115 u116 u117 u118 u119 u120 u121 u122 u123 u124 u125 u126 u127 u128 u129 u130 u131 u132 u133 u134 u135 u136 u137 u138 u139 u140 u141 u142 u143 u144 u145 u146 u147 u148 u149 u150 u151 u152 u153 u154 u155 u156 u157 u158
set_option maxRecDepth 1000000 in
set_option maxHeartbeats 8000000 in
theorem loop7 (H : Rd w 2 ps.length (.slice a ps.length c) (recs ps)) (hK : In64 K) (hV : In64 V) (hn : ∀ r ∈ ps, In64 r.2) (hright : rightP ps = true) (u8 u9 u10 u11 u12 : Value) (wr : World) (hR : RefAt ps K V W u8 u9 u10 u11 u12 wr) (u13 u14 u15 u16 u17 u18 u24 u25 u26 u27 u28 u29 u30 u31 u32 u33 u34 u35 u36 u37 u38 u39 u40 u41 u42 u43 u44 u45 u46 u47 u48 u49 u50 u51 u52 u53 u54 u55 u56 u57 u58 u59 u60 u61 u62 u63 u64 u65 u66 u67 u68 u69 u70 u71 u72 u73 u74 u75 u76 u77 u78 u79 u80 u81 u82 u83 u84 u85 u86 u87 u88 u89 u90 u91 u92 u93 u94 u95 u96 u97 u98 u99 u100 u101 u102 u103 u104 u105 u106 u107 u108 u109 u110 u111 u112 u113 u114 u115 u116 u117 u118 u119 u120 u121 u122 u123 u124 u125 u126 u127 u128 u129 u130 u131 u132 u133 u134 u135 u136 u137 u138 u139 u140 u141 u142 u143 u144 u145 u146 u147 u148 u149 u150 u151 u152 u153 u154 u155 u156 u157 u158 : Value) (hexit : ∀ a' w'', WX ps K V w W TB GB a c c19 c20 c21 c22 c23 a' w'' → Q0 (.exit 0) a' w'') :
    Code.wp Try.prog (Code.loop body7) Q0 ⟨#[.slice a ps.length c, .agg #[.int .i64 K, .int .i64 V], undef, .pointer (some ⟨w.heap.size, 0, none⟩), .slice none 0 0, .int .i64 0, .pointer (some ⟨TB, 0, none⟩), .pointer (some ⟨GB, 0, none⟩), u8, u9, u10, u11, u12, u13, u14, u15, u16, u17, u18, c19, c20, c21, c22, c23, u24, u25, u26, u27, u28, u29, u30, u31, u32, u33, u34, u35, u36, u37, u38, u39, u40, u41, u42, u43, u44, u45, u46, u47, u48, u49, u50, u51, u52, u53, u54, u55, u56, u57, u58, u59, u60, u61, u62, u63, u64, u65, u66, u67, u68, u69, u70, u71, u72, u73, u74, u75, u76, u77, u78, u79, u80, u81, u82, u83, u84, u85, u86, u87, u88, u89, u90, u91, u92, u93, u94, u95, u96, u97, u98, u99, u100, u101, u102, u103, u104, u105, u106, u107, u108, u109, u110, u111, u112, u113, u114, u115, u116, u117, u118, u119, u120, u121, u122, u123, u124, u125, u126, u127, u128, u129, u130, u131, u132, u133, u134, u135, u136, u137, u138, u139, u140, u141, u142, u143, u144, u145, u146, u147, u148, u149, u150, u151, u152, u153, u154, u155, u156, u157, u158, undef, undef, undef, undef, undef, undef, undef, undef, undef, undef], []⟩ wr := by
  refine wp_loop (WI ps K V w W TB GB a c c19 c20 c21 c22 c23) (fun act _ => Wmu act) ?_ (fun act w'' hI => round7 ps K V w W TB GB a c HW HL c19 c20 c21 c22 c23 Q0 H hK hV hn hright hexit act w'' hI)
  exact ⟨u8, u9, u10, u11, u12, u13, u14, u15, u16, u17, u18, u24, u25, u26, u27, u28, u29, u30, u31, u32, u33, u34, u35, u36, u37, u38, u39, u40, u41, u42, u43, u44, u45, u46, u47, u48, u49, u50, u51, u52, u53, u54, u55, u56, u57, u58, u59, u60, u61, u62, u63, u64, u65, u66, u67, u68, u69, u70, u71, u72, u73, u74, u75, u76, u77, u78, u79, u80, u81, u82, u83, u84, u85, u86, u87, u88, u89, u90, u91, u92, u93, u94, u95, u96, u97, u98, u99, u100, u101, u102, u103, u104, u105, u106, u107, u108, u109, u110, u111, u112, u113, u114, u115, u116, u117, u118, u119, u120, u121, u122, u123, u124, u125, u126, u127, u128, u129, u130, u131, u132, u133, u134, u135, u136, u137, u138, u139, u140, u141, u142, u143, u144, u145, u146, u147, u148, u149, u150, u151, u152, u153, u154, u155, u156, u157, u158, hR, rfl⟩
end
end Go.Proofs.Ytddckdlkopohhaa
