/- The reference of layer 7: the loop of Run. -/
import Derived.Test.YtddckdlkopohhaaPrD
namespace Go.Proofs.Ytddckdlkopohhaa
set_option linter.unusedSimpArgs false
set_option linter.unusedVariables false
open Go.RowKit

section
variable {P : Program} {ops : Array Oper} {rest : List Oper} {o : Oper} {a : Act} {Q : Exit → Act → World → Prop}
/-- XOwnF's 'wpList_pushF' in any later world. -/
theorem wpList_pushY (hgd : o.guard = none) (s x : Operand) (t : TypeId)
    (ho : o.op = .call { callee := .builtin .append, args := #[s, x], argTypes := #[t, t] })
    (e : TypeId) (z : Value) (size bytes : Nat) (ht : P.underlying t = some (.slice e)) (hi : (P.info? e).map (fun i => (i.zero, i.size, i.bytes)) = some (some z, size, bytes))
    (hzs : z.cells.size = size) (hsz : 0 < size)
    (w0 w1 : World) (hx01 : Ext w0 w1) (base : Nat) (v : Value) (n : Nat) (xs : List Value) (hown : w1.ownsRow base e size v n xs)
    (h m c : Nat) (cs : Array Value) (hs : a.eval s = v) (hx : a.eval x = .slice (some ⟨h, 0, none⟩) m c) (hcs : cs.size = m * size) (hone : ∀ u ∈ cs.toList, u.oneCell' = true)
    (hm : 0 < m) (hh : h = w1.heap.size) (h63 : n + m ≤ maxLen) (hbytes : (n + m) * bytes ≤ 140737488355328) (hb : base ≤ w1.heap.size) (hb0 : w0.heap.size ≤ base)
    (k : ∀ g cap y, (ext w0 y).ownsRow base e size (.slice (some ⟨g, 0, none⟩) (n + m) cap) (n + m) (xs ++ cs.toList) → w1.grownBy (ext w0 y) v.ownBlock → (v.ownBlock = some g ∨ w1.heap.size ≤ g) → wpList P ops Q rest (a.put o.dst (.slice (some ⟨g, 0, none⟩) (n + m) cap)) (ext w0 y)) :
    wpList P ops Q (o :: rest) a (w1.alloc (.cells cs e)) := by
  obtain ⟨i, rfl⟩ := hx01
  exact wpList_pushF hgd s x t ho e z size bytes ht hi hzs hsz w0 i base v n xs hown h m c cs hs hx hcs hone hm hh h63 hbytes hb hb0 k
end
theorem alloc_drew' (w : World) (o : Obj) : (w.alloc o).drew = w.drew.alloc o := rfl
def firstLoop : Code → Option Code
  | .loop c => some c
  | .seq a b => match firstLoop a with
    | some c => some c
    | none => firstLoop b
  | .block _ c => firstLoop c
  | .scope c => firstLoop c
  | .cond _ a b => match firstLoop a with
    | some c => some c
    | none => firstLoop b
  | _ => none
noncomputable def body7 : Code := ((Try.f10.body.bind firstLoop).getD .skip)
/-- How the reference stands ahead of a step. -/
def RefAt (ps : List (Int × Int)) (K V : Int) (W : World) (sv ov at' bd st : Value) (wr : World) : Prop :=
  ∃ (t : Nat) (b : Int), t ≤ 257 ∧ st = .int .i64 t ∧ bd = .int .i64 b ∧ Ext W wr ∧
    ((b = 0 ∧ t ≤ 256 ∧ ∃ m : Mc, m.bad = 0 ∧ Good ps.length K V m ∧ runM ps 256 (m0 K V) = runM ps (256 - t) m ∧ at' = .int .i64 m.p ∧ wr.ownsRow W.heap.size 2 1 sv m.s.length (ints m.s) ∧ wr.ownsRow W.heap.size 24 2 ov m.o.length (recs m.o) ∧ (sv.ownBlock = none ∨ sv.ownBlock ≠ ov.ownBlock)) ∨
      (1 ≤ b ∧ b ≤ 5 ∧ outP (runM ps 256 (m0 K V)) = ([(K, -9223372036854775808 + b)], b) ∧ ∃ p : Int, at' = .int .i64 p))
/-- How it stands at the end. -/
def RefEnd (ps : List (Int × Int)) (K V : Int) (W : World) (ov bd : Value) (wr : World) : Prop :=
  ∃ b : Int, bd = .int .i64 b ∧ Ext W wr ∧
    ((b = 0 ∧ ∃ l, outP (runM ps 256 (m0 K V)) = (l, 0) ∧ wr.ownsRow W.heap.size 24 2 ov l.length (recs l)) ∨ (1 ≤ b ∧ b ≤ 5 ∧ outP (runM ps 256 (m0 K V)) = ([(K, -9223372036854775808 + b)], b)))
set_option maxRecDepth 1000000 in
def WI (ps : List (Int × Int)) (K V : Int) (w W : World) (TB GB : Nat) (a : Option Addr) (c : Nat) (c19 c20 c21 c22 c23 : Value) (act : Act) (w' : World) : Prop := ∃ u8 u9 u10 u11 u12 u13 u14 u15 u16 u17 u18 u24 u25 u26 u27 u28 u29 u30 u31 u32 u33 u34 u35 u36 u37 u38 u39 u40 u41 u42 u43 u44 u45 u46 u47 u48 u49 u50 u51 u52 u53 u54 u55 u56 u57 u58 u59 u60 u61 u62 u63 u64 u65 u66 u67 u68 u69 u70 u71 u72 u73 u74 u75 u76 u77 u78 u79 u80 u81 u82 u83 u84 u85 u86 u87 u88 u89 u90 u91 u92 u93 u94 u95 u96 u97 u98 u99 u100 u101 u102 u103 u104 u105 u106 u107 u108 u109 u110 u111 u112 u113 u114 u115 u116 u117 u118 u119 u120 u121 u122 u123 u124 u125 u126 u127 u128 u129 u130 u131 u132 u133 u134 u135 u136 u137 u138 u139 u140 u141 u142 u143 u144 u145 u146 u147 u148 u149 u150 u151 u152 u153 u154 u155 u156 u157 u158 : Value, RefAt ps K V W u8 u9 u10 u11 u12 w' ∧ act = ⟨#[.slice a ps.length c, .agg #[.int .i64 K, .int .i64 V], undef, .pointer (some ⟨w.heap.size, 0, none⟩), .slice none 0 0, .int .i64 0, .pointer (some ⟨TB, 0, none⟩), .pointer (some ⟨GB, 0, none⟩), u8, u9, u10, u11, u12, u13, u14, u15, u16, u17, u18, c19, c20, c21, c22, c23, u24, u25, u26, u27, u28, u29, u30, u31, u32, u33, u34, u35, u36, u37, u38, u39, u40, u41, u42, u43, u44, u45, u46, u47, u48, u49, u50, u51, u52, u53, u54, u55, u56, u57, u58, u59, u60, u61, u62, u63, u64, u65, u66, u67, u68, u69, u70, u71, u72, u73, u74, u75, u76, u77, u78, u79, u80, u81, u82, u83, u84, u85, u86, u87, u88, u89, u90, u91, u92, u93, u94, u95, u96, u97, u98, u99, u100, u101, u102, u103, u104, u105, u106, u107, u108, u109, u110, u111, u112, u113, u114, u115, u116, u117, u118, u119, u120, u121, u122, u123, u124, u125, u126, u127, u128, u129, u130, u131, u132, u133, u134, u135, u136, u137, u138, u139, u140, u141, u142, u143, u144, u145, u146, u147, u148, u149, u150, u151, u152, u153, u154, u155, u156, u157, u158, undef, undef, undef, undef, undef, undef, undef, undef, undef, undef], []⟩
set_option maxRecDepth 1000000 in
def WX (ps : List (Int × Int)) (K V : Int) (w W : World) (TB GB : Nat) (a : Option Addr) (c : Nat) (c19 c20 c21 c22 c23 : Value) (act : Act) (w' : World) : Prop := ∃ u8 u9 u10 u11 u12 u13 u14 u15 u16 u17 u18 u24 u25 u26 u27 u28 u29 u30 u31 u32 u33 u34 u35 u36 u37 u38 u39 u40 u41 u42 u43 u44 u45 u46 u47 u48 u49 u50 u51 u52 u53 u54 u55 u56 u57 u58 u59 u60 u61 u62 u63 u64 u65 u66 u67 u68 u69 u70 u71 u72 u73 u74 u75 u76 u77 u78 u79 u80 u81 u82 u83 u84 u85 u86 u87 u88 u89 u90 u91 u92 u93 u94 u95 u96 u97 u98 u99 u100 u101 u102 u103 u104 u105 u106 u107 u108 u109 u110 u111 u112 u113 u114 u115 u116 u117 u118 u119 u120 u121 u122 u123 u124 u125 u126 u127 u128 u129 u130 u131 u132 u133 u134 u135 u136 u137 u138 u139 u140 u141 u142 u143 u144 u145 u146 u147 u148 u149 u150 u151 u152 u153 u154 u155 u156 u157 u158 : Value, RefEnd ps K V W u9 u11 w' ∧ act = ⟨#[.slice a ps.length c, .agg #[.int .i64 K, .int .i64 V], undef, .pointer (some ⟨w.heap.size, 0, none⟩), .slice none 0 0, .int .i64 0, .pointer (some ⟨TB, 0, none⟩), .pointer (some ⟨GB, 0, none⟩), u8, u9, u10, u11, u12, u13, u14, u15, u16, u17, u18, c19, c20, c21, c22, c23, u24, u25, u26, u27, u28, u29, u30, u31, u32, u33, u34, u35, u36, u37, u38, u39, u40, u41, u42, u43, u44, u45, u46, u47, u48, u49, u50, u51, u52, u53, u54, u55, u56, u57, u58, u59, u60, u61, u62, u63, u64, u65, u66, u67, u68, u69, u70, u71, u72, u73, u74, u75, u76, u77, u78, u79, u80, u81, u82, u83, u84, u85, u86, u87, u88, u89, u90, u91, u92, u93, u94, u95, u96, u97, u98, u99, u100, u101, u102, u103, u104, u105, u106, u107, u108, u109, u110, u111, u112, u113, u114, u115, u116, u117, u118, u119, u120, u121, u122, u123, u124, u125, u126, u127, u128, u129, u130, u131, u132, u133, u134, u135, u136, u137, u138, u139, u140, u141, u142, u143, u144, u145, u146, u147, u148, u149, u150, u151, u152, u153, u154, u155, u156, u157, u158, undef, undef, undef, undef, undef, undef, undef, undef, undef, undef], []⟩
def Wmu (act : Act) : Nat := 300 - (intOf (act.tmps.getD 12 undef)).toNat
theorem refAt_go {ps : List (Int × Int)} {K V : Int} {W wr : World} {sv ov : Value} (t : Nat) (s : List Int) (o : List (Int × Int)) (p : Int) (q : Int) (hq : q = p) (ht : t < 256) (hx : Ext W wr) (hg : Good ps.length K V ⟨K, V, s, o, p, 0⟩) (hr : runM ps 256 (m0 K V) = runM ps (255 - t) ⟨K, V, s, o, p, 0⟩)
    (hs : wr.ownsRow W.heap.size 2 1 sv s.length (ints s)) (ho : wr.ownsRow W.heap.size 24 2 ov o.length (recs o)) (hne : sv.ownBlock = none ∨ sv.ownBlock ≠ ov.ownBlock) :
    RefAt ps K V W sv ov (.int .i64 q) (.int .i64 0) (.int .i64 ((t : Int) + 1)) wr := hq ▸
  ⟨t + 1, 0, by omega, rfl, rfl, hx, .inl ⟨rfl, by omega, ⟨K, V, s, o, p, 0⟩, rfl, hg, by rw [hr, show 255 - t = 256 - (t + 1) by omega], rfl, hs, ho, hne⟩⟩
theorem refAt_bad {ps : List (Int × Int)} {K V : Int} {W wr : World} {sv ov : Value} (t : Nat) (b p : Int) (ht : t ≤ 256) (hx : Ext W wr) (h1 : 1 ≤ b) (h5 : b ≤ 5) (hr : outP (runM ps 256 (m0 K V)) = ([(K, -9223372036854775808 + b)], b)) :
    RefAt ps K V W sv ov (.int .i64 p) (.int .i64 b) (.int .i64 ((t : Int) + 1)) wr :=
  ⟨t + 1, b, by omega, rfl, rfl, hx, .inr ⟨h1, h5, hr, p, rfl⟩⟩
end Go.Proofs.Ytddckdlkopohhaa
