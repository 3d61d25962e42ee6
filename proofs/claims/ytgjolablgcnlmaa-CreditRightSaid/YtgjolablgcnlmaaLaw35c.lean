/- The walk of CreditRight: from region 24 on. (printed by gen_tail35.py) -/
import Derived.Test.YtgjolablgcnlmaaCrH
import Derived.Test.YtgjolablgcnlmaaCrU
namespace Go.Proofs.Ytgjolablgcnlmaa
set_option linter.unusedSimpArgs false
set_option linter.unusedVariables false
open Go.RowKit

set_option synthInstance.maxHeartbeats 400000 in
set_option maxRecDepth 100000 in
set_option maxHeartbeats 40000000 in
theorem tail24 (s m b : Int) (a1 a2 : Option Addr) (c1 c2 : Nat) (xs ys : List Int) (v : Int) (w w12 w13 : World) (p qSD qAR qTK qRE : Nat) (f1SD f2SD f1AR f2AR f1TK f2TK f1RE f2RE : Option Addr) (g1SD g2SD g1AR g2AR g1TK g2TK g1RE g2RE : Nat) (ls la lk lr : Ln) (es ea xk ek er : Int) (a0 : Act) (K : Act → World → Prop) (hsz : a0.tmps.size = 298) (hdf : a0.defers = []) (v1 : V a0 1 = .int .i64 v) (v3 : V a0 3 = .pointer (some ⟨p, 0, none⟩)) (v6 : V a0 6 = .bool false) (v8 : V a0 8 = .int .i64 es) (v11 : V a0 11 = .pointer (some ⟨qSD, 0, none⟩)) (v12 : V a0 12 = .pointer (some ⟨qAR, 0, none⟩)) (v13 : V a0 13 = .int .i64 ea) (v14 : V a0 14 = .pointer (some ⟨qTK, 0, none⟩)) (v15 : V a0 15 = .int .i64 xk) (v16 : V a0 16 = .int .i64 ek) (v17 : V a0 17 = .pointer (some ⟨qRE, 0, none⟩)) (v18 : V a0 18 = .int .i64 er) (HC : Hid (xs.length ≤ c1 ∧ ys.length ≤ c2)) (L1 : Hid (xs.length ≤ 100)) (L2 : Hid (ys.length ≤ 100)) (HSP : Hid (sendN ⟨s, m, b, xs, ys⟩ v = ls ∧ mayN ⟨s, m, b, xs, ys⟩ m 9 = es ∧ arriveN ⟨s, m, b, xs, ys⟩ = la ∧ mayN ⟨s, m, b, xs, ys⟩ xs.length 12 = ea ∧ takeN ⟨s, m, b, xs, ys⟩ = lk ∧ tookN ⟨s, m, b, xs, ys⟩ = xk ∧ mayN ⟨s, m, b, xs, ys⟩ ys.length 12 = ek ∧ returnN ⟨s, m, b, xs, ys⟩ = lr ∧ mayN ⟨s, m, b, xs, ys⟩ b 12 = er)) (HSDB12 : Hid (Bx w w12 qSD f1SD g1SD f2SD g2SD ⟨ls.s, ls.m, ls.b, ls.way, ls.waits⟩)) (HARB12 : Hid (Bx w w12 qAR f1AR g1AR f2AR g2AR ⟨la.s, la.m, la.b, la.way, la.waits⟩)) (HTKB12 : Hid (Bx w w12 qTK f1TK g1TK f2TK g2TK ⟨lk.s, lk.m, lk.b, lk.way, lk.waits⟩)) (HREB12 : Hid (Bx w w12 qRE f1RE g1RE f2RE g2RE ⟨lr.s, lr.m, lr.b, lr.way, lr.waits⟩)) (HX13 : Hid (Ext w12 w13)) (HOK : Hid (rightL s m b xs.length ys.length = true)) (HP12 : Hid (Bx w w12 p a1 c1 a2 c2 ⟨s, m, b, xs, ys⟩)) (HP13 : Hid (Bx w w13 p a1 c1 a2 c2 ⟨s, m, b, xs, ys⟩))
    (hK : ∀ a W, rest24.wp Try.prog (bodyPost Try.prog Try.f3 fun r w' => r = Ending.returned (Value.bool true) ∧ Ext w w') a W → K a W) : (Code.region 24 ops24 true).wp Try.prog (Exit.then K (bodyPost Try.prog Try.f3 fun r w' => r = Ending.returned (Value.bool true) ∧ Ext w w')) a0 w13 := by
  rw [act298 a0 hsz hdf]
  rw [v1, v3, v6, v8, v11, v12, v13, v14, v15, v16, v17, v18]
  generalize V a0 0 = u0
  generalize V a0 2 = u2
  generalize V a0 4 = u4
  generalize V a0 5 = u5
  generalize V a0 7 = u7
  generalize V a0 9 = u9
  generalize V a0 10 = u10
  generalize V a0 19 = u19
  generalize V a0 20 = u20
  generalize V a0 21 = u21
  generalize V a0 22 = u22
  generalize V a0 23 = u23
  generalize V a0 24 = u24
  generalize V a0 25 = u25
  generalize V a0 26 = u26
  generalize V a0 27 = u27
  generalize V a0 28 = u28
  generalize V a0 29 = u29
  generalize V a0 30 = u30
  generalize V a0 31 = u31
  generalize V a0 32 = u32
  generalize V a0 33 = u33
  generalize V a0 34 = u34
  generalize V a0 35 = u35
  generalize V a0 36 = u36
  generalize V a0 37 = u37
  generalize V a0 38 = u38
  generalize V a0 39 = u39
  generalize V a0 40 = u40
  generalize V a0 41 = u41
  generalize V a0 42 = u42
  generalize V a0 43 = u43
  generalize V a0 44 = u44
  generalize V a0 45 = u45
  generalize V a0 46 = u46
  generalize V a0 47 = u47
  generalize V a0 48 = u48
  generalize V a0 49 = u49
  generalize V a0 50 = u50
  generalize V a0 51 = u51
  generalize V a0 52 = u52
  generalize V a0 53 = u53
  generalize V a0 54 = u54
  generalize V a0 55 = u55
  generalize V a0 56 = u56
  generalize V a0 57 = u57
  generalize V a0 58 = u58
  generalize V a0 59 = u59
  generalize V a0 60 = u60
  generalize V a0 61 = u61
  generalize V a0 62 = u62
  generalize V a0 63 = u63
  generalize V a0 64 = u64
  generalize V a0 65 = u65
  generalize V a0 66 = u66
  generalize V a0 67 = u67
  generalize V a0 68 = u68
  generalize V a0 69 = u69
  generalize V a0 70 = u70
  generalize V a0 71 = u71
  generalize V a0 72 = u72
  generalize V a0 73 = u73
  generalize V a0 74 = u74
  generalize V a0 75 = u75
  generalize V a0 76 = u76
  generalize V a0 77 = u77
  generalize V a0 78 = u78
  generalize V a0 79 = u79
  generalize V a0 80 = u80
  generalize V a0 81 = u81
  generalize V a0 82 = u82
  generalize V a0 83 = u83
  generalize V a0 84 = u84
  generalize V a0 85 = u85
  generalize V a0 86 = u86
  generalize V a0 87 = u87
  generalize V a0 88 = u88
  generalize V a0 89 = u89
  generalize V a0 90 = u90
  generalize V a0 91 = u91
  generalize V a0 92 = u92
  generalize V a0 93 = u93
  generalize V a0 94 = u94
  generalize V a0 95 = u95
  generalize V a0 96 = u96
  generalize V a0 97 = u97
  generalize V a0 98 = u98
  generalize V a0 99 = u99
  generalize V a0 100 = u100
  generalize V a0 101 = u101
  generalize V a0 102 = u102
  generalize V a0 103 = u103
  generalize V a0 104 = u104
  generalize V a0 105 = u105
  generalize V a0 106 = u106
  generalize V a0 107 = u107
  generalize V a0 108 = u108
  generalize V a0 109 = u109
  generalize V a0 110 = u110
  generalize V a0 111 = u111
  generalize V a0 112 = u112
  generalize V a0 113 = u113
  generalize V a0 114 = u114
  generalize V a0 115 = u115
  generalize V a0 116 = u116
  generalize V a0 117 = u117
  generalize V a0 118 = u118
  generalize V a0 119 = u119
  generalize V a0 120 = u120
  generalize V a0 121 = u121
  generalize V a0 122 = u122
  generalize V a0 123 = u123
  generalize V a0 124 = u124
  generalize V a0 125 = u125
  generalize V a0 126 = u126
  generalize V a0 127 = u127
  generalize V a0 128 = u128
  generalize V a0 129 = u129
  generalize V a0 130 = u130
  generalize V a0 131 = u131
  generalize V a0 132 = u132
  generalize V a0 133 = u133
  generalize V a0 134 = u134
  generalize V a0 135 = u135
  generalize V a0 136 = u136
  generalize V a0 137 = u137
  generalize V a0 138 = u138
  generalize V a0 139 = u139
  generalize V a0 140 = u140
  generalize V a0 141 = u141
  generalize V a0 142 = u142
  generalize V a0 143 = u143
  generalize V a0 144 = u144
  generalize V a0 145 = u145
  generalize V a0 146 = u146
  generalize V a0 147 = u147
  generalize V a0 148 = u148
  generalize V a0 149 = u149
  generalize V a0 150 = u150
  generalize V a0 151 = u151
  generalize V a0 152 = u152
  generalize V a0 153 = u153
  generalize V a0 154 = u154
  generalize V a0 155 = u155
  generalize V a0 156 = u156
  generalize V a0 157 = u157
  generalize V a0 158 = u158
  generalize V a0 159 = u159
  generalize V a0 160 = u160
  generalize V a0 161 = u161
  generalize V a0 162 = u162
  generalize V a0 163 = u163
  generalize V a0 164 = u164
  generalize V a0 165 = u165
  generalize V a0 166 = u166
  generalize V a0 167 = u167
  generalize V a0 168 = u168
  generalize V a0 169 = u169
  generalize V a0 170 = u170
  generalize V a0 171 = u171
  generalize V a0 172 = u172
  generalize V a0 173 = u173
  generalize V a0 174 = u174
  generalize V a0 175 = u175
  generalize V a0 176 = u176
  generalize V a0 177 = u177
  generalize V a0 178 = u178
  generalize V a0 179 = u179
  generalize V a0 180 = u180
  generalize V a0 181 = u181
  generalize V a0 182 = u182
  generalize V a0 183 = u183
  generalize V a0 184 = u184
  generalize V a0 185 = u185
  generalize V a0 186 = u186
  generalize V a0 187 = u187
  generalize V a0 188 = u188
  generalize V a0 189 = u189
  generalize V a0 190 = u190
  generalize V a0 191 = u191
  generalize V a0 192 = u192
  generalize V a0 193 = u193
  generalize V a0 194 = u194
  generalize V a0 195 = u195
  generalize V a0 196 = u196
  generalize V a0 197 = u197
  generalize V a0 198 = u198
  generalize V a0 199 = u199
  generalize V a0 200 = u200
  generalize V a0 201 = u201
  generalize V a0 202 = u202
  generalize V a0 203 = u203
  generalize V a0 204 = u204
  generalize V a0 205 = u205
  generalize V a0 206 = u206
  generalize V a0 207 = u207
  generalize V a0 208 = u208
  generalize V a0 209 = u209
  generalize V a0 210 = u210
  generalize V a0 211 = u211
  generalize V a0 212 = u212
  generalize V a0 213 = u213
  generalize V a0 214 = u214
  generalize V a0 215 = u215
  generalize V a0 216 = u216
  generalize V a0 217 = u217
  generalize V a0 218 = u218
  generalize V a0 219 = u219
  generalize V a0 220 = u220
  generalize V a0 221 = u221
  generalize V a0 222 = u222
  generalize V a0 223 = u223
  generalize V a0 224 = u224
  generalize V a0 225 = u225
  generalize V a0 226 = u226
  generalize V a0 227 = u227
  generalize V a0 228 = u228
  generalize V a0 229 = u229
  generalize V a0 230 = u230
  generalize V a0 231 = u231
  generalize V a0 232 = u232
  generalize V a0 233 = u233
  generalize V a0 234 = u234
  generalize V a0 235 = u235
  generalize V a0 236 = u236
  generalize V a0 237 = u237
  generalize V a0 238 = u238
  generalize V a0 239 = u239
  generalize V a0 240 = u240
  generalize V a0 241 = u241
  generalize V a0 242 = u242
  generalize V a0 243 = u243
  generalize V a0 244 = u244
  generalize V a0 245 = u245
  generalize V a0 246 = u246
  generalize V a0 247 = u247
  generalize V a0 248 = u248
  generalize V a0 249 = u249
  generalize V a0 250 = u250
  generalize V a0 251 = u251
  generalize V a0 252 = u252
  generalize V a0 253 = u253
  generalize V a0 254 = u254
  generalize V a0 255 = u255
  generalize V a0 256 = u256
  generalize V a0 257 = u257
  generalize V a0 258 = u258
  generalize V a0 259 = u259
  generalize V a0 260 = u260
  generalize V a0 261 = u261
  generalize V a0 262 = u262
  generalize V a0 263 = u263
  generalize V a0 264 = u264
  generalize V a0 265 = u265
  generalize V a0 266 = u266
  generalize V a0 267 = u267
  generalize V a0 268 = u268
  generalize V a0 269 = u269
  generalize V a0 270 = u270
  generalize V a0 271 = u271
  generalize V a0 272 = u272
  generalize V a0 273 = u273
  generalize V a0 274 = u274
  generalize V a0 275 = u275
  generalize V a0 276 = u276
  generalize V a0 277 = u277
  generalize V a0 278 = u278
  generalize V a0 279 = u279
  generalize V a0 280 = u280
  generalize V a0 281 = u281
  generalize V a0 282 = u282
  generalize V a0 283 = u283
  generalize V a0 284 = u284
  generalize V a0 285 = u285
  generalize V a0 286 = u286
  generalize V a0 287 = u287
  generalize V a0 288 = u288
  generalize V a0 289 = u289
  generalize V a0 290 = u290
  generalize V a0 291 = u291
  generalize V a0 292 = u292
  generalize V a0 293 = u293
  generalize V a0 294 = u294
  generalize V a0 295 = u295
  generalize V a0 296 = u296
  generalize V a0 297 = u297
  clear hsz hdf v1 v3 v6 v8 v11 v12 v13 v14 v15 v16 v17 v18 a0
  refine reg24 _ w w13 p s m b a1 a2 c1 c2 xs ys _ rfl (by first | (show 151 < 298; decide) | simp) HP13.out ?_
  intro a w14 b0 b1 b2 b3 hn hpW hv0 hv1 hv2 hv3 hdis hx hB0 hB1 hB2 hB3
  have HB := Lib.hid (And.intro hB0 (And.intro hB1 (And.intro hB2 hB3)))
  have HDIS := Lib.hid hdis
  have HX14 := Lib.hid hx
  clear hB0 hB1 hB2 hB3 hdis hx hpW
  rw [hn.eq]
  clear hn
  dsimp only [puts, ts24, List.foldl, Act.put]
  simp only [List.setIfInBounds_toArray, List.set_cons_succ, List.set_cons_zero]
  rw [V_eval a 19, V_eval a 20, V_eval a 21, V_eval a 22, hv0, hv1, hv2, hv3]
  generalize a.eval (.tmp 148) = t148
  generalize a.eval (.tmp 149) = t149
  generalize a.eval (.tmp 150) = t150
  generalize a.eval (.tmp 151) = t151
  refine hK _ _ ?_
  clear hK K
  conv => arg 2; whnf
  clear hv0 hv1 hv2 hv3 a
  have HX13b := Lib.hid (HP13.out.1)
  have HE := Lib.hid (HP13.out.1)
  have HB1 := Lib.hid (HP13.out.2.2.2)
  have RG := Lib.hid (rightG HOK.out)
  have HS14 := Lib.hid (ext_le HX14.out)
  -- sent
  obtain ⟨p0, p1, p2, p3, p4, pl, pf⟩ := (HP13.out.on HX14.out).cells
  haveI : LtSz p w14.heap.size := ⟨pl⟩
  clear pf
  go_upto_if 154 with fail
  go_cut [] (fun wx => Ext w13 wx ∧ Same1 w14 wx b0 ∧ Fin4 w w13 b0 b1 b2 b3 b0 ls wx)
  case first =>
    as_aux_lemma =>
      by_cases hm : 0 < m
      · have e1 : ls = ⟨s, m - 1, b, xs ++ [v], ys⟩ := HSP.out.1.symm.trans (sendG HOK.out v hm)
        have E1 := Lib.hid e1
        obtain ⟨z0, z1, z2, z3, z4, zl, zf⟩ := HB.out.1.cells
        haveI : LtSz b0 w14.heap.size := ⟨zl⟩
        have ew : wrap64 (m - 1) = m - 1 := IntWalk.wrap64_in _ ⟨by have := RG.out; omega, by have := RG.out; omega⟩
        have zf1 := zf 1
        clear e1 zf
        go_upto_region 28 with fail
        have hb28 := (setc HB.out.1.2.2.1 (.int .i64 (m - 1))).1
        have hx28 : Ext w13 (w14.setCell ⟨b0, 1, none⟩ (.int .i64 (m - 1))) := HX14.out.setCell HDIS.out.1 _
        have hs28 := same1_set w14 b0 1 (.int .i64 (m - 1))
        have hz28 : (w14.setCell ⟨b0, 1, none⟩ (.int .i64 (m - 1))).heap.size = w14.heap.size := by simp
        clear z0 z1 z2 z3 z4 ew zf1 p0 p1 p2 p3 p4 this pl
        generalize w14.setCell ⟨b0, 1, none⟩ (.int .i64 (m - 1)) = w28 at *
        have HR28 := Lib.hid (And.intro hb28 (And.intro hx28 (And.intro hs28 (And.intro hz28 zl))))
        clear hb28 hs28 hz28 zl
        obtain ⟨p0, p1, p2, p3, p4, pl, pf⟩ := (HP13.out.on hx28).cells
        haveI : LtSz p w28.heap.size := ⟨pl⟩
        clear pf hx28
        go_wp2_with (at_builtin; apply stop_here)
        unfold Stop
        refine wpList_plain rfl fun K hK => ?_
        refine wp_copy (.tmp 159) (.tmp 161) rfl w13 _ (HR28.out.2.1.alloc _) w14.heap.size HS14.out (by have := HR28.out.2.2.2.1; simp; omega) w28.heap.size (heap_alloc_new w28 _) (by have := HR28.out.2.2.2.1; omega) xs a1 c1 rfl rfl (HB1.out.1.of_ext (HR28.out.2.1.alloc _)) L1.out ?_
        intro g1 k1 y1 ho1 hs1 ha1 hle1
        refine hK _ _ ?_
        have hbr : (ext w13 y1).heap[b0]? = some (.cells #[.int .i64 s, .int .i64 (m - 1), .slice a1 xs.length c1, .slice a2 ys.length c2, .int .i64 b] 24 (0, 0)) := hs1 b0 _ (by rw [Below.heap_alloc _ _ _ (Array.getElem?_eq_some_iff.1 HR28.out.1).1]; exact HR28.out.1) (by have := HR28.out.2.2.2; omega)
        have hsm : Same1 w14 (ext w13 y1) b0 := fun g o h hne => hs1 g o (by have h2 := HR28.out.2.2.1 g o h hne; rw [Below.heap_alloc _ _ _ (Array.getElem?_eq_some_iff.1 h2).1]; exact h2) (by have := (Array.getElem?_eq_some_iff.1 h).1; have := HR28.out.2.2.2; omega)
        have hle2 : w14.heap.size ≤ (ext w13 y1).heap.size := by have := HR28.out.2.2.2.1; simp only [World.size_alloc] at hle1; omega
        have HR1 := Lib.hid (And.intro ho1 (And.intro hbr (And.intro hsm hle2)))
        have ZL := Lib.hid HR28.out.2.2.2.2
        clear ho1 hs1 ha1 hle1 hbr hsm hle2 HR28 hK p0 p1 p2 p3 p4 this pl
        go_wp2_with (at_builtin; apply stop_here)
        unfold Stop
        refine wpList_pushF rfl (.tmp 162) (.tmp 164) 22 rfl 2 (.int .i64 0) 1 8 Try.underlying22 info_i64e rfl (by decide) w13 y1 w14.heap.size _ xs.length (i64s xs) HR1.out.1 _ 1 _ #[.int .i64 v] rfl rfl rfl (by simp [Value.oneCell']) (by decide) (by simp) (by unfold maxLen; have := L1.out; omega) (by have := L1.out; omega) HR1.out.2.2.2 HS14.out ?_
        intro g2 k2 y2 ho2 hgr2 hat2
        have hne2 : ∀ g o, (ext w13 y1).heap[g]? = some o → g < w14.heap.size → (ext w13 y2).heap[g]? = some o := fun g o h hlt => (hgr2.block g (Array.getElem?_eq_some_iff.1 h).1 (fun e => by have := (HR1.out.1.lt g e.symm).1; omega)).trans h
        have hb2 := hne2 b0 _ HR1.out.2.1 ZL.out
        have hsm2 : Same1 w14 (ext w13 y2) b0 := fun g o h hne => hne2 g o (HR1.out.2.2.1 g o h hne) (Array.getElem?_eq_some_iff.1 h).1
        have hx2 : Ext w13 (ext w13 y2) := ⟨y2, rfl⟩
        clear hgr2 hat2 hne2 HR1
        generalize ext w13 y2 = w29 at *
        have HR2 := Lib.hid (And.intro ho2 (And.intro hb2 (And.intro hsm2 hx2)))
        obtain ⟨z0, z1, z2, z3, z4, zl, zf⟩ := lane_cells hb2
        haveI : LtSz b0 w29.heap.size := ⟨zl⟩
        have zf2 := zf 2
        clear ho2 hb2 hsm2 hx2 zf
        go_wp2
        go_meet
        rw [E1.out]
        refine ⟨HR2.out.2.2.2.setCell HDIS.out.1 _, fun g o h hne => same1_set w29 b0 2 _ g _ (HR2.out.2.2.1 g o h hne) hne, ?_⟩
        have hfin := (setc HR2.out.2.1 (.slice (some ⟨g2, 0, none⟩) (xs.length + 1) k2)).2.1
        have hlen : (xs ++ [v]).length = xs.length + 1 := by simp
        have hown : (w29.setCell ⟨b0, 2, none⟩ (.slice (some ⟨g2, 0, none⟩) (xs.length + 1) k2)).ownsRow w14.heap.size 2 1 (.slice (some ⟨g2, 0, none⟩) (xs.length + 1) k2) (xs.length + 1) (i64s (xs ++ [v])) := own_same1 (by simpa [i64s] using HR2.out.1) (same1_set w29 b0 2 _) (fun e => by have := (HR2.out.1.lt b0 e).1; have := ZL.out; omega)
        exact fin_l HE.out (by dsimp only; rw [hlen]; exact hown) ⟨HB.out.1.cells.2.2.2.2.2.1, HB.out.2.1.cells.2.2.2.2.2.1, HB.out.2.2.1.cells.2.2.2.2.2.1, HB.out.2.2.2.cells.2.2.2.2.2.1⟩ HB1.out.2 HB.out.1.2.1 (by dsimp only; rw [hlen]; exact hfin)
      · have e1 : ls = ⟨s, m, b, xs, ys⟩ := HSP.out.1.symm.trans (sendG' HOK.out v hm)
        have E1 := Lib.hid e1
        clear e1
        go_wp2
        go_meet
        rw [E1.out]
        exact ⟨HX14.out, fun g o h _ => h, fin_same HE.out HB1.out HB.out.1.2.1 HB.out.1.2.2.1⟩
  case rest =>
  obtain ⟨w15, hw15⟩ : ∃ x, x = wc := ⟨_, rfl⟩
  subst hw15
  obtain ⟨hx15, hs15, hf15⟩ := hcut
  have H15 := Lib.hid (And.intro hx15 (And.intro hs15 hf15))
  clear hx15 hs15 hf15 p0 p1 p2 p3 p4 this pl
  -- came
  obtain ⟨p0, p1, p2, p3, p4, pl, pf⟩ := (HP13.out.on H15.out.1).cells
  haveI : LtSz p w15.heap.size := ⟨pl⟩
  clear pf
  go_upto_if 170 with fail
  have LT := Lib.hid (show b0 < w15.heap.size ∧ b1 < w15.heap.size ∧ b2 < w15.heap.size ∧ b3 < w15.heap.size from ⟨(by obtain ⟨_, _, _, _, h⟩ := H15.out.2.2.get H15.out.1; exact h.cells.2.2.2.2.2.1), (Array.getElem?_eq_some_iff.1 (H15.out.2.1 b1 _ HB.out.2.1.2.2.1 (fun e => HDIS.out.2.2.2.2.1 e.symm))).1, (Array.getElem?_eq_some_iff.1 (H15.out.2.1 b2 _ HB.out.2.2.1.2.2.1 (fun e => HDIS.out.2.2.2.2.2.1 e.symm))).1, (Array.getElem?_eq_some_iff.1 (H15.out.2.1 b3 _ HB.out.2.2.2.2.2.1 (fun e => HDIS.out.2.2.2.2.2.2.1 e.symm))).1⟩)
  have HB1r := Lib.hid (H15.out.2.1 b1 _ HB.out.2.1.2.2.1 (fun e => HDIS.out.2.2.2.2.1 e.symm))
  go_cut [] (fun wx => Ext w13 wx ∧ Same1 w15 wx b1 ∧ Fin4 w w13 b0 b1 b2 b3 b1 la wx)
  case first =>
    clear p0 p1 p2 p3 p4 pl this
    cases xs with
    | nil =>
      have E1 := Lib.hid (HSP.out.2.2.1.symm.trans (arriveG' HOK.out))
      go_wp2
      go_meet
      rw [E1.out]
      exact ⟨H15.out.1, fun g o h _ => h, fin_same HE.out HB1.out HB.out.2.1.2.1 HB1r.out⟩
    | cons x0 xt =>
      have E1 := Lib.hid (HSP.out.2.2.1.symm.trans (arriveG HOK.out))
      obtain ⟨bb, off, rfl⟩ : ∃ bb off, a1 = some ⟨bb, off, none⟩ := by
        obtain ⟨b', off', h, -⟩ := Rd.cells HB1.out.1 (by simp)
        exact ⟨b', off', h⟩
      have l0 : (0 : Int) < ((x0 :: xt).length : Int) := by simp
      have l0' : 0 < (x0 :: xt).length := by simp
      go_upto_region 30 with fail
      clear l0 l0'
      refine reg30 _ w13 w15 p b1 s m b bb off a2 c1 c2 x0 xt ys _ rfl rfl (by first | (show 181 < 298; decide) | simp) HB1.out H15.out.1 (HP13.out.on H15.out.1).2.2.1 HB1r.out HDIS.out.2.1 (by have := (HP13.out.cells).2.2.2.2.2.1; have := HDIS.out.2.1; omega) L1.out L2.out ?_
      intro a w16 a4' c4' hn hx16 hle hs16 hr16 ho16
      have HR := Lib.hid (And.intro hx16 (And.intro hle (And.intro hs16 (And.intro hr16 ho16))))
      clear hx16 hle hs16 hr16 ho16
      rw [hn.eq]
      clear hn
      dsimp only [puts, ts30, List.foldl, Act.put]
      simp only [List.setIfInBounds_toArray, List.set_cons_succ, List.set_cons_zero]
      generalize a.eval (.tmp 171) = t171
      generalize a.eval (.tmp 172) = t172
      generalize a.eval (.tmp 173) = t173
      generalize a.eval (.tmp 174) = t174
      generalize a.eval (.tmp 175) = t175
      generalize a.eval (.tmp 176) = t176
      generalize a.eval (.tmp 177) = t177
      generalize a.eval (.tmp 178) = t178
      generalize a.eval (.tmp 179) = t179
      generalize a.eval (.tmp 180) = t180
      generalize a.eval (.tmp 181) = t181
      clear a
      as_aux_lemma =>
        obtain ⟨p0, p1, p2, p3, p4, pl, pf⟩ := (HP13.out.on HR.out.1).cells
        obtain ⟨z0, z1, z2, z3, z4, zl, zf⟩ := lane_cells HR.out.2.2.2.1
        haveI : LtSz p w16.heap.size := ⟨pl⟩
        haveI : LtSz b1 w16.heap.size := ⟨zl⟩
        have zf2 := zf 2
        have l1 : (1 : Int) ≤ ((x0 :: xt).length : Int) := by simp only [List.length_cons]; omega
        have l2 : ((x0 :: xt).length : Int) ≤ c1 := by have := HC.out.1; omega
        have l3 : (1 : Int) ≤ (c1 : Int) := by omega
        have HLN := Lib.hid (show (x0 :: xt).length - 1 = xt.length from rfl)
        clear pf zf
        have fin : ∀ a' c', (0 < xt.length → a' = some ⟨bb, off + 1, none⟩) → Ext w13 (w16.setCell ⟨b1, 2, none⟩ (.slice a' xt.length c')) ∧ Same1 w15 (w16.setCell ⟨b1, 2, none⟩ (.slice a' xt.length c')) b1 ∧ Fin4 w w13 b0 b1 b2 b3 b1 la (w16.setCell ⟨b1, 2, none⟩ (.slice a' xt.length c')) := fun a' c' ha => by
          rw [E1.out]
          have hlen : (ys ++ [x0]).length = ys.length + 1 := by simp
          refine ⟨HR.out.1.setCell HDIS.out.2.1 _, fun g o h hne => same1_set w16 b1 2 _ g _ (HR.out.2.2.1 g o h hne) hne, fin_r HE.out (N := w15.heap.size) (by dsimp only; rw [hlen]; exact own_same1 HR.out.2.2.2.2 (same1_set w16 b1 2 _) (fun e => by have := (HR.out.2.2.2.2.lt b1 e).1; have := (Array.getElem?_eq_some_iff.1 HB1r.out).1; omega)) LT.out (ri_tail HB1.out.1 a' c' ha) HB.out.2.1.2.1 (by dsimp only; rw [hlen]; exact (setc HR.out.2.2.2.1 _).2.1)⟩
        have FIN := Lib.hid fin
        clear fin
        by_cases hc : c1 = 1
        · have HC0 := Lib.hid (show xt.length = 0 by subst hc; simp at l2; omega)
          have hT : (c1 = 1) = True := eq_true hc
          clear hc
          go_wp2
          go_meet
          exact FIN.out _ _ (fun h => absurd h (by have := HC0.out; omega))
        · go_wp2
          go_meet
          exact FIN.out _ _ (fun _ => rfl)
  case rest =>
  obtain ⟨w16, hw16⟩ : ∃ x, x = wc := ⟨_, rfl⟩
  subst hw16
  obtain ⟨hx, hs, hf⟩ := hcut
  have H16 := Lib.hid (And.intro hx (And.intro hs hf))
  clear hx hs hf p0 p1 p2 p3 p4 this pl
  -- taken
  obtain ⟨p0, p1, p2, p3, p4, pl, pf⟩ := (HP13.out.on H16.out.1).cells
  haveI : LtSz p w16.heap.size := ⟨pl⟩
  clear pf
  go_upto_if 189 with fail
  have HB2r := Lib.hid (H16.out.2.1 b2 _ (H15.out.2.1 b2 _ HB.out.2.2.1.2.2.1 (fun e => HDIS.out.2.2.2.2.2.1 e.symm)) (fun e => HDIS.out.2.2.2.2.2.2.2.1 e.symm))
  go_cut [23] (fun t wx => t = .int .i64 xk ∧ Ext w13 wx ∧ Same1 w16 wx b2 ∧ Fin4 w w13 b0 b1 b2 b3 b2 lk wx)
  case first =>
    as_aux_lemma =>
      cases ys with
      | nil =>
        have E1 := Lib.hid (And.intro (HSP.out.2.2.2.2.1.symm.trans (takeG' HOK.out).1) (HSP.out.2.2.2.2.2.1.symm.trans (takeG' HOK.out).2))
        go_wp2
        go_meet
        rw [E1.out.1, E1.out.2]
        exact ⟨rfl, H16.out.1, fun g o h _ => h, fin_same HE.out HB1.out HB.out.2.2.1.2.1 HB2r.out⟩
      | cons y0 yt =>
        have E1 := Lib.hid (And.intro (HSP.out.2.2.2.2.1.symm.trans (takeG HOK.out).1) (HSP.out.2.2.2.2.2.1.symm.trans (takeG HOK.out).2))
        obtain ⟨bb, off, rfl⟩ : ∃ bb off, a2 = some ⟨bb, off, none⟩ := by
          obtain ⟨b', off', h, -⟩ := Rd.cells HB1.out.2 (by simp)
          exact ⟨b', off', h⟩
        have hbb := (HB1.out.2.of_ext H16.out.1).cell (i := 0) (by simp)
        simp only [Nat.add_zero, List.getElem_cons_zero] at hbb
        obtain ⟨z0, z1, z2, z3, z4, zl, zf⟩ := lane_cells HB2r.out
        haveI : LtSz b2 w16.heap.size := ⟨zl⟩
        haveI : LtSz bb w16.heap.size := ⟨World.block_lt_of_cell? _ _ hbb⟩
        have zf3 := zf 3
        have zf4 := zf 4
        have l0 : (0 : Int) < ((y0 :: yt).length : Int) := by simp
        have l1 : (1 : Int) ≤ ((y0 :: yt).length : Int) := by simp only [List.length_cons]; omega
        have l2 : ((y0 :: yt).length : Int) ≤ c2 := by have := HC.out.2; omega
        have l3 : (1 : Int) ≤ (c2 : Int) := by omega
        clear zf
        have fin : ∀ a' c', (0 < yt.length → a' = some ⟨bb, off + 1, none⟩) → Ext w13 ((w16.setCell ⟨b2, 3, none⟩ (.slice a' yt.length c')).setCell ⟨b2, 4, none⟩ (.int .i64 (b + 1))) ∧ Same1 w16 ((w16.setCell ⟨b2, 3, none⟩ (.slice a' yt.length c')).setCell ⟨b2, 4, none⟩ (.int .i64 (b + 1))) b2 ∧ Fin4 w w13 b0 b1 b2 b3 b2 lk ((w16.setCell ⟨b2, 3, none⟩ (.slice a' yt.length c')).setCell ⟨b2, 4, none⟩ (.int .i64 (b + 1))) := fun a' c' ha => by
          rw [E1.out.1]
          exact ⟨(H16.out.1.setCell HDIS.out.2.2.1 _).setCell HDIS.out.2.2.1 _, (same1_set w16 b2 3 _).trans (same1_set _ b2 4 _), fin_same HE.out (a1 := a1) (c1 := c1) (a2 := a') (c2 := c') ⟨HB1.out.1, ri_tail HB1.out.2 a' c' ha⟩ HB.out.2.2.1.2.1 (setc (setc HB2r.out _).2.2.1 _).2.2.2⟩
        have FIN := Lib.hid fin
        clear fin
        have EX := Lib.hid E1.out.2
        have ew : wrap64 (b + 1) = b + 1 := IntWalk.wrap64_in _ ⟨by have := RG.out; omega, by have := RG.out; omega⟩
        have EW := Lib.hid ew
        clear ew
        by_cases hc : c2 = 1
        · have HC0 := Lib.hid (show yt.length = 0 by subst hc; simp at l2; omega)
          have hT : (c2 = 1) = True := eq_true hc
          clear hc
          have ew := EW.out
          go_wp2
          go_meet
          rw [EX.out]
          exact ⟨rfl, FIN.out _ _ (fun h => absurd h (by have := HC0.out; omega))⟩
        · have ew := EW.out
          go_wp2
          go_meet
          rw [EX.out]
          exact ⟨rfl, FIN.out _ _ (fun _ => rfl)⟩
  case rest =>
  obtain ⟨w17, hw17⟩ : ∃ x, x = wc := ⟨_, rfl⟩
  subst hw17
  obtain ⟨rfl, hx, hs, hf⟩ := hcut
  have H17 := Lib.hid (And.intro hx (And.intro hs hf))
  clear hx hs hf p0 p1 p2 p3 p4 this pl
  -- given back
  obtain ⟨p0, p1, p2, p3, p4, pl, pf⟩ := (HP13.out.on H17.out.1).cells
  haveI : LtSz p w17.heap.size := ⟨pl⟩
  have HB3r := Lib.hid (H17.out.2.1 b3 _ (H16.out.2.1 b3 _ (H15.out.2.1 b3 _ HB.out.2.2.2.2.2.1 (fun e => HDIS.out.2.2.2.2.2.2.1 e.symm)) (fun e => HDIS.out.2.2.2.2.2.2.2.2.1 e.symm)) (fun e => HDIS.out.2.2.2.2.2.2.2.2.2 e.symm))
  obtain ⟨z0, z1, z2, z3, z4, zl, zf⟩ := lane_cells HB3r.out
  haveI : LtSz b3 w17.heap.size := ⟨zl⟩
  have zf1 := zf 1
  have ew : wrap64 (m + b) = m + b := IntWalk.wrap64_in _ ⟨by have := RG.out; omega, by have := RG.out; omega⟩
  clear pf zf
  go_upto_region 37 with fail
  clear p0 p1 p2 p3 p4 pl z0 z1 z2 z3 z4 zl zf1 ew
  have hb18 := (setc HB3r.out (.int .i64 (m + b))).1
  have hx18 : Ext w13 (w17.setCell ⟨b3, 1, none⟩ (.int .i64 (m + b))) := H17.out.1.setCell HDIS.out.2.2.2.1 _
  have hs18 := same1_set w17 b3 1 (.int .i64 (m + b))
  clear this
  generalize w17.setCell ⟨b3, 1, none⟩ (.int .i64 (m + b)) = w18 at *
  have H18 := Lib.hid (And.intro hb18 (And.intro hx18 hs18))
  clear hb18 hx18 hs18
  as_aux_lemma =>
    have hb37 := (setc H18.out.1 (.int .i64 0)).2.2.2
    have hx37 : Ext w13 (w18.setCell ⟨b3, 4, none⟩ (.int .i64 0)) := H18.out.2.1.setCell HDIS.out.2.2.2.1 _
    have hs37 := H18.out.2.2.trans (same1_set w18 b3 4 (.int .i64 0))
    have F3 := H17.out.2.2.on (But4.of_same hs37 (.inr (.inr (.inr rfl))) HDIS.out.2.2.2.2.2.2.2.2.2)
    have F2 := (H16.out.2.2.on (But4.of_same H17.out.2.1 (.inr (.inr (.inl rfl))) HDIS.out.2.2.2.2.2.2.2.1)).on (But4.of_same hs37 (.inr (.inr (.inr rfl))) HDIS.out.2.2.2.2.2.2.2.2.1)
    have F1 := ((H15.out.2.2.on (But4.of_same H16.out.2.1 (.inr (.inl rfl)) HDIS.out.2.2.2.2.1)).on (But4.of_same H17.out.2.1 (.inr (.inr (.inl rfl))) HDIS.out.2.2.2.2.2.1)).on (But4.of_same hs37 (.inr (.inr (.inr rfl))) HDIS.out.2.2.2.2.2.2.1)
    obtain ⟨d1, f1, d2, f2, G1⟩ := F1.get hx37
    obtain ⟨d3, f3, d4, f4, G2⟩ := F2.get hx37
    obtain ⟨d5, f5, d6, f6, G3⟩ := F3.get hx37
    have hlr : lr = ⟨s, m + b, 0, xs, ys⟩ := HSP.out.2.2.2.2.2.2.2.1.symm.trans (returnG HOK.out)
    have G4 : Bx w (w18.setCell ⟨b3, 4, none⟩ (.int .i64 0)) b3 a1 c1 a2 c2 ⟨s, m + b, 0, xs, ys⟩ := ⟨HE.out.trans hx37, HB.out.2.2.2.2.1, hb37, HB1.out.of_ext hx37⟩
    have hl := lenG (l := ⟨s, m, b, xs, ys⟩) (v := v) L1.out L2.out
    rw [HSP.out.1, HSP.out.2.2.1, HSP.out.2.2.2.2.1] at hl
    have HLN := Lib.hid hl
    have X12 : Ext w12 (w18.setCell ⟨b3, 4, none⟩ (.int .i64 0)) := HX13.out.trans hx37
    have J1 := HSDB12.out.on X12
    have J2 := HARB12.out.on X12
    have J3 := HTKB12.out.on X12
    have J4 := HREB12.out.on X12
    have LN := Lib.hid (And.intro (Nat.le_trans L1.out (show 100 ≤ 1073741823 by decide)) (Nat.le_trans L2.out (show 100 ≤ 1073741823 by decide)))
    have SA := Lib.hid (fun W (hx : Ext (w18.setCell ⟨b3, 4, none⟩ (.int .i64 0)) W) => same_let ls _ _ _ _ _ _ _ _ W (J1.2.2.2.of_ext hx) (G1.2.2.2.of_ext hx) HLN.out.1.1 HLN.out.1.2)
    have SB := Lib.hid (fun W (hx : Ext (w18.setCell ⟨b3, 4, none⟩ (.int .i64 0)) W) => same_let la _ _ _ _ _ _ _ _ W (J2.2.2.2.of_ext hx) (G2.2.2.2.of_ext hx) HLN.out.2.1.1 HLN.out.2.1.2)
    have SC := Lib.hid (fun W (hx : Ext (w18.setCell ⟨b3, 4, none⟩ (.int .i64 0)) W) => same_let lk _ _ _ _ _ _ _ _ W (J3.2.2.2.of_ext hx) (G3.2.2.2.of_ext hx) HLN.out.2.2.1 HLN.out.2.2.2)
    have hbm : ∃ c, decide (0 < m) = c := ⟨_, rfl⟩
    obtain ⟨bm, hbm⟩ := hbm
    obtain ⟨ba, hba⟩ : ∃ c, decide ((0 : Int) < xs.length) = c := ⟨_, rfl⟩
    obtain ⟨bk, hbk⟩ : ∃ c, decide ((0 : Int) < ys.length) = c := ⟨_, rfl⟩
    obtain ⟨bb, hbb⟩ : ∃ c, decide (0 < b) = c := ⟨_, rfl⟩
    have hba' : decide (0 < xs.length) = ba := by rw [← hba]; congr 1; simp
    have hbk' : decide (0 < ys.length) = bk := by rw [← hbk]; congr 1; simp
    obtain ⟨e1, e2⟩ := errG HOK.out (by decide) HSP.out.2.1 hbm
    obtain ⟨e3, e4⟩ := errG HOK.out (by decide) HSP.out.2.2.2.1 hba
    obtain ⟨e5, e6⟩ := errG HOK.out (by decide) HSP.out.2.2.2.2.2.2.1 hbk
    obtain ⟨e7, e8⟩ := errG HOK.out (by decide) HSP.out.2.2.2.2.2.2.2.2 hbb
    have xx : (xk == xk) = true := by simp
    have HG1 := Lib.hid G1
    have HG2 := Lib.hid G2
    have HG3 := Lib.hid G3
    have HG4 := Lib.hid G4
    have HJ1 := Lib.hid J1
    have HJ2 := Lib.hid J2
    have HJ3 := Lib.hid J3
    subst hlr
    have HJ4 := Lib.hid J4
    have SE := Lib.hid (fun W (hx : Ext (w18.setCell ⟨b3, 4, none⟩ (.int .i64 0)) W) => same_ex s (m + b) 0 xs ys (HJ4.out.2.2.2.of_ext hx) (HG4.out.2.2.2.of_ext hx) LN.out.1 LN.out.2)
    have HP37 := Lib.hid (HP13.out.on hx37)
    have HE37 := Lib.hid (HE.out.trans hx37)
    obtain ⟨y0, y1, y2, y3, y4, yl, yf⟩ := lane_cells H18.out.1
    have yf4 := yf 4
    obtain ⟨g0, g1, g2, g3, g4, gl, gf⟩ := G1.cells
    obtain ⟨j0, j1, j2, j3, j4, jl, jf⟩ := J1.cells
    try dsimp only at g0 g1 g2 g3 g4 j0 j1 j2 j3 j4
    clear yf gf jf hb37 hx37 hs37 F1 F2 F3 G1 G2 G3 G4 J1 J2 J3 J4 X12 hl HSP HOK H15 H16 H17 H18 HB HB1 HB1r HB2r HB3r HDIS RG HS14 LT HX13 HX14 HP12 HSDB12 HARB12 HTKB12 HREB12 HP13 HC L1 L2 LN HLN HE HX13b
    have HFIN := Lib.hid (fun W (hx : Ext (w18.setCell ⟨b3, 4, none⟩ (.int .i64 0)) W) => HE37.out.trans hx)
    have K38 := Lib.hid (And.intro (And.intro e1 e2) (And.intro (And.intro e3 e4) (And.intro (And.intro e5 e6) (And.intro e7 e8))))
    have D38 := Lib.hid (And.intro hbm (And.intro hba' (And.intro hbk' hbb)))
    clear e1 e2 e3 e4 e5 e6 e7 e8 hbm hba hba' hbk hbk' hbb g0 g1 g2 g3 g4 gl j0 j1 j2 j3 j4 jl xx
    go_upto_region 38 with fail
    refine reg38 _ (w18.setCell ⟨b3, 4, none⟩ (.int .i64 0)) _ p _ _ _ _ _ _ _ _ _ _ _ _ _ _ _ _ xk es ea ek er m b a1 a2 xs.length c1 ys.length c2 bm ba bk bb ⟨rfl, rfl, rfl, rfl, rfl, rfl, rfl, rfl, rfl, rfl, rfl, rfl, rfl, rfl, rfl, Five.of HJ1.out, Five.of HG1.out, Five.of HJ2.out, Five.of HG2.out, Five.of HJ3.out, Five.of HG3.out, Five.of HJ4.out, Five.of HG4.out, SA.out, SB.out, SC.out, SE.out, fun W hx => (by obtain ⟨-, t1, t2, t3, t4, -, -⟩ := (HP37.out.on hx).cells; exact ⟨t1, t2, t3, t4⟩), eqs_of K38.out.1, eqs_of K38.out.2.1, eqs_of K38.out.2.2.1, eqs_of K38.out.2.2.2, D38.out.1, D38.out.2.1, D38.out.2.2.1, D38.out.2.2.2⟩ (by simp) ?_
    intro a W hn hx h6
    have hdf := hn.defers
    clear hn
    rename_i hret
    refine hret a W ?_
    go_step
    unfold V at h6
    refine bodyPost_ret (v := .bool true) (by simp [results, Try.results3, go_sem, h6]) hdf ⟨rfl, HFIN.out W hx⟩
end Go.Proofs.Ytgjolablgcnlmaa
