/- Facts of the seat's types and functions. -/
import Derived.Test.YtkmgdejpdhlleaaDqB
import Derived.Test.YtkmgdejpdhlleaaChecked
import Derived.KernelRfl
namespace Go.Proofs.Ytkmgdejpdhlleaa.Dq
set_option linter.unusedSimpArgs false
set_option linter.unusedVariables false
set_option maxRecDepth 100000
open Go.RowKit

theorem ty2 : sz Try.prog 2 = 1 ∧ ag Try.prog 2 = false ∧ un Try.prog 2 = true ∧ isSl Try.prog 2 = none ∧ ik Try.prog 2 = some .i64 ∧ isB Try.prog 2 = false ∧ byt Try.prog 2 = 8 ∧ isPt Try.prog 2 = false ∧ zr Try.prog 2 = some [D.int .i64 0] := ⟨by kernel_rfl, by kernel_rfl, by kernel_rfl, by kernel_rfl, by kernel_rfl, by kernel_rfl, by kernel_rfl, by kernel_rfl, by kernel_rfl⟩
theorem ty3 : sz Try.prog 3 = 1 ∧ ag Try.prog 3 = false ∧ un Try.prog 3 = true ∧ isSl Try.prog 3 = none ∧ ik Try.prog 3 = some .i64 ∧ isB Try.prog 3 = false ∧ byt Try.prog 3 = 8 ∧ isPt Try.prog 3 = false ∧ zr Try.prog 3 = some [D.int .i64 0] := ⟨by kernel_rfl, by kernel_rfl, by kernel_rfl, by kernel_rfl, by kernel_rfl, by kernel_rfl, by kernel_rfl, by kernel_rfl, by kernel_rfl⟩
theorem ty22 : sz Try.prog 22 = 1 ∧ ag Try.prog 22 = false ∧ un Try.prog 22 = true ∧ isSl Try.prog 22 = some 34 ∧ ik Try.prog 22 = none ∧ isB Try.prog 22 = false ∧ byt Try.prog 22 = 24 ∧ isPt Try.prog 22 = false ∧ zr Try.prog 22 = some [D.nl] := ⟨by kernel_rfl, by kernel_rfl, by kernel_rfl, by kernel_rfl, by kernel_rfl, by kernel_rfl, by kernel_rfl, by kernel_rfl, by kernel_rfl⟩
theorem ty24 : sz Try.prog 24 = 1 ∧ ag Try.prog 24 = false ∧ un Try.prog 24 = true ∧ isSl Try.prog 24 = some 116 ∧ ik Try.prog 24 = none ∧ isB Try.prog 24 = false ∧ byt Try.prog 24 = 24 ∧ isPt Try.prog 24 = false ∧ zr Try.prog 24 = some [D.nl] := ⟨by kernel_rfl, by kernel_rfl, by kernel_rfl, by kernel_rfl, by kernel_rfl, by kernel_rfl, by kernel_rfl, by kernel_rfl, by kernel_rfl⟩
theorem ty26 : sz Try.prog 26 = 6 ∧ ag Try.prog 26 = true ∧ un Try.prog 26 = true ∧ isSl Try.prog 26 = none ∧ ik Try.prog 26 = none ∧ isB Try.prog 26 = false ∧ byt Try.prog 26 = 80 ∧ fo Try.prog 26 0 = some (0, 22) ∧ fo Try.prog 26 1 = some (1, 24) ∧ fo Try.prog 26 2 = some (2, 3) ∧ fo Try.prog 26 3 = some (3, 3) ∧ fo Try.prog 26 4 = some (4, 3) ∧ fo Try.prog 26 5 = some (5, 3) ∧ plc Try.prog 26 = some [(0, 1), (1, 1), (2, 1), (3, 1), (4, 1), (5, 1)] ∧ isPt Try.prog 26 = false ∧ zr Try.prog 26 = some [D.nl, D.nl, D.int .i64 0, D.int .i64 0, D.int .i64 0, D.int .i64 0] := ⟨by kernel_rfl, by kernel_rfl, by kernel_rfl, by kernel_rfl, by kernel_rfl, by kernel_rfl, by kernel_rfl, by kernel_rfl, by kernel_rfl, by kernel_rfl, by kernel_rfl, by kernel_rfl, by kernel_rfl, by kernel_rfl, by kernel_rfl, by kernel_rfl⟩
theorem ty27 : sz Try.prog 27 = 1 ∧ ag Try.prog 27 = false ∧ un Try.prog 27 = true ∧ isSl Try.prog 27 = none ∧ ik Try.prog 27 = some .i64 ∧ isB Try.prog 27 = false ∧ byt Try.prog 27 = 8 ∧ isPt Try.prog 27 = false ∧ zr Try.prog 27 = some [D.int .i64 0] := ⟨by kernel_rfl, by kernel_rfl, by kernel_rfl, by kernel_rfl, by kernel_rfl, by kernel_rfl, by kernel_rfl, by kernel_rfl, by kernel_rfl⟩
theorem ty32 : sz Try.prog 32 = 2 ∧ ag Try.prog 32 = true ∧ un Try.prog 32 = true ∧ isSl Try.prog 32 = none ∧ ik Try.prog 32 = none ∧ isB Try.prog 32 = false ∧ byt Try.prog 32 = 16 ∧ fo Try.prog 32 0 = some (0, 2) ∧ fo Try.prog 32 1 = some (1, 2) ∧ plc Try.prog 32 = some [(0, 1), (1, 1)] ∧ isPt Try.prog 32 = false ∧ zr Try.prog 32 = some [D.int .i64 0, D.int .i64 0] := ⟨by kernel_rfl, by kernel_rfl, by kernel_rfl, by kernel_rfl, by kernel_rfl, by kernel_rfl, by kernel_rfl, by kernel_rfl, by kernel_rfl, by kernel_rfl, by kernel_rfl, by kernel_rfl⟩
theorem ty34 : sz Try.prog 34 = 4 ∧ ag Try.prog 34 = true ∧ un Try.prog 34 = true ∧ isSl Try.prog 34 = none ∧ ik Try.prog 34 = none ∧ isB Try.prog 34 = false ∧ byt Try.prog 34 = 32 ∧ fo Try.prog 34 0 = some (0, 3) ∧ fo Try.prog 34 1 = some (1, 32) ∧ fo Try.prog 34 2 = some (3, 3) ∧ plc Try.prog 34 = some [(0, 1), (1, 2), (3, 1)] ∧ isPt Try.prog 34 = false ∧ zr Try.prog 34 = some [D.int .i64 0, D.int .i64 0, D.int .i64 0, D.int .i64 0] := ⟨by kernel_rfl, by kernel_rfl, by kernel_rfl, by kernel_rfl, by kernel_rfl, by kernel_rfl, by kernel_rfl, by kernel_rfl, by kernel_rfl, by kernel_rfl, by kernel_rfl, by kernel_rfl, by kernel_rfl⟩
theorem ty36 : sz Try.prog 36 = 1 ∧ ag Try.prog 36 = false ∧ un Try.prog 36 = true ∧ isSl Try.prog 36 = some 32 ∧ ik Try.prog 36 = none ∧ isB Try.prog 36 = false ∧ byt Try.prog 36 = 24 ∧ isPt Try.prog 36 = false ∧ zr Try.prog 36 = some [D.nl] := ⟨by kernel_rfl, by kernel_rfl, by kernel_rfl, by kernel_rfl, by kernel_rfl, by kernel_rfl, by kernel_rfl, by kernel_rfl, by kernel_rfl⟩
theorem ty47 : sz Try.prog 47 = 1 ∧ ag Try.prog 47 = false ∧ un Try.prog 47 = true ∧ isSl Try.prog 47 = some 3 ∧ ik Try.prog 47 = none ∧ isB Try.prog 47 = false ∧ byt Try.prog 47 = 24 ∧ isPt Try.prog 47 = false ∧ zr Try.prog 47 = some [D.nl] := ⟨by kernel_rfl, by kernel_rfl, by kernel_rfl, by kernel_rfl, by kernel_rfl, by kernel_rfl, by kernel_rfl, by kernel_rfl, by kernel_rfl⟩
theorem ty116 : sz Try.prog 116 = 2 ∧ ag Try.prog 116 = true ∧ un Try.prog 116 = true ∧ isSl Try.prog 116 = none ∧ ik Try.prog 116 = none ∧ isB Try.prog 116 = false ∧ byt Try.prog 116 = 32 ∧ fo Try.prog 116 0 = some (0, 3) ∧ fo Try.prog 116 1 = some (1, 36) ∧ plc Try.prog 116 = some [(0, 1), (1, 1)] ∧ isPt Try.prog 116 = false ∧ zr Try.prog 116 = some [D.int .i64 0, D.nl] := ⟨by kernel_rfl, by kernel_rfl, by kernel_rfl, by kernel_rfl, by kernel_rfl, by kernel_rfl, by kernel_rfl, by kernel_rfl, by kernel_rfl, by kernel_rfl, by kernel_rfl, by kernel_rfl⟩
theorem ty212 : sz Try.prog 212 = 1 ∧ ag Try.prog 212 = false ∧ un Try.prog 212 = true ∧ isSl Try.prog 212 = none ∧ ik Try.prog 212 = some .u64 ∧ isB Try.prog 212 = false ∧ byt Try.prog 212 = 8 ∧ isPt Try.prog 212 = false ∧ zr Try.prog 212 = some [D.int .u64 0] := ⟨by kernel_rfl, by kernel_rfl, by kernel_rfl, by kernel_rfl, by kernel_rfl, by kernel_rfl, by kernel_rfl, by kernel_rfl, by kernel_rfl⟩
theorem isfn3 : isFn Try.prog 3 = true := by kernel_rfl
theorem isfn4 : isFn Try.prog 4 = true := by kernel_rfl
theorem isfn12 : isFn Try.prog 12 = true := by kernel_rfl
theorem isfn13 : isFn Try.prog 13 = true := by kernel_rfl
theorem isfn14 : isFn Try.prog 14 = true := by kernel_rfl
theorem isfn15 : isFn Try.prog 15 = true := by kernel_rfl
theorem isfn16 : isFn Try.prog 16 = true := by kernel_rfl
theorem isfn17 : isFn Try.prog 17 = true := by kernel_rfl
theorem isfn18 : isFn Try.prog 18 = true := by kernel_rfl
theorem isfn19 : isFn Try.prog 19 = true := by kernel_rfl
theorem isfn20 : isFn Try.prog 20 = true := by kernel_rfl
theorem isfn53 : isFn Try.prog 53 = true := by kernel_rfl
theorem isfn54 : isFn Try.prog 54 = true := by kernel_rfl
theorem isfn55 : isFn Try.prog 55 = true := by kernel_rfl
theorem isfn56 : isFn Try.prog 56 = true := by kernel_rfl
theorem isfn57 : isFn Try.prog 57 = true := by kernel_rfl
theorem isfn58 : isFn Try.prog 58 = true := by kernel_rfl
theorem isfn59 : isFn Try.prog 59 = true := by kernel_rfl
theorem isfn60 : isFn Try.prog 60 = true := by kernel_rfl
theorem isfn61 : isFn Try.prog 61 = true := by kernel_rfl
theorem isfn62 : isFn Try.prog 62 = true := by kernel_rfl
theorem isfn63 : isFn Try.prog 63 = true := by kernel_rfl
theorem isfn64 : isFn Try.prog 64 = true := by kernel_rfl
theorem isfn65 : isFn Try.prog 65 = true := by kernel_rfl
theorem isfn66 : isFn Try.prog 66 = true := by kernel_rfl
theorem isfn67 : isFn Try.prog 67 = true := by kernel_rfl
theorem isfn68 : isFn Try.prog 68 = true := by kernel_rfl
theorem isfn69 : isFn Try.prog 69 = true := by kernel_rfl
theorem isfn70 : isFn Try.prog 70 = true := by kernel_rfl
theorem isfn109 : isFn Try.prog 109 = true := by kernel_rfl
theorem isfn110 : isFn Try.prog 110 = true := by kernel_rfl
theorem isfn112 : isFn Try.prog 112 = true := by kernel_rfl
theorem isfn113 : isFn Try.prog 113 = true := by kernel_rfl
theorem isfn114 : isFn Try.prog 114 = true := by kernel_rfl
theorem isfn115 : isFn Try.prog 115 = true := by kernel_rfl
theorem isfn117 : isFn Try.prog 117 = true := by kernel_rfl
theorem isfn154 : isFn Try.prog 154 = true := by kernel_rfl
theorem isfn155 : isFn Try.prog 155 = true := by kernel_rfl
theorem isfn156 : isFn Try.prog 156 = true := by kernel_rfl
theorem isfn157 : isFn Try.prog 157 = true := by kernel_rfl
theorem isfn180 : isFn Try.prog 180 = true := by kernel_rfl
theorem isfn181 : isFn Try.prog 181 = true := by kernel_rfl
theorem isfn182 : isFn Try.prog 182 = true := by kernel_rfl
theorem isfn183 : isFn Try.prog 183 = true := by kernel_rfl
theorem isfn185 : isFn Try.prog 185 = true := by kernel_rfl
theorem isfn186 : isFn Try.prog 186 = true := by kernel_rfl
theorem isfn193 : isFn Try.prog 193 = true := by kernel_rfl
theorem isfn194 : isFn Try.prog 194 = true := by kernel_rfl
theorem isfn197 : isFn Try.prog 197 = true := by kernel_rfl
theorem tya : (type_of% @ty2) ∧ (type_of% @ty3) ∧ (type_of% @ty22) ∧ (type_of% @ty24) ∧ (type_of% @ty26) ∧ (type_of% @ty27) ∧ (type_of% @ty32) ∧ (type_of% @ty34) ∧ (type_of% @ty36) ∧ (type_of% @ty47) ∧ (type_of% @ty116) ∧ (type_of% @ty212) ∧ (type_of% @isfn3) ∧ (type_of% @isfn4) ∧ (type_of% @isfn12) ∧ (type_of% @isfn13) ∧ (type_of% @isfn14) ∧ (type_of% @isfn15) ∧ (type_of% @isfn16) ∧ (type_of% @isfn17) ∧ (type_of% @isfn18) ∧ (type_of% @isfn19) ∧ (type_of% @isfn20) ∧ (type_of% @isfn53) ∧ (type_of% @isfn54) ∧ (type_of% @isfn55) ∧ (type_of% @isfn56) ∧ (type_of% @isfn57) ∧ (type_of% @isfn58) ∧ (type_of% @isfn59) ∧ (type_of% @isfn60) ∧ (type_of% @isfn61) ∧ (type_of% @isfn62) ∧ (type_of% @isfn63) ∧ (type_of% @isfn64) ∧ (type_of% @isfn65) ∧ (type_of% @isfn66) ∧ (type_of% @isfn67) ∧ (type_of% @isfn68) ∧ (type_of% @isfn69) ∧ (type_of% @isfn70) ∧ (type_of% @isfn109) ∧ (type_of% @isfn110) ∧ (type_of% @isfn112) ∧ (type_of% @isfn113) ∧ (type_of% @isfn114) ∧ (type_of% @isfn115) ∧ (type_of% @isfn117) ∧ (type_of% @isfn154) ∧ (type_of% @isfn155) ∧ (type_of% @isfn156) ∧ (type_of% @isfn157) ∧ (type_of% @isfn180) ∧ (type_of% @isfn181) ∧ (type_of% @isfn182) ∧ (type_of% @isfn183) ∧ (type_of% @isfn185) ∧ (type_of% @isfn186) ∧ (type_of% @isfn193) ∧ (type_of% @isfn194) ∧ (type_of% @isfn197) := ⟨ty2, ty3, ty22, ty24, ty26, ty27, ty32, ty34, ty36, ty47, ty116, ty212, isfn3, isfn4, isfn12, isfn13, isfn14, isfn15, isfn16, isfn17, isfn18, isfn19, isfn20, isfn53, isfn54, isfn55, isfn56, isfn57, isfn58, isfn59, isfn60, isfn61, isfn62, isfn63, isfn64, isfn65, isfn66, isfn67, isfn68, isfn69, isfn70, isfn109, isfn110, isfn112, isfn113, isfn114, isfn115, isfn117, isfn154, isfn155, isfn156, isfn157, isfn180, isfn181, isfn182, isfn183, isfn185, isfn186, isfn193, isfn194, isfn197⟩

end Go.Proofs.Ytkmgdejpdhlleaa.Dq
