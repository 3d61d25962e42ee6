/- Facts of the types and functions of paths. -/
import Derived.Test.YtkmgdejpdhlleaaDqS
import Derived.Test.YtkmgdejpdhlleaaChecked
import Derived.KernelRfl
namespace Go.Proofs.Ytkmgdejpdhlleaa.Dq
set_option linter.unusedSimpArgs false
set_option linter.unusedVariables false
set_option maxRecDepth 100000
open Go.RowKit

theorem ty2 : sz Try.prog 2 = 1 ∧ ag Try.prog 2 = false ∧ un Try.prog 2 = true ∧ isSl Try.prog 2 = none ∧ ik Try.prog 2 = some .i64 ∧ isB Try.prog 2 = false ∧ byt Try.prog 2 = 8 ∧ isPt Try.prog 2 = false ∧ zr Try.prog 2 = some [D.int .i64 0] := ⟨by kernel_rfl, by kernel_rfl, by kernel_rfl, by kernel_rfl, by kernel_rfl, by kernel_rfl, by kernel_rfl, by kernel_rfl, by kernel_rfl⟩
theorem ty3 : sz Try.prog 3 = 1 ∧ ag Try.prog 3 = false ∧ un Try.prog 3 = true ∧ isSl Try.prog 3 = none ∧ ik Try.prog 3 = some .i64 ∧ isB Try.prog 3 = false ∧ byt Try.prog 3 = 8 ∧ isPt Try.prog 3 = false ∧ zr Try.prog 3 = some [D.int .i64 0] := ⟨by kernel_rfl, by kernel_rfl, by kernel_rfl, by kernel_rfl, by kernel_rfl, by kernel_rfl, by kernel_rfl, by kernel_rfl, by kernel_rfl⟩
theorem ty4 : sz Try.prog 4 = 1 ∧ ag Try.prog 4 = false ∧ un Try.prog 4 = true ∧ isSl Try.prog 4 = none ∧ ik Try.prog 4 = none ∧ isB Try.prog 4 = true ∧ byt Try.prog 4 = 1 ∧ isPt Try.prog 4 = false ∧ zr Try.prog 4 = some [D.bool false] := ⟨by kernel_rfl, by kernel_rfl, by kernel_rfl, by kernel_rfl, by kernel_rfl, by kernel_rfl, by kernel_rfl, by kernel_rfl, by kernel_rfl⟩
theorem ty27 : sz Try.prog 27 = 1 ∧ ag Try.prog 27 = false ∧ un Try.prog 27 = true ∧ isSl Try.prog 27 = none ∧ ik Try.prog 27 = some .i64 ∧ isB Try.prog 27 = false ∧ byt Try.prog 27 = 8 ∧ isPt Try.prog 27 = false ∧ zr Try.prog 27 = some [D.int .i64 0] := ⟨by kernel_rfl, by kernel_rfl, by kernel_rfl, by kernel_rfl, by kernel_rfl, by kernel_rfl, by kernel_rfl, by kernel_rfl, by kernel_rfl⟩
theorem ty32 : sz Try.prog 32 = 2 ∧ ag Try.prog 32 = true ∧ un Try.prog 32 = true ∧ isSl Try.prog 32 = none ∧ ik Try.prog 32 = none ∧ isB Try.prog 32 = false ∧ byt Try.prog 32 = 16 ∧ fo Try.prog 32 0 = some (0, 2) ∧ fo Try.prog 32 1 = some (1, 2) ∧ plc Try.prog 32 = some [(0, 1), (1, 1)] ∧ isPt Try.prog 32 = false ∧ zr Try.prog 32 = some [D.int .i64 0, D.int .i64 0] := ⟨by kernel_rfl, by kernel_rfl, by kernel_rfl, by kernel_rfl, by kernel_rfl, by kernel_rfl, by kernel_rfl, by kernel_rfl, by kernel_rfl, by kernel_rfl, by kernel_rfl, by kernel_rfl⟩
theorem ty45 : sz Try.prog 45 = 1 ∧ ag Try.prog 45 = false ∧ un Try.prog 45 = true ∧ isSl Try.prog 45 = some 58 ∧ ik Try.prog 45 = none ∧ isB Try.prog 45 = false ∧ byt Try.prog 45 = 24 ∧ isPt Try.prog 45 = false ∧ zr Try.prog 45 = some [D.nl] := ⟨by kernel_rfl, by kernel_rfl, by kernel_rfl, by kernel_rfl, by kernel_rfl, by kernel_rfl, by kernel_rfl, by kernel_rfl, by kernel_rfl⟩
theorem ty47 : sz Try.prog 47 = 1 ∧ ag Try.prog 47 = false ∧ un Try.prog 47 = true ∧ isSl Try.prog 47 = some 3 ∧ ik Try.prog 47 = none ∧ isB Try.prog 47 = false ∧ byt Try.prog 47 = 24 ∧ isPt Try.prog 47 = false ∧ zr Try.prog 47 = some [D.nl] := ⟨by kernel_rfl, by kernel_rfl, by kernel_rfl, by kernel_rfl, by kernel_rfl, by kernel_rfl, by kernel_rfl, by kernel_rfl, by kernel_rfl⟩
theorem ty48 : sz Try.prog 48 = 1 ∧ ag Try.prog 48 = false ∧ un Try.prog 48 = true ∧ isSl Try.prog 48 = some 60 ∧ ik Try.prog 48 = none ∧ isB Try.prog 48 = false ∧ byt Try.prog 48 = 24 ∧ isPt Try.prog 48 = false ∧ zr Try.prog 48 = some [D.nl] := ⟨by kernel_rfl, by kernel_rfl, by kernel_rfl, by kernel_rfl, by kernel_rfl, by kernel_rfl, by kernel_rfl, by kernel_rfl, by kernel_rfl⟩
theorem ty49 : sz Try.prog 49 = 1 ∧ ag Try.prog 49 = false ∧ un Try.prog 49 = true ∧ isSl Try.prog 49 = some 78 ∧ ik Try.prog 49 = none ∧ isB Try.prog 49 = false ∧ byt Try.prog 49 = 24 ∧ isPt Try.prog 49 = false ∧ zr Try.prog 49 = some [D.nl] := ⟨by kernel_rfl, by kernel_rfl, by kernel_rfl, by kernel_rfl, by kernel_rfl, by kernel_rfl, by kernel_rfl, by kernel_rfl, by kernel_rfl⟩
theorem ty51 : sz Try.prog 51 = 4 ∧ ag Try.prog 51 = true ∧ un Try.prog 51 = true ∧ isSl Try.prog 51 = none ∧ ik Try.prog 51 = none ∧ isB Try.prog 51 = false ∧ byt Try.prog 51 = 96 ∧ fo Try.prog 51 0 = some (0, 47) ∧ fo Try.prog 51 1 = some (1, 47) ∧ fo Try.prog 51 2 = some (2, 48) ∧ fo Try.prog 51 3 = some (3, 49) ∧ plc Try.prog 51 = some [(0, 1), (1, 1), (2, 1), (3, 1)] ∧ isPt Try.prog 51 = false ∧ zr Try.prog 51 = some [D.nl, D.nl, D.nl, D.nl] := ⟨by kernel_rfl, by kernel_rfl, by kernel_rfl, by kernel_rfl, by kernel_rfl, by kernel_rfl, by kernel_rfl, by kernel_rfl, by kernel_rfl, by kernel_rfl, by kernel_rfl, by kernel_rfl, by kernel_rfl, by kernel_rfl⟩
theorem ty56 : sz Try.prog 56 = 1 ∧ ag Try.prog 56 = false ∧ un Try.prog 56 = true ∧ isSl Try.prog 56 = some 183 ∧ ik Try.prog 56 = none ∧ isB Try.prog 56 = false ∧ byt Try.prog 56 = 24 ∧ isPt Try.prog 56 = false ∧ zr Try.prog 56 = some [D.nl] := ⟨by kernel_rfl, by kernel_rfl, by kernel_rfl, by kernel_rfl, by kernel_rfl, by kernel_rfl, by kernel_rfl, by kernel_rfl, by kernel_rfl⟩
theorem ty58 : sz Try.prog 58 = 4 ∧ ag Try.prog 58 = true ∧ un Try.prog 58 = true ∧ isSl Try.prog 58 = none ∧ ik Try.prog 58 = none ∧ isB Try.prog 58 = false ∧ byt Try.prog 58 = 48 ∧ fo Try.prog 58 0 = some (0, 3) ∧ fo Try.prog 58 1 = some (1, 3) ∧ fo Try.prog 58 2 = some (2, 2) ∧ fo Try.prog 58 3 = some (3, 56) ∧ plc Try.prog 58 = some [(0, 1), (1, 1), (2, 1), (3, 1)] ∧ isPt Try.prog 58 = false ∧ zr Try.prog 58 = some [D.int .i64 0, D.int .i64 0, D.int .i64 0, D.nl] := ⟨by kernel_rfl, by kernel_rfl, by kernel_rfl, by kernel_rfl, by kernel_rfl, by kernel_rfl, by kernel_rfl, by kernel_rfl, by kernel_rfl, by kernel_rfl, by kernel_rfl, by kernel_rfl, by kernel_rfl, by kernel_rfl⟩
theorem ty60 : sz Try.prog 60 = 4 ∧ ag Try.prog 60 = true ∧ un Try.prog 60 = true ∧ isSl Try.prog 60 = none ∧ ik Try.prog 60 = none ∧ isB Try.prog 60 = false ∧ byt Try.prog 60 = 48 ∧ fo Try.prog 60 0 = some (0, 3) ∧ fo Try.prog 60 1 = some (1, 3) ∧ fo Try.prog 60 2 = some (2, 2) ∧ fo Try.prog 60 3 = some (3, 56) ∧ plc Try.prog 60 = some [(0, 1), (1, 1), (2, 1), (3, 1)] ∧ isPt Try.prog 60 = false ∧ zr Try.prog 60 = some [D.int .i64 0, D.int .i64 0, D.int .i64 0, D.nl] := ⟨by kernel_rfl, by kernel_rfl, by kernel_rfl, by kernel_rfl, by kernel_rfl, by kernel_rfl, by kernel_rfl, by kernel_rfl, by kernel_rfl, by kernel_rfl, by kernel_rfl, by kernel_rfl, by kernel_rfl, by kernel_rfl⟩
theorem ty65 : sz Try.prog 65 = 1 ∧ ag Try.prog 65 = false ∧ un Try.prog 65 = true ∧ isSl Try.prog 65 = some 67 ∧ ik Try.prog 65 = none ∧ isB Try.prog 65 = false ∧ byt Try.prog 65 = 24 ∧ isPt Try.prog 65 = false ∧ zr Try.prog 65 = some [D.nl] := ⟨by kernel_rfl, by kernel_rfl, by kernel_rfl, by kernel_rfl, by kernel_rfl, by kernel_rfl, by kernel_rfl, by kernel_rfl, by kernel_rfl⟩
theorem ty67 : sz Try.prog 67 = 1 ∧ ag Try.prog 67 = false ∧ un Try.prog 67 = true ∧ isSl Try.prog 67 = some 70 ∧ ik Try.prog 67 = none ∧ isB Try.prog 67 = false ∧ byt Try.prog 67 = 24 ∧ isPt Try.prog 67 = false ∧ zr Try.prog 67 = some [D.nl] := ⟨by kernel_rfl, by kernel_rfl, by kernel_rfl, by kernel_rfl, by kernel_rfl, by kernel_rfl, by kernel_rfl, by kernel_rfl, by kernel_rfl⟩
theorem ty70 : sz Try.prog 70 = 1 ∧ ag Try.prog 70 = false ∧ un Try.prog 70 = true ∧ isSl Try.prog 70 = some 82 ∧ ik Try.prog 70 = none ∧ isB Try.prog 70 = false ∧ byt Try.prog 70 = 24 ∧ isPt Try.prog 70 = false ∧ zr Try.prog 70 = some [D.nl] := ⟨by kernel_rfl, by kernel_rfl, by kernel_rfl, by kernel_rfl, by kernel_rfl, by kernel_rfl, by kernel_rfl, by kernel_rfl, by kernel_rfl⟩
theorem ty71 : sz Try.prog 71 = 4 ∧ ag Try.prog 71 = true ∧ un Try.prog 71 = true ∧ isSl Try.prog 71 = none ∧ isAr Try.prog 71 = some (4, 3) ∧ ik Try.prog 71 = none ∧ isB Try.prog 71 = false ∧ byt Try.prog 71 = 32 ∧ plc Try.prog 71 = some [(0, 1), (1, 1), (2, 1), (3, 1)] ∧ isPt Try.prog 71 = false ∧ zr Try.prog 71 = some [D.int .i64 0, D.int .i64 0, D.int .i64 0, D.int .i64 0] := ⟨by kernel_rfl, by kernel_rfl, by kernel_rfl, by kernel_rfl, by kernel_rfl, by kernel_rfl, by kernel_rfl, by kernel_rfl, by kernel_rfl, by kernel_rfl, by kernel_rfl⟩
theorem ty73 : sz Try.prog 73 = 5 ∧ ag Try.prog 73 = true ∧ un Try.prog 73 = true ∧ isSl Try.prog 73 = none ∧ ik Try.prog 73 = none ∧ isB Try.prog 73 = false ∧ byt Try.prog 73 = 40 ∧ fo Try.prog 73 0 = some (0, 3) ∧ fo Try.prog 73 1 = some (1, 71) ∧ plc Try.prog 73 = some [(0, 1), (1, 4)] ∧ isPt Try.prog 73 = false ∧ zr Try.prog 73 = some [D.int .i64 0, D.int .i64 0, D.int .i64 0, D.int .i64 0, D.int .i64 0] := ⟨by kernel_rfl, by kernel_rfl, by kernel_rfl, by kernel_rfl, by kernel_rfl, by kernel_rfl, by kernel_rfl, by kernel_rfl, by kernel_rfl, by kernel_rfl, by kernel_rfl, by kernel_rfl⟩
theorem ty78 : sz Try.prog 78 = 4 ∧ ag Try.prog 78 = true ∧ un Try.prog 78 = true ∧ isSl Try.prog 78 = none ∧ ik Try.prog 78 = none ∧ isB Try.prog 78 = false ∧ byt Try.prog 78 = 32 ∧ fo Try.prog 78 0 = some (0, 3) ∧ fo Try.prog 78 1 = some (1, 3) ∧ fo Try.prog 78 2 = some (2, 3) ∧ fo Try.prog 78 3 = some (3, 4) ∧ plc Try.prog 78 = some [(0, 1), (1, 1), (2, 1), (3, 1)] ∧ isPt Try.prog 78 = false ∧ zr Try.prog 78 = some [D.int .i64 0, D.int .i64 0, D.int .i64 0, D.bool false] := ⟨by kernel_rfl, by kernel_rfl, by kernel_rfl, by kernel_rfl, by kernel_rfl, by kernel_rfl, by kernel_rfl, by kernel_rfl, by kernel_rfl, by kernel_rfl, by kernel_rfl, by kernel_rfl, by kernel_rfl, by kernel_rfl⟩
theorem ty82 : sz Try.prog 82 = 11 ∧ ag Try.prog 82 = true ∧ un Try.prog 82 = true ∧ isSl Try.prog 82 = none ∧ ik Try.prog 82 = none ∧ isB Try.prog 82 = false ∧ byt Try.prog 82 = 88 ∧ fo Try.prog 82 0 = some (0, 3) ∧ fo Try.prog 82 1 = some (1, 3) ∧ fo Try.prog 82 2 = some (2, 3) ∧ fo Try.prog 82 3 = some (3, 71) ∧ fo Try.prog 82 4 = some (7, 71) ∧ plc Try.prog 82 = some [(0, 1), (1, 1), (2, 1), (3, 4), (7, 4)] ∧ isPt Try.prog 82 = false ∧ zr Try.prog 82 = some [D.int .i64 0, D.int .i64 0, D.int .i64 0, D.int .i64 0, D.int .i64 0, D.int .i64 0, D.int .i64 0, D.int .i64 0, D.int .i64 0, D.int .i64 0, D.int .i64 0] := ⟨by kernel_rfl, by kernel_rfl, by kernel_rfl, by kernel_rfl, by kernel_rfl, by kernel_rfl, by kernel_rfl, by kernel_rfl, by kernel_rfl, by kernel_rfl, by kernel_rfl, by kernel_rfl, by kernel_rfl, by kernel_rfl, by kernel_rfl⟩
theorem ty89 : sz Try.prog 89 = 1 ∧ ag Try.prog 89 = false ∧ un Try.prog 89 = true ∧ isSl Try.prog 89 = some 90 ∧ ik Try.prog 89 = none ∧ isB Try.prog 89 = false ∧ byt Try.prog 89 = 24 ∧ isPt Try.prog 89 = false ∧ zr Try.prog 89 = some [D.nl] := ⟨by kernel_rfl, by kernel_rfl, by kernel_rfl, by kernel_rfl, by kernel_rfl, by kernel_rfl, by kernel_rfl, by kernel_rfl, by kernel_rfl⟩
theorem ty90 : sz Try.prog 90 = 1 ∧ ag Try.prog 90 = false ∧ un Try.prog 90 = true ∧ isSl Try.prog 90 = some 73 ∧ ik Try.prog 90 = none ∧ isB Try.prog 90 = false ∧ byt Try.prog 90 = 24 ∧ isPt Try.prog 90 = false ∧ zr Try.prog 90 = some [D.nl] := ⟨by kernel_rfl, by kernel_rfl, by kernel_rfl, by kernel_rfl, by kernel_rfl, by kernel_rfl, by kernel_rfl, by kernel_rfl, by kernel_rfl⟩
theorem ty94 : sz Try.prog 94 = 1 ∧ ag Try.prog 94 = false ∧ un Try.prog 94 = true ∧ isSl Try.prog 94 = some 96 ∧ ik Try.prog 94 = none ∧ isB Try.prog 94 = false ∧ byt Try.prog 94 = 24 ∧ isPt Try.prog 94 = false ∧ zr Try.prog 94 = some [D.nl] := ⟨by kernel_rfl, by kernel_rfl, by kernel_rfl, by kernel_rfl, by kernel_rfl, by kernel_rfl, by kernel_rfl, by kernel_rfl, by kernel_rfl⟩
theorem ty96 : sz Try.prog 96 = 4 ∧ ag Try.prog 96 = true ∧ un Try.prog 96 = true ∧ isSl Try.prog 96 = none ∧ ik Try.prog 96 = none ∧ isB Try.prog 96 = false ∧ byt Try.prog 96 = 32 ∧ fo Try.prog 96 0 = some (0, 3) ∧ fo Try.prog 96 1 = some (1, 3) ∧ fo Try.prog 96 2 = some (2, 32) ∧ plc Try.prog 96 = some [(0, 1), (1, 1), (2, 2)] ∧ isPt Try.prog 96 = false ∧ zr Try.prog 96 = some [D.int .i64 0, D.int .i64 0, D.int .i64 0, D.int .i64 0] := ⟨by kernel_rfl, by kernel_rfl, by kernel_rfl, by kernel_rfl, by kernel_rfl, by kernel_rfl, by kernel_rfl, by kernel_rfl, by kernel_rfl, by kernel_rfl, by kernel_rfl, by kernel_rfl, by kernel_rfl⟩
theorem ty102 : sz Try.prog 102 = 1 ∧ ag Try.prog 102 = false ∧ un Try.prog 102 = true ∧ isSl Try.prog 102 = some 161 ∧ ik Try.prog 102 = none ∧ isB Try.prog 102 = false ∧ byt Try.prog 102 = 24 ∧ isPt Try.prog 102 = false ∧ zr Try.prog 102 = some [D.nl] := ⟨by kernel_rfl, by kernel_rfl, by kernel_rfl, by kernel_rfl, by kernel_rfl, by kernel_rfl, by kernel_rfl, by kernel_rfl, by kernel_rfl⟩
theorem ty124 : sz Try.prog 124 = 1 ∧ ag Try.prog 124 = false ∧ un Try.prog 124 = true ∧ isSl Try.prog 124 = none ∧ ik Try.prog 124 = none ∧ isB Try.prog 124 = false ∧ byt Try.prog 124 = 8 ∧ isPt Try.prog 124 = true := ⟨by kernel_rfl, by kernel_rfl, by kernel_rfl, by kernel_rfl, by kernel_rfl, by kernel_rfl, by kernel_rfl, by kernel_rfl⟩
theorem ty127 : sz Try.prog 127 = 1 ∧ ag Try.prog 127 = false ∧ un Try.prog 127 = true ∧ isSl Try.prog 127 = some 181 ∧ ik Try.prog 127 = none ∧ isB Try.prog 127 = false ∧ byt Try.prog 127 = 24 ∧ isPt Try.prog 127 = false ∧ zr Try.prog 127 = some [D.nl] := ⟨by kernel_rfl, by kernel_rfl, by kernel_rfl, by kernel_rfl, by kernel_rfl, by kernel_rfl, by kernel_rfl, by kernel_rfl, by kernel_rfl⟩
theorem ty129 : sz Try.prog 129 = 6 ∧ ag Try.prog 129 = true ∧ un Try.prog 129 = true ∧ isSl Try.prog 129 = none ∧ ik Try.prog 129 = none ∧ isB Try.prog 129 = false ∧ byt Try.prog 129 = 144 ∧ fo Try.prog 129 0 = some (0, 51) ∧ fo Try.prog 129 1 = some (4, 47) ∧ fo Try.prog 129 2 = some (5, 127) ∧ plc Try.prog 129 = some [(0, 4), (4, 1), (5, 1)] ∧ isPt Try.prog 129 = false ∧ zr Try.prog 129 = some [D.nl, D.nl, D.nl, D.nl, D.nl, D.nl] := ⟨by kernel_rfl, by kernel_rfl, by kernel_rfl, by kernel_rfl, by kernel_rfl, by kernel_rfl, by kernel_rfl, by kernel_rfl, by kernel_rfl, by kernel_rfl, by kernel_rfl, by kernel_rfl, by kernel_rfl⟩
theorem ty148 : sz Try.prog 148 = 1 ∧ ag Try.prog 148 = false ∧ un Try.prog 148 = true ∧ isSl Try.prog 148 = some 187 ∧ ik Try.prog 148 = none ∧ isB Try.prog 148 = false ∧ byt Try.prog 148 = 24 ∧ isPt Try.prog 148 = false ∧ zr Try.prog 148 = some [D.nl] := ⟨by kernel_rfl, by kernel_rfl, by kernel_rfl, by kernel_rfl, by kernel_rfl, by kernel_rfl, by kernel_rfl, by kernel_rfl, by kernel_rfl⟩
theorem ty160 : sz Try.prog 160 = 1 ∧ ag Try.prog 160 = false ∧ un Try.prog 160 = true ∧ isSl Try.prog 160 = some 4 ∧ ik Try.prog 160 = none ∧ isB Try.prog 160 = false ∧ byt Try.prog 160 = 24 ∧ isPt Try.prog 160 = false ∧ zr Try.prog 160 = some [D.nl] := ⟨by kernel_rfl, by kernel_rfl, by kernel_rfl, by kernel_rfl, by kernel_rfl, by kernel_rfl, by kernel_rfl, by kernel_rfl, by kernel_rfl⟩
theorem ty161 : sz Try.prog 161 = 4 ∧ ag Try.prog 161 = true ∧ un Try.prog 161 = true ∧ isSl Try.prog 161 = none ∧ ik Try.prog 161 = none ∧ isB Try.prog 161 = false ∧ byt Try.prog 161 = 32 ∧ fo Try.prog 161 0 = some (0, 3) ∧ fo Try.prog 161 1 = some (1, 3) ∧ fo Try.prog 161 2 = some (2, 32) ∧ plc Try.prog 161 = some [(0, 1), (1, 1), (2, 2)] ∧ isPt Try.prog 161 = false ∧ zr Try.prog 161 = some [D.int .i64 0, D.int .i64 0, D.int .i64 0, D.int .i64 0] := ⟨by kernel_rfl, by kernel_rfl, by kernel_rfl, by kernel_rfl, by kernel_rfl, by kernel_rfl, by kernel_rfl, by kernel_rfl, by kernel_rfl, by kernel_rfl, by kernel_rfl, by kernel_rfl, by kernel_rfl⟩
theorem ty179 : sz Try.prog 179 = 1 ∧ ag Try.prog 179 = false ∧ un Try.prog 179 = true ∧ isSl Try.prog 179 = none ∧ ik Try.prog 179 = none ∧ isB Try.prog 179 = false ∧ byt Try.prog 179 = 8 ∧ isPt Try.prog 179 = false ∧ zr Try.prog 179 = some [D.fz] := ⟨by kernel_rfl, by kernel_rfl, by kernel_rfl, by kernel_rfl, by kernel_rfl, by kernel_rfl, by kernel_rfl, by kernel_rfl, by kernel_rfl⟩
theorem ty181 : sz Try.prog 181 = 3 ∧ ag Try.prog 181 = true ∧ un Try.prog 181 = true ∧ isSl Try.prog 181 = none ∧ ik Try.prog 181 = none ∧ isB Try.prog 181 = false ∧ byt Try.prog 181 = 24 ∧ fo Try.prog 181 0 = some (0, 3) ∧ fo Try.prog 181 1 = some (1, 3) ∧ fo Try.prog 181 2 = some (2, 3) ∧ plc Try.prog 181 = some [(0, 1), (1, 1), (2, 1)] ∧ isPt Try.prog 181 = false ∧ zr Try.prog 181 = some [D.int .i64 0, D.int .i64 0, D.int .i64 0] := ⟨by kernel_rfl, by kernel_rfl, by kernel_rfl, by kernel_rfl, by kernel_rfl, by kernel_rfl, by kernel_rfl, by kernel_rfl, by kernel_rfl, by kernel_rfl, by kernel_rfl, by kernel_rfl, by kernel_rfl⟩
theorem ty183 : sz Try.prog 183 = 2 ∧ ag Try.prog 183 = true ∧ un Try.prog 183 = true ∧ isSl Try.prog 183 = none ∧ ik Try.prog 183 = none ∧ isB Try.prog 183 = false ∧ byt Try.prog 183 = 16 ∧ fo Try.prog 183 0 = some (0, 3) ∧ fo Try.prog 183 1 = some (1, 2) ∧ plc Try.prog 183 = some [(0, 1), (1, 1)] ∧ isPt Try.prog 183 = false ∧ zr Try.prog 183 = some [D.int .i64 0, D.int .i64 0] := ⟨by kernel_rfl, by kernel_rfl, by kernel_rfl, by kernel_rfl, by kernel_rfl, by kernel_rfl, by kernel_rfl, by kernel_rfl, by kernel_rfl, by kernel_rfl, by kernel_rfl, by kernel_rfl⟩
theorem ty187 : sz Try.prog 187 = 2 ∧ ag Try.prog 187 = true ∧ un Try.prog 187 = true ∧ isSl Try.prog 187 = none ∧ ik Try.prog 187 = none ∧ isB Try.prog 187 = false ∧ byt Try.prog 187 = 16 ∧ fo Try.prog 187 0 = some (0, 3) ∧ fo Try.prog 187 1 = some (1, 3) ∧ plc Try.prog 187 = some [(0, 1), (1, 1)] ∧ isPt Try.prog 187 = false ∧ zr Try.prog 187 = some [D.int .i64 0, D.int .i64 0] := ⟨by kernel_rfl, by kernel_rfl, by kernel_rfl, by kernel_rfl, by kernel_rfl, by kernel_rfl, by kernel_rfl, by kernel_rfl, by kernel_rfl, by kernel_rfl, by kernel_rfl, by kernel_rfl⟩
theorem ty198 : sz Try.prog 198 = 1 ∧ ag Try.prog 198 = false ∧ un Try.prog 198 = true ∧ isSl Try.prog 198 = none ∧ ik Try.prog 198 = none ∧ isB Try.prog 198 = false ∧ byt Try.prog 198 = 8 ∧ isPt Try.prog 198 = false ∧ zr Try.prog 198 = some [D.fz] := ⟨by kernel_rfl, by kernel_rfl, by kernel_rfl, by kernel_rfl, by kernel_rfl, by kernel_rfl, by kernel_rfl, by kernel_rfl, by kernel_rfl⟩
theorem ty206 : sz Try.prog 206 = 1 ∧ ag Try.prog 206 = false ∧ un Try.prog 206 = true ∧ isSl Try.prog 206 = none ∧ ik Try.prog 206 = none ∧ isB Try.prog 206 = false ∧ byt Try.prog 206 = 8 ∧ isPt Try.prog 206 = false ∧ zr Try.prog 206 = some [D.fz] := ⟨by kernel_rfl, by kernel_rfl, by kernel_rfl, by kernel_rfl, by kernel_rfl, by kernel_rfl, by kernel_rfl, by kernel_rfl, by kernel_rfl⟩
theorem ty208 : sz Try.prog 208 = 1 ∧ ag Try.prog 208 = false ∧ un Try.prog 208 = true ∧ isSl Try.prog 208 = none ∧ ik Try.prog 208 = none ∧ isB Try.prog 208 = false ∧ byt Try.prog 208 = 8 ∧ isPt Try.prog 208 = false ∧ zr Try.prog 208 = some [D.fz] := ⟨by kernel_rfl, by kernel_rfl, by kernel_rfl, by kernel_rfl, by kernel_rfl, by kernel_rfl, by kernel_rfl, by kernel_rfl, by kernel_rfl⟩
theorem ty209 : sz Try.prog 209 = 16 ∧ ag Try.prog 209 = true ∧ un Try.prog 209 = true ∧ isSl Try.prog 209 = none ∧ isAr Try.prog 209 = some (16, 3) ∧ ik Try.prog 209 = none ∧ isB Try.prog 209 = false ∧ byt Try.prog 209 = 128 ∧ plc Try.prog 209 = some [(0, 1), (1, 1), (2, 1), (3, 1), (4, 1), (5, 1), (6, 1), (7, 1), (8, 1), (9, 1), (10, 1), (11, 1), (12, 1), (13, 1), (14, 1), (15, 1)] ∧ isPt Try.prog 209 = false ∧ zr Try.prog 209 = some [D.int .i64 0, D.int .i64 0, D.int .i64 0, D.int .i64 0, D.int .i64 0, D.int .i64 0, D.int .i64 0, D.int .i64 0, D.int .i64 0, D.int .i64 0, D.int .i64 0, D.int .i64 0, D.int .i64 0, D.int .i64 0, D.int .i64 0, D.int .i64 0] := ⟨by kernel_rfl, by kernel_rfl, by kernel_rfl, by kernel_rfl, by kernel_rfl, by kernel_rfl, by kernel_rfl, by kernel_rfl, by kernel_rfl, by kernel_rfl, by kernel_rfl⟩
theorem isfn5 : isFn Try.prog 5 = true := by kernel_rfl
theorem isfn6 : isFn Try.prog 6 = true := by kernel_rfl
theorem isfn7 : isFn Try.prog 7 = true := by kernel_rfl
theorem isfn8 : isFn Try.prog 8 = true := by kernel_rfl
theorem isfn9 : isFn Try.prog 9 = true := by kernel_rfl
theorem isfn10 : isFn Try.prog 10 = true := by kernel_rfl
theorem isfn11 : isFn Try.prog 11 = true := by kernel_rfl
theorem isfn21 : isFn Try.prog 21 = true := by kernel_rfl
theorem isfn22 : isFn Try.prog 22 = true := by kernel_rfl
theorem isfn23 : isFn Try.prog 23 = true := by kernel_rfl
theorem isfn24 : isFn Try.prog 24 = true := by kernel_rfl
theorem isfn25 : isFn Try.prog 25 = true := by kernel_rfl
theorem isfn26 : isFn Try.prog 26 = true := by kernel_rfl
theorem isfn27 : isFn Try.prog 27 = true := by kernel_rfl
theorem isfn28 : isFn Try.prog 28 = true := by kernel_rfl
theorem isfn29 : isFn Try.prog 29 = true := by kernel_rfl
theorem isfn30 : isFn Try.prog 30 = true := by kernel_rfl
theorem isfn31 : isFn Try.prog 31 = true := by kernel_rfl
theorem isfn32 : isFn Try.prog 32 = true := by kernel_rfl
theorem isfn33 : isFn Try.prog 33 = true := by kernel_rfl
theorem isfn34 : isFn Try.prog 34 = true := by kernel_rfl
theorem isfn35 : isFn Try.prog 35 = true := by kernel_rfl
theorem isfn36 : isFn Try.prog 36 = true := by kernel_rfl
theorem isfn37 : isFn Try.prog 37 = true := by kernel_rfl
theorem isfn38 : isFn Try.prog 38 = true := by kernel_rfl
theorem isfn39 : isFn Try.prog 39 = true := by kernel_rfl
theorem isfn40 : isFn Try.prog 40 = true := by kernel_rfl
theorem isfn41 : isFn Try.prog 41 = true := by kernel_rfl
theorem isfn42 : isFn Try.prog 42 = true := by kernel_rfl
theorem isfn44 : isFn Try.prog 44 = true := by kernel_rfl
theorem isfn45 : isFn Try.prog 45 = true := by kernel_rfl
theorem isfn46 : isFn Try.prog 46 = true := by kernel_rfl
theorem isfn47 : isFn Try.prog 47 = true := by kernel_rfl
theorem isfn48 : isFn Try.prog 48 = true := by kernel_rfl
theorem isfn49 : isFn Try.prog 49 = true := by kernel_rfl
theorem isfn50 : isFn Try.prog 50 = true := by kernel_rfl
theorem isfn51 : isFn Try.prog 51 = true := by kernel_rfl
theorem isfn52 : isFn Try.prog 52 = true := by kernel_rfl
theorem isfn71 : isFn Try.prog 71 = true := by kernel_rfl
theorem isfn72 : isFn Try.prog 72 = true := by kernel_rfl
theorem isfn73 : isFn Try.prog 73 = true := by kernel_rfl
theorem isfn74 : isFn Try.prog 74 = true := by kernel_rfl
theorem isfn75 : isFn Try.prog 75 = true := by kernel_rfl
theorem isfn76 : isFn Try.prog 76 = true := by kernel_rfl
theorem isfn77 : isFn Try.prog 77 = true := by kernel_rfl
theorem isfn78 : isFn Try.prog 78 = true := by kernel_rfl
theorem isfn79 : isFn Try.prog 79 = true := by kernel_rfl
theorem isfn80 : isFn Try.prog 80 = true := by kernel_rfl
theorem isfn81 : isFn Try.prog 81 = true := by kernel_rfl
theorem isfn82 : isFn Try.prog 82 = true := by kernel_rfl
theorem isfn83 : isFn Try.prog 83 = true := by kernel_rfl
theorem isfn84 : isFn Try.prog 84 = true := by kernel_rfl
theorem isfn85 : isFn Try.prog 85 = true := by kernel_rfl
theorem isfn86 : isFn Try.prog 86 = true := by kernel_rfl
theorem isfn87 : isFn Try.prog 87 = true := by kernel_rfl
theorem isfn88 : isFn Try.prog 88 = true := by kernel_rfl
theorem isfn89 : isFn Try.prog 89 = true := by kernel_rfl
theorem isfn90 : isFn Try.prog 90 = true := by kernel_rfl
theorem isfn91 : isFn Try.prog 91 = true := by kernel_rfl
theorem isfn92 : isFn Try.prog 92 = true := by kernel_rfl
theorem isfn93 : isFn Try.prog 93 = true := by kernel_rfl
theorem isfn94 : isFn Try.prog 94 = true := by kernel_rfl
theorem isfn95 : isFn Try.prog 95 = true := by kernel_rfl
theorem isfn96 : isFn Try.prog 96 = true := by kernel_rfl
theorem isfn97 : isFn Try.prog 97 = true := by kernel_rfl
theorem isfn98 : isFn Try.prog 98 = true := by kernel_rfl
theorem isfn99 : isFn Try.prog 99 = true := by kernel_rfl
theorem isfn103 : isFn Try.prog 103 = true := by kernel_rfl
theorem isfn104 : isFn Try.prog 104 = true := by kernel_rfl
theorem isfn105 : isFn Try.prog 105 = true := by kernel_rfl
theorem isfn106 : isFn Try.prog 106 = true := by kernel_rfl
theorem isfn107 : isFn Try.prog 107 = true := by kernel_rfl
theorem isfn108 : isFn Try.prog 108 = true := by kernel_rfl
theorem isfn118 : isFn Try.prog 118 = true := by kernel_rfl
theorem isfn119 : isFn Try.prog 119 = true := by kernel_rfl
theorem isfn120 : isFn Try.prog 120 = true := by kernel_rfl
theorem isfn121 : isFn Try.prog 121 = true := by kernel_rfl
theorem isfn122 : isFn Try.prog 122 = true := by kernel_rfl
theorem isfn123 : isFn Try.prog 123 = true := by kernel_rfl
theorem isfn124 : isFn Try.prog 124 = true := by kernel_rfl
theorem isfn125 : isFn Try.prog 125 = true := by kernel_rfl
theorem isfn126 : isFn Try.prog 126 = true := by kernel_rfl
theorem isfn127 : isFn Try.prog 127 = true := by kernel_rfl
theorem isfn128 : isFn Try.prog 128 = true := by kernel_rfl
theorem isfn129 : isFn Try.prog 129 = true := by kernel_rfl
theorem isfn130 : isFn Try.prog 130 = true := by kernel_rfl
theorem isfn131 : isFn Try.prog 131 = true := by kernel_rfl
theorem isfn132 : isFn Try.prog 132 = true := by kernel_rfl
theorem isfn133 : isFn Try.prog 133 = true := by kernel_rfl
theorem isfn134 : isFn Try.prog 134 = true := by kernel_rfl
theorem isfn135 : isFn Try.prog 135 = true := by kernel_rfl
theorem isfn136 : isFn Try.prog 136 = true := by kernel_rfl
theorem isfn137 : isFn Try.prog 137 = true := by kernel_rfl
theorem isfn138 : isFn Try.prog 138 = true := by kernel_rfl
theorem isfn139 : isFn Try.prog 139 = true := by kernel_rfl
theorem isfn140 : isFn Try.prog 140 = true := by kernel_rfl
theorem isfn141 : isFn Try.prog 141 = true := by kernel_rfl
theorem isfn149 : isFn Try.prog 149 = true := by kernel_rfl
theorem isfn152 : isFn Try.prog 152 = true := by kernel_rfl
theorem isfn153 : isFn Try.prog 153 = true := by kernel_rfl
theorem isfn158 : isFn Try.prog 158 = true := by kernel_rfl
theorem isfn159 : isFn Try.prog 159 = true := by kernel_rfl
theorem isfn160 : isFn Try.prog 160 = true := by kernel_rfl
theorem isfn161 : isFn Try.prog 161 = true := by kernel_rfl
theorem isfn162 : isFn Try.prog 162 = true := by kernel_rfl
theorem isfn163 : isFn Try.prog 163 = true := by kernel_rfl
theorem isfn164 : isFn Try.prog 164 = true := by kernel_rfl
theorem isfn165 : isFn Try.prog 165 = true := by kernel_rfl
theorem isfn166 : isFn Try.prog 166 = true := by kernel_rfl
theorem isfn167 : isFn Try.prog 167 = true := by kernel_rfl
theorem isfn168 : isFn Try.prog 168 = true := by kernel_rfl
theorem isfn169 : isFn Try.prog 169 = true := by kernel_rfl
theorem isfn170 : isFn Try.prog 170 = true := by kernel_rfl
theorem isfn171 : isFn Try.prog 171 = true := by kernel_rfl
theorem isfn172 : isFn Try.prog 172 = true := by kernel_rfl
theorem isfn173 : isFn Try.prog 173 = true := by kernel_rfl
theorem isfn179 : isFn Try.prog 179 = true := by kernel_rfl
theorem isfn187 : isFn Try.prog 187 = true := by kernel_rfl
theorem isfn188 : isFn Try.prog 188 = true := by kernel_rfl
theorem isfn189 : isFn Try.prog 189 = true := by kernel_rfl
theorem isfn190 : isFn Try.prog 190 = true := by kernel_rfl
theorem isfn191 : isFn Try.prog 191 = true := by kernel_rfl
theorem isfn195 : isFn Try.prog 195 = true := by kernel_rfl
theorem tya : (type_of% @ty2) ∧ (type_of% @ty3) ∧ (type_of% @ty4) ∧ (type_of% @ty27) ∧ (type_of% @ty32) ∧ (type_of% @ty45) ∧ (type_of% @ty47) ∧ (type_of% @ty48) ∧ (type_of% @ty49) ∧ (type_of% @ty51) ∧ (type_of% @ty56) ∧ (type_of% @ty58) ∧ (type_of% @ty60) ∧ (type_of% @ty65) ∧ (type_of% @ty67) ∧ (type_of% @ty70) ∧ (type_of% @ty71) ∧ (type_of% @ty73) ∧ (type_of% @ty78) ∧ (type_of% @ty82) ∧ (type_of% @ty89) ∧ (type_of% @ty90) ∧ (type_of% @ty94) ∧ (type_of% @ty96) ∧ (type_of% @ty102) ∧ (type_of% @ty124) ∧ (type_of% @ty127) ∧ (type_of% @ty129) ∧ (type_of% @ty148) ∧ (type_of% @ty160) ∧ (type_of% @ty161) ∧ (type_of% @ty179) ∧ (type_of% @ty181) ∧ (type_of% @ty183) ∧ (type_of% @ty187) ∧ (type_of% @ty198) ∧ (type_of% @ty206) ∧ (type_of% @ty208) ∧ (type_of% @ty209) ∧ (type_of% @isfn5) ∧ (type_of% @isfn6) ∧ (type_of% @isfn7) ∧ (type_of% @isfn8) ∧ (type_of% @isfn9) ∧ (type_of% @isfn10) ∧ (type_of% @isfn11) ∧ (type_of% @isfn21) ∧ (type_of% @isfn22) ∧ (type_of% @isfn23) ∧ (type_of% @isfn24) ∧ (type_of% @isfn25) ∧ (type_of% @isfn26) ∧ (type_of% @isfn27) ∧ (type_of% @isfn28) ∧ (type_of% @isfn29) ∧ (type_of% @isfn30) ∧ (type_of% @isfn31) ∧ (type_of% @isfn32) ∧ (type_of% @isfn33) ∧ (type_of% @isfn34) ∧ (type_of% @isfn35) ∧ (type_of% @isfn36) ∧ (type_of% @isfn37) ∧ (type_of% @isfn38) ∧ (type_of% @isfn39) ∧ (type_of% @isfn40) ∧ (type_of% @isfn41) ∧ (type_of% @isfn42) ∧ (type_of% @isfn44) ∧ (type_of% @isfn45) ∧ (type_of% @isfn46) ∧ (type_of% @isfn47) ∧ (type_of% @isfn48) ∧ (type_of% @isfn49) ∧ (type_of% @isfn50) ∧ (type_of% @isfn51) ∧ (type_of% @isfn52) ∧ (type_of% @isfn71) ∧ (type_of% @isfn72) ∧ (type_of% @isfn73) ∧ (type_of% @isfn74) ∧ (type_of% @isfn75) ∧ (type_of% @isfn76) ∧ (type_of% @isfn77) ∧ (type_of% @isfn78) ∧ (type_of% @isfn79) ∧ (type_of% @isfn80) ∧ (type_of% @isfn81) ∧ (type_of% @isfn82) ∧ (type_of% @isfn83) ∧ (type_of% @isfn84) ∧ (type_of% @isfn85) ∧ (type_of% @isfn86) ∧ (type_of% @isfn87) ∧ (type_of% @isfn88) ∧ (type_of% @isfn89) ∧ (type_of% @isfn90) ∧ (type_of% @isfn91) ∧ (type_of% @isfn92) ∧ (type_of% @isfn93) ∧ (type_of% @isfn94) ∧ (type_of% @isfn95) ∧ (type_of% @isfn96) ∧ (type_of% @isfn97) ∧ (type_of% @isfn98) ∧ (type_of% @isfn99) ∧ (type_of% @isfn103) ∧ (type_of% @isfn104) ∧ (type_of% @isfn105) ∧ (type_of% @isfn106) ∧ (type_of% @isfn107) ∧ (type_of% @isfn108) ∧ (type_of% @isfn118) ∧ (type_of% @isfn119) ∧ (type_of% @isfn120) ∧ (type_of% @isfn121) ∧ (type_of% @isfn122) ∧ (type_of% @isfn123) ∧ (type_of% @isfn124) ∧ (type_of% @isfn125) ∧ (type_of% @isfn126) ∧ (type_of% @isfn127) ∧ (type_of% @isfn128) ∧ (type_of% @isfn129) ∧ (type_of% @isfn130) ∧ (type_of% @isfn131) ∧ (type_of% @isfn132) ∧ (type_of% @isfn133) ∧ (type_of% @isfn134) ∧ (type_of% @isfn135) ∧ (type_of% @isfn136) ∧ (type_of% @isfn137) ∧ (type_of% @isfn138) ∧ (type_of% @isfn139) ∧ (type_of% @isfn140) ∧ (type_of% @isfn141) ∧ (type_of% @isfn149) ∧ (type_of% @isfn152) ∧ (type_of% @isfn153) ∧ (type_of% @isfn158) ∧ (type_of% @isfn159) ∧ (type_of% @isfn160) ∧ (type_of% @isfn161) ∧ (type_of% @isfn162) ∧ (type_of% @isfn163) ∧ (type_of% @isfn164) ∧ (type_of% @isfn165) ∧ (type_of% @isfn166) ∧ (type_of% @isfn167) ∧ (type_of% @isfn168) ∧ (type_of% @isfn169) ∧ (type_of% @isfn170) ∧ (type_of% @isfn171) ∧ (type_of% @isfn172) ∧ (type_of% @isfn173) ∧ (type_of% @isfn179) ∧ (type_of% @isfn187) ∧ (type_of% @isfn188) ∧ (type_of% @isfn189) ∧ (type_of% @isfn190) ∧ (type_of% @isfn191) ∧ (type_of% @isfn195) := ⟨ty2, ty3, ty4, ty27, ty32, ty45, ty47, ty48, ty49, ty51, ty56, ty58, ty60, ty65, ty67, ty70, ty71, ty73, ty78, ty82, ty89, ty90, ty94, ty96, ty102, ty124, ty127, ty129, ty148, ty160, ty161, ty179, ty181, ty183, ty187, ty198, ty206, ty208, ty209, isfn5, isfn6, isfn7, isfn8, isfn9, isfn10, isfn11, isfn21, isfn22, isfn23, isfn24, isfn25, isfn26, isfn27, isfn28, isfn29, isfn30, isfn31, isfn32, isfn33, isfn34, isfn35, isfn36, isfn37, isfn38, isfn39, isfn40, isfn41, isfn42, isfn44, isfn45, isfn46, isfn47, isfn48, isfn49, isfn50, isfn51, isfn52, isfn71, isfn72, isfn73, isfn74, isfn75, isfn76, isfn77, isfn78, isfn79, isfn80, isfn81, isfn82, isfn83, isfn84, isfn85, isfn86, isfn87, isfn88, isfn89, isfn90, isfn91, isfn92, isfn93, isfn94, isfn95, isfn96, isfn97, isfn98, isfn99, isfn103, isfn104, isfn105, isfn106, isfn107, isfn108, isfn118, isfn119, isfn120, isfn121, isfn122, isfn123, isfn124, isfn125, isfn126, isfn127, isfn128, isfn129, isfn130, isfn131, isfn132, isfn133, isfn134, isfn135, isfn136, isfn137, isfn138, isfn139, isfn140, isfn141, isfn149, isfn152, isfn153, isfn158, isfn159, isfn160, isfn161, isfn162, isfn163, isfn164, isfn165, isfn166, isfn167, isfn168, isfn169, isfn170, isfn171, isfn172, isfn173, isfn179, isfn187, isfn188, isfn189, isfn190, isfn191, isfn195⟩

end Go.Proofs.Ytkmgdejpdhlleaa.Dq
