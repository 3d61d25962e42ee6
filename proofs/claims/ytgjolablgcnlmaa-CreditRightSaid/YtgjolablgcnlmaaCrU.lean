/- Frames of 298 slots written out; what stands behind a region. (printed) -/
import Derived.Test.YtgjolablgcnlmaaCrT
namespace Go.Proofs.Ytgjolablgcnlmaa
set_option linter.unusedSimpArgs false
set_option linter.unusedVariables false
open Go.RowKit

/-- What stands behind the region numbered n. -/
def restOf (n : Nat) : Code → Option Code
  | .seq (.region id ops d) b => if id = n then some b else restOf n b
  | .seq a b => match restOf n a with
    | some c => some c
    | none => restOf n b
  | .block _ c => restOf n c
  | .scope c => restOf n c
  | .loop c => restOf n c
  | .cond _ a b => match restOf n a with
    | some c => some c
    | none => restOf n b
  | _ => none
theorem lit298 (f : Nat → Value) : Array.ofFn (n := 298) (fun i => f i.val) = #[f 0, f 1, f 2, f 3, f 4, f 5, f 6, f 7, f 8, f 9, f 10, f 11, f 12, f 13, f 14, f 15, f 16, f 17, f 18, f 19, f 20, f 21, f 22, f 23, f 24, f 25, f 26, f 27, f 28, f 29, f 30, f 31, f 32, f 33, f 34, f 35, f 36, f 37, f 38, f 39, f 40, f 41, f 42, f 43, f 44, f 45, f 46, f 47, f 48, f 49, f 50, f 51, f 52, f 53, f 54, f 55, f 56, f 57, f 58, f 59, f 60, f 61, f 62, f 63, f 64, f 65, f 66, f 67, f 68, f 69, f 70, f 71, f 72, f 73, f 74, f 75, f 76, f 77, f 78, f 79, f 80, f 81, f 82, f 83, f 84, f 85, f 86, f 87, f 88, f 89, f 90, f 91, f 92, f 93, f 94, f 95, f 96, f 97, f 98, f 99, f 100, f 101, f 102, f 103, f 104, f 105, f 106, f 107, f 108, f 109, f 110, f 111, f 112, f 113, f 114, f 115, f 116, f 117, f 118, f 119, f 120, f 121, f 122, f 123, f 124, f 125, f 126, f 127, f 128, f 129, f 130, f 131, f 132, f 133, f 134, f 135, f 136, f 137, f 138, f 139, f 140, f 141, f 142, f 143, f 144, f 145, f 146, f 147, f 148, f 149, f 150, f 151, f 152, f 153, f 154, f 155, f 156, f 157, f 158, f 159, f 160, f 161, f 162, f 163, f 164, f 165, f 166, f 167, f 168, f 169, f 170, f 171, f 172, f 173, f 174, f 175, f 176, f 177, f 178, f 179, f 180, f 181, f 182, f 183, f 184, f 185, f 186, f 187, f 188, f 189, f 190, f 191, f 192, f 193, f 194, f 195, f 196, f 197, f 198, f 199, f 200, f 201, f 202, f 203, f 204, f 205, f 206, f 207, f 208, f 209, f 210, f 211, f 212, f 213, f 214, f 215, f 216, f 217, f 218, f 219, f 220, f 221, f 222, f 223, f 224, f 225, f 226, f 227, f 228, f 229, f 230, f 231, f 232, f 233, f 234, f 235, f 236, f 237, f 238, f 239, f 240, f 241, f 242, f 243, f 244, f 245, f 246, f 247, f 248, f 249, f 250, f 251, f 252, f 253, f 254, f 255, f 256, f 257, f 258, f 259, f 260, f 261, f 262, f 263, f 264, f 265, f 266, f 267, f 268, f 269, f 270, f 271, f 272, f 273, f 274, f 275, f 276, f 277, f 278, f 279, f 280, f 281, f 282, f 283, f 284, f 285, f 286, f 287, f 288, f 289, f 290, f 291, f 292, f 293, f 294, f 295, f 296, f 297] := by kernel_rfl
theorem act_of (n : Nat) (a : Act) (hs : a.tmps.size = n) (hd : a.defers = []) : a = ⟨Array.ofFn (n := n) (fun i => V a i.val), []⟩ := by
  obtain ⟨t, d⟩ := a
  obtain rfl : d = [] := hd
  congr 1
  apply Array.ext
  · rw [Array.size_ofFn]; exact hs
  · intro i h1 h2
    rw [Array.getElem_ofFn]
    unfold V
    simp [h1]
set_option maxRecDepth 100000 in
set_option maxHeartbeats 2000000 in
theorem act298 (a : Act) (hs : a.tmps.size = 298) (hd : a.defers = []) : a = ⟨#[V a 0, V a 1, V a 2, V a 3, V a 4, V a 5, V a 6, V a 7, V a 8, V a 9, V a 10, V a 11, V a 12, V a 13, V a 14, V a 15, V a 16, V a 17, V a 18, V a 19, V a 20, V a 21, V a 22, V a 23, V a 24, V a 25, V a 26, V a 27, V a 28, V a 29, V a 30, V a 31, V a 32, V a 33, V a 34, V a 35, V a 36, V a 37, V a 38, V a 39, V a 40, V a 41, V a 42, V a 43, V a 44, V a 45, V a 46, V a 47, V a 48, V a 49, V a 50, V a 51, V a 52, V a 53, V a 54, V a 55, V a 56, V a 57, V a 58, V a 59, V a 60, V a 61, V a 62, V a 63, V a 64, V a 65, V a 66, V a 67, V a 68, V a 69, V a 70, V a 71, V a 72, V a 73, V a 74, V a 75, V a 76, V a 77, V a 78, V a 79, V a 80, V a 81, V a 82, V a 83, V a 84, V a 85, V a 86, V a 87, V a 88, V a 89, V a 90, V a 91, V a 92, V a 93, V a 94, V a 95, V a 96, V a 97, V a 98, V a 99, V a 100, V a 101, V a 102, V a 103, V a 104, V a 105, V a 106, V a 107, V a 108, V a 109, V a 110, V a 111, V a 112, V a 113, V a 114, V a 115, V a 116, V a 117, V a 118, V a 119, V a 120, V a 121, V a 122, V a 123, V a 124, V a 125, V a 126, V a 127, V a 128, V a 129, V a 130, V a 131, V a 132, V a 133, V a 134, V a 135, V a 136, V a 137, V a 138, V a 139, V a 140, V a 141, V a 142, V a 143, V a 144, V a 145, V a 146, V a 147, V a 148, V a 149, V a 150, V a 151, V a 152, V a 153, V a 154, V a 155, V a 156, V a 157, V a 158, V a 159, V a 160, V a 161, V a 162, V a 163, V a 164, V a 165, V a 166, V a 167, V a 168, V a 169, V a 170, V a 171, V a 172, V a 173, V a 174, V a 175, V a 176, V a 177, V a 178, V a 179, V a 180, V a 181, V a 182, V a 183, V a 184, V a 185, V a 186, V a 187, V a 188, V a 189, V a 190, V a 191, V a 192, V a 193, V a 194, V a 195, V a 196, V a 197, V a 198, V a 199, V a 200, V a 201, V a 202, V a 203, V a 204, V a 205, V a 206, V a 207, V a 208, V a 209, V a 210, V a 211, V a 212, V a 213, V a 214, V a 215, V a 216, V a 217, V a 218, V a 219, V a 220, V a 221, V a 222, V a 223, V a 224, V a 225, V a 226, V a 227, V a 228, V a 229, V a 230, V a 231, V a 232, V a 233, V a 234, V a 235, V a 236, V a 237, V a 238, V a 239, V a 240, V a 241, V a 242, V a 243, V a 244, V a 245, V a 246, V a 247, V a 248, V a 249, V a 250, V a 251, V a 252, V a 253, V a 254, V a 255, V a 256, V a 257, V a 258, V a 259, V a 260, V a 261, V a 262, V a 263, V a 264, V a 265, V a 266, V a 267, V a 268, V a 269, V a 270, V a 271, V a 272, V a 273, V a 274, V a 275, V a 276, V a 277, V a 278, V a 279, V a 280, V a 281, V a 282, V a 283, V a 284, V a 285, V a 286, V a 287, V a 288, V a 289, V a 290, V a 291, V a 292, V a 293, V a 294, V a 295, V a 296, V a 297], []⟩ :=
  (act_of 298 a hs hd).trans (congrArg (fun t => (⟨t, []⟩ : Act)) (lit298 (V a)))
noncomputable def rest24 : Code := ((Try.f3.body.bind (restOf 24)).getD Code.skip)
end Go.Proofs.Ytgjolablgcnlmaa
