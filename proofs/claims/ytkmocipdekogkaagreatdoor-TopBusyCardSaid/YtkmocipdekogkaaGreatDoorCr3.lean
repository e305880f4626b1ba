/-
  The calm of the forms, run: part 3.
-/
import Derived.Test.YtkmocipdekogkaaGreatDoorCb
set_option linter.all false
namespace Go.Proofs.YtkmocipdekogkaaGreatDoor
set_option linter.unusedVariables false
theorem ru_f10_1 : calmR ⟨⟨1, true, (1, false), (0, false)⟩, 2, 2⟩ [1] = true := by kernel_rfl
theorem ru_f2t10_00 : calmR ⟨⟨2, true, (2, false), (1, false)⟩, 0, 2⟩ [0, 0] = true := by kernel_rfl
theorem ru_f2t21_10 : calmR ⟨⟨2, true, (2, false), (2, false)⟩, 1, 0⟩ [1, 0] = true := by kernel_rfl
theorem ru_f2f01_01 : calmR ⟨⟨2, false, (1, false), (2, false)⟩, 2, 0⟩ [0, 1] = true := by kernel_rfl
theorem ru_f2f12_11 : calmR ⟨⟨2, false, (2, false), (2, false)⟩, 0, 1⟩ [1, 1] = true := by kernel_rfl
theorem ru_f2f31_12 : calmR ⟨⟨2, false, (2, true), (2, false)⟩, 2, 0⟩ [1, 2] = true := by kernel_rfl
theorem re_f2t01_3 : restD ⟨⟨2, true, (1, false), (2, false)⟩, 2, 0⟩ (candOf ⟨⟨2, true, (1, false), (2, false)⟩, 2, 0⟩ [false, true]) [] = true := by kernel_rfl
theorem re_f2t12_3 : restD ⟨⟨2, true, (2, false), (2, false)⟩, 0, 1⟩ (candOf ⟨⟨2, true, (2, false), (2, false)⟩, 0, 1⟩ [false, true]) [] = true := by kernel_rfl
theorem re_f2t23_3 : restD ⟨⟨2, true, (2, false), (2, true)⟩, 1, 2⟩ (candOf ⟨⟨2, true, (2, false), (2, true)⟩, 1, 2⟩ [false, true]) [] = true := by kernel_rfl
theorem re_f2f00_3 : restD ⟨⟨2, false, (1, false), (1, false)⟩, 2, 2⟩ (candOf ⟨⟨2, false, (1, false), (1, false)⟩, 2, 2⟩ [true, false]) [] = true := by kernel_rfl
theorem re_f2f11_3 : restD ⟨⟨2, false, (2, false), (2, false)⟩, 0, 0⟩ (candOf ⟨⟨2, false, (2, false), (2, false)⟩, 0, 0⟩ [true, false]) [] = true := by kernel_rfl
theorem re_f2f22_3 : restD ⟨⟨2, false, (2, false), (2, false)⟩, 1, 1⟩ (candOf ⟨⟨2, false, (2, false), (2, false)⟩, 1, 1⟩ [true, false]) [] = true := by kernel_rfl
theorem re_f2f33_3 : restD ⟨⟨2, false, (2, true), (2, true)⟩, 2, 2⟩ (candOf ⟨⟨2, false, (2, true), (2, true)⟩, 2, 2⟩ [true, false]) [] = true := by kernel_rfl
end Go.Proofs.YtkmocipdekogkaaGreatDoor
