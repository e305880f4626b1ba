/-
  The calm of the forms, run: part 2.
-/
import Derived.Test.YtkmocipdekogkaaGreatDoorCb
set_option linter.all false
namespace Go.Proofs.YtkmocipdekogkaaGreatDoor
set_option linter.unusedVariables false
theorem ru_f10_0 : calmR ⟨⟨1, true, (1, false), (0, false)⟩, 2, 2⟩ [0] = true := by kernel_rfl
theorem ru_f2t03_12 : calmR ⟨⟨2, true, (1, false), (2, true)⟩, 2, 2⟩ [1, 2] = true := by kernel_rfl
theorem ru_f2t21_01 : calmR ⟨⟨2, true, (2, false), (2, false)⟩, 1, 0⟩ [0, 1] = true := by kernel_rfl
theorem ru_f2f01_00 : calmR ⟨⟨2, false, (1, false), (2, false)⟩, 2, 0⟩ [0, 0] = true := by kernel_rfl
theorem ru_f2f12_10 : calmR ⟨⟨2, false, (2, false), (2, false)⟩, 0, 1⟩ [1, 0] = true := by kernel_rfl
theorem ru_f2f31_02 : calmR ⟨⟨2, false, (2, true), (2, false)⟩, 2, 0⟩ [0, 2] = true := by kernel_rfl
theorem re_f2t01_2 : restD ⟨⟨2, true, (1, false), (2, false)⟩, 2, 0⟩ (candOf ⟨⟨2, true, (1, false), (2, false)⟩, 2, 0⟩ [true]) [] = true := by kernel_rfl
theorem re_f2t12_2 : restD ⟨⟨2, true, (2, false), (2, false)⟩, 0, 1⟩ (candOf ⟨⟨2, true, (2, false), (2, false)⟩, 0, 1⟩ [true]) [] = true := by kernel_rfl
theorem re_f2t23_2 : restD ⟨⟨2, true, (2, false), (2, true)⟩, 1, 2⟩ (candOf ⟨⟨2, true, (2, false), (2, true)⟩, 1, 2⟩ [true]) [] = true := by kernel_rfl
theorem re_f2f00_2 : restD ⟨⟨2, false, (1, false), (1, false)⟩, 2, 2⟩ (candOf ⟨⟨2, false, (1, false), (1, false)⟩, 2, 2⟩ [true]) [] = true := by kernel_rfl
theorem re_f2f11_2 : restD ⟨⟨2, false, (2, false), (2, false)⟩, 0, 0⟩ (candOf ⟨⟨2, false, (2, false), (2, false)⟩, 0, 0⟩ [true]) [] = true := by kernel_rfl
theorem re_f2f22_2 : restD ⟨⟨2, false, (2, false), (2, false)⟩, 1, 1⟩ (candOf ⟨⟨2, false, (2, false), (2, false)⟩, 1, 1⟩ [true]) [] = true := by kernel_rfl
theorem re_f2f33_2 : restD ⟨⟨2, false, (2, true), (2, true)⟩, 2, 2⟩ (candOf ⟨⟨2, false, (2, true), (2, true)⟩, 2, 2⟩ [true]) [] = true := by kernel_rfl
end Go.Proofs.YtkmocipdekogkaaGreatDoor
