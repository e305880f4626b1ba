/-
  The calm of the forms, run: part 14.
-/
import Derived.Test.YtkmocipdekogkaaGreatDoorCb
set_option linter.all false
namespace Go.Proofs.YtkmocipdekogkaaGreatDoor
set_option linter.unusedVariables false
theorem ru_f2t01_01 : calmR ⟨⟨2, true, (1, false), (2, false)⟩, 2, 0⟩ [0, 1] = true := by kernel_rfl
theorem ru_f2t12_11 : calmR ⟨⟨2, true, (2, false), (2, false)⟩, 0, 1⟩ [1, 1] = true := by kernel_rfl
theorem ru_f2t31_21 : calmR ⟨⟨2, true, (2, true), (2, false)⟩, 2, 0⟩ [2, 1] = true := by kernel_rfl
theorem ru_f2f10_10 : calmR ⟨⟨2, false, (2, false), (1, false)⟩, 0, 2⟩ [1, 0] = true := by kernel_rfl
theorem ru_f2f22_00 : calmR ⟨⟨2, false, (2, false), (2, false)⟩, 1, 1⟩ [0, 0] = true := by kernel_rfl
theorem re_f13_0 : restD ⟨⟨1, true, (2, true), (0, false)⟩, 2, 2⟩ (candOf ⟨⟨1, true, (2, true), (0, false)⟩, 2, 2⟩ []) [] = true := by kernel_rfl
theorem re_f2t10_2 : restD ⟨⟨2, true, (2, false), (1, false)⟩, 0, 2⟩ (candOf ⟨⟨2, true, (2, false), (1, false)⟩, 0, 2⟩ [true]) [] = true := by kernel_rfl
theorem re_f2t21_2 : restD ⟨⟨2, true, (2, false), (2, false)⟩, 1, 0⟩ (candOf ⟨⟨2, true, (2, false), (2, false)⟩, 1, 0⟩ [true]) [] = true := by kernel_rfl
theorem re_f2t32_2 : restD ⟨⟨2, true, (2, true), (2, false)⟩, 2, 1⟩ (candOf ⟨⟨2, true, (2, true), (2, false)⟩, 2, 1⟩ [true]) [] = true := by kernel_rfl
theorem re_f2f03_2 : restD ⟨⟨2, false, (1, false), (2, true)⟩, 2, 2⟩ (candOf ⟨⟨2, false, (1, false), (2, true)⟩, 2, 2⟩ [true]) [] = true := by kernel_rfl
theorem re_f2f20_2 : restD ⟨⟨2, false, (2, false), (1, false)⟩, 1, 2⟩ (candOf ⟨⟨2, false, (2, false), (1, false)⟩, 1, 2⟩ [true]) [] = true := by kernel_rfl
theorem re_f2f31_2 : restD ⟨⟨2, false, (2, true), (2, false)⟩, 2, 0⟩ (candOf ⟨⟨2, false, (2, true), (2, false)⟩, 2, 0⟩ [true]) [] = true := by kernel_rfl
end Go.Proofs.YtkmocipdekogkaaGreatDoor
