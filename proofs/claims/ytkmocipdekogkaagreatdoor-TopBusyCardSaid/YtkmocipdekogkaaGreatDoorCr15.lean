/-
  The calm of the forms, run: part 15.
-/
import Derived.Test.YtkmocipdekogkaaGreatDoorCb
set_option linter.all false
namespace Go.Proofs.YtkmocipdekogkaaGreatDoor
set_option linter.unusedVariables false
theorem ru_f2t01_10 : calmR ⟨⟨2, true, (1, false), (2, false)⟩, 2, 0⟩ [1, 0] = true := by kernel_rfl
theorem ru_f2t13_02 : calmR ⟨⟨2, true, (2, false), (2, true)⟩, 0, 2⟩ [0, 2] = true := by kernel_rfl
theorem ru_f2t32_20 : calmR ⟨⟨2, true, (2, true), (2, false)⟩, 2, 1⟩ [2, 0] = true := by kernel_rfl
theorem ru_f2f10_11 : calmR ⟨⟨2, false, (2, false), (1, false)⟩, 0, 2⟩ [1, 1] = true := by kernel_rfl
theorem ru_f2f22_01 : calmR ⟨⟨2, false, (2, false), (2, false)⟩, 1, 1⟩ [0, 1] = true := by kernel_rfl
theorem re_f13_1 : restD ⟨⟨1, true, (2, true), (0, false)⟩, 2, 2⟩ (candOf ⟨⟨1, true, (2, true), (0, false)⟩, 2, 2⟩ [false]) [] = true := by kernel_rfl
theorem re_f2t10_3 : restD ⟨⟨2, true, (2, false), (1, false)⟩, 0, 2⟩ (candOf ⟨⟨2, true, (2, false), (1, false)⟩, 0, 2⟩ [false, true]) [] = true := by kernel_rfl
theorem re_f2t21_3 : restD ⟨⟨2, true, (2, false), (2, false)⟩, 1, 0⟩ (candOf ⟨⟨2, true, (2, false), (2, false)⟩, 1, 0⟩ [false, true]) [] = true := by kernel_rfl
theorem re_f2t32_3 : restD ⟨⟨2, true, (2, true), (2, false)⟩, 2, 1⟩ (candOf ⟨⟨2, true, (2, true), (2, false)⟩, 2, 1⟩ [false, true]) [] = true := by kernel_rfl
theorem re_f2f03_3 : restD ⟨⟨2, false, (1, false), (2, true)⟩, 2, 2⟩ (candOf ⟨⟨2, false, (1, false), (2, true)⟩, 2, 2⟩ [true, false]) [] = true := by kernel_rfl
theorem re_f2f20_3 : restD ⟨⟨2, false, (2, false), (1, false)⟩, 1, 2⟩ (candOf ⟨⟨2, false, (2, false), (1, false)⟩, 1, 2⟩ [true, false]) [] = true := by kernel_rfl
theorem re_f2f31_3 : restD ⟨⟨2, false, (2, true), (2, false)⟩, 2, 0⟩ (candOf ⟨⟨2, false, (2, true), (2, false)⟩, 2, 0⟩ [true, false]) [] = true := by kernel_rfl
end Go.Proofs.YtkmocipdekogkaaGreatDoor
