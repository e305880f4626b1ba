/-
  The calm of the forms, run: part 10.
-/
import Derived.Test.YtkmocipdekogkaaGreatDoorCb
set_option linter.all false
namespace Go.Proofs.YtkmocipdekogkaaGreatDoor
set_option linter.unusedVariables false
theorem ru_f2t00_01 : calmR ⟨⟨2, true, (1, false), (1, false)⟩, 2, 2⟩ [0, 1] = true := by kernel_rfl
theorem ru_f2t11_11 : calmR ⟨⟨2, true, (2, false), (2, false)⟩, 0, 0⟩ [1, 1] = true := by kernel_rfl
theorem ru_f2t23_12 : calmR ⟨⟨2, true, (2, false), (2, true)⟩, 1, 2⟩ [1, 2] = true := by kernel_rfl
theorem ru_f2f03_20 : calmR ⟨⟨2, false, (1, false), (2, true)⟩, 2, 2⟩ [2, 0] = true := by kernel_rfl
theorem ru_f2f21_00 : calmR ⟨⟨2, false, (2, false), (2, false)⟩, 1, 0⟩ [0, 0] = true := by kernel_rfl
theorem re_f11_0 : restD ⟨⟨1, true, (2, false), (0, false)⟩, 0, 2⟩ (candOf ⟨⟨1, true, (2, false), (0, false)⟩, 0, 2⟩ []) [] = true := by kernel_rfl
theorem re_f2t03_2 : restD ⟨⟨2, true, (1, false), (2, true)⟩, 2, 2⟩ (candOf ⟨⟨2, true, (1, false), (2, true)⟩, 2, 2⟩ [true]) [] = true := by kernel_rfl
theorem re_f2t20_2 : restD ⟨⟨2, true, (2, false), (1, false)⟩, 1, 2⟩ (candOf ⟨⟨2, true, (2, false), (1, false)⟩, 1, 2⟩ [true]) [] = true := by kernel_rfl
theorem re_f2t31_2 : restD ⟨⟨2, true, (2, true), (2, false)⟩, 2, 0⟩ (candOf ⟨⟨2, true, (2, true), (2, false)⟩, 2, 0⟩ [true]) [] = true := by kernel_rfl
theorem re_f2f02_2 : restD ⟨⟨2, false, (1, false), (2, false)⟩, 2, 1⟩ (candOf ⟨⟨2, false, (1, false), (2, false)⟩, 2, 1⟩ [true]) [] = true := by kernel_rfl
theorem re_f2f13_2 : restD ⟨⟨2, false, (2, false), (2, true)⟩, 0, 2⟩ (candOf ⟨⟨2, false, (2, false), (2, true)⟩, 0, 2⟩ [true]) [] = true := by kernel_rfl
theorem re_f2f30_2 : restD ⟨⟨2, false, (2, true), (1, false)⟩, 2, 2⟩ (candOf ⟨⟨2, false, (2, true), (1, false)⟩, 2, 2⟩ [true]) [] = true := by kernel_rfl
end Go.Proofs.YtkmocipdekogkaaGreatDoor
