/-
  The calm of the forms, run: part 6.
-/
import Derived.Test.YtkmocipdekogkaaGreatDoorCb
set_option linter.all false
namespace Go.Proofs.YtkmocipdekogkaaGreatDoor
set_option linter.unusedVariables false
theorem ru_f12_0 : calmR ⟨⟨1, true, (2, false), (0, false)⟩, 1, 2⟩ [0] = true := by kernel_rfl
theorem ru_f2t10_11 : calmR ⟨⟨2, true, (2, false), (1, false)⟩, 0, 2⟩ [1, 1] = true := by kernel_rfl
theorem ru_f2t22_01 : calmR ⟨⟨2, true, (2, false), (2, false)⟩, 1, 1⟩ [0, 1] = true := by kernel_rfl
theorem ru_f2f02_00 : calmR ⟨⟨2, false, (1, false), (2, false)⟩, 2, 1⟩ [0, 0] = true := by kernel_rfl
theorem ru_f2f20_00 : calmR ⟨⟨2, false, (2, false), (1, false)⟩, 1, 2⟩ [0, 0] = true := by kernel_rfl
theorem ru_f2f33_22 : calmR ⟨⟨2, false, (2, true), (2, true)⟩, 2, 2⟩ [2, 2] = true := by kernel_rfl
theorem re_f2t02_2 : restD ⟨⟨2, true, (1, false), (2, false)⟩, 2, 1⟩ (candOf ⟨⟨2, true, (1, false), (2, false)⟩, 2, 1⟩ [true]) [] = true := by kernel_rfl
theorem re_f2t13_2 : restD ⟨⟨2, true, (2, false), (2, true)⟩, 0, 2⟩ (candOf ⟨⟨2, true, (2, false), (2, true)⟩, 0, 2⟩ [true]) [] = true := by kernel_rfl
theorem re_f2t30_2 : restD ⟨⟨2, true, (2, true), (1, false)⟩, 2, 2⟩ (candOf ⟨⟨2, true, (2, true), (1, false)⟩, 2, 2⟩ [true]) [] = true := by kernel_rfl
theorem re_f2f01_2 : restD ⟨⟨2, false, (1, false), (2, false)⟩, 2, 0⟩ (candOf ⟨⟨2, false, (1, false), (2, false)⟩, 2, 0⟩ [true]) [] = true := by kernel_rfl
theorem re_f2f12_2 : restD ⟨⟨2, false, (2, false), (2, false)⟩, 0, 1⟩ (candOf ⟨⟨2, false, (2, false), (2, false)⟩, 0, 1⟩ [true]) [] = true := by kernel_rfl
theorem re_f2f23_2 : restD ⟨⟨2, false, (2, false), (2, true)⟩, 1, 2⟩ (candOf ⟨⟨2, false, (2, false), (2, true)⟩, 1, 2⟩ [true]) [] = true := by kernel_rfl
end Go.Proofs.YtkmocipdekogkaaGreatDoor
