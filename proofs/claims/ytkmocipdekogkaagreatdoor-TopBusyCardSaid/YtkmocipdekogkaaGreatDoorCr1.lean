/-
  The calm of the forms, run: part 1.
-/
import Derived.Test.YtkmocipdekogkaaGreatDoorCb
set_option linter.all false
namespace Go.Proofs.YtkmocipdekogkaaGreatDoor
set_option linter.unusedVariables false
theorem ru_f0_ : calmR ⟨⟨0, true, (1, false), (0, false)⟩, 2, 2⟩ [] = true := by kernel_rfl
theorem ru_f2t03_02 : calmR ⟨⟨2, true, (1, false), (2, true)⟩, 2, 2⟩ [0, 2] = true := by kernel_rfl
theorem ru_f2t21_00 : calmR ⟨⟨2, true, (2, false), (2, false)⟩, 1, 0⟩ [0, 0] = true := by kernel_rfl
theorem ru_f2f00_11 : calmR ⟨⟨2, false, (1, false), (1, false)⟩, 2, 2⟩ [1, 1] = true := by kernel_rfl
theorem ru_f2f12_01 : calmR ⟨⟨2, false, (2, false), (2, false)⟩, 0, 1⟩ [0, 1] = true := by kernel_rfl
theorem ru_f2f30_12 : calmR ⟨⟨2, false, (2, true), (1, false)⟩, 2, 2⟩ [1, 2] = true := by kernel_rfl
theorem re_f2t01_1 : restD ⟨⟨2, true, (1, false), (2, false)⟩, 2, 0⟩ (candOf ⟨⟨2, true, (1, false), (2, false)⟩, 2, 0⟩ [false]) [] = true := by kernel_rfl
theorem re_f2t12_1 : restD ⟨⟨2, true, (2, false), (2, false)⟩, 0, 1⟩ (candOf ⟨⟨2, true, (2, false), (2, false)⟩, 0, 1⟩ [false]) [] = true := by kernel_rfl
theorem re_f2t23_1 : restD ⟨⟨2, true, (2, false), (2, true)⟩, 1, 2⟩ (candOf ⟨⟨2, true, (2, false), (2, true)⟩, 1, 2⟩ [false]) [] = true := by kernel_rfl
theorem re_f2f00_1 : restD ⟨⟨2, false, (1, false), (1, false)⟩, 2, 2⟩ (candOf ⟨⟨2, false, (1, false), (1, false)⟩, 2, 2⟩ [false]) [] = true := by kernel_rfl
theorem re_f2f11_1 : restD ⟨⟨2, false, (2, false), (2, false)⟩, 0, 0⟩ (candOf ⟨⟨2, false, (2, false), (2, false)⟩, 0, 0⟩ [false]) [] = true := by kernel_rfl
theorem re_f2f22_1 : restD ⟨⟨2, false, (2, false), (2, false)⟩, 1, 1⟩ (candOf ⟨⟨2, false, (2, false), (2, false)⟩, 1, 1⟩ [false]) [] = true := by kernel_rfl
theorem re_f2f33_1 : restD ⟨⟨2, false, (2, true), (2, true)⟩, 2, 2⟩ (candOf ⟨⟨2, false, (2, true), (2, true)⟩, 2, 2⟩ [false]) [] = true := by kernel_rfl
end Go.Proofs.YtkmocipdekogkaaGreatDoor
