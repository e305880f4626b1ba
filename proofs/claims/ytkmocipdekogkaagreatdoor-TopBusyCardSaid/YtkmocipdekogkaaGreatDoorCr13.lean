/-
  The calm of the forms, run: part 13.
-/
import Derived.Test.YtkmocipdekogkaaGreatDoorCb
set_option linter.all false
namespace Go.Proofs.YtkmocipdekogkaaGreatDoor
set_option linter.unusedVariables false
theorem ru_f2t01_00 : calmR ⟨⟨2, true, (1, false), (2, false)⟩, 2, 0⟩ [0, 0] = true := by kernel_rfl
theorem ru_f2t12_10 : calmR ⟨⟨2, true, (2, false), (2, false)⟩, 0, 1⟩ [1, 0] = true := by kernel_rfl
theorem ru_f2t31_20 : calmR ⟨⟨2, true, (2, true), (2, false)⟩, 2, 0⟩ [2, 0] = true := by kernel_rfl
theorem ru_f2f10_01 : calmR ⟨⟨2, false, (2, false), (1, false)⟩, 0, 2⟩ [0, 1] = true := by kernel_rfl
theorem ru_f2f21_11 : calmR ⟨⟨2, false, (2, false), (2, false)⟩, 1, 0⟩ [1, 1] = true := by kernel_rfl
theorem re_f12_1 : restD ⟨⟨1, true, (2, false), (0, false)⟩, 1, 2⟩ (candOf ⟨⟨1, true, (2, false), (0, false)⟩, 1, 2⟩ [false]) [] = true := by kernel_rfl
theorem re_f2t10_1 : restD ⟨⟨2, true, (2, false), (1, false)⟩, 0, 2⟩ (candOf ⟨⟨2, true, (2, false), (1, false)⟩, 0, 2⟩ [false]) [] = true := by kernel_rfl
theorem re_f2t21_1 : restD ⟨⟨2, true, (2, false), (2, false)⟩, 1, 0⟩ (candOf ⟨⟨2, true, (2, false), (2, false)⟩, 1, 0⟩ [false]) [] = true := by kernel_rfl
theorem re_f2t32_1 : restD ⟨⟨2, true, (2, true), (2, false)⟩, 2, 1⟩ (candOf ⟨⟨2, true, (2, true), (2, false)⟩, 2, 1⟩ [false]) [] = true := by kernel_rfl
theorem re_f2f03_1 : restD ⟨⟨2, false, (1, false), (2, true)⟩, 2, 2⟩ (candOf ⟨⟨2, false, (1, false), (2, true)⟩, 2, 2⟩ [false]) [] = true := by kernel_rfl
theorem re_f2f20_1 : restD ⟨⟨2, false, (2, false), (1, false)⟩, 1, 2⟩ (candOf ⟨⟨2, false, (2, false), (1, false)⟩, 1, 2⟩ [false]) [] = true := by kernel_rfl
theorem re_f2f31_1 : restD ⟨⟨2, false, (2, true), (2, false)⟩, 2, 0⟩ (candOf ⟨⟨2, false, (2, true), (2, false)⟩, 2, 0⟩ [false]) [] = true := by kernel_rfl
end Go.Proofs.YtkmocipdekogkaaGreatDoor
