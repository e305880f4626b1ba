/-
  The calm of the forms, run: part 5.
-/
import Derived.Test.YtkmocipdekogkaaGreatDoorCb
set_option linter.all false
namespace Go.Proofs.YtkmocipdekogkaaGreatDoor
set_option linter.unusedVariables false
theorem ru_f11_1 : calmR ⟨⟨1, true, (2, false), (0, false)⟩, 0, 2⟩ [1] = true := by kernel_rfl
theorem ru_f2t10_10 : calmR ⟨⟨2, true, (2, false), (1, false)⟩, 0, 2⟩ [1, 0] = true := by kernel_rfl
theorem ru_f2t22_00 : calmR ⟨⟨2, true, (2, false), (2, false)⟩, 1, 1⟩ [0, 0] = true := by kernel_rfl
theorem ru_f2f01_11 : calmR ⟨⟨2, false, (1, false), (2, false)⟩, 2, 0⟩ [1, 1] = true := by kernel_rfl
theorem ru_f2f13_21 : calmR ⟨⟨2, false, (2, false), (2, true)⟩, 0, 2⟩ [2, 1] = true := by kernel_rfl
theorem ru_f2f32_12 : calmR ⟨⟨2, false, (2, true), (2, false)⟩, 2, 1⟩ [1, 2] = true := by kernel_rfl
theorem re_f2t02_1 : restD ⟨⟨2, true, (1, false), (2, false)⟩, 2, 1⟩ (candOf ⟨⟨2, true, (1, false), (2, false)⟩, 2, 1⟩ [false]) [] = true := by kernel_rfl
theorem re_f2t13_1 : restD ⟨⟨2, true, (2, false), (2, true)⟩, 0, 2⟩ (candOf ⟨⟨2, true, (2, false), (2, true)⟩, 0, 2⟩ [false]) [] = true := by kernel_rfl
theorem re_f2t30_1 : restD ⟨⟨2, true, (2, true), (1, false)⟩, 2, 2⟩ (candOf ⟨⟨2, true, (2, true), (1, false)⟩, 2, 2⟩ [false]) [] = true := by kernel_rfl
theorem re_f2f01_1 : restD ⟨⟨2, false, (1, false), (2, false)⟩, 2, 0⟩ (candOf ⟨⟨2, false, (1, false), (2, false)⟩, 2, 0⟩ [false]) [] = true := by kernel_rfl
theorem re_f2f12_1 : restD ⟨⟨2, false, (2, false), (2, false)⟩, 0, 1⟩ (candOf ⟨⟨2, false, (2, false), (2, false)⟩, 0, 1⟩ [false]) [] = true := by kernel_rfl
theorem re_f2f23_1 : restD ⟨⟨2, false, (2, false), (2, true)⟩, 1, 2⟩ (candOf ⟨⟨2, false, (2, false), (2, true)⟩, 1, 2⟩ [false]) [] = true := by kernel_rfl
end Go.Proofs.YtkmocipdekogkaaGreatDoor
