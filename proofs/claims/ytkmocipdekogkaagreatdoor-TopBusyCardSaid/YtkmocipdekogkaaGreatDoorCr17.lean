/-
  The calm of the forms, run: part 17.
-/
import Derived.Test.YtkmocipdekogkaaGreatDoorCb
set_option linter.all false
namespace Go.Proofs.YtkmocipdekogkaaGreatDoor
set_option linter.unusedVariables false
theorem ru_f2t02_00 : calmR ⟨⟨2, true, (1, false), (2, false)⟩, 2, 1⟩ [0, 0] = true := by kernel_rfl
theorem ru_f2t20_00 : calmR ⟨⟨2, true, (2, false), (1, false)⟩, 1, 2⟩ [0, 0] = true := by kernel_rfl
theorem ru_f2t33_22 : calmR ⟨⟨2, true, (2, true), (2, true)⟩, 2, 2⟩ [2, 2] = true := by kernel_rfl
theorem ru_f2f11_01 : calmR ⟨⟨2, false, (2, false), (2, false)⟩, 0, 0⟩ [0, 1] = true := by kernel_rfl
theorem ru_f2f22_11 : calmR ⟨⟨2, false, (2, false), (2, false)⟩, 1, 1⟩ [1, 1] = true := by kernel_rfl
theorem re_f2t00_1 : restD ⟨⟨2, true, (1, false), (1, false)⟩, 2, 2⟩ (candOf ⟨⟨2, true, (1, false), (1, false)⟩, 2, 2⟩ [false]) [] = true := by kernel_rfl
theorem re_f2t11_1 : restD ⟨⟨2, true, (2, false), (2, false)⟩, 0, 0⟩ (candOf ⟨⟨2, true, (2, false), (2, false)⟩, 0, 0⟩ [false]) [] = true := by kernel_rfl
theorem re_f2t22_1 : restD ⟨⟨2, true, (2, false), (2, false)⟩, 1, 1⟩ (candOf ⟨⟨2, true, (2, false), (2, false)⟩, 1, 1⟩ [false]) [] = true := by kernel_rfl
theorem re_f2t33_1 : restD ⟨⟨2, true, (2, true), (2, true)⟩, 2, 2⟩ (candOf ⟨⟨2, true, (2, true), (2, true)⟩, 2, 2⟩ [false]) [] = true := by kernel_rfl
theorem re_f2f10_1 : restD ⟨⟨2, false, (2, false), (1, false)⟩, 0, 2⟩ (candOf ⟨⟨2, false, (2, false), (1, false)⟩, 0, 2⟩ [false]) [] = true := by kernel_rfl
theorem re_f2f21_1 : restD ⟨⟨2, false, (2, false), (2, false)⟩, 1, 0⟩ (candOf ⟨⟨2, false, (2, false), (2, false)⟩, 1, 0⟩ [false]) [] = true := by kernel_rfl
theorem re_f2f32_1 : restD ⟨⟨2, false, (2, true), (2, false)⟩, 2, 1⟩ (candOf ⟨⟨2, false, (2, true), (2, false)⟩, 2, 1⟩ [false]) [] = true := by kernel_rfl
end Go.Proofs.YtkmocipdekogkaaGreatDoor
