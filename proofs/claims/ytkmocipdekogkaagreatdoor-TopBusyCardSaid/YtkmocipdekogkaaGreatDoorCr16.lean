/-
  The calm of the forms, run: part 16.
-/
import Derived.Test.YtkmocipdekogkaaGreatDoorCb
set_option linter.all false
namespace Go.Proofs.YtkmocipdekogkaaGreatDoor
set_option linter.unusedVariables false
theorem ru_f2t01_11 : calmR ⟨⟨2, true, (1, false), (2, false)⟩, 2, 0⟩ [1, 1] = true := by kernel_rfl
theorem ru_f2t13_12 : calmR ⟨⟨2, true, (2, false), (2, true)⟩, 0, 2⟩ [1, 2] = true := by kernel_rfl
theorem ru_f2t32_21 : calmR ⟨⟨2, true, (2, true), (2, false)⟩, 2, 1⟩ [2, 1] = true := by kernel_rfl
theorem ru_f2f11_00 : calmR ⟨⟨2, false, (2, false), (2, false)⟩, 0, 0⟩ [0, 0] = true := by kernel_rfl
theorem ru_f2f22_10 : calmR ⟨⟨2, false, (2, false), (2, false)⟩, 1, 1⟩ [1, 0] = true := by kernel_rfl
theorem re_f2t00_0 : restD ⟨⟨2, true, (1, false), (1, false)⟩, 2, 2⟩ (candOf ⟨⟨2, true, (1, false), (1, false)⟩, 2, 2⟩ []) [] = true := by kernel_rfl
theorem re_f2t11_0 : restD ⟨⟨2, true, (2, false), (2, false)⟩, 0, 0⟩ (candOf ⟨⟨2, true, (2, false), (2, false)⟩, 0, 0⟩ []) [] = true := by kernel_rfl
theorem re_f2t22_0 : restD ⟨⟨2, true, (2, false), (2, false)⟩, 1, 1⟩ (candOf ⟨⟨2, true, (2, false), (2, false)⟩, 1, 1⟩ []) [] = true := by kernel_rfl
theorem re_f2t33_0 : restD ⟨⟨2, true, (2, true), (2, true)⟩, 2, 2⟩ (candOf ⟨⟨2, true, (2, true), (2, true)⟩, 2, 2⟩ []) [] = true := by kernel_rfl
theorem re_f2f10_0 : restD ⟨⟨2, false, (2, false), (1, false)⟩, 0, 2⟩ (candOf ⟨⟨2, false, (2, false), (1, false)⟩, 0, 2⟩ []) [] = true := by kernel_rfl
theorem re_f2f21_0 : restD ⟨⟨2, false, (2, false), (2, false)⟩, 1, 0⟩ (candOf ⟨⟨2, false, (2, false), (2, false)⟩, 1, 0⟩ []) [] = true := by kernel_rfl
theorem re_f2f32_0 : restD ⟨⟨2, false, (2, true), (2, false)⟩, 2, 1⟩ (candOf ⟨⟨2, false, (2, true), (2, false)⟩, 2, 1⟩ []) [] = true := by kernel_rfl
end Go.Proofs.YtkmocipdekogkaaGreatDoor
