/-
  The calm of the forms, run: part 8.
-/
import Derived.Test.YtkmocipdekogkaaGreatDoorCb
set_option linter.all false
namespace Go.Proofs.YtkmocipdekogkaaGreatDoor
set_option linter.unusedVariables false
theorem ru_f13_2 : calmR ⟨⟨1, true, (2, true), (0, false)⟩, 2, 2⟩ [2] = true := by kernel_rfl
theorem ru_f2t11_01 : calmR ⟨⟨2, true, (2, false), (2, false)⟩, 0, 0⟩ [0, 1] = true := by kernel_rfl
theorem ru_f2t22_11 : calmR ⟨⟨2, true, (2, false), (2, false)⟩, 1, 1⟩ [1, 1] = true := by kernel_rfl
theorem ru_f2f02_10 : calmR ⟨⟨2, false, (1, false), (2, false)⟩, 2, 1⟩ [1, 0] = true := by kernel_rfl
theorem ru_f2f20_10 : calmR ⟨⟨2, false, (2, false), (1, false)⟩, 1, 2⟩ [1, 0] = true := by kernel_rfl
theorem re_f10_0 : restD ⟨⟨1, true, (1, false), (0, false)⟩, 2, 2⟩ (candOf ⟨⟨1, true, (1, false), (0, false)⟩, 2, 2⟩ []) [] = true := by kernel_rfl
theorem re_f2t03_0 : restD ⟨⟨2, true, (1, false), (2, true)⟩, 2, 2⟩ (candOf ⟨⟨2, true, (1, false), (2, true)⟩, 2, 2⟩ []) [] = true := by kernel_rfl
theorem re_f2t20_0 : restD ⟨⟨2, true, (2, false), (1, false)⟩, 1, 2⟩ (candOf ⟨⟨2, true, (2, false), (1, false)⟩, 1, 2⟩ []) [] = true := by kernel_rfl
theorem re_f2t31_0 : restD ⟨⟨2, true, (2, true), (2, false)⟩, 2, 0⟩ (candOf ⟨⟨2, true, (2, true), (2, false)⟩, 2, 0⟩ []) [] = true := by kernel_rfl
theorem re_f2f02_0 : restD ⟨⟨2, false, (1, false), (2, false)⟩, 2, 1⟩ (candOf ⟨⟨2, false, (1, false), (2, false)⟩, 2, 1⟩ []) [] = true := by kernel_rfl
theorem re_f2f13_0 : restD ⟨⟨2, false, (2, false), (2, true)⟩, 0, 2⟩ (candOf ⟨⟨2, false, (2, false), (2, true)⟩, 0, 2⟩ []) [] = true := by kernel_rfl
theorem re_f2f30_0 : restD ⟨⟨2, false, (2, true), (1, false)⟩, 2, 2⟩ (candOf ⟨⟨2, false, (2, true), (1, false)⟩, 2, 2⟩ []) [] = true := by kernel_rfl
end Go.Proofs.YtkmocipdekogkaaGreatDoor
