/-
  The calm of the forms, run: part 20.
-/
import Derived.Test.YtkmocipdekogkaaGreatDoorCb
set_option linter.all false
namespace Go.Proofs.YtkmocipdekogkaaGreatDoor
set_option linter.unusedVariables false
theorem ru_f2t02_11 : calmR ⟨⟨2, true, (1, false), (2, false)⟩, 2, 1⟩ [1, 1] = true := by kernel_rfl
theorem ru_f2t20_11 : calmR ⟨⟨2, true, (2, false), (1, false)⟩, 1, 2⟩ [1, 1] = true := by kernel_rfl
theorem ru_f2f00_10 : calmR ⟨⟨2, false, (1, false), (1, false)⟩, 2, 2⟩ [1, 0] = true := by kernel_rfl
theorem ru_f2f12_00 : calmR ⟨⟨2, false, (2, false), (2, false)⟩, 0, 1⟩ [0, 0] = true := by kernel_rfl
theorem ru_f2f30_02 : calmR ⟨⟨2, false, (2, true), (1, false)⟩, 2, 2⟩ [0, 2] = true := by kernel_rfl
theorem re_f2t01_0 : restD ⟨⟨2, true, (1, false), (2, false)⟩, 2, 0⟩ (candOf ⟨⟨2, true, (1, false), (2, false)⟩, 2, 0⟩ []) [] = true := by kernel_rfl
theorem re_f2t12_0 : restD ⟨⟨2, true, (2, false), (2, false)⟩, 0, 1⟩ (candOf ⟨⟨2, true, (2, false), (2, false)⟩, 0, 1⟩ []) [] = true := by kernel_rfl
theorem re_f2t23_0 : restD ⟨⟨2, true, (2, false), (2, true)⟩, 1, 2⟩ (candOf ⟨⟨2, true, (2, false), (2, true)⟩, 1, 2⟩ []) [] = true := by kernel_rfl
theorem re_f2f00_0 : restD ⟨⟨2, false, (1, false), (1, false)⟩, 2, 2⟩ (candOf ⟨⟨2, false, (1, false), (1, false)⟩, 2, 2⟩ []) [] = true := by kernel_rfl
theorem re_f2f11_0 : restD ⟨⟨2, false, (2, false), (2, false)⟩, 0, 0⟩ (candOf ⟨⟨2, false, (2, false), (2, false)⟩, 0, 0⟩ []) [] = true := by kernel_rfl
theorem re_f2f22_0 : restD ⟨⟨2, false, (2, false), (2, false)⟩, 1, 1⟩ (candOf ⟨⟨2, false, (2, false), (2, false)⟩, 1, 1⟩ []) [] = true := by kernel_rfl
theorem re_f2f33_0 : restD ⟨⟨2, false, (2, true), (2, true)⟩, 2, 2⟩ (candOf ⟨⟨2, false, (2, true), (2, true)⟩, 2, 2⟩ []) [] = true := by kernel_rfl
end Go.Proofs.YtkmocipdekogkaaGreatDoor
