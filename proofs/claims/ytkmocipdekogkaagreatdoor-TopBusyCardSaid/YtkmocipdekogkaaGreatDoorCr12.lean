/-
  The calm of the forms, run: part 12.
-/
import Derived.Test.YtkmocipdekogkaaGreatDoorCb
set_option linter.all false
namespace Go.Proofs.YtkmocipdekogkaaGreatDoor
set_option linter.unusedVariables false
theorem ru_f2t00_11 : calmR ⟨⟨2, true, (1, false), (1, false)⟩, 2, 2⟩ [1, 1] = true := by kernel_rfl
theorem ru_f2t12_01 : calmR ⟨⟨2, true, (2, false), (2, false)⟩, 0, 1⟩ [0, 1] = true := by kernel_rfl
theorem ru_f2t30_21 : calmR ⟨⟨2, true, (2, true), (1, false)⟩, 2, 2⟩ [2, 1] = true := by kernel_rfl
theorem ru_f2f10_00 : calmR ⟨⟨2, false, (2, false), (1, false)⟩, 0, 2⟩ [0, 0] = true := by kernel_rfl
theorem ru_f2f21_10 : calmR ⟨⟨2, false, (2, false), (2, false)⟩, 1, 0⟩ [1, 0] = true := by kernel_rfl
theorem re_f12_0 : restD ⟨⟨1, true, (2, false), (0, false)⟩, 1, 2⟩ (candOf ⟨⟨1, true, (2, false), (0, false)⟩, 1, 2⟩ []) [] = true := by kernel_rfl
theorem re_f2t10_0 : restD ⟨⟨2, true, (2, false), (1, false)⟩, 0, 2⟩ (candOf ⟨⟨2, true, (2, false), (1, false)⟩, 0, 2⟩ []) [] = true := by kernel_rfl
theorem re_f2t21_0 : restD ⟨⟨2, true, (2, false), (2, false)⟩, 1, 0⟩ (candOf ⟨⟨2, true, (2, false), (2, false)⟩, 1, 0⟩ []) [] = true := by kernel_rfl
theorem re_f2t32_0 : restD ⟨⟨2, true, (2, true), (2, false)⟩, 2, 1⟩ (candOf ⟨⟨2, true, (2, true), (2, false)⟩, 2, 1⟩ []) [] = true := by kernel_rfl
theorem re_f2f03_0 : restD ⟨⟨2, false, (1, false), (2, true)⟩, 2, 2⟩ (candOf ⟨⟨2, false, (1, false), (2, true)⟩, 2, 2⟩ []) [] = true := by kernel_rfl
theorem re_f2f20_0 : restD ⟨⟨2, false, (2, false), (1, false)⟩, 1, 2⟩ (candOf ⟨⟨2, false, (2, false), (1, false)⟩, 1, 2⟩ []) [] = true := by kernel_rfl
theorem re_f2f31_0 : restD ⟨⟨2, false, (2, true), (2, false)⟩, 2, 0⟩ (candOf ⟨⟨2, false, (2, true), (2, false)⟩, 2, 0⟩ []) [] = true := by kernel_rfl
end Go.Proofs.YtkmocipdekogkaaGreatDoor
