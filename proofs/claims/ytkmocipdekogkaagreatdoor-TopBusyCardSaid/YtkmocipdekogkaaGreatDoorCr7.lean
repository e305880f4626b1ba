/-
  The calm of the forms, run: part 7.
-/
import Derived.Test.YtkmocipdekogkaaGreatDoorCb
set_option linter.all false
namespace Go.Proofs.YtkmocipdekogkaaGreatDoor
set_option linter.unusedVariables false
theorem ru_f12_1 : calmR ⟨⟨1, true, (2, false), (0, false)⟩, 1, 2⟩ [1] = true := by kernel_rfl
theorem ru_f2t11_00 : calmR ⟨⟨2, true, (2, false), (2, false)⟩, 0, 0⟩ [0, 0] = true := by kernel_rfl
theorem ru_f2t22_10 : calmR ⟨⟨2, true, (2, false), (2, false)⟩, 1, 1⟩ [1, 0] = true := by kernel_rfl
theorem ru_f2f02_01 : calmR ⟨⟨2, false, (1, false), (2, false)⟩, 2, 1⟩ [0, 1] = true := by kernel_rfl
theorem ru_f2f20_01 : calmR ⟨⟨2, false, (2, false), (1, false)⟩, 1, 2⟩ [0, 1] = true := by kernel_rfl
theorem re_f0_0 : restD ⟨⟨0, true, (1, false), (0, false)⟩, 2, 2⟩ (candOf ⟨⟨0, true, (1, false), (0, false)⟩, 2, 2⟩ []) [] = true := by kernel_rfl
theorem re_f2t02_3 : restD ⟨⟨2, true, (1, false), (2, false)⟩, 2, 1⟩ (candOf ⟨⟨2, true, (1, false), (2, false)⟩, 2, 1⟩ [false, true]) [] = true := by kernel_rfl
theorem re_f2t13_3 : restD ⟨⟨2, true, (2, false), (2, true)⟩, 0, 2⟩ (candOf ⟨⟨2, true, (2, false), (2, true)⟩, 0, 2⟩ [false, true]) [] = true := by kernel_rfl
theorem re_f2t30_3 : restD ⟨⟨2, true, (2, true), (1, false)⟩, 2, 2⟩ (candOf ⟨⟨2, true, (2, true), (1, false)⟩, 2, 2⟩ [false, true]) [] = true := by kernel_rfl
theorem re_f2f01_3 : restD ⟨⟨2, false, (1, false), (2, false)⟩, 2, 0⟩ (candOf ⟨⟨2, false, (1, false), (2, false)⟩, 2, 0⟩ [true, false]) [] = true := by kernel_rfl
theorem re_f2f12_3 : restD ⟨⟨2, false, (2, false), (2, false)⟩, 0, 1⟩ (candOf ⟨⟨2, false, (2, false), (2, false)⟩, 0, 1⟩ [true, false]) [] = true := by kernel_rfl
theorem re_f2f23_3 : restD ⟨⟨2, false, (2, false), (2, true)⟩, 1, 2⟩ (candOf ⟨⟨2, false, (2, false), (2, true)⟩, 1, 2⟩ [true, false]) [] = true := by kernel_rfl
end Go.Proofs.YtkmocipdekogkaaGreatDoor
