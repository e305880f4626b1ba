/-
  The calm of the forms, run: part 11.
-/
import Derived.Test.YtkmocipdekogkaaGreatDoorCb
set_option linter.all false
namespace Go.Proofs.YtkmocipdekogkaaGreatDoor
set_option linter.unusedVariables false
theorem ru_f2t00_10 : calmR ⟨⟨2, true, (1, false), (1, false)⟩, 2, 2⟩ [1, 0] = true := by kernel_rfl
theorem ru_f2t12_00 : calmR ⟨⟨2, true, (2, false), (2, false)⟩, 0, 1⟩ [0, 0] = true := by kernel_rfl
theorem ru_f2t30_20 : calmR ⟨⟨2, true, (2, true), (1, false)⟩, 2, 2⟩ [2, 0] = true := by kernel_rfl
theorem ru_f2f03_21 : calmR ⟨⟨2, false, (1, false), (2, true)⟩, 2, 2⟩ [2, 1] = true := by kernel_rfl
theorem ru_f2f21_01 : calmR ⟨⟨2, false, (2, false), (2, false)⟩, 1, 0⟩ [0, 1] = true := by kernel_rfl
theorem re_f11_1 : restD ⟨⟨1, true, (2, false), (0, false)⟩, 0, 2⟩ (candOf ⟨⟨1, true, (2, false), (0, false)⟩, 0, 2⟩ [false]) [] = true := by kernel_rfl
theorem re_f2t03_3 : restD ⟨⟨2, true, (1, false), (2, true)⟩, 2, 2⟩ (candOf ⟨⟨2, true, (1, false), (2, true)⟩, 2, 2⟩ [false, true]) [] = true := by kernel_rfl
theorem re_f2t20_3 : restD ⟨⟨2, true, (2, false), (1, false)⟩, 1, 2⟩ (candOf ⟨⟨2, true, (2, false), (1, false)⟩, 1, 2⟩ [false, true]) [] = true := by kernel_rfl
theorem re_f2t31_3 : restD ⟨⟨2, true, (2, true), (2, false)⟩, 2, 0⟩ (candOf ⟨⟨2, true, (2, true), (2, false)⟩, 2, 0⟩ [false, true]) [] = true := by kernel_rfl
theorem re_f2f02_3 : restD ⟨⟨2, false, (1, false), (2, false)⟩, 2, 1⟩ (candOf ⟨⟨2, false, (1, false), (2, false)⟩, 2, 1⟩ [true, false]) [] = true := by kernel_rfl
theorem re_f2f13_3 : restD ⟨⟨2, false, (2, false), (2, true)⟩, 0, 2⟩ (candOf ⟨⟨2, false, (2, false), (2, true)⟩, 0, 2⟩ [true, false]) [] = true := by kernel_rfl
theorem re_f2f30_3 : restD ⟨⟨2, false, (2, true), (1, false)⟩, 2, 2⟩ (candOf ⟨⟨2, false, (2, true), (1, false)⟩, 2, 2⟩ [true, false]) [] = true := by kernel_rfl
end Go.Proofs.YtkmocipdekogkaaGreatDoor
