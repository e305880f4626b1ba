/-
  The calm of the forms, run: part 18.
-/
import Derived.Test.YtkmocipdekogkaaGreatDoorCb
set_option linter.all false
namespace Go.Proofs.YtkmocipdekogkaaGreatDoor
set_option linter.unusedVariables false
theorem ru_f2t02_01 : calmR ⟨⟨2, true, (1, false), (2, false)⟩, 2, 1⟩ [0, 1] = true := by kernel_rfl
theorem ru_f2t20_01 : calmR ⟨⟨2, true, (2, false), (1, false)⟩, 1, 2⟩ [0, 1] = true := by kernel_rfl
theorem ru_f2f00_00 : calmR ⟨⟨2, false, (1, false), (1, false)⟩, 2, 2⟩ [0, 0] = true := by kernel_rfl
theorem ru_f2f11_10 : calmR ⟨⟨2, false, (2, false), (2, false)⟩, 0, 0⟩ [1, 0] = true := by kernel_rfl
theorem ru_f2f23_20 : calmR ⟨⟨2, false, (2, false), (2, true)⟩, 1, 2⟩ [2, 0] = true := by kernel_rfl
theorem re_f2t00_2 : restD ⟨⟨2, true, (1, false), (1, false)⟩, 2, 2⟩ (candOf ⟨⟨2, true, (1, false), (1, false)⟩, 2, 2⟩ [true]) [] = true := by kernel_rfl
theorem re_f2t11_2 : restD ⟨⟨2, true, (2, false), (2, false)⟩, 0, 0⟩ (candOf ⟨⟨2, true, (2, false), (2, false)⟩, 0, 0⟩ [true]) [] = true := by kernel_rfl
theorem re_f2t22_2 : restD ⟨⟨2, true, (2, false), (2, false)⟩, 1, 1⟩ (candOf ⟨⟨2, true, (2, false), (2, false)⟩, 1, 1⟩ [true]) [] = true := by kernel_rfl
theorem re_f2t33_2 : restD ⟨⟨2, true, (2, true), (2, true)⟩, 2, 2⟩ (candOf ⟨⟨2, true, (2, true), (2, true)⟩, 2, 2⟩ [true]) [] = true := by kernel_rfl
theorem re_f2f10_2 : restD ⟨⟨2, false, (2, false), (1, false)⟩, 0, 2⟩ (candOf ⟨⟨2, false, (2, false), (1, false)⟩, 0, 2⟩ [true]) [] = true := by kernel_rfl
theorem re_f2f21_2 : restD ⟨⟨2, false, (2, false), (2, false)⟩, 1, 0⟩ (candOf ⟨⟨2, false, (2, false), (2, false)⟩, 1, 0⟩ [true]) [] = true := by kernel_rfl
theorem re_f2f32_2 : restD ⟨⟨2, false, (2, true), (2, false)⟩, 2, 1⟩ (candOf ⟨⟨2, false, (2, true), (2, false)⟩, 2, 1⟩ [true]) [] = true := by kernel_rfl
end Go.Proofs.YtkmocipdekogkaaGreatDoor
