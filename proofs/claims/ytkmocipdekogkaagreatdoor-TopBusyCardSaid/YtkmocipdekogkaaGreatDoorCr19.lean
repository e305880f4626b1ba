/-
  The calm of the forms, run: part 19.
-/
import Derived.Test.YtkmocipdekogkaaGreatDoorCb
set_option linter.all false
namespace Go.Proofs.YtkmocipdekogkaaGreatDoor
set_option linter.unusedVariables false
theorem ru_f2t02_10 : calmR ⟨⟨2, true, (1, false), (2, false)⟩, 2, 1⟩ [1, 0] = true := by kernel_rfl
theorem ru_f2t20_10 : calmR ⟨⟨2, true, (2, false), (1, false)⟩, 1, 2⟩ [1, 0] = true := by kernel_rfl
theorem ru_f2f00_01 : calmR ⟨⟨2, false, (1, false), (1, false)⟩, 2, 2⟩ [0, 1] = true := by kernel_rfl
theorem ru_f2f11_11 : calmR ⟨⟨2, false, (2, false), (2, false)⟩, 0, 0⟩ [1, 1] = true := by kernel_rfl
theorem ru_f2f23_21 : calmR ⟨⟨2, false, (2, false), (2, true)⟩, 1, 2⟩ [2, 1] = true := by kernel_rfl
theorem re_f2t00_3 : restD ⟨⟨2, true, (1, false), (1, false)⟩, 2, 2⟩ (candOf ⟨⟨2, true, (1, false), (1, false)⟩, 2, 2⟩ [false, true]) [] = true := by kernel_rfl
theorem re_f2t11_3 : restD ⟨⟨2, true, (2, false), (2, false)⟩, 0, 0⟩ (candOf ⟨⟨2, true, (2, false), (2, false)⟩, 0, 0⟩ [false, true]) [] = true := by kernel_rfl
theorem re_f2t22_3 : restD ⟨⟨2, true, (2, false), (2, false)⟩, 1, 1⟩ (candOf ⟨⟨2, true, (2, false), (2, false)⟩, 1, 1⟩ [false, true]) [] = true := by kernel_rfl
theorem re_f2t33_3 : restD ⟨⟨2, true, (2, true), (2, true)⟩, 2, 2⟩ (candOf ⟨⟨2, true, (2, true), (2, true)⟩, 2, 2⟩ [false, true]) [] = true := by kernel_rfl
theorem re_f2f10_3 : restD ⟨⟨2, false, (2, false), (1, false)⟩, 0, 2⟩ (candOf ⟨⟨2, false, (2, false), (1, false)⟩, 0, 2⟩ [true, false]) [] = true := by kernel_rfl
theorem re_f2f21_3 : restD ⟨⟨2, false, (2, false), (2, false)⟩, 1, 0⟩ (candOf ⟨⟨2, false, (2, false), (2, false)⟩, 1, 0⟩ [true, false]) [] = true := by kernel_rfl
theorem re_f2f32_3 : restD ⟨⟨2, false, (2, true), (2, false)⟩, 2, 1⟩ (candOf ⟨⟨2, false, (2, true), (2, false)⟩, 2, 1⟩ [true, false]) [] = true := by kernel_rfl
end Go.Proofs.YtkmocipdekogkaaGreatDoor
