/-
  One more span: the runs, part 3.
-/
import Derived.Test.YtkmocipdekogkaaGreatDoorAh
set_option linter.all false
namespace Go.Proofs.YtkmocipdekogkaaGreatDoor
theorem do_12_1 : doB ⟨2, true, (2, true), (2, true)⟩ (.dup false 0) = true := by kernel_rfl
theorem do_12_2 : doB ⟨2, true, (2, true), (2, true)⟩ (.dup false 1) = true := by kernel_rfl
theorem do_12_3 : doB ⟨2, true, (2, true), (2, true)⟩ (.add false) = true := by kernel_rfl
theorem do_12_4 : doB ⟨2, true, (2, true), (2, true)⟩ (.dup true 0) = true := by kernel_rfl
theorem do_12_5 : doB ⟨2, true, (2, true), (2, true)⟩ (.dup true 1) = true := by kernel_rfl
theorem do_12_6 : doB ⟨2, true, (2, true), (2, true)⟩ (.add true) = true := by kernel_rfl
theorem do_13_0 : doB ⟨2, false, (1, false), (1, false)⟩ (.third) = true := by kernel_rfl
theorem do_13_1 : doB ⟨2, false, (1, false), (1, false)⟩ (.dup false 0) = true := by kernel_rfl
theorem do_13_2 : doB ⟨2, false, (1, false), (1, false)⟩ (.add false) = true := by kernel_rfl
theorem do_13_3 : doB ⟨2, false, (1, false), (1, false)⟩ (.dup true 0) = true := by kernel_rfl
theorem do_13_4 : doB ⟨2, false, (1, false), (1, false)⟩ (.add true) = true := by kernel_rfl
theorem do_14_0 : doB ⟨2, false, (1, false), (2, false)⟩ (.third) = true := by kernel_rfl
theorem do_14_1 : doB ⟨2, false, (1, false), (2, false)⟩ (.dup false 0) = true := by kernel_rfl
theorem do_14_2 : doB ⟨2, false, (1, false), (2, false)⟩ (.add false) = true := by kernel_rfl
theorem do_14_3 : doB ⟨2, false, (1, false), (2, false)⟩ (.dup true 0) = true := by kernel_rfl
theorem do_14_4 : doB ⟨2, false, (1, false), (2, false)⟩ (.dup true 1) = true := by kernel_rfl
theorem do_14_5 : doB ⟨2, false, (1, false), (2, false)⟩ (.add true) = true := by kernel_rfl
theorem do_15_0 : doB ⟨2, false, (1, false), (2, true)⟩ (.third) = true := by kernel_rfl
theorem do_15_1 : doB ⟨2, false, (1, false), (2, true)⟩ (.dup false 0) = true := by kernel_rfl
theorem do_15_2 : doB ⟨2, false, (1, false), (2, true)⟩ (.add false) = true := by kernel_rfl
theorem do_15_3 : doB ⟨2, false, (1, false), (2, true)⟩ (.dup true 0) = true := by kernel_rfl
theorem do_15_4 : doB ⟨2, false, (1, false), (2, true)⟩ (.dup true 1) = true := by kernel_rfl
theorem do_15_5 : doB ⟨2, false, (1, false), (2, true)⟩ (.add true) = true := by kernel_rfl
theorem do_16_0 : doB ⟨2, false, (2, false), (1, false)⟩ (.third) = true := by kernel_rfl
theorem do_16_1 : doB ⟨2, false, (2, false), (1, false)⟩ (.dup false 0) = true := by kernel_rfl
theorem do_16_2 : doB ⟨2, false, (2, false), (1, false)⟩ (.dup false 1) = true := by kernel_rfl
theorem do_16_3 : doB ⟨2, false, (2, false), (1, false)⟩ (.add false) = true := by kernel_rfl
theorem do_16_4 : doB ⟨2, false, (2, false), (1, false)⟩ (.dup true 0) = true := by kernel_rfl
theorem do_16_5 : doB ⟨2, false, (2, false), (1, false)⟩ (.add true) = true := by kernel_rfl
theorem do_17_0 : doB ⟨2, false, (2, false), (2, false)⟩ (.third) = true := by kernel_rfl
theorem do_17_1 : doB ⟨2, false, (2, false), (2, false)⟩ (.dup false 0) = true := by kernel_rfl
theorem do_17_2 : doB ⟨2, false, (2, false), (2, false)⟩ (.dup false 1) = true := by kernel_rfl
theorem do_17_3 : doB ⟨2, false, (2, false), (2, false)⟩ (.add false) = true := by kernel_rfl
end Go.Proofs.YtkmocipdekogkaaGreatDoor
