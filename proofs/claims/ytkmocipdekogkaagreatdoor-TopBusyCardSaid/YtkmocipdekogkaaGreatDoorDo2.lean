/-
  One more span: the runs, part 2.
-/
import Derived.Test.YtkmocipdekogkaaGreatDoorAh
set_option linter.all false
namespace Go.Proofs.YtkmocipdekogkaaGreatDoor
theorem do_7_1 : doB ⟨2, true, (2, false), (1, false)⟩ (.dup false 0) = true := by kernel_rfl
theorem do_7_2 : doB ⟨2, true, (2, false), (1, false)⟩ (.dup false 1) = true := by kernel_rfl
theorem do_7_3 : doB ⟨2, true, (2, false), (1, false)⟩ (.add false) = true := by kernel_rfl
theorem do_7_4 : doB ⟨2, true, (2, false), (1, false)⟩ (.dup true 0) = true := by kernel_rfl
theorem do_7_5 : doB ⟨2, true, (2, false), (1, false)⟩ (.add true) = true := by kernel_rfl
theorem do_8_0 : doB ⟨2, true, (2, false), (2, false)⟩ (.third) = true := by kernel_rfl
theorem do_8_1 : doB ⟨2, true, (2, false), (2, false)⟩ (.dup false 0) = true := by kernel_rfl
theorem do_8_2 : doB ⟨2, true, (2, false), (2, false)⟩ (.dup false 1) = true := by kernel_rfl
theorem do_8_3 : doB ⟨2, true, (2, false), (2, false)⟩ (.add false) = true := by kernel_rfl
theorem do_8_4 : doB ⟨2, true, (2, false), (2, false)⟩ (.dup true 0) = true := by kernel_rfl
theorem do_8_5 : doB ⟨2, true, (2, false), (2, false)⟩ (.dup true 1) = true := by kernel_rfl
theorem do_8_6 : doB ⟨2, true, (2, false), (2, false)⟩ (.add true) = true := by kernel_rfl
theorem do_9_0 : doB ⟨2, true, (2, false), (2, true)⟩ (.third) = true := by kernel_rfl
theorem do_9_1 : doB ⟨2, true, (2, false), (2, true)⟩ (.dup false 0) = true := by kernel_rfl
theorem do_9_2 : doB ⟨2, true, (2, false), (2, true)⟩ (.dup false 1) = true := by kernel_rfl
theorem do_9_3 : doB ⟨2, true, (2, false), (2, true)⟩ (.add false) = true := by kernel_rfl
theorem do_9_4 : doB ⟨2, true, (2, false), (2, true)⟩ (.dup true 0) = true := by kernel_rfl
theorem do_9_5 : doB ⟨2, true, (2, false), (2, true)⟩ (.dup true 1) = true := by kernel_rfl
theorem do_9_6 : doB ⟨2, true, (2, false), (2, true)⟩ (.add true) = true := by kernel_rfl
theorem do_10_0 : doB ⟨2, true, (2, true), (1, false)⟩ (.third) = true := by kernel_rfl
theorem do_10_1 : doB ⟨2, true, (2, true), (1, false)⟩ (.dup false 0) = true := by kernel_rfl
theorem do_10_2 : doB ⟨2, true, (2, true), (1, false)⟩ (.dup false 1) = true := by kernel_rfl
theorem do_10_3 : doB ⟨2, true, (2, true), (1, false)⟩ (.add false) = true := by kernel_rfl
theorem do_10_4 : doB ⟨2, true, (2, true), (1, false)⟩ (.dup true 0) = true := by kernel_rfl
theorem do_10_5 : doB ⟨2, true, (2, true), (1, false)⟩ (.add true) = true := by kernel_rfl
theorem do_11_0 : doB ⟨2, true, (2, true), (2, false)⟩ (.third) = true := by kernel_rfl
theorem do_11_1 : doB ⟨2, true, (2, true), (2, false)⟩ (.dup false 0) = true := by kernel_rfl
theorem do_11_2 : doB ⟨2, true, (2, true), (2, false)⟩ (.dup false 1) = true := by kernel_rfl
theorem do_11_3 : doB ⟨2, true, (2, true), (2, false)⟩ (.add false) = true := by kernel_rfl
theorem do_11_4 : doB ⟨2, true, (2, true), (2, false)⟩ (.dup true 0) = true := by kernel_rfl
theorem do_11_5 : doB ⟨2, true, (2, true), (2, false)⟩ (.dup true 1) = true := by kernel_rfl
theorem do_11_6 : doB ⟨2, true, (2, true), (2, false)⟩ (.add true) = true := by kernel_rfl
theorem do_12_0 : doB ⟨2, true, (2, true), (2, true)⟩ (.third) = true := by kernel_rfl
end Go.Proofs.YtkmocipdekogkaaGreatDoor
