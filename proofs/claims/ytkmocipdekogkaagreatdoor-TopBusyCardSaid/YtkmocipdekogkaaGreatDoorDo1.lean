/-
  One more span: the runs, part 1.
-/
import Derived.Test.YtkmocipdekogkaaGreatDoorAh
set_option linter.all false
namespace Go.Proofs.YtkmocipdekogkaaGreatDoor
theorem do_0_0 : doB ⟨0, true, (1, false), (0, false)⟩ (.gt) = true := by kernel_rfl
theorem do_1_0 : doB ⟨1, true, (1, false), (0, false)⟩ (.gt) = true := by kernel_rfl
theorem do_1_1 : doB ⟨1, true, (1, false), (0, false)⟩ (.less) = true := by kernel_rfl
theorem do_1_2 : doB ⟨1, true, (1, false), (0, false)⟩ (.dup false 0) = true := by kernel_rfl
theorem do_1_3 : doB ⟨1, true, (1, false), (0, false)⟩ (.add false) = true := by kernel_rfl
theorem do_2_0 : doB ⟨1, true, (2, false), (0, false)⟩ (.gt) = true := by kernel_rfl
theorem do_2_1 : doB ⟨1, true, (2, false), (0, false)⟩ (.less) = true := by kernel_rfl
theorem do_2_2 : doB ⟨1, true, (2, false), (0, false)⟩ (.dup false 0) = true := by kernel_rfl
theorem do_2_3 : doB ⟨1, true, (2, false), (0, false)⟩ (.dup false 1) = true := by kernel_rfl
theorem do_2_4 : doB ⟨1, true, (2, false), (0, false)⟩ (.add false) = true := by kernel_rfl
theorem do_3_0 : doB ⟨1, true, (2, true), (0, false)⟩ (.gt) = true := by kernel_rfl
theorem do_3_1 : doB ⟨1, true, (2, true), (0, false)⟩ (.less) = true := by kernel_rfl
theorem do_3_2 : doB ⟨1, true, (2, true), (0, false)⟩ (.dup false 0) = true := by kernel_rfl
theorem do_3_3 : doB ⟨1, true, (2, true), (0, false)⟩ (.dup false 1) = true := by kernel_rfl
theorem do_3_4 : doB ⟨1, true, (2, true), (0, false)⟩ (.add false) = true := by kernel_rfl
theorem do_4_0 : doB ⟨2, true, (1, false), (1, false)⟩ (.third) = true := by kernel_rfl
theorem do_4_1 : doB ⟨2, true, (1, false), (1, false)⟩ (.dup false 0) = true := by kernel_rfl
theorem do_4_2 : doB ⟨2, true, (1, false), (1, false)⟩ (.add false) = true := by kernel_rfl
theorem do_4_3 : doB ⟨2, true, (1, false), (1, false)⟩ (.dup true 0) = true := by kernel_rfl
theorem do_4_4 : doB ⟨2, true, (1, false), (1, false)⟩ (.add true) = true := by kernel_rfl
theorem do_5_0 : doB ⟨2, true, (1, false), (2, false)⟩ (.third) = true := by kernel_rfl
theorem do_5_1 : doB ⟨2, true, (1, false), (2, false)⟩ (.dup false 0) = true := by kernel_rfl
theorem do_5_2 : doB ⟨2, true, (1, false), (2, false)⟩ (.add false) = true := by kernel_rfl
theorem do_5_3 : doB ⟨2, true, (1, false), (2, false)⟩ (.dup true 0) = true := by kernel_rfl
theorem do_5_4 : doB ⟨2, true, (1, false), (2, false)⟩ (.dup true 1) = true := by kernel_rfl
theorem do_5_5 : doB ⟨2, true, (1, false), (2, false)⟩ (.add true) = true := by kernel_rfl
theorem do_6_0 : doB ⟨2, true, (1, false), (2, true)⟩ (.third) = true := by kernel_rfl
theorem do_6_1 : doB ⟨2, true, (1, false), (2, true)⟩ (.dup false 0) = true := by kernel_rfl
theorem do_6_2 : doB ⟨2, true, (1, false), (2, true)⟩ (.add false) = true := by kernel_rfl
theorem do_6_3 : doB ⟨2, true, (1, false), (2, true)⟩ (.dup true 0) = true := by kernel_rfl
theorem do_6_4 : doB ⟨2, true, (1, false), (2, true)⟩ (.dup true 1) = true := by kernel_rfl
theorem do_6_5 : doB ⟨2, true, (1, false), (2, true)⟩ (.add true) = true := by kernel_rfl
theorem do_7_0 : doB ⟨2, true, (2, false), (1, false)⟩ (.third) = true := by kernel_rfl
end Go.Proofs.YtkmocipdekogkaaGreatDoor
