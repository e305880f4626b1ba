/-
  One more span: the runs, part 4.
-/
import Derived.Test.YtkmocipdekogkaaGreatDoorAh
set_option linter.all false
namespace Go.Proofs.YtkmocipdekogkaaGreatDoor
theorem do_17_4 : doB ⟨2, false, (2, false), (2, false)⟩ (.dup true 0) = true := by kernel_rfl
theorem do_17_5 : doB ⟨2, false, (2, false), (2, false)⟩ (.dup true 1) = true := by kernel_rfl
theorem do_17_6 : doB ⟨2, false, (2, false), (2, false)⟩ (.add true) = true := by kernel_rfl
theorem do_18_0 : doB ⟨2, false, (2, false), (2, true)⟩ (.third) = true := by kernel_rfl
theorem do_18_1 : doB ⟨2, false, (2, false), (2, true)⟩ (.dup false 0) = true := by kernel_rfl
theorem do_18_2 : doB ⟨2, false, (2, false), (2, true)⟩ (.dup false 1) = true := by kernel_rfl
theorem do_18_3 : doB ⟨2, false, (2, false), (2, true)⟩ (.add false) = true := by kernel_rfl
theorem do_18_4 : doB ⟨2, false, (2, false), (2, true)⟩ (.dup true 0) = true := by kernel_rfl
theorem do_18_5 : doB ⟨2, false, (2, false), (2, true)⟩ (.dup true 1) = true := by kernel_rfl
theorem do_18_6 : doB ⟨2, false, (2, false), (2, true)⟩ (.add true) = true := by kernel_rfl
theorem do_19_0 : doB ⟨2, false, (2, true), (1, false)⟩ (.third) = true := by kernel_rfl
theorem do_19_1 : doB ⟨2, false, (2, true), (1, false)⟩ (.dup false 0) = true := by kernel_rfl
theorem do_19_2 : doB ⟨2, false, (2, true), (1, false)⟩ (.dup false 1) = true := by kernel_rfl
theorem do_19_3 : doB ⟨2, false, (2, true), (1, false)⟩ (.add false) = true := by kernel_rfl
theorem do_19_4 : doB ⟨2, false, (2, true), (1, false)⟩ (.dup true 0) = true := by kernel_rfl
theorem do_19_5 : doB ⟨2, false, (2, true), (1, false)⟩ (.add true) = true := by kernel_rfl
theorem do_20_0 : doB ⟨2, false, (2, true), (2, false)⟩ (.third) = true := by kernel_rfl
theorem do_20_1 : doB ⟨2, false, (2, true), (2, false)⟩ (.dup false 0) = true := by kernel_rfl
theorem do_20_2 : doB ⟨2, false, (2, true), (2, false)⟩ (.dup false 1) = true := by kernel_rfl
theorem do_20_3 : doB ⟨2, false, (2, true), (2, false)⟩ (.add false) = true := by kernel_rfl
theorem do_20_4 : doB ⟨2, false, (2, true), (2, false)⟩ (.dup true 0) = true := by kernel_rfl
theorem do_20_5 : doB ⟨2, false, (2, true), (2, false)⟩ (.dup true 1) = true := by kernel_rfl
theorem do_20_6 : doB ⟨2, false, (2, true), (2, false)⟩ (.add true) = true := by kernel_rfl
theorem do_21_0 : doB ⟨2, false, (2, true), (2, true)⟩ (.third) = true := by kernel_rfl
theorem do_21_1 : doB ⟨2, false, (2, true), (2, true)⟩ (.dup false 0) = true := by kernel_rfl
theorem do_21_2 : doB ⟨2, false, (2, true), (2, true)⟩ (.dup false 1) = true := by kernel_rfl
theorem do_21_3 : doB ⟨2, false, (2, true), (2, true)⟩ (.add false) = true := by kernel_rfl
theorem do_21_4 : doB ⟨2, false, (2, true), (2, true)⟩ (.dup true 0) = true := by kernel_rfl
theorem do_21_5 : doB ⟨2, false, (2, true), (2, true)⟩ (.dup true 1) = true := by kernel_rfl
theorem do_21_6 : doB ⟨2, false, (2, true), (2, true)⟩ (.add true) = true := by kernel_rfl
end Go.Proofs.YtkmocipdekogkaaGreatDoor
