/-
  The statement: at a full buffer a span is refused, told so, and stands nowhere, and what was accepted is settled as if it had not come: the law TopBusy answers true at every input; the card ties the listed variables to the program's text.
-/
import Derived.Test.YtkmocipdekogkaaGreatDoorRows
import Derived.Test.YtkmocipdekogkaaGreatDoorCards
import Derived.Test.YtkmocipdekogkaaGreatDoorTie
import Derived.Test.YtkmocipdekogkaaGreatDoorZz
import Derived.Test.YtkmocipdekogkaaGreatDoorCa
import Derived.Test.YtkmocipdekogkaaGreatDoorZw
import Derived.Test.YtkmocipdekogkaaGreatDoorZv
import Derived.ProofKit
import Derived.OpenShut
import Derived.LaidMore
import Derived.Lay
import Derived.SevenTiedAt
import Derived.Stop.Joined
import Derived.Below
set_option linter.all false
namespace Go.Proofs.YtkmocipdekogkaaGreatDoor.topBusy
open Go.ChangeShapes Go.WideShapes Go.ChangeAt Go.RowKit
set_option linter.unusedVariables false

theorem own : ownKnob Tryz.prog.godebug = none := by kernel_rfl
theorem laidOut : laidOutB Tryz.prog = true := by kernel_rfl
/-- A calm from every form. -/
theorem calm_all : CalmC := fun H hK => calmed H hK
theorem walk (L : List Sp) (a : Option Addr) (cap : Nat) (W : World) (hr : RdS W a L) (hf : ∀ s ∈ L, s.Fit) :
    Calls Tryz.prog 3 #[.slice a L.length cap] W fun e w' => e = .returned (.bool true) ∧ Below W.heap.size W w' := by
  by_cases h : L.length < 1 ∨ 12 < L.length
  · exact busy_few alive_at L.length cap a W h
  · exact busy_main alive_at calm_all L a cap W (by omega) (by omega) hr hf

set_option maxRecDepth 100000 in
theorem lifted (os : Os) (started : os.Started) (H : Type) (enc : TypeId × Value → H) :
    ReturnsInHanded {} Tryz.checked os 3 .any (fun w args => (Rows.topBusySpec.pre enc Tryz.prog Tryz.f3 Rows.topBusyRow.domain false w args ∧ laidMetH Tryz.prog Rows.topBusyRow.laid w) ∧ sizedMet enc Tryz.prog Tryz.f3 (OpenSpec.ofChange Rows.topBusySpec) false w args)
      (Rows.topBusySpec.post enc Tryz.prog Tryz.f3 false true false false) := by
  refine returnsInHanded_of_change_and (C := Tryz.checked) (X := fun w _ => laidMetH Tryz.prog Rows.topBusyRow.laid w) (fun _ _ _ hh h => h.of_heap hh) own started (by kernel_rfl) Tryz.func3
    (ChangeSpec.witness_shaped (enc := enc) (C := Tryz.checked) (os := os) (X := fun w _ => laidMetH Tryz.prog Rows.topBusyRow.laid w) false (World.laidAll Tryz.prog os Rows.topBusyRow.laid) #[.slice none 0 0] 8 (World.laidAll_os _ _ _)
      (World.shaped_of_ZipB (by kernel_rfl) (by kernel_rfl)) (by kernel_rfl) (by kernel_rfl) (by kernel_rfl)
      (by rw [MakeChecks.laidMetH_plain _ _ _ (by kernel_rfl)]; exact laidMet_laidAll _ (by kernel_rfl) (by kernel_rfl))) ?_
  intro W base args ds gs before hval0 hW hc _ hL _
  have hval : ∀ (j : Nat) t v, Tryz.f3.params[j]? = some t → args[j]? = some v → Value.okWide Tryz.prog W .any base t v := hval0
  have hW' := hW
  obtain ⟨p, q, hA0, hV, rfl, hfz, hnd⟩ := hW
  have hA : DataW.TrodAll enc Tryz.prog W 0 (fun _ => true) true Tryz.f3.params.toList args.toList ds p := hA0
  rw [Tryz.params3] at hA hval
  obtain ⟨v0, d0, rfl, rfl, h0⟩ := trodAll_one hA
  obtain ⟨rfl, rfl⟩ := trodVars_none hV
  obtain ⟨a0, len0, cap0, rfl⟩ := okWide_slice Tryz.underlying22 (hval 0 22 v0 rfl rfl)
  have k0 := h0
  have lt0 : ∀ x ∈ p, x.block < W.heap.size := by obtain ⟨m, hm⟩ := k0; exact DataW.trod_lt m _ _ _ hm
  obtain ⟨L, rfl, hr, hfit, _⟩ := open_spans h0
  clear hA0 hval0
  refine (walk L a0 cap0 W hr hfit).mono fun e W' ⟨he, bel⟩ => ?_
  subst he
  exact ⟨_, rfl, _, _, _, [], _, [], hW', trodAll_mk1 (shut_bool Tryz.underlying4 _), (trodAll_cons_mk (Below.trod laidOut (by kernel_rfl) (of_decide_eq_true (by kernel_rfl)) k0 bel lt0) trodAll_mk0), rfl, bel.frame _, fun h => by cases h⟩

theorem holds : Rows.TopBusySaid := holds_from lifted
/-- The statement. -/
theorem card_holds : Rows.TopBusyCardSaid := card_from holds
#print axioms card_holds
end Go.Proofs.YtkmocipdekogkaaGreatDoor.topBusy
