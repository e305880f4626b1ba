/-
  The card out of the row: the card's closed facts, one by one.
-/
import Derived.Test.YtkmocipdekogkaaGreatDoorRows
import Derived.Test.YtkmocipdekogkaaGreatDoorCards
import Derived.Test.YtkmocipdekogkaaGreatDoorTie
import Derived.ProofKit
import Derived.OpenShut
import Derived.LaidMore
import Derived.Lay
import Derived.SevenTiedAt
import Derived.Stop.Joined
set_option linter.all false
namespace Go.Proofs.YtkmocipdekogkaaGreatDoor.topBusy
open Go.ChangeShapes Go.WideShapes Go.ChangeAt Go.RowKit
theorem cf_wf : Rows.topBusyRow.wfByText (OpenSpec.ofChange Rows.topBusySpec) = true := by kernel_rfl
theorem cf_main : Tryz.pinned.checked.prog.mainIs = some (true, ("7eb5a880ad79f246123a5a3dcc6ddb2e78d2fa382bb8b43f130007fb5dc6a395" : String).toList) := by kernel_rfl
theorem cf_looks : true = Tryz.pinned.checked.prog.looks [] := by kernel_rfl
theorem cf_func : Tryz.prog.funcNamed "winnow/winnowtop.TopBusy" = some 3 := by kernel_rfl
theorem cf_stand : ([22].all fun u => !Tryz.prog.wantsStandIn u) = true := by kernel_rfl
theorem cf_none : Tryz.pinned.checked.prog.funcs.any Func.goes = false := by kernel_rfl
theorem goes_none {P : Program} (h : P.funcs.any Func.goes = false) (f : FuncId) : P.goes f = false := by
  unfold Program.goes
  rw [h, Bool.and_false, Bool.or_false]
  cases hh : ((P.closure f).any fun g => (P.funcs[g]?).any Func.goes) with
  | false => rfl
  | true =>
    rw [List.any_eq_true] at hh
    obtain ⟨g, _, hg⟩ := hh
    cases hf : P.funcs[g]? with
    | none => rw [hf] at hg; cases hg
    | some fn =>
      rw [hf] at hg
      have hg' : Func.goes fn = true := hg
      obtain ⟨hlt, he⟩ := Array.getElem?_eq_some_iff.1 hf
      have := (Array.any_eq_true (p := Func.goes)).2 ⟨g, hlt, by rw [he, hg']⟩
      rw [h] at this
      cases this
theorem goes_by_none {P : Program} (h : P.funcs.any Func.goes = false) (c : OpenClaim) (hs : c.start = .entering) : false = c.goesBy P := by
  unfold OpenClaim.goesBy Program.goesAt Program.goesFrom
  rw [hs]
  cases P.funcNamed c.func with
  | none => rfl
  | some f => simp [goes_none h]
theorem cf_goes : false = Rows.topBusyRow.goesBy Tryz.pinned.checked.prog := goes_by_none cf_none _ rfl
/-- The card, out of the row. -/
theorem card_from (holds : Rows.TopBusySaid) : Rows.TopBusyCardSaid :=
  Claim7.holds_tied_plain_at .later [] [.data, .data, .data, .data, .sentinel, .sentinel, .pinned] true (true, "7eb5a880ad79f246123a5a3dcc6ddb2e78d2fa382bb8b43f130007fb5dc6a395") true holds (fun _ h => by cases h) cf_wf (fun _ h => by cases h) topBusy_row_tie rfl ⟨rfl, rfl⟩ cf_main rfl
    (fun f fn hf hfn => by
      obtain rfl : f = 3 := Option.some.inj (cf_func.symm.trans hf) |>.symm
      obtain rfl : fn = Tryz.f3 := (Option.some.inj (Tryz.func3.symm.trans hfn)).symm
      exact ⟨cf_looks, fun j t ht => by
        rw [Tryz.params3] at ht
        have hm : t ∈ [22] := by simpa using Array.mem_of_getElem? ht
        exact (show Tryz.prog.wantsStandIn t = false by simpa using List.all_eq_true.1 cf_stand t hm)⟩)
    cf_goes
end Go.Proofs.YtkmocipdekogkaaGreatDoor.topBusy
