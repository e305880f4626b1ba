/-
  DERIVED. GIVEN WITH THE SEED: THE CARDS: each row of YtkmocipdekogkaaGreatDoorRows.lean that lists a variable, with what it lists TIED to the program's text (the seventh form; the later family's looks); each row that meets fmt, with fmt's text TOLD by the authors' own Lean function (tested against real Go, not proved from fmt's source: count such statements apart). THE CARD IS WHAT COUNTS. Prove the row's statement (the work); the ties are given (YtkmocipdekogkaaGreatDoorTie.lean); close each card by the builder's one call (the guide's Derived/Test/ToyasCard.lean, 'card_holds'). Laid BY PROGRAM, IN A SANDBOX (cutbox-door.mjs). By AI agents, Wed Nov 11 2026. No macro, syntax, notation, axiom, sorry.
-/
import Derived.Test.YtkmocipdekogkaaGreatDoorRows
import GoSem.ClaimSeven
namespace Go.Proofs.YtkmocipdekogkaaGreatDoor
namespace Rows

/-- THE TIED CARD OF 'winnowtop.TopBusy'. -/
def topBusyCard : Claim7 := { stood := { row := topBusyRow, standIns := [], harness := (true, "7eb5a880ad79f246123a5a3dcc6ddb2e78d2fa382bb8b43f130007fb5dc6a395"), looks := true }, kinds := [], alts := [], laidByText := true, laidKinds := [.data, .data, .data, .data, .sentinel, .sentinel, .pinned], laidTests := true, laidLooks := .later }
def TopBusyCardSaid : Prop := Claim7.holds Tryz.pinned (.plain (OpenSpec.ofChange topBusySpec)) topBusyCard

/-- THE TIED CARD OF 'winnowtop.TopPrefix'. -/
def topPrefixCard : Claim7 := { stood := { row := topPrefixRow, standIns := [], harness := (true, "7eb5a880ad79f246123a5a3dcc6ddb2e78d2fa382bb8b43f130007fb5dc6a395"), looks := true }, kinds := [], alts := [], laidByText := true, laidKinds := [.data, .data, .data, .data, .sentinel, .sentinel, .pinned], laidTests := true, laidLooks := .later }
def TopPrefixCardSaid : Prop := Claim7.holds Tryz.pinned (.plain (OpenSpec.ofChange topPrefixSpec)) topPrefixCard

/-- THE TIED CARD OF 'winnowtop.TopStoreDown'. -/
def topStoreDownCard : Claim7 := { stood := { row := topStoreDownRow, standIns := [], harness := (true, "7eb5a880ad79f246123a5a3dcc6ddb2e78d2fa382bb8b43f130007fb5dc6a395"), looks := true }, kinds := [], alts := [], laidByText := true, laidKinds := [.data, .data, .data, .data, .sentinel, .sentinel, .pinned], laidTests := true, laidLooks := .later }
def TopStoreDownCardSaid : Prop := Claim7.holds Tryz.pinned (.plain (OpenSpec.ofChange topStoreDownSpec)) topStoreDownCard

/-- THE TIED CARD OF 'winnowtop.TopEqual'. -/
def topEqualCard : Claim7 := { stood := { row := topEqualRow, standIns := [], harness := (true, "7eb5a880ad79f246123a5a3dcc6ddb2e78d2fa382bb8b43f130007fb5dc6a395"), looks := true }, kinds := [], alts := [], laidByText := true, laidKinds := [.data, .data, .data, .data, .sentinel, .sentinel, .pinned], laidTests := true, laidLooks := .later }
def TopEqualCardSaid : Prop := Claim7.holds Tryz.pinned (.plain (OpenSpec.ofChange topEqualSpec)) topEqualCard

/-- THE SECOND FORM's CARD OF 'winnowtop.TopBusy'. -/
def topBusyUptoCard : Claim7 := { stood := { row := topBusyUptoRow, standIns := [], harness := (true, "7eb5a880ad79f246123a5a3dcc6ddb2e78d2fa382bb8b43f130007fb5dc6a395"), looks := true }, kinds := [], alts := [], laidByText := true, laidKinds := [.data, .data, .data, .data, .sentinel, .sentinel, .pinned], laidTests := true, laidLooks := .later }
def TopBusyUptoCardSaid : Prop := Claim7.holds Tryz.pinned (.plain (OpenSpec.upto topBusySpec)) topBusyUptoCard

/-- THE SECOND FORM's CARD OF 'winnowtop.TopPrefix'. -/
def topPrefixUptoCard : Claim7 := { stood := { row := topPrefixUptoRow, standIns := [], harness := (true, "7eb5a880ad79f246123a5a3dcc6ddb2e78d2fa382bb8b43f130007fb5dc6a395"), looks := true }, kinds := [], alts := [], laidByText := true, laidKinds := [.data, .data, .data, .data, .sentinel, .sentinel, .pinned], laidTests := true, laidLooks := .later }
def TopPrefixUptoCardSaid : Prop := Claim7.holds Tryz.pinned (.plain (OpenSpec.upto topPrefixSpec)) topPrefixUptoCard

/-- THE SECOND FORM's CARD OF 'winnowtop.TopStoreDown'. -/
def topStoreDownUptoCard : Claim7 := { stood := { row := topStoreDownUptoRow, standIns := [], harness := (true, "7eb5a880ad79f246123a5a3dcc6ddb2e78d2fa382bb8b43f130007fb5dc6a395"), looks := true }, kinds := [], alts := [], laidByText := true, laidKinds := [.data, .data, .data, .data, .sentinel, .sentinel, .pinned], laidTests := true, laidLooks := .later }
def TopStoreDownUptoCardSaid : Prop := Claim7.holds Tryz.pinned (.plain (OpenSpec.upto topStoreDownSpec)) topStoreDownUptoCard

/-- THE SECOND FORM's CARD OF 'winnowtop.TopEqual'. -/
def topEqualUptoCard : Claim7 := { stood := { row := topEqualUptoRow, standIns := [], harness := (true, "7eb5a880ad79f246123a5a3dcc6ddb2e78d2fa382bb8b43f130007fb5dc6a395"), looks := true }, kinds := [], alts := [], laidByText := true, laidKinds := [.data, .data, .data, .data, .sentinel, .sentinel, .pinned], laidTests := true, laidLooks := .later }
def TopEqualUptoCardSaid : Prop := Claim7.holds Tryz.pinned (.plain (OpenSpec.upto topEqualSpec)) topEqualUptoCard
end Rows
end Go.Proofs.YtkmocipdekogkaaGreatDoor
