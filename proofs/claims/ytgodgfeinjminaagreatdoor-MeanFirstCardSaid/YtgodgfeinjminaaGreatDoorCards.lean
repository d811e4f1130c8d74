/-
  DERIVED. GIVEN WITH THE SEED: THE CARDS: each row of YtgodgfeinjminaaGreatDoorRows.lean that lists a variable, with what it lists TIED to the program's text (the seventh form; the later family's looks); each row that meets fmt, with fmt's text TOLD by the authors' own Lean function (tested against real Go, not proved from fmt's source: count such statements apart). THE CARD IS WHAT COUNTS. Prove the row's statement (the work); the ties are given (YtgodgfeinjminaaGreatDoorTie.lean); close each card by the builder's one call (the guide's Derived/Test/ToyasCard.lean, 'card_holds'). Laid BY PROGRAM, IN A SANDBOX (cutbox-door.mjs). By AI agents, Wed Nov 11 2026. No macro, syntax, notation, axiom, sorry.
-/
import Derived.Test.YtgodgfeinjminaaGreatDoorRows
import GoSem.ClaimSeven
namespace Go.Proofs.YtgodgfeinjminaaGreatDoor
namespace Rows

/-- THE TIED CARD OF 'caesurakeep.MeanFirst'. -/
def meanFirstCard : Claim7 := { stood := { row := meanFirstRow, standIns := [], harness := (true, "0ec72257f4c82b9dc684f1c115f4fc74b63f4d076846d9d841987316e8f70bbb"), looks := true }, kinds := [], alts := [], laidByText := true, laidKinds := [.data, .data, .data, .data, .handle, .data, .sentinel, .sentinel, .pinned], laidTests := true, laidLooks := .later }
def MeanFirstCardSaid : Prop := Claim7.holds Tryz.pinned (.plain (OpenSpec.ofChange meanFirstSpec)) meanFirstCard

/-- THE TIED CARD OF 'caesurakeep.MeanMirror'. -/
def meanMirrorCard : Claim7 := { stood := { row := meanMirrorRow, standIns := [], harness := (true, "0ec72257f4c82b9dc684f1c115f4fc74b63f4d076846d9d841987316e8f70bbb"), looks := true }, kinds := [], alts := [], laidByText := true, laidKinds := [.data, .data, .data, .data, .handle, .data, .sentinel, .sentinel, .pinned], laidTests := true, laidLooks := .later }
def MeanMirrorCardSaid : Prop := Claim7.holds Tryz.pinned (.plain (OpenSpec.ofChange meanMirrorSpec)) meanMirrorCard

/-- THE TIED CARD OF 'caesurakeep.MeanTurned'. -/
def meanTurnedCard : Claim7 := { stood := { row := meanTurnedRow, standIns := [], harness := (true, "0ec72257f4c82b9dc684f1c115f4fc74b63f4d076846d9d841987316e8f70bbb"), looks := true }, kinds := [], alts := [], laidByText := true, laidKinds := [.data, .data, .data, .data, .handle, .data, .sentinel, .sentinel, .pinned], laidTests := true, laidLooks := .later }
def MeanTurnedCardSaid : Prop := Claim7.holds Tryz.pinned (.plain (OpenSpec.ofChange meanTurnedSpec)) meanTurnedCard

/-- THE SECOND FORM's CARD OF 'caesurakeep.MeanFirst'. -/
def meanFirstUptoCard : Claim7 := { stood := { row := meanFirstUptoRow, standIns := [], harness := (true, "0ec72257f4c82b9dc684f1c115f4fc74b63f4d076846d9d841987316e8f70bbb"), looks := true }, kinds := [], alts := [], laidByText := true, laidKinds := [.data, .data, .data, .data, .handle, .data, .sentinel, .sentinel, .pinned], laidTests := true, laidLooks := .later }
def MeanFirstUptoCardSaid : Prop := Claim7.holds Tryz.pinned (.plain (OpenSpec.upto meanFirstSpec)) meanFirstUptoCard

/-- THE SECOND FORM's CARD OF 'caesurakeep.MeanMirror'. -/
def meanMirrorUptoCard : Claim7 := { stood := { row := meanMirrorUptoRow, standIns := [], harness := (true, "0ec72257f4c82b9dc684f1c115f4fc74b63f4d076846d9d841987316e8f70bbb"), looks := true }, kinds := [], alts := [], laidByText := true, laidKinds := [.data, .data, .data, .data, .handle, .data, .sentinel, .sentinel, .pinned], laidTests := true, laidLooks := .later }
def MeanMirrorUptoCardSaid : Prop := Claim7.holds Tryz.pinned (.plain (OpenSpec.upto meanMirrorSpec)) meanMirrorUptoCard

/-- THE SECOND FORM's CARD OF 'caesurakeep.MeanTurned'. -/
def meanTurnedUptoCard : Claim7 := { stood := { row := meanTurnedUptoRow, standIns := [], harness := (true, "0ec72257f4c82b9dc684f1c115f4fc74b63f4d076846d9d841987316e8f70bbb"), looks := true }, kinds := [], alts := [], laidByText := true, laidKinds := [.data, .data, .data, .data, .handle, .data, .sentinel, .sentinel, .pinned], laidTests := true, laidLooks := .later }
def MeanTurnedUptoCardSaid : Prop := Claim7.holds Tryz.pinned (.plain (OpenSpec.upto meanTurnedSpec)) meanTurnedUptoCard
end Rows
end Go.Proofs.YtgodgfeinjminaaGreatDoor
