/-
  DERIVED. GIVEN WITH THE SEED: THE CARDS: each row of YtodeeahdhnjpkaaGreatDoorRows.lean that lists a variable, with what it lists TIED to the program's text (the seventh form; the later family's looks); each row that meets fmt, with fmt's text TOLD by the authors' own Lean function (tested against real Go, not proved from fmt's source: count such statements apart). THE CARD IS WHAT COUNTS. Prove the row's statement (the work); the ties are given (YtodeeahdhnjpkaaGreatDoorTie.lean); close each card by the builder's one call (the guide's Derived/Test/ToyasCard.lean, 'card_holds'). Laid BY PROGRAM, IN A SANDBOX (cutbox-door.mjs). By AI agents, Wed Nov 11 2026. No macro, syntax, notation, axiom, sorry.
-/
import Derived.Test.YtodeeahdhnjpkaaGreatDoorRows
import GoSem.ClaimSeven
namespace Go.Proofs.YtodeeahdhnjpkaaGreatDoor
namespace Rows

/-- THE TIED CARD OF 'caesuralaw.CheckFinds'. -/
def checkFindsCard : Claim7 := { stood := { row := checkFindsRow, standIns := [], harness := (true, "ea81679a29f0ed5737c7199abede72ee5f8ded5e1fde9f075451e5a5bdd24617"), looks := true }, kinds := [], alts := [], laidByText := true, laidKinds := [.data, .data, .data, .data, .handle, .sentinel, .sentinel, .listed, .data, .data, .pinned], laidTests := true, laidLooks := .later }
def CheckFindsCardSaid : Prop := Claim7.holds Tryz.pinned (.plain (OpenSpec.ofChange checkFindsSpec)) checkFindsCard

/-- THE TIED CARD OF 'caesuralaw.MeanBreaks'. -/
def meanBreaksCard : Claim7 := { stood := { row := meanBreaksRow, standIns := [], harness := (true, "ea81679a29f0ed5737c7199abede72ee5f8ded5e1fde9f075451e5a5bdd24617"), looks := true }, kinds := [], alts := [], laidByText := true, laidKinds := [.data, .data, .data, .data, .handle, .data, .sentinel, .sentinel, .listed, .data, .data, .pinned], laidTests := true, laidLooks := .later }
def MeanBreaksCardSaid : Prop := Claim7.holds Tryz.pinned (.plain (OpenSpec.ofChange meanBreaksSpec)) meanBreaksCard

/-- THE SECOND FORM's CARD OF 'caesuralaw.CheckFinds'. -/
def checkFindsUptoCard : Claim7 := { stood := { row := checkFindsUptoRow, standIns := [], harness := (true, "ea81679a29f0ed5737c7199abede72ee5f8ded5e1fde9f075451e5a5bdd24617"), looks := true }, kinds := [], alts := [], laidByText := true, laidKinds := [.data, .data, .data, .data, .handle, .sentinel, .sentinel, .listed, .data, .data, .pinned], laidTests := true, laidLooks := .later }
def CheckFindsUptoCardSaid : Prop := Claim7.holds Tryz.pinned (.plain (OpenSpec.upto checkFindsSpec)) checkFindsUptoCard

/-- THE SECOND FORM's CARD OF 'caesuralaw.MeanBreaks'. -/
def meanBreaksUptoCard : Claim7 := { stood := { row := meanBreaksUptoRow, standIns := [], harness := (true, "ea81679a29f0ed5737c7199abede72ee5f8ded5e1fde9f075451e5a5bdd24617"), looks := true }, kinds := [], alts := [], laidByText := true, laidKinds := [.data, .data, .data, .data, .handle, .data, .sentinel, .sentinel, .listed, .data, .data, .pinned], laidTests := true, laidLooks := .later }
def MeanBreaksUptoCardSaid : Prop := Claim7.holds Tryz.pinned (.plain (OpenSpec.upto meanBreaksSpec)) meanBreaksUptoCard
end Rows
end Go.Proofs.YtodeeahdhnjpkaaGreatDoor
