/-
  DERIVED. GIVEN WITH THE SEED: THE CARDS: each row of YtplbgmoeannobaaGreatDoorRows.lean that lists a variable, with what it lists TIED to the program's text (the seventh form; the later family's looks); each row that meets fmt, with fmt's text TOLD by the authors' own Lean function (tested against real Go, not proved from fmt's source: count such statements apart). THE CARD IS WHAT COUNTS. Prove the row's statement (the work); the ties are given (YtplbgmoeannobaaGreatDoorTie.lean); close each card by the builder's one call (the guide's Derived/Test/ToyasCard.lean, 'card_holds'). Laid BY PROGRAM, IN A SANDBOX (cutbox-door.mjs). By AI agents, Wed Nov 11 2026. No macro, syntax, notation, axiom, sorry.
-/
import Derived.Test.YtplbgmoeannobaaGreatDoorRows
import GoSem.ClaimSeven
namespace Go.Proofs.YtplbgmoeannobaaGreatDoor
namespace Rows

/-- THE TIED CARD OF 'caesuralaw.SetTells'. -/
def setTellsCard : Claim7 := { stood := { row := setTellsRow, standIns := [], harness := (true, "712414d5d0e48b93ec7468e22c5ff6d5cd5e6087ea666f12f1534bb035bdb16e"), looks := true }, kinds := [], alts := [], laidByText := true, laidKinds := [.data, .data, .data, .data, .handle, .sentinel, .sentinel, .listed, .data, .pinned], laidTests := true, laidLooks := .later }
def SetTellsCardSaid : Prop := Claim7.holds Tryz.pinned (.plain (OpenSpec.ofChange setTellsSpec)) setTellsCard

/-- THE SECOND FORM's CARD OF 'caesuralaw.SetTells'. -/
def setTellsUptoCard : Claim7 := { stood := { row := setTellsUptoRow, standIns := [], harness := (true, "712414d5d0e48b93ec7468e22c5ff6d5cd5e6087ea666f12f1534bb035bdb16e"), looks := true }, kinds := [], alts := [], laidByText := true, laidKinds := [.data, .data, .data, .data, .handle, .sentinel, .sentinel, .listed, .data, .pinned], laidTests := true, laidLooks := .later }
def SetTellsUptoCardSaid : Prop := Claim7.holds Tryz.pinned (.plain (OpenSpec.upto setTellsSpec)) setTellsUptoCard
end Rows
end Go.Proofs.YtplbgmoeannobaaGreatDoor
