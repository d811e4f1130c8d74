/-
  DERIVED. GIVEN WITH THE SEED: THE CARDS: each row of YtemjejfpadnljaaGreatDoorRows.lean that lists a variable, with what it lists TIED to the program's text (the seventh form; the later family's looks); each row that meets fmt, with fmt's text TOLD by the authors' own Lean function (tested against real Go, not proved from fmt's source: count such statements apart). THE CARD IS WHAT COUNTS. Prove the row's statement (the work); the ties are given (YtemjejfpadnljaaGreatDoorTie.lean); close each card by the builder's one call (the guide's Derived/Test/ToyasCard.lean, 'card_holds'). Laid BY PROGRAM, IN A SANDBOX (cutbox-door.mjs). By AI agents, Wed Nov 11 2026. No macro, syntax, notation, axiom, sorry.
-/
import Derived.Test.YtemjejfpadnljaaGreatDoorRows
import GoSem.ClaimSeven
namespace Go.Proofs.YtemjejfpadnljaaGreatDoor
namespace Rows

/-- THE TIED CARD OF 'caesurakeep.EngineSteps'. -/
def engineStepsCard : Claim7 := { stood := { row := engineStepsRow, standIns := [], harness := (true, "60c85caf9394b60f415152326eb287297b7f887c3a82529a2c5e818f2d249131"), looks := true }, kinds := [], alts := [], laidByText := true, laidKinds := [.data, .data, .data, .data, .data, .sentinel, .sentinel, .widerDeep, .pinned], laidTests := true, laidLooks := .later }
def EngineStepsCardSaid : Prop := Claim7.holds Tryz.pinned (.plain (OpenSpec.ofChange engineStepsSpec)) engineStepsCard

/-- THE TIED CARD OF 'caesurakeep.EngineEdits'. -/
def engineEditsCard : Claim7 := { stood := { row := engineEditsRow, standIns := [], harness := (true, "60c85caf9394b60f415152326eb287297b7f887c3a82529a2c5e818f2d249131"), looks := true }, kinds := [], alts := [], laidByText := true, laidKinds := [.data, .data, .data, .data, .data, .sentinel, .sentinel, .widerDeep, .pinned], laidTests := true, laidLooks := .later }
def EngineEditsCardSaid : Prop := Claim7.holds Tryz.pinned (.plain (OpenSpec.ofChange engineEditsSpec)) engineEditsCard

/-- THE TIED CARD OF 'caesurakeep.EngineSame'. -/
def engineSameCard : Claim7 := { stood := { row := engineSameRow, standIns := [], harness := (true, "60c85caf9394b60f415152326eb287297b7f887c3a82529a2c5e818f2d249131"), looks := true }, kinds := [], alts := [], laidByText := true, laidKinds := [.data, .data, .data, .data, .data, .sentinel, .sentinel, .widerDeep, .pinned], laidTests := true, laidLooks := .later }
def EngineSameCardSaid : Prop := Claim7.holds Tryz.pinned (.plain (OpenSpec.ofChange engineSameSpec)) engineSameCard

/-- THE SECOND FORM's CARD OF 'caesurakeep.EngineSteps'. -/
def engineStepsUptoCard : Claim7 := { stood := { row := engineStepsUptoRow, standIns := [], harness := (true, "60c85caf9394b60f415152326eb287297b7f887c3a82529a2c5e818f2d249131"), looks := true }, kinds := [], alts := [], laidByText := true, laidKinds := [.data, .data, .data, .data, .data, .sentinel, .sentinel, .widerDeep, .pinned], laidTests := true, laidLooks := .later }
def EngineStepsUptoCardSaid : Prop := Claim7.holds Tryz.pinned (.plain (OpenSpec.upto engineStepsSpec)) engineStepsUptoCard

/-- THE SECOND FORM's CARD OF 'caesurakeep.EngineEdits'. -/
def engineEditsUptoCard : Claim7 := { stood := { row := engineEditsUptoRow, standIns := [], harness := (true, "60c85caf9394b60f415152326eb287297b7f887c3a82529a2c5e818f2d249131"), looks := true }, kinds := [], alts := [], laidByText := true, laidKinds := [.data, .data, .data, .data, .data, .sentinel, .sentinel, .widerDeep, .pinned], laidTests := true, laidLooks := .later }
def EngineEditsUptoCardSaid : Prop := Claim7.holds Tryz.pinned (.plain (OpenSpec.upto engineEditsSpec)) engineEditsUptoCard

/-- THE SECOND FORM's CARD OF 'caesurakeep.EngineSame'. -/
def engineSameUptoCard : Claim7 := { stood := { row := engineSameUptoRow, standIns := [], harness := (true, "60c85caf9394b60f415152326eb287297b7f887c3a82529a2c5e818f2d249131"), looks := true }, kinds := [], alts := [], laidByText := true, laidKinds := [.data, .data, .data, .data, .data, .sentinel, .sentinel, .widerDeep, .pinned], laidTests := true, laidLooks := .later }
def EngineSameUptoCardSaid : Prop := Claim7.holds Tryz.pinned (.plain (OpenSpec.upto engineSameSpec)) engineSameUptoCard
end Rows
end Go.Proofs.YtemjejfpadnljaaGreatDoor
