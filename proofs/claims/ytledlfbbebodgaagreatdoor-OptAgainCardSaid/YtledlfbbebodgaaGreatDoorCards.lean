/-
  DERIVED. GIVEN WITH THE SEED: THE CARDS: each row of YtledlfbbebodgaaGreatDoorRows.lean that lists a variable, with what it lists TIED to the program's text (the seventh form; the later family's looks); each row that meets fmt, with fmt's text TOLD by the authors' own Lean function (tested against real Go, not proved from fmt's source: count such statements apart). THE CARD IS WHAT COUNTS. Prove the row's statement (the work); the ties are given (YtledlfbbebodgaaGreatDoorTie.lean); close each card by the builder's one call (the guide's Derived/Test/ToyasCard.lean, 'card_holds'). Laid BY PROGRAM, IN A SANDBOX (cutbox-door.mjs). By AI agents, Wed Nov 11 2026. No macro, syntax, notation, axiom, sorry.
-/
import Derived.Test.YtledlfbbebodgaaGreatDoorRows
import GoSem.ClaimSeven
namespace Go.Proofs.YtledlfbbebodgaaGreatDoor
namespace Rows

/-- THE TIED CARD OF 'caesurakeep.MeanNames'. -/
def meanNamesCard : Claim7 := { stood := { row := meanNamesRow, standIns := [], harness := (true, "e7e9eecbd50ccfafef46a6628bb7dec1d664e4058b512c1ef56a56367063342f"), looks := true }, kinds := [], alts := [], laidByText := true, laidKinds := [.data, .data, .data, .data, .handle, .data, .sentinel, .sentinel, .pinned], laidTests := true, laidLooks := .later }
def MeanNamesCardSaid : Prop := Claim7.holds Tryz.pinned (.plain (OpenSpec.ofChange meanNamesSpec)) meanNamesCard

/-- THE TIED CARD OF 'caesurakeep.MeanOften'. -/
def meanOftenCard : Claim7 := { stood := { row := meanOftenRow, standIns := [], harness := (true, "e7e9eecbd50ccfafef46a6628bb7dec1d664e4058b512c1ef56a56367063342f"), looks := true }, kinds := [], alts := [], laidByText := true, laidKinds := [.data, .data, .data, .data, .handle, .data, .sentinel, .sentinel, .pinned], laidTests := true, laidLooks := .later }
def MeanOftenCardSaid : Prop := Claim7.holds Tryz.pinned (.plain (OpenSpec.ofChange meanOftenSpec)) meanOftenCard

/-- THE TIED CARD OF 'caesurakeep.CodeSame'. -/
def codeSameCard : Claim7 := { stood := { row := codeSameRow, standIns := [], harness := (true, "e7e9eecbd50ccfafef46a6628bb7dec1d664e4058b512c1ef56a56367063342f"), looks := true }, kinds := [], alts := [], laidByText := true, laidKinds := [.data, .data, .data, .data, .data, .sentinel, .sentinel, .pinned], laidTests := true, laidLooks := .later }
def CodeSameCardSaid : Prop := Claim7.holds Tryz.pinned (.plain (OpenSpec.ofChange codeSameSpec)) codeSameCard

/-- THE TIED CARD OF 'caesurakeep.CodeBreaks'. -/
def codeBreaksCard : Claim7 := { stood := { row := codeBreaksRow, standIns := [], harness := (true, "e7e9eecbd50ccfafef46a6628bb7dec1d664e4058b512c1ef56a56367063342f"), looks := true }, kinds := [], alts := [], laidByText := true, laidKinds := [.data, .data, .data, .data, .handle, .data, .sentinel, .sentinel, .pinned], laidTests := true, laidLooks := .later }
def CodeBreaksCardSaid : Prop := Claim7.holds Tryz.pinned (.plain (OpenSpec.ofChange codeBreaksSpec)) codeBreaksCard

/-- THE TIED CARD OF 'caesurakeep.OptAgain'. -/
def optAgainCard : Claim7 := { stood := { row := optAgainRow, standIns := [], harness := (true, "e7e9eecbd50ccfafef46a6628bb7dec1d664e4058b512c1ef56a56367063342f"), looks := true }, kinds := [], alts := [], laidByText := true, laidKinds := [.data, .data, .data, .data, .data, .sentinel, .sentinel, .widerDeep, .pinned], laidTests := true, laidLooks := .later }
def OptAgainCardSaid : Prop := Claim7.holds Tryz.pinned (.plain (OpenSpec.ofChange optAgainSpec)) optAgainCard

/-- THE SECOND FORM's CARD OF 'caesurakeep.MeanNames'. -/
def meanNamesUptoCard : Claim7 := { stood := { row := meanNamesUptoRow, standIns := [], harness := (true, "e7e9eecbd50ccfafef46a6628bb7dec1d664e4058b512c1ef56a56367063342f"), looks := true }, kinds := [], alts := [], laidByText := true, laidKinds := [.data, .data, .data, .data, .handle, .data, .sentinel, .sentinel, .pinned], laidTests := true, laidLooks := .later }
def MeanNamesUptoCardSaid : Prop := Claim7.holds Tryz.pinned (.plain (OpenSpec.upto meanNamesSpec)) meanNamesUptoCard

/-- THE SECOND FORM's CARD OF 'caesurakeep.MeanOften'. -/
def meanOftenUptoCard : Claim7 := { stood := { row := meanOftenUptoRow, standIns := [], harness := (true, "e7e9eecbd50ccfafef46a6628bb7dec1d664e4058b512c1ef56a56367063342f"), looks := true }, kinds := [], alts := [], laidByText := true, laidKinds := [.data, .data, .data, .data, .handle, .data, .sentinel, .sentinel, .pinned], laidTests := true, laidLooks := .later }
def MeanOftenUptoCardSaid : Prop := Claim7.holds Tryz.pinned (.plain (OpenSpec.upto meanOftenSpec)) meanOftenUptoCard

/-- THE SECOND FORM's CARD OF 'caesurakeep.CodeSame'. -/
def codeSameUptoCard : Claim7 := { stood := { row := codeSameUptoRow, standIns := [], harness := (true, "e7e9eecbd50ccfafef46a6628bb7dec1d664e4058b512c1ef56a56367063342f"), looks := true }, kinds := [], alts := [], laidByText := true, laidKinds := [.data, .data, .data, .data, .data, .sentinel, .sentinel, .pinned], laidTests := true, laidLooks := .later }
def CodeSameUptoCardSaid : Prop := Claim7.holds Tryz.pinned (.plain (OpenSpec.upto codeSameSpec)) codeSameUptoCard

/-- THE SECOND FORM's CARD OF 'caesurakeep.CodeBreaks'. -/
def codeBreaksUptoCard : Claim7 := { stood := { row := codeBreaksUptoRow, standIns := [], harness := (true, "e7e9eecbd50ccfafef46a6628bb7dec1d664e4058b512c1ef56a56367063342f"), looks := true }, kinds := [], alts := [], laidByText := true, laidKinds := [.data, .data, .data, .data, .handle, .data, .sentinel, .sentinel, .pinned], laidTests := true, laidLooks := .later }
def CodeBreaksUptoCardSaid : Prop := Claim7.holds Tryz.pinned (.plain (OpenSpec.upto codeBreaksSpec)) codeBreaksUptoCard

/-- THE SECOND FORM's CARD OF 'caesurakeep.OptAgain'. -/
def optAgainUptoCard : Claim7 := { stood := { row := optAgainUptoRow, standIns := [], harness := (true, "e7e9eecbd50ccfafef46a6628bb7dec1d664e4058b512c1ef56a56367063342f"), looks := true }, kinds := [], alts := [], laidByText := true, laidKinds := [.data, .data, .data, .data, .data, .sentinel, .sentinel, .widerDeep, .pinned], laidTests := true, laidLooks := .later }
def OptAgainUptoCardSaid : Prop := Claim7.holds Tryz.pinned (.plain (OpenSpec.upto optAgainSpec)) optAgainUptoCard
end Rows
end Go.Proofs.YtledlfbbebodgaaGreatDoor
