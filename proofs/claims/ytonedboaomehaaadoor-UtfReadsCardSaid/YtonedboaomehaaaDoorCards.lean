/-
  DERIVED. GIVEN WITH THE SEED: THE CARDS: each row of YtonedboaomehaaaDoorRows.lean that lists a variable, with what it lists TIED to the program's text (the seventh form; the later family's looks); each row that meets fmt, with fmt's text TOLD by the authors' own Lean function (tested against real Go, not proved from fmt's source: count such statements apart). THE CARD IS WHAT COUNTS. Prove the row's statement (the work); the ties are given (YtonedboaomehaaaDoorTie.lean); close each card by the builder's one call (the guide's Derived/Test/ToyasCard.lean, 'card_holds'). Laid BY PROGRAM, IN A SANDBOX (cutbox-door.mjs). By AI agents, Wed Nov 11 2026. No macro, syntax, notation, axiom, sorry.
-/
import Derived.Test.YtonedboaomehaaaDoorRows
import GoSem.ClaimSeven
namespace Go.Proofs.YtonedboaomehaaaDoor
namespace Rows

/-- THE TIED CARD OF 'caesurakeep.UtfCovers'. -/
def utfCoversCard : Claim7 := { stood := { row := utfCoversRow, standIns := [], harness := (true, "10fa899275d9cacff1d40335512882a647e14c4143b6a416ebda742cc52484f9"), looks := true }, kinds := [], alts := [], laidByText := true, laidKinds := [.data], laidTests := true, laidLooks := .later }
def UtfCoversCardSaid : Prop := Claim7.holds Tryd.pinned (.plain (OpenSpec.ofChange utfCoversSpec)) utfCoversCard

/-- THE TIED CARD OF 'caesurakeep.UtfAgain'. -/
def utfAgainCard : Claim7 := { stood := { row := utfAgainRow, standIns := [], harness := (true, "10fa899275d9cacff1d40335512882a647e14c4143b6a416ebda742cc52484f9"), looks := true }, kinds := [], alts := [], laidByText := true, laidKinds := [.data], laidTests := true, laidLooks := .later }
def UtfAgainCardSaid : Prop := Claim7.holds Tryd.pinned (.plain (OpenSpec.ofChange utfAgainSpec)) utfAgainCard

/-- THE TIED CARD OF 'caesuralaw.UtfReads'. -/
def utfReadsCard : Claim7 := { stood := { row := utfReadsRow, standIns := [], harness := (true, "10fa899275d9cacff1d40335512882a647e14c4143b6a416ebda742cc52484f9"), looks := true }, kinds := [], alts := [], laidByText := true, laidKinds := [.handle, .data, .data], laidTests := true, laidLooks := .later }
def UtfReadsCardSaid : Prop := Claim7.holds Tryd.pinned (.plain (OpenSpec.ofChange utfReadsSpec)) utfReadsCard

/-- THE SECOND FORM's CARD OF 'caesurakeep.UtfCovers'. -/
def utfCoversUptoCard : Claim7 := { stood := { row := utfCoversUptoRow, standIns := [], harness := (true, "10fa899275d9cacff1d40335512882a647e14c4143b6a416ebda742cc52484f9"), looks := true }, kinds := [], alts := [], laidByText := true, laidKinds := [.data], laidTests := true, laidLooks := .later }
def UtfCoversUptoCardSaid : Prop := Claim7.holds Tryd.pinned (.plain (OpenSpec.upto utfCoversSpec)) utfCoversUptoCard

/-- THE SECOND FORM's CARD OF 'caesurakeep.UtfAgain'. -/
def utfAgainUptoCard : Claim7 := { stood := { row := utfAgainUptoRow, standIns := [], harness := (true, "10fa899275d9cacff1d40335512882a647e14c4143b6a416ebda742cc52484f9"), looks := true }, kinds := [], alts := [], laidByText := true, laidKinds := [.data], laidTests := true, laidLooks := .later }
def UtfAgainUptoCardSaid : Prop := Claim7.holds Tryd.pinned (.plain (OpenSpec.upto utfAgainSpec)) utfAgainUptoCard

/-- THE SECOND FORM's CARD OF 'caesuralaw.UtfReads'. -/
def utfReadsUptoCard : Claim7 := { stood := { row := utfReadsUptoRow, standIns := [], harness := (true, "10fa899275d9cacff1d40335512882a647e14c4143b6a416ebda742cc52484f9"), looks := true }, kinds := [], alts := [], laidByText := true, laidKinds := [.handle, .data, .data], laidTests := true, laidLooks := .later }
def UtfReadsUptoCardSaid : Prop := Claim7.holds Tryd.pinned (.plain (OpenSpec.upto utfReadsSpec)) utfReadsUptoCard
end Rows
end Go.Proofs.YtonedboaomehaaaDoor
