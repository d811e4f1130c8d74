/-
  DERIVED. GIVEN WITH THE SEED: THE CARDS: each row of YtimjpijbcnjaaaaDoorRows.lean that lists a variable, with what it lists TIED to the program's text (the seventh form; the later family's looks); each row that meets fmt, with fmt's text TOLD by the authors' own Lean function (tested against real Go, not proved from fmt's source: count such statements apart). THE CARD IS WHAT COUNTS. Prove the row's statement (the work); the ties are given (YtimjpijbcnjaaaaDoorTie.lean); close each card by the builder's one call (the guide's Derived/Test/ToyasCard.lean, 'card_holds'). Laid BY PROGRAM, IN A SANDBOX (cutbox-door.mjs). By AI agents, Wed Nov 11 2026. No macro, syntax, notation, axiom, sorry.
-/
import Derived.Test.YtimjpijbcnjaaaaDoorRows
import GoSem.ClaimSeven
namespace Go.Proofs.YtimjpijbcnjaaaaDoor
namespace Rows

/-- THE TIED CARD OF 'caesurakeep.VmMore'. -/
def vmMoreCard : Claim7 := { stood := { row := vmMoreRow, standIns := [], harness := (true, "b997f1cdf38f1b991f42191a677c415d22e3a0741b05612338fa4ac781a6d151"), looks := true }, kinds := [], alts := [], laidByText := true, laidKinds := [.handle], laidTests := true, laidLooks := .later }
def VmMoreCardSaid : Prop := Claim7.holds Tryd.pinned (.plain (OpenSpec.ofChange vmMoreSpec)) vmMoreCard

/-- THE TIED CARD OF 'caesuralaw.VmMatches'. -/
def vmMatchesCard : Claim7 := { stood := { row := vmMatchesRow, standIns := [], harness := (true, "b997f1cdf38f1b991f42191a677c415d22e3a0741b05612338fa4ac781a6d151"), looks := true }, kinds := [], alts := [], laidByText := true, laidKinds := [.handle], laidTests := true, laidLooks := .later }
def VmMatchesCardSaid : Prop := Claim7.holds Tryd.pinned (.plain (OpenSpec.ofChange vmMatchesSpec)) vmMatchesCard

/-- THE TIED CARD OF 'caesurakeep.OptSame'. -/
def optSameCard : Claim7 := { stood := { row := optSameRow, standIns := [], harness := (true, "b997f1cdf38f1b991f42191a677c415d22e3a0741b05612338fa4ac781a6d151"), looks := true }, kinds := [], alts := [], laidByText := true, laidKinds := [.handle, .widerDeep], laidTests := true, laidLooks := .later }
def OptSameCardSaid : Prop := Claim7.holds Tryd.pinned (.plain (OpenSpec.ofChange optSameSpec)) optSameCard

/-- THE TIED CARD OF 'caesurakeep.OptBreaks'. -/
def optBreaksCard : Claim7 := { stood := { row := optBreaksRow, standIns := [], harness := (true, "b997f1cdf38f1b991f42191a677c415d22e3a0741b05612338fa4ac781a6d151"), looks := true }, kinds := [], alts := [], laidByText := true, laidKinds := [.handle, .widerDeep], laidTests := true, laidLooks := .later }
def OptBreaksCardSaid : Prop := Claim7.holds Tryd.pinned (.plain (OpenSpec.ofChange optBreaksSpec)) optBreaksCard

/-- THE TIED CARD OF 'caesuralaw.ImageWrites'. -/
def imageWritesCard : Claim7 := { stood := { row := imageWritesRow, standIns := [], harness := (true, "b997f1cdf38f1b991f42191a677c415d22e3a0741b05612338fa4ac781a6d151"), looks := true }, kinds := [], alts := [], laidByText := true, laidKinds := [.handle], laidTests := true, laidLooks := .later }
def ImageWritesCardSaid : Prop := Claim7.holds Tryd.pinned (.plain (OpenSpec.ofChange imageWritesSpec)) imageWritesCard

/-- THE SECOND FORM's CARD OF 'caesurakeep.VmMore'. -/
def vmMoreUptoCard : Claim7 := { stood := { row := vmMoreUptoRow, standIns := [], harness := (true, "b997f1cdf38f1b991f42191a677c415d22e3a0741b05612338fa4ac781a6d151"), looks := true }, kinds := [], alts := [], laidByText := true, laidKinds := [.handle], laidTests := true, laidLooks := .later }
def VmMoreUptoCardSaid : Prop := Claim7.holds Tryd.pinned (.plain (OpenSpec.upto vmMoreSpec)) vmMoreUptoCard

/-- THE SECOND FORM's CARD OF 'caesuralaw.VmMatches'. -/
def vmMatchesUptoCard : Claim7 := { stood := { row := vmMatchesUptoRow, standIns := [], harness := (true, "b997f1cdf38f1b991f42191a677c415d22e3a0741b05612338fa4ac781a6d151"), looks := true }, kinds := [], alts := [], laidByText := true, laidKinds := [.handle], laidTests := true, laidLooks := .later }
def VmMatchesUptoCardSaid : Prop := Claim7.holds Tryd.pinned (.plain (OpenSpec.upto vmMatchesSpec)) vmMatchesUptoCard

/-- THE SECOND FORM's CARD OF 'caesurakeep.OptSame'. -/
def optSameUptoCard : Claim7 := { stood := { row := optSameUptoRow, standIns := [], harness := (true, "b997f1cdf38f1b991f42191a677c415d22e3a0741b05612338fa4ac781a6d151"), looks := true }, kinds := [], alts := [], laidByText := true, laidKinds := [.handle, .widerDeep], laidTests := true, laidLooks := .later }
def OptSameUptoCardSaid : Prop := Claim7.holds Tryd.pinned (.plain (OpenSpec.upto optSameSpec)) optSameUptoCard

/-- THE SECOND FORM's CARD OF 'caesurakeep.OptBreaks'. -/
def optBreaksUptoCard : Claim7 := { stood := { row := optBreaksUptoRow, standIns := [], harness := (true, "b997f1cdf38f1b991f42191a677c415d22e3a0741b05612338fa4ac781a6d151"), looks := true }, kinds := [], alts := [], laidByText := true, laidKinds := [.handle, .widerDeep], laidTests := true, laidLooks := .later }
def OptBreaksUptoCardSaid : Prop := Claim7.holds Tryd.pinned (.plain (OpenSpec.upto optBreaksSpec)) optBreaksUptoCard

/-- THE SECOND FORM's CARD OF 'caesuralaw.ImageWrites'. -/
def imageWritesUptoCard : Claim7 := { stood := { row := imageWritesUptoRow, standIns := [], harness := (true, "b997f1cdf38f1b991f42191a677c415d22e3a0741b05612338fa4ac781a6d151"), looks := true }, kinds := [], alts := [], laidByText := true, laidKinds := [.handle], laidTests := true, laidLooks := .later }
def ImageWritesUptoCardSaid : Prop := Claim7.holds Tryd.pinned (.plain (OpenSpec.upto imageWritesSpec)) imageWritesUptoCard
end Rows
end Go.Proofs.YtimjpijbcnjaaaaDoor
