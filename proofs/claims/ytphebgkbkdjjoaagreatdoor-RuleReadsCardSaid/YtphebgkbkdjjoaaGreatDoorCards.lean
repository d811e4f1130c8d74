/-
  DERIVED. GIVEN WITH THE SEED: THE CARDS: each row of YtphebgkbkdjjoaaGreatDoorRows.lean that lists a variable, with what it lists TIED to the program's text (the seventh form; the later family's looks); each row that meets fmt, with fmt's text TOLD by the authors' own Lean function (tested against real Go, not proved from fmt's source: count such statements apart). THE CARD IS WHAT COUNTS. Prove the row's statement (the work); the ties are given (YtphebgkbkdjjoaaGreatDoorTie.lean); close each card by the builder's one call (the guide's Derived/Test/ToyasCard.lean, 'card_holds'). Laid BY PROGRAM, IN A SANDBOX (cutbox-door.mjs). By AI agents, Wed Nov 11 2026. No macro, syntax, notation, axiom, sorry.
-/
import Derived.Test.YtphebgkbkdjjoaaGreatDoorRows
import GoSem.ClaimSeven
namespace Go.Proofs.YtphebgkbkdjjoaaGreatDoor
namespace Rows

/-- THE TIED CARD OF 'caesuralaw.RuleLimits'. -/
def ruleLimitsCard : Claim7 := { stood := { row := ruleLimitsRow, standIns := [], harness := (true, "806062cdbc55bb133c52f4955d38958cb9d366cd6f785b56f0bd8a2d22fe10f4"), looks := true }, kinds := [], alts := [], laidByText := true, laidKinds := [.data, .data, .data, .data, .handle, .sentinel, .sentinel, .listed, .data, .data, .pinned], laidTests := true, laidLooks := .later }
def RuleLimitsCardSaid : Prop := Claim7.holds Tryz.pinned (.plain (OpenSpec.ofChange ruleLimitsSpec)) ruleLimitsCard

/-- THE TIED CARD OF 'caesuralaw.RuleReads'. -/
def ruleReadsCard : Claim7 := { stood := { row := ruleReadsRow, standIns := [], harness := (true, "806062cdbc55bb133c52f4955d38958cb9d366cd6f785b56f0bd8a2d22fe10f4"), looks := true }, kinds := [], alts := [], laidByText := true, laidKinds := [.data, .data, .data, .data, .handle, .sentinel, .sentinel, .listed, .data, .data, .pinned], laidTests := true, laidLooks := .later }
def RuleReadsCardSaid : Prop := Claim7.holds Tryz.pinned (.plain (OpenSpec.ofChange ruleReadsSpec)) ruleReadsCard

/-- THE SECOND FORM's CARD OF 'caesuralaw.RuleLimits'. -/
def ruleLimitsUptoCard : Claim7 := { stood := { row := ruleLimitsUptoRow, standIns := [], harness := (true, "806062cdbc55bb133c52f4955d38958cb9d366cd6f785b56f0bd8a2d22fe10f4"), looks := true }, kinds := [], alts := [], laidByText := true, laidKinds := [.data, .data, .data, .data, .handle, .sentinel, .sentinel, .listed, .data, .data, .pinned], laidTests := true, laidLooks := .later }
def RuleLimitsUptoCardSaid : Prop := Claim7.holds Tryz.pinned (.plain (OpenSpec.upto ruleLimitsSpec)) ruleLimitsUptoCard

/-- THE SECOND FORM's CARD OF 'caesuralaw.RuleReads'. -/
def ruleReadsUptoCard : Claim7 := { stood := { row := ruleReadsUptoRow, standIns := [], harness := (true, "806062cdbc55bb133c52f4955d38958cb9d366cd6f785b56f0bd8a2d22fe10f4"), looks := true }, kinds := [], alts := [], laidByText := true, laidKinds := [.data, .data, .data, .data, .handle, .sentinel, .sentinel, .listed, .data, .data, .pinned], laidTests := true, laidLooks := .later }
def RuleReadsUptoCardSaid : Prop := Claim7.holds Tryz.pinned (.plain (OpenSpec.upto ruleReadsSpec)) ruleReadsUptoCard
end Rows
end Go.Proofs.YtphebgkbkdjjoaaGreatDoor
