/-
  NARROWER THAN 'FOR EVERY INPUT', by the rows' own cells (each row's printed sentence says how): UtfCovers: laid · UtfAgain: laid · UtfReads: laid.
  DERIVED. THE GIVEN ROWS OF THIS SEAT. 3 by the template 'for every input the law returns true; each argument reads behind the call as it read before'; 0 by the template 'total and deterministic' (their statements: YtonedboaomehaaaDoorTotals.lean).
  GIVEN WITH THE SEED: the statements are not yours to turn. If you find one false, say at which input.
  Laid BY PROGRAM, IN A SANDBOX (cutbox-rows.mjs): the forced cells as the released guide's own fill.sh prints them over the translation 5f1e3f10f5385fc3… (all of the seat's roots in one cut). By AI agents, Wed Nov 11 2026. No macro, syntax, notation, axiom, sorry.
-/
import Derived.Test.YtonedboaomehaaaDoorChecked
import GoSem.Claim
import GoSem.ClaimJoined
import GoSem.ClaimMapViews
import Derived.JoinedTies
import Derived.KernelRfl
namespace Go.Proofs.YtonedboaomehaaaDoor
/- THE CELL 'sum', in the pinned program and in every row, IS THE sha256 OF THE DUMP (.gsa) THAT YtonedboaomehaaaDoorProg.lean LOADS. Nothing in Lean hashes anything: it is a label: what it is worth is what the hold of that sum in a sandbox is worth. -/
noncomputable def Tryd.pinned : Pinned := { name := "ytonedboaomehaaadoor", sum := "5f1e3f10f5385fc354f7a926f090dd5074857f86195a47e666c494257000856c", checked := Tryd.checked }
namespace Rows
def none {H : Type} : Left H := { results := [], args := [] }

/- WHAT THE LISTED PACKAGE-LEVEL VARIABLES READ AS WHEN THE CALL BEGINS. Each datum BY PROGRAM (the guide's laid-datum.mjs) off the statement by which the dump's own 'gosem.cut.vars' lays the variable. In a bare row this is a premise. The card (YtonedboaomehaaaDoorCards.lean) ties it to the program's text. -/
def laid_caesura_utf_least {H : Type} : DataW H := .agg [.lit (.int .i64 0), .lit (.int .i64 0), .lit (.int .i64 128), .lit (.int .i64 2048), .lit (.int .i64 65536)]
def laid_errors_errorType {H : Type} : DataW H := .iface "internal/reflectlite.rtype" (.agg [.ptr (.lit (.string [101, 114, 114, 111, 114]))])
def laid_caesura_caesuraref_Fine {H : Type} : DataW H := .agg [.lit (.int .i64 0), .lit (.int .i64 (-1))]

/-- 'caesurakeep.UtfCovers': WHATEVER THE INPUT: true; the input reads as it did. -/
def utfCoversSpec : ChangeSpec := { name := "utfCovers", fn := fun _ => fun
  | [d1, d2, d3] => { results := [.lit (.bool true)], args := [d1, d2, d3] }
  | _ => none }
def utfCoversRow : OpenClaim := { program := "ytonedboaomehaaadoor", sum := "5f1e3f10f5385fc354f7a926f090dd5074857f86195a47e666c494257000856c", func := "caesura/caesurakeep.UtfCovers", spec := "utfCovers", unfollowed := true, recurses := true, named := ["caesura/utf.least"], apart := false, laid := [("caesura/utf.least", laid_caesura_utf_least)] }
def UtfCoversSaid : Prop := utfCoversRow.holds Tryd.pinned (OpenSpec.ofChange utfCoversSpec)

/-- ITS FALSE NEIGHBOUR: 'it returns false'. Refute it at one input. -/
def utfCoversWrong : ChangeSpec := { name := "utfCovers", fn := fun _ => fun
  | [d1, d2, d3] => { results := [.lit (.bool false)], args := [d1, d2, d3] }
  | _ => none }
def UtfCoversWrongFalsely : Prop := utfCoversRow.holds Tryd.pinned (OpenSpec.ofChange utfCoversWrong)

/-- 'caesurakeep.UtfAgain': WHATEVER THE INPUT: true; the input reads as it did. -/
def utfAgainSpec : ChangeSpec := { name := "utfAgain", fn := fun _ => fun
  | [d] => { results := [.lit (.bool true)], args := [d] }
  | _ => none }
def utfAgainRow : OpenClaim := { program := "ytonedboaomehaaadoor", sum := "5f1e3f10f5385fc354f7a926f090dd5074857f86195a47e666c494257000856c", func := "caesura/caesurakeep.UtfAgain", spec := "utfAgain", named := ["caesura/utf.least"], apart := false, laid := [("caesura/utf.least", laid_caesura_utf_least)] }
def UtfAgainSaid : Prop := utfAgainRow.holds Tryd.pinned (OpenSpec.ofChange utfAgainSpec)

/-- ITS FALSE NEIGHBOUR: 'it returns false'. Refute it at one input. -/
def utfAgainWrong : ChangeSpec := { name := "utfAgain", fn := fun _ => fun
  | [d] => { results := [.lit (.bool false)], args := [d] }
  | _ => none }
def UtfAgainWrongFalsely : Prop := utfAgainRow.holds Tryd.pinned (OpenSpec.ofChange utfAgainWrong)

/-- 'caesuralaw.UtfReads': WHATEVER THE INPUT: true; the input reads as it did. -/
def utfReadsSpec : ChangeSpec := { name := "utfReads", fn := fun _ => fun
  | [d1, d2] => { results := [.lit (.bool true)], args := [d1, d2] }
  | _ => none }
def utfReadsRow : OpenClaim := { program := "ytonedboaomehaaadoor", sum := "5f1e3f10f5385fc354f7a926f090dd5074857f86195a47e666c494257000856c", func := "caesura/caesuralaw.UtfReads", spec := "utfReads", inPlace := ["internal/reflectlite.ValueOf", "(internal/reflectlite.Value).Type", "(internal/reflectlite.Value).IsNil", "internal/reflectlite.TypeOf", "(internal/reflectlite.Value).Elem", "(internal/reflectlite.Value).Set"], unfollowed := true, recurses := true, named := ["caesura/utf.least", "caesura/caesuraref.Fine", "errors.errorType"], apart := false, laid := [("errors.errorType", laid_errors_errorType), ("caesura/utf.least", laid_caesura_utf_least), ("caesura/caesuraref.Fine", laid_caesura_caesuraref_Fine)] }
def UtfReadsSaid : Prop := utfReadsRow.holds Tryd.pinned (OpenSpec.ofChange utfReadsSpec)

/-- ITS FALSE NEIGHBOUR: 'it returns false'. Refute it at one input. -/
def utfReadsWrong : ChangeSpec := { name := "utfReads", fn := fun _ => fun
  | [d1, d2] => { results := [.lit (.bool false)], args := [d1, d2] }
  | _ => none }
def UtfReadsWrongFalsely : Prop := utfReadsRow.holds Tryd.pinned (OpenSpec.ofChange utfReadsWrong)

/- THE SECOND FORM. 'bulk': how many values and letters a reading holds, each counted each time it is reached (what is shared counts as often as it is met; a slice's spare places count too). A statement '..UptoSaid' is the law's where the arguments, and the package variables that the reading takes, are together of bulk at most 1048576: NARROWER than '..Said'. Prove '..Said' where nothing that the law and all that it calls make is longer than what came in: it says more and counts as full. Else prove '..UptoSaid'. A law counts once. -/
mutual
def uptoBulk {H : Type} : DataW H → Nat
  | .lit (.string bytes) => bytes.length + 1
  | .lit _ => 1
  | .nil => 1
  | .ptr d => uptoBulk d + 1
  | .slice elems spare => uptoBulkAll elems + uptoBulkAll spare + 1
  | .agg parts => uptoBulkAll parts + 1
  | .iface _ d => uptoBulk d + 1
  | .map entries => uptoBulkEntries entries + 1
  | .held _ => 1
def uptoBulkAll {H : Type} : List (DataW H) → Nat
  | [] => 0
  | d :: r => uptoBulk d + uptoBulkAll r
def uptoBulkEntries {H : Type} : List (Lit × DataW H) → Nat
  | [] => 0
  | x :: r => uptoBulkEntry x + uptoBulkEntries r
def uptoBulkEntry {H : Type} : Lit × DataW H → Nat
  | (.string bytes, d) => bytes.length + uptoBulk d + 1
  | (_, d) => uptoBulk d + 1
 end
def uptoSmall : (H : Type) → List (DataW H) → Bool := fun _ ds => decide (uptoBulkAll ds ≤ 1048576)
def OpenSpec.upto (s : _root_.Go.ChangeSpec) : _root_.Go.OpenSpec := { _root_.Go.OpenSpec.ofChange s with cond := some uptoSmall }

/-- 'caesurakeep.UtfCovers', WHERE WHAT IT READS IS OF BULK AT MOST 1048576: true; the input reads as it did. -/
def utfCoversUptoRow : OpenClaim := { program := "ytonedboaomehaaadoor", sum := "5f1e3f10f5385fc354f7a926f090dd5074857f86195a47e666c494257000856c", func := "caesura/caesurakeep.UtfCovers", spec := "utfCovers", unfollowed := true, recurses := true, named := ["caesura/utf.least"], apart := false, laid := [("caesura/utf.least", laid_caesura_utf_least)], narrowed := true }
def UtfCoversUptoSaid : Prop := utfCoversUptoRow.holds Tryd.pinned (OpenSpec.upto utfCoversSpec)

/-- 'caesurakeep.UtfAgain', WHERE WHAT IT READS IS OF BULK AT MOST 1048576: true; the input reads as it did. -/
def utfAgainUptoRow : OpenClaim := { program := "ytonedboaomehaaadoor", sum := "5f1e3f10f5385fc354f7a926f090dd5074857f86195a47e666c494257000856c", func := "caesura/caesurakeep.UtfAgain", spec := "utfAgain", named := ["caesura/utf.least"], apart := false, laid := [("caesura/utf.least", laid_caesura_utf_least)], narrowed := true }
def UtfAgainUptoSaid : Prop := utfAgainUptoRow.holds Tryd.pinned (OpenSpec.upto utfAgainSpec)

/-- 'caesuralaw.UtfReads', WHERE WHAT IT READS IS OF BULK AT MOST 1048576: true; the input reads as it did. -/
def utfReadsUptoRow : OpenClaim := { program := "ytonedboaomehaaadoor", sum := "5f1e3f10f5385fc354f7a926f090dd5074857f86195a47e666c494257000856c", func := "caesura/caesuralaw.UtfReads", spec := "utfReads", inPlace := ["internal/reflectlite.ValueOf", "(internal/reflectlite.Value).Type", "(internal/reflectlite.Value).IsNil", "internal/reflectlite.TypeOf", "(internal/reflectlite.Value).Elem", "(internal/reflectlite.Value).Set"], unfollowed := true, recurses := true, named := ["caesura/utf.least", "caesura/caesuraref.Fine", "errors.errorType"], apart := false, laid := [("errors.errorType", laid_errors_errorType), ("caesura/utf.least", laid_caesura_utf_least), ("caesura/caesuraref.Fine", laid_caesura_caesuraref_Fine)], narrowed := true }
def UtfReadsUptoSaid : Prop := utfReadsUptoRow.holds Tryd.pinned (OpenSpec.upto utfReadsSpec)

end Rows
end Go.Proofs.YtonedboaomehaaaDoor
