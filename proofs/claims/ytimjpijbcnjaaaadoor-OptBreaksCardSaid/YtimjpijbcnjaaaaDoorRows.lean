/-
  NARROWER THAN 'FOR EVERY INPUT', by the rows' own cells (each row's printed sentence says how): VmMore: laid · VmMatches: laid · OptSame: laid · OptBreaks: laid · ImageWrites: laid.
  DERIVED. THE GIVEN ROWS OF THIS SEAT. 5 by the template 'for every input the law returns true; each argument reads behind the call as it read before'; 0 by the template 'total and deterministic' (their statements: YtimjpijbcnjaaaaDoorTotals.lean).
  GIVEN WITH THE SEED: the statements are not yours to turn. If you find one false, say at which input.
  Laid BY PROGRAM, IN A SANDBOX (cutbox-rows.mjs): the forced cells as the released guide's own fill.sh prints them over the translation de1590f76410c46c… (all of the seat's roots in one cut). By AI agents, Wed Nov 11 2026. No macro, syntax, notation, axiom, sorry.
-/
import Derived.Test.YtimjpijbcnjaaaaDoorChecked
import GoSem.Claim
import GoSem.ClaimJoined
import GoSem.ClaimMapViews
import Derived.JoinedTies
import Derived.KernelRfl
namespace Go.Proofs.YtimjpijbcnjaaaaDoor
/- THE CELL 'sum', in the pinned program and in every row, IS THE sha256 OF THE DUMP (.gsa) THAT YtimjpijbcnjaaaaDoorProg.lean LOADS. Nothing in Lean hashes anything: it is a label: what it is worth is what the hold of that sum in a sandbox is worth. -/
noncomputable def Tryd.pinned : Pinned := { name := "ytimjpijbcnjaaaadoor", sum := "de1590f76410c46cf636234ad8501464043ddeb23a8738325c35db38caad40d7", checked := Tryd.checked }
namespace Rows
def none {H : Type} : Left H := { results := [], args := [] }

/- WHAT THE LISTED PACKAGE-LEVEL VARIABLES READ AS WHEN THE CALL BEGINS. Each datum BY PROGRAM (the guide's laid-datum.mjs) off the statement by which the dump's own 'gosem.cut.vars' lays the variable. In a bare row this is a premise. The card (YtimjpijbcnjaaaaDoorCards.lean) ties it to the program's text. -/
def laid_errors_errorType {H : Type} : DataW H := .iface "internal/reflectlite.rtype" (.agg [.ptr (.lit (.string [101, 114, 114, 111, 114]))])
def laid_caesura_opt_never {H : Type} : DataW H := .agg [.slice [.nil] [], .slice [.agg [.lit (.int .i64 1), .lit (.int .i64 0), .lit (.int .i64 0)], .agg [.lit (.int .i64 5), .lit (.int .i64 0), .lit (.int .i64 0)]] []]

/-- 'caesurakeep.VmMore': WHATEVER THE INPUT: true; the input reads as it did. -/
def vmMoreSpec : ChangeSpec := { name := "vmMore", fn := fun _ => fun
  | [d1, d2, d3] => { results := [.lit (.bool true)], args := [d1, d2, d3] }
  | _ => none }
def vmMoreRow : OpenClaim := { program := "ytimjpijbcnjaaaadoor", sum := "de1590f76410c46cf636234ad8501464043ddeb23a8738325c35db38caad40d7", func := "caesura/caesurakeep.VmMore", spec := "vmMore", inPlace := ["internal/reflectlite.ValueOf", "(internal/reflectlite.Value).Type", "(internal/reflectlite.Value).IsNil", "internal/reflectlite.TypeOf", "(internal/reflectlite.Value).Elem", "(internal/reflectlite.Value).Set"], unfollowed := true, recurses := true, named := ["errors.errorType"], apart := false, laid := [("errors.errorType", laid_errors_errorType)] }
def VmMoreSaid : Prop := vmMoreRow.holds Tryd.pinned (OpenSpec.ofChange vmMoreSpec)

/-- ITS FALSE NEIGHBOUR: 'it returns false'. Refute it at one input. -/
def vmMoreWrong : ChangeSpec := { name := "vmMore", fn := fun _ => fun
  | [d1, d2, d3] => { results := [.lit (.bool false)], args := [d1, d2, d3] }
  | _ => none }
def VmMoreWrongFalsely : Prop := vmMoreRow.holds Tryd.pinned (OpenSpec.ofChange vmMoreWrong)

/-- 'caesuralaw.VmMatches': WHATEVER THE INPUT: true; the input reads as it did. -/
def vmMatchesSpec : ChangeSpec := { name := "vmMatches", fn := fun _ => fun
  | [d1, d2, d3] => { results := [.lit (.bool true)], args := [d1, d2, d3] }
  | _ => none }
def vmMatchesRow : OpenClaim := { program := "ytimjpijbcnjaaaadoor", sum := "de1590f76410c46cf636234ad8501464043ddeb23a8738325c35db38caad40d7", func := "caesura/caesuralaw.VmMatches", spec := "vmMatches", inPlace := ["internal/reflectlite.ValueOf", "(internal/reflectlite.Value).Type", "(internal/reflectlite.Value).IsNil", "internal/reflectlite.TypeOf", "(internal/reflectlite.Value).Elem", "(internal/reflectlite.Value).Set"], unfollowed := true, recurses := true, named := ["errors.errorType"], apart := false, laid := [("errors.errorType", laid_errors_errorType)] }
def VmMatchesSaid : Prop := vmMatchesRow.holds Tryd.pinned (OpenSpec.ofChange vmMatchesSpec)

/-- ITS FALSE NEIGHBOUR: 'it returns false'. Refute it at one input. -/
def vmMatchesWrong : ChangeSpec := { name := "vmMatches", fn := fun _ => fun
  | [d1, d2, d3] => { results := [.lit (.bool false)], args := [d1, d2, d3] }
  | _ => none }
def VmMatchesWrongFalsely : Prop := vmMatchesRow.holds Tryd.pinned (OpenSpec.ofChange vmMatchesWrong)

/-- 'caesurakeep.OptSame': WHATEVER THE INPUT: true; the input reads as it did. -/
def optSameSpec : ChangeSpec := { name := "optSame", fn := fun _ => fun
  | [d1, d2, d3] => { results := [.lit (.bool true)], args := [d1, d2, d3] }
  | _ => none }
def optSameRow : OpenClaim := { program := "ytimjpijbcnjaaaadoor", sum := "de1590f76410c46cf636234ad8501464043ddeb23a8738325c35db38caad40d7", func := "caesura/caesurakeep.OptSame", spec := "optSame", inPlace := ["internal/reflectlite.ValueOf", "(internal/reflectlite.Value).Type", "(internal/reflectlite.Value).IsNil", "internal/reflectlite.TypeOf", "(internal/reflectlite.Value).Elem", "(internal/reflectlite.Value).Set"], unfollowed := true, recurses := true, named := ["caesura/opt.never", "errors.errorType"], apart := false, laid := [("errors.errorType", laid_errors_errorType), ("caesura/opt.never", laid_caesura_opt_never)] }
def OptSameSaid : Prop := optSameRow.holds Tryd.pinned (OpenSpec.ofChange optSameSpec)

/-- ITS FALSE NEIGHBOUR: 'it returns false'. Refute it at one input. -/
def optSameWrong : ChangeSpec := { name := "optSame", fn := fun _ => fun
  | [d1, d2, d3] => { results := [.lit (.bool false)], args := [d1, d2, d3] }
  | _ => none }
def OptSameWrongFalsely : Prop := optSameRow.holds Tryd.pinned (OpenSpec.ofChange optSameWrong)

/-- 'caesurakeep.OptBreaks': WHATEVER THE INPUT: true; the input reads as it did. -/
def optBreaksSpec : ChangeSpec := { name := "optBreaks", fn := fun _ => fun
  | [d1, d2] => { results := [.lit (.bool true)], args := [d1, d2] }
  | _ => none }
def optBreaksRow : OpenClaim := { program := "ytimjpijbcnjaaaadoor", sum := "de1590f76410c46cf636234ad8501464043ddeb23a8738325c35db38caad40d7", func := "caesura/caesurakeep.OptBreaks", spec := "optBreaks", inPlace := ["internal/reflectlite.ValueOf", "(internal/reflectlite.Value).Type", "(internal/reflectlite.Value).IsNil", "internal/reflectlite.TypeOf", "(internal/reflectlite.Value).Elem", "(internal/reflectlite.Value).Set"], unfollowed := true, recurses := true, named := ["caesura/opt.never", "errors.errorType"], apart := false, laid := [("errors.errorType", laid_errors_errorType), ("caesura/opt.never", laid_caesura_opt_never)] }
def OptBreaksSaid : Prop := optBreaksRow.holds Tryd.pinned (OpenSpec.ofChange optBreaksSpec)

/-- ITS FALSE NEIGHBOUR: 'it returns false'. Refute it at one input. -/
def optBreaksWrong : ChangeSpec := { name := "optBreaks", fn := fun _ => fun
  | [d1, d2] => { results := [.lit (.bool false)], args := [d1, d2] }
  | _ => none }
def OptBreaksWrongFalsely : Prop := optBreaksRow.holds Tryd.pinned (OpenSpec.ofChange optBreaksWrong)

/-- 'caesuralaw.ImageWrites': WHATEVER THE INPUT: true; the input reads as it did. -/
def imageWritesSpec : ChangeSpec := { name := "imageWrites", fn := fun _ => fun
  | [d1, d2] => { results := [.lit (.bool true)], args := [d1, d2] }
  | _ => none }
def imageWritesRow : OpenClaim := { program := "ytimjpijbcnjaaaadoor", sum := "de1590f76410c46cf636234ad8501464043ddeb23a8738325c35db38caad40d7", func := "caesura/caesuralaw.ImageWrites", spec := "imageWrites", inPlace := ["internal/reflectlite.ValueOf", "(internal/reflectlite.Value).Type", "(internal/reflectlite.Value).IsNil", "internal/reflectlite.TypeOf", "(internal/reflectlite.Value).Elem", "(internal/reflectlite.Value).Set"], unfollowed := true, recurses := true, named := ["errors.errorType"], apart := false, laid := [("errors.errorType", laid_errors_errorType)] }
def ImageWritesSaid : Prop := imageWritesRow.holds Tryd.pinned (OpenSpec.ofChange imageWritesSpec)

/-- ITS FALSE NEIGHBOUR: 'it returns false'. Refute it at one input. -/
def imageWritesWrong : ChangeSpec := { name := "imageWrites", fn := fun _ => fun
  | [d1, d2] => { results := [.lit (.bool false)], args := [d1, d2] }
  | _ => none }
def ImageWritesWrongFalsely : Prop := imageWritesRow.holds Tryd.pinned (OpenSpec.ofChange imageWritesWrong)

/- THE SECOND FORM. 'bulk': how many values and letters a reading holds, each counted each time it is reached (what is shared counts as often as it is met; a slice's spare places count too). A statement '..UptoSaid' is the law's where the arguments, and the package variables that the reading takes, are together of bulk at most 1048576: NARROWER than '..Said'. Prove '..Said' where nothing that the law and all that it calls make is longer than what came in: it says more and counts as full. Else prove '..UptoSaid'. A law counts once. -/
mutual
def uptoBulk {H : Type} : DataW H → Nat
  | .lit (.string bytes) => bytes.length + 1
  | .lit _ => 1
  | .nil => 1
  | .ptr d => uptoBulk d + 1
  | .slice elems spare => uptoBulkAll elems + uptoBulkAll spare + 1
  | .agg parts => uptoBulkAll parts + 1
  | .iface _ d => uptoBulk d + 1
  | .map entries => uptoBulkEntries entries + 1
  | .held _ => 1
def uptoBulkAll {H : Type} : List (DataW H) → Nat
  | [] => 0
  | d :: r => uptoBulk d + uptoBulkAll r
def uptoBulkEntries {H : Type} : List (Lit × DataW H) → Nat
  | [] => 0
  | x :: r => uptoBulkEntry x + uptoBulkEntries r
def uptoBulkEntry {H : Type} : Lit × DataW H → Nat
  | (.string bytes, d) => bytes.length + uptoBulk d + 1
  | (_, d) => uptoBulk d + 1
 end
def uptoSmall : (H : Type) → List (DataW H) → Bool := fun _ ds => decide (uptoBulkAll ds ≤ 1048576)
def OpenSpec.upto (s : _root_.Go.ChangeSpec) : _root_.Go.OpenSpec := { _root_.Go.OpenSpec.ofChange s with cond := some uptoSmall }

/-- 'caesurakeep.VmMore', WHERE WHAT IT READS IS OF BULK AT MOST 1048576: true; the input reads as it did. -/
def vmMoreUptoRow : OpenClaim := { program := "ytimjpijbcnjaaaadoor", sum := "de1590f76410c46cf636234ad8501464043ddeb23a8738325c35db38caad40d7", func := "caesura/caesurakeep.VmMore", spec := "vmMore", inPlace := ["internal/reflectlite.ValueOf", "(internal/reflectlite.Value).Type", "(internal/reflectlite.Value).IsNil", "internal/reflectlite.TypeOf", "(internal/reflectlite.Value).Elem", "(internal/reflectlite.Value).Set"], unfollowed := true, recurses := true, named := ["errors.errorType"], apart := false, laid := [("errors.errorType", laid_errors_errorType)], narrowed := true }
def VmMoreUptoSaid : Prop := vmMoreUptoRow.holds Tryd.pinned (OpenSpec.upto vmMoreSpec)

/-- 'caesuralaw.VmMatches', WHERE WHAT IT READS IS OF BULK AT MOST 1048576: true; the input reads as it did. -/
def vmMatchesUptoRow : OpenClaim := { program := "ytimjpijbcnjaaaadoor", sum := "de1590f76410c46cf636234ad8501464043ddeb23a8738325c35db38caad40d7", func := "caesura/caesuralaw.VmMatches", spec := "vmMatches", inPlace := ["internal/reflectlite.ValueOf", "(internal/reflectlite.Value).Type", "(internal/reflectlite.Value).IsNil", "internal/reflectlite.TypeOf", "(internal/reflectlite.Value).Elem", "(internal/reflectlite.Value).Set"], unfollowed := true, recurses := true, named := ["errors.errorType"], apart := false, laid := [("errors.errorType", laid_errors_errorType)], narrowed := true }
def VmMatchesUptoSaid : Prop := vmMatchesUptoRow.holds Tryd.pinned (OpenSpec.upto vmMatchesSpec)

/-- 'caesurakeep.OptSame', WHERE WHAT IT READS IS OF BULK AT MOST 1048576: true; the input reads as it did. -/
def optSameUptoRow : OpenClaim := { program := "ytimjpijbcnjaaaadoor", sum := "de1590f76410c46cf636234ad8501464043ddeb23a8738325c35db38caad40d7", func := "caesura/caesurakeep.OptSame", spec := "optSame", inPlace := ["internal/reflectlite.ValueOf", "(internal/reflectlite.Value).Type", "(internal/reflectlite.Value).IsNil", "internal/reflectlite.TypeOf", "(internal/reflectlite.Value).Elem", "(internal/reflectlite.Value).Set"], unfollowed := true, recurses := true, named := ["caesura/opt.never", "errors.errorType"], apart := false, laid := [("errors.errorType", laid_errors_errorType), ("caesura/opt.never", laid_caesura_opt_never)], narrowed := true }
def OptSameUptoSaid : Prop := optSameUptoRow.holds Tryd.pinned (OpenSpec.upto optSameSpec)

/-- 'caesurakeep.OptBreaks', WHERE WHAT IT READS IS OF BULK AT MOST 1048576: true; the input reads as it did. -/
def optBreaksUptoRow : OpenClaim := { program := "ytimjpijbcnjaaaadoor", sum := "de1590f76410c46cf636234ad8501464043ddeb23a8738325c35db38caad40d7", func := "caesura/caesurakeep.OptBreaks", spec := "optBreaks", inPlace := ["internal/reflectlite.ValueOf", "(internal/reflectlite.Value).Type", "(internal/reflectlite.Value).IsNil", "internal/reflectlite.TypeOf", "(internal/reflectlite.Value).Elem", "(internal/reflectlite.Value).Set"], unfollowed := true, recurses := true, named := ["caesura/opt.never", "errors.errorType"], apart := false, laid := [("errors.errorType", laid_errors_errorType), ("caesura/opt.never", laid_caesura_opt_never)], narrowed := true }
def OptBreaksUptoSaid : Prop := optBreaksUptoRow.holds Tryd.pinned (OpenSpec.upto optBreaksSpec)

/-- 'caesuralaw.ImageWrites', WHERE WHAT IT READS IS OF BULK AT MOST 1048576: true; the input reads as it did. -/
def imageWritesUptoRow : OpenClaim := { program := "ytimjpijbcnjaaaadoor", sum := "de1590f76410c46cf636234ad8501464043ddeb23a8738325c35db38caad40d7", func := "caesura/caesuralaw.ImageWrites", spec := "imageWrites", inPlace := ["internal/reflectlite.ValueOf", "(internal/reflectlite.Value).Type", "(internal/reflectlite.Value).IsNil", "internal/reflectlite.TypeOf", "(internal/reflectlite.Value).Elem", "(internal/reflectlite.Value).Set"], unfollowed := true, recurses := true, named := ["errors.errorType"], apart := false, laid := [("errors.errorType", laid_errors_errorType)], narrowed := true }
def ImageWritesUptoSaid : Prop := imageWritesUptoRow.holds Tryd.pinned (OpenSpec.upto imageWritesSpec)

end Rows
end Go.Proofs.YtimjpijbcnjaaaaDoor
