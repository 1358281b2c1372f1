/-
  NARROWER THAN 'FOR EVERY INPUT', by the rows' own cells (each row's printed sentence says how): VerifyChecks: laid · VerifyExact: laid · VerifyStrategies: laid · VerifyPlays: laid.
  DERIVED. THE GIVEN ROWS OF THIS SEAT. 4 by the template 'for every input the law returns true; each argument reads behind the call as it read before'; 0 by the template 'total and deterministic' (their statements: YtdhoadhkkecjjaaDoorTotals.lean).
  GIVEN WITH THE SEED: the statements are not yours to turn. If you find one false, say at which input.
  Laid BY PROGRAM, IN A SANDBOX (cutbox-rows.mjs): the forced cells as the released guide's own fill.sh prints them over the translation 0709465f86787d87… (all of the seat's roots in one cut). By AI agents, Wed Nov 11 2026. No macro, syntax, notation, axiom, sorry.
-/
import Derived.Test.YtdhoadhkkecjjaaDoorChecked
import GoSem.Claim
import GoSem.ClaimJoined
import GoSem.ClaimMapViews
import Derived.JoinedTies
import Derived.KernelRfl
namespace Go.Proofs.YtdhoadhkkecjjaaDoor
/- THE CELL 'sum', in the pinned program and in every row, IS THE sha256 OF THE DUMP (.gsa) THAT YtdhoadhkkecjjaaDoorProg.lean LOADS. Nothing in Lean hashes anything: it is a label: what it is worth is what the hold of that sum in a sandbox is worth. -/
noncomputable def Tryd.pinned : Pinned := { name := "ytdhoadhkkecjjaadoor", sum := "0709465f86787d871920e97ab8cb97baacea9363ef135edfc7357f21d8bdee04", checked := Tryd.checked }
namespace Rows
def none {H : Type} : Left H := { results := [], args := [] }

/- WHAT THE LISTED PACKAGE-LEVEL VARIABLES READ AS WHEN THE CALL BEGINS. Each datum BY PROGRAM (the guide's laid-datum.mjs) off the statement by which the dump's own 'gosem.cut.vars' lays the variable. In a bare row this is a premise. The card (YtdhoadhkkecjjaaDoorCards.lean) ties it to the program's text. -/
def laid_errors_errorType {H : Type} : DataW H := .iface "internal/reflectlite.rtype" (.agg [.ptr (.lit (.string [101, 114, 114, 111, 114]))])

/-- 'lodesmanlaw16.VerifyChecks': WHATEVER THE INPUT: true; the input reads as it did. -/
def verifyChecksSpec : ChangeSpec := { name := "verifyChecks", fn := fun _ => fun
  | [d1, d2] => { results := [.lit (.bool true)], args := [d1, d2] }
  | _ => none }
def verifyChecksRow : OpenClaim := { program := "ytdhoadhkkecjjaadoor", sum := "0709465f86787d871920e97ab8cb97baacea9363ef135edfc7357f21d8bdee04", func := "lodesman/lodesmanlaw16.VerifyChecks", spec := "verifyChecks", inPlace := ["internal/reflectlite.ValueOf", "(internal/reflectlite.Value).Type", "(internal/reflectlite.Value).IsNil", "internal/reflectlite.TypeOf", "(internal/reflectlite.Value).Elem", "(internal/reflectlite.Value).Set"], unfollowed := true, recurses := true, named := ["errors.errorType"], apart := false, laid := [("errors.errorType", laid_errors_errorType)] }
def VerifyChecksSaid : Prop := verifyChecksRow.holds Tryd.pinned (OpenSpec.ofChange verifyChecksSpec)

/-- ITS FALSE NEIGHBOUR: 'it returns false'. Refute it at one input. -/
def verifyChecksWrong : ChangeSpec := { name := "verifyChecks", fn := fun _ => fun
  | [d1, d2] => { results := [.lit (.bool false)], args := [d1, d2] }
  | _ => none }
def VerifyChecksWrongFalsely : Prop := verifyChecksRow.holds Tryd.pinned (OpenSpec.ofChange verifyChecksWrong)

/-- 'lodesmanlaw16.VerifyExact': WHATEVER THE INPUT: true; the input reads as it did. -/
def verifyExactSpec : ChangeSpec := { name := "verifyExact", fn := fun _ => fun
  | [d1, d2, d3, d4] => { results := [.lit (.bool true)], args := [d1, d2, d3, d4] }
  | _ => none }
def verifyExactRow : OpenClaim := { program := "ytdhoadhkkecjjaadoor", sum := "0709465f86787d871920e97ab8cb97baacea9363ef135edfc7357f21d8bdee04", func := "lodesman/lodesmanlaw16.VerifyExact", spec := "verifyExact", inPlace := ["internal/reflectlite.ValueOf", "(internal/reflectlite.Value).Type", "(internal/reflectlite.Value).IsNil", "internal/reflectlite.TypeOf", "(internal/reflectlite.Value).Elem", "(internal/reflectlite.Value).Set"], unfollowed := true, recurses := true, named := ["errors.errorType"], apart := false, laid := [("errors.errorType", laid_errors_errorType)] }
def VerifyExactSaid : Prop := verifyExactRow.holds Tryd.pinned (OpenSpec.ofChange verifyExactSpec)

/-- ITS FALSE NEIGHBOUR: 'it returns false'. Refute it at one input. -/
def verifyExactWrong : ChangeSpec := { name := "verifyExact", fn := fun _ => fun
  | [d1, d2, d3, d4] => { results := [.lit (.bool false)], args := [d1, d2, d3, d4] }
  | _ => none }
def VerifyExactWrongFalsely : Prop := verifyExactRow.holds Tryd.pinned (OpenSpec.ofChange verifyExactWrong)

/-- 'lodesmanlaw16.VerifyStrategies': WHATEVER THE INPUT: true; the input reads as it did. -/
def verifyStrategiesSpec : ChangeSpec := { name := "verifyStrategies", fn := fun _ => fun
  | [d1, d2, d3, d4, d5] => { results := [.lit (.bool true)], args := [d1, d2, d3, d4, d5] }
  | _ => none }
def verifyStrategiesRow : OpenClaim := { program := "ytdhoadhkkecjjaadoor", sum := "0709465f86787d871920e97ab8cb97baacea9363ef135edfc7357f21d8bdee04", func := "lodesman/lodesmanlaw16.VerifyStrategies", spec := "verifyStrategies", inPlace := ["internal/reflectlite.ValueOf", "(internal/reflectlite.Value).Type", "(internal/reflectlite.Value).IsNil", "internal/reflectlite.TypeOf", "(internal/reflectlite.Value).Elem", "(internal/reflectlite.Value).Set"], unfollowed := true, recurses := true, named := ["errors.errorType"], apart := false, laid := [("errors.errorType", laid_errors_errorType)] }
def VerifyStrategiesSaid : Prop := verifyStrategiesRow.holds Tryd.pinned (OpenSpec.ofChange verifyStrategiesSpec)

/-- ITS FALSE NEIGHBOUR: 'it returns false'. Refute it at one input. -/
def verifyStrategiesWrong : ChangeSpec := { name := "verifyStrategies", fn := fun _ => fun
  | [d1, d2, d3, d4, d5] => { results := [.lit (.bool false)], args := [d1, d2, d3, d4, d5] }
  | _ => none }
def VerifyStrategiesWrongFalsely : Prop := verifyStrategiesRow.holds Tryd.pinned (OpenSpec.ofChange verifyStrategiesWrong)

/-- 'lodesmanlaw16.VerifyPlays': WHATEVER THE INPUT: true; the input reads as it did. -/
def verifyPlaysSpec : ChangeSpec := { name := "verifyPlays", fn := fun _ => fun
  | [d1, d2, d3, d4, d5, d6, d7] => { results := [.lit (.bool true)], args := [d1, d2, d3, d4, d5, d6, d7] }
  | _ => none }
def verifyPlaysRow : OpenClaim := { program := "ytdhoadhkkecjjaadoor", sum := "0709465f86787d871920e97ab8cb97baacea9363ef135edfc7357f21d8bdee04", func := "lodesman/lodesmanlaw16.VerifyPlays", spec := "verifyPlays", inPlace := ["internal/reflectlite.ValueOf", "(internal/reflectlite.Value).Type", "(internal/reflectlite.Value).IsNil", "internal/reflectlite.TypeOf", "(internal/reflectlite.Value).Elem", "(internal/reflectlite.Value).Set"], unfollowed := true, recurses := true, named := ["errors.errorType"], apart := false, laid := [("errors.errorType", laid_errors_errorType)] }
def VerifyPlaysSaid : Prop := verifyPlaysRow.holds Tryd.pinned (OpenSpec.ofChange verifyPlaysSpec)

/-- ITS FALSE NEIGHBOUR: 'it returns false'. Refute it at one input. -/
def verifyPlaysWrong : ChangeSpec := { name := "verifyPlays", fn := fun _ => fun
  | [d1, d2, d3, d4, d5, d6, d7] => { results := [.lit (.bool false)], args := [d1, d2, d3, d4, d5, d6, d7] }
  | _ => none }
def VerifyPlaysWrongFalsely : Prop := verifyPlaysRow.holds Tryd.pinned (OpenSpec.ofChange verifyPlaysWrong)

/- THE SECOND FORM. 'bulk': how many values and letters a reading holds, each counted each time it is reached (what is shared counts as often as it is met; a slice's spare places count too). A statement '..UptoSaid' is the law's where the arguments, and the package variables that the reading takes, are together of bulk at most 1048576: NARROWER than '..Said'. Prove '..Said' where nothing that the law and all that it calls make is longer than what came in: it says more and counts as full. Else prove '..UptoSaid'. A law counts once. -/
mutual
def uptoBulk {H : Type} : DataW H → Nat
  | .lit (.string bytes) => bytes.length + 1
  | .lit _ => 1
  | .nil => 1
  | .ptr d => uptoBulk d + 1
  | .slice elems spare => uptoBulkAll elems + uptoBulkAll spare + 1
  | .agg parts => uptoBulkAll parts + 1
  | .iface _ d => uptoBulk d + 1
  | .map entries => uptoBulkEntries entries + 1
  | .held _ => 1
def uptoBulkAll {H : Type} : List (DataW H) → Nat
  | [] => 0
  | d :: r => uptoBulk d + uptoBulkAll r
def uptoBulkEntries {H : Type} : List (Lit × DataW H) → Nat
  | [] => 0
  | x :: r => uptoBulkEntry x + uptoBulkEntries r
def uptoBulkEntry {H : Type} : Lit × DataW H → Nat
  | (.string bytes, d) => bytes.length + uptoBulk d + 1
  | (_, d) => uptoBulk d + 1
 end
def uptoSmall : (H : Type) → List (DataW H) → Bool := fun _ ds => decide (uptoBulkAll ds ≤ 1048576)
def OpenSpec.upto (s : _root_.Go.ChangeSpec) : _root_.Go.OpenSpec := { _root_.Go.OpenSpec.ofChange s with cond := some uptoSmall }

/-- 'lodesmanlaw16.VerifyChecks', WHERE WHAT IT READS IS OF BULK AT MOST 1048576: true; the input reads as it did. -/
def verifyChecksUptoRow : OpenClaim := { program := "ytdhoadhkkecjjaadoor", sum := "0709465f86787d871920e97ab8cb97baacea9363ef135edfc7357f21d8bdee04", func := "lodesman/lodesmanlaw16.VerifyChecks", spec := "verifyChecks", inPlace := ["internal/reflectlite.ValueOf", "(internal/reflectlite.Value).Type", "(internal/reflectlite.Value).IsNil", "internal/reflectlite.TypeOf", "(internal/reflectlite.Value).Elem", "(internal/reflectlite.Value).Set"], unfollowed := true, recurses := true, named := ["errors.errorType"], apart := false, laid := [("errors.errorType", laid_errors_errorType)], narrowed := true }
def VerifyChecksUptoSaid : Prop := verifyChecksUptoRow.holds Tryd.pinned (OpenSpec.upto verifyChecksSpec)

/-- 'lodesmanlaw16.VerifyExact', WHERE WHAT IT READS IS OF BULK AT MOST 1048576: true; the input reads as it did. -/
def verifyExactUptoRow : OpenClaim := { program := "ytdhoadhkkecjjaadoor", sum := "0709465f86787d871920e97ab8cb97baacea9363ef135edfc7357f21d8bdee04", func := "lodesman/lodesmanlaw16.VerifyExact", spec := "verifyExact", inPlace := ["internal/reflectlite.ValueOf", "(internal/reflectlite.Value).Type", "(internal/reflectlite.Value).IsNil", "internal/reflectlite.TypeOf", "(internal/reflectlite.Value).Elem", "(internal/reflectlite.Value).Set"], unfollowed := true, recurses := true, named := ["errors.errorType"], apart := false, laid := [("errors.errorType", laid_errors_errorType)], narrowed := true }
def VerifyExactUptoSaid : Prop := verifyExactUptoRow.holds Tryd.pinned (OpenSpec.upto verifyExactSpec)

/-- 'lodesmanlaw16.VerifyStrategies', WHERE WHAT IT READS IS OF BULK AT MOST 1048576: true; the input reads as it did. -/
def verifyStrategiesUptoRow : OpenClaim := { program := "ytdhoadhkkecjjaadoor", sum := "0709465f86787d871920e97ab8cb97baacea9363ef135edfc7357f21d8bdee04", func := "lodesman/lodesmanlaw16.VerifyStrategies", spec := "verifyStrategies", inPlace := ["internal/reflectlite.ValueOf", "(internal/reflectlite.Value).Type", "(internal/reflectlite.Value).IsNil", "internal/reflectlite.TypeOf", "(internal/reflectlite.Value).Elem", "(internal/reflectlite.Value).Set"], unfollowed := true, recurses := true, named := ["errors.errorType"], apart := false, laid := [("errors.errorType", laid_errors_errorType)], narrowed := true }
def VerifyStrategiesUptoSaid : Prop := verifyStrategiesUptoRow.holds Tryd.pinned (OpenSpec.upto verifyStrategiesSpec)

/-- 'lodesmanlaw16.VerifyPlays', WHERE WHAT IT READS IS OF BULK AT MOST 1048576: true; the input reads as it did. -/
def verifyPlaysUptoRow : OpenClaim := { program := "ytdhoadhkkecjjaadoor", sum := "0709465f86787d871920e97ab8cb97baacea9363ef135edfc7357f21d8bdee04", func := "lodesman/lodesmanlaw16.VerifyPlays", spec := "verifyPlays", inPlace := ["internal/reflectlite.ValueOf", "(internal/reflectlite.Value).Type", "(internal/reflectlite.Value).IsNil", "internal/reflectlite.TypeOf", "(internal/reflectlite.Value).Elem", "(internal/reflectlite.Value).Set"], unfollowed := true, recurses := true, named := ["errors.errorType"], apart := false, laid := [("errors.errorType", laid_errors_errorType)], narrowed := true }
def VerifyPlaysUptoSaid : Prop := verifyPlaysUptoRow.holds Tryd.pinned (OpenSpec.upto verifyPlaysSpec)

end Rows
end Go.Proofs.YtdhoadhkkecjjaaDoor
