/-
  No cell of these rows narrows 'for every input' (looked for: loops, veiled, ifaces, maps, wideKeys, modest, calm, conditions, laid).
  DERIVED. THE GIVEN ROWS OF THIS SEAT. 4 by the template 'for every input the law returns true; each argument reads behind the call as it read before'; 0 by the template 'total and deterministic' (their statements: YtgminhedbeblpaaTotals.lean).
  GIVEN WITH THE SEED: the statements are not yours to turn. If you find one false, say at which input.
  Laid BY PROGRAM, IN A SANDBOX (cutbox-rows.mjs): the forced cells as the released guide's own fill.sh prints them over the translation 6efee8e1eeb20318… (all of the seat's roots in one cut). By AI agents, Wed Nov 11 2026. No macro, syntax, notation, axiom, sorry.
-/
import Derived.Test.YtgminhedbeblpaaChecked
import GoSem.Claim
import GoSem.ClaimJoined
import GoSem.ClaimMapViews
import Derived.JoinedTies
import Derived.KernelRfl
namespace Go.Proofs.Ytgminhedbeblpaa
/- THE CELL 'sum', in the pinned program and in every row, IS THE sha256 OF THE DUMP (.gsa) THAT YtgminhedbeblpaaProg.lean LOADS. Nothing in Lean hashes anything: it is a label: what it is worth is what the hold of that sum in a sandbox is worth. -/
noncomputable def Try.pinned : Pinned := { name := "ytgminhedbeblpaa", sum := "6efee8e1eeb203186f629108b1a6c4ddc38d865849b79c9fdb1b957bb976fa6d", checked := Try.checked }
namespace Rows
def none {H : Type} : Left H := { results := [], args := [] }

/-- 'lodesmanlaw14.MeasureLeast': WHATEVER THE INPUT: true; the input reads as it did. -/
def measureLeastSpec : ChangeSpec := { name := "measureLeast", fn := fun _ => fun
  | [d] => { results := [.lit (.bool true)], args := [d] }
  | _ => none }
def measureLeastRow : OpenClaim := { program := "ytgminhedbeblpaa", sum := "6efee8e1eeb203186f629108b1a6c4ddc38d865849b79c9fdb1b957bb976fa6d", func := "lodesman/lodesmanlaw14.MeasureLeast", spec := "measureLeast", unfollowed := true, recurses := true, apart := false }
def MeasureLeastSaid : Prop := measureLeastRow.holds Try.pinned (OpenSpec.ofChange measureLeastSpec)

/-- ITS FALSE NEIGHBOUR: 'it returns false'. Refute it at one input. -/
def measureLeastWrong : ChangeSpec := { name := "measureLeast", fn := fun _ => fun
  | [d] => { results := [.lit (.bool false)], args := [d] }
  | _ => none }
def MeasureLeastWrongFalsely : Prop := measureLeastRow.holds Try.pinned (OpenSpec.ofChange measureLeastWrong)

/-- 'lodesmanlaw14.MeasureSolves': WHATEVER THE INPUT: true; the input reads as it did. -/
def measureSolvesSpec : ChangeSpec := { name := "measureSolves", fn := fun _ => fun
  | [d] => { results := [.lit (.bool true)], args := [d] }
  | _ => none }
def measureSolvesRow : OpenClaim := { program := "ytgminhedbeblpaa", sum := "6efee8e1eeb203186f629108b1a6c4ddc38d865849b79c9fdb1b957bb976fa6d", func := "lodesman/lodesmanlaw14.MeasureSolves", spec := "measureSolves", unfollowed := true, recurses := true, apart := false }
def MeasureSolvesSaid : Prop := measureSolvesRow.holds Try.pinned (OpenSpec.ofChange measureSolvesSpec)

/-- ITS FALSE NEIGHBOUR: 'it returns false'. Refute it at one input. -/
def measureSolvesWrong : ChangeSpec := { name := "measureSolves", fn := fun _ => fun
  | [d] => { results := [.lit (.bool false)], args := [d] }
  | _ => none }
def MeasureSolvesWrongFalsely : Prop := measureSolvesRow.holds Try.pinned (OpenSpec.ofChange measureSolvesWrong)

/-- 'lodesmanlaw14.MeasureSteps': WHATEVER THE INPUT: true; the input reads as it did. -/
def measureStepsSpec : ChangeSpec := { name := "measureSteps", fn := fun _ => fun
  | [d1, d2, d3, d4] => { results := [.lit (.bool true)], args := [d1, d2, d3, d4] }
  | _ => none }
def measureStepsRow : OpenClaim := { program := "ytgminhedbeblpaa", sum := "6efee8e1eeb203186f629108b1a6c4ddc38d865849b79c9fdb1b957bb976fa6d", func := "lodesman/lodesmanlaw14.MeasureSteps", spec := "measureSteps", unfollowed := true, recurses := true, apart := false }
def MeasureStepsSaid : Prop := measureStepsRow.holds Try.pinned (OpenSpec.ofChange measureStepsSpec)

/-- ITS FALSE NEIGHBOUR: 'it returns false'. Refute it at one input. -/
def measureStepsWrong : ChangeSpec := { name := "measureSteps", fn := fun _ => fun
  | [d1, d2, d3, d4] => { results := [.lit (.bool false)], args := [d1, d2, d3, d4] }
  | _ => none }
def MeasureStepsWrongFalsely : Prop := measureStepsRow.holds Try.pinned (OpenSpec.ofChange measureStepsWrong)

/-- 'lodesmanlaw14.MeasureMeans': WHATEVER THE INPUT: true; the input reads as it did. -/
def measureMeansSpec : ChangeSpec := { name := "measureMeans", fn := fun _ => fun
  | [d1, d2] => { results := [.lit (.bool true)], args := [d1, d2] }
  | _ => none }
def measureMeansRow : OpenClaim := { program := "ytgminhedbeblpaa", sum := "6efee8e1eeb203186f629108b1a6c4ddc38d865849b79c9fdb1b957bb976fa6d", func := "lodesman/lodesmanlaw14.MeasureMeans", spec := "measureMeans", unfollowed := true, recurses := true, apart := false }
def MeasureMeansSaid : Prop := measureMeansRow.holds Try.pinned (OpenSpec.ofChange measureMeansSpec)

/-- ITS FALSE NEIGHBOUR: 'it returns false'. Refute it at one input. -/
def measureMeansWrong : ChangeSpec := { name := "measureMeans", fn := fun _ => fun
  | [d1, d2] => { results := [.lit (.bool false)], args := [d1, d2] }
  | _ => none }
def MeasureMeansWrongFalsely : Prop := measureMeansRow.holds Try.pinned (OpenSpec.ofChange measureMeansWrong)

/- THE SECOND FORM. 'bulk': how many values and letters a reading holds, each counted each time it is reached (what is shared counts as often as it is met; a slice's spare places count too). A statement '..UptoSaid' is the law's where the arguments, and the package variables that the reading takes, are together of bulk at most 1048576: NARROWER than '..Said'. Prove '..Said' where nothing that the law and all that it calls make is longer than what came in: it says more and counts as full. Else prove '..UptoSaid'. A law counts once. -/
mutual
def uptoBulk {H : Type} : DataW H → Nat
  | .lit (.string bytes) => bytes.length + 1
  | .lit _ => 1
  | .nil => 1
  | .ptr d => uptoBulk d + 1
  | .slice elems spare => uptoBulkAll elems + uptoBulkAll spare + 1
  | .agg parts => uptoBulkAll parts + 1
  | .iface _ d => uptoBulk d + 1
  | .map entries => uptoBulkEntries entries + 1
  | .held _ => 1
def uptoBulkAll {H : Type} : List (DataW H) → Nat
  | [] => 0
  | d :: r => uptoBulk d + uptoBulkAll r
def uptoBulkEntries {H : Type} : List (Lit × DataW H) → Nat
  | [] => 0
  | x :: r => uptoBulkEntry x + uptoBulkEntries r
def uptoBulkEntry {H : Type} : Lit × DataW H → Nat
  | (.string bytes, d) => bytes.length + uptoBulk d + 1
  | (_, d) => uptoBulk d + 1
 end
def uptoSmall : (H : Type) → List (DataW H) → Bool := fun _ ds => decide (uptoBulkAll ds ≤ 1048576)
def OpenSpec.upto (s : _root_.Go.ChangeSpec) : _root_.Go.OpenSpec := { _root_.Go.OpenSpec.ofChange s with cond := some uptoSmall }

/-- 'lodesmanlaw14.MeasureLeast', WHERE WHAT IT READS IS OF BULK AT MOST 1048576: true; the input reads as it did. -/
def measureLeastUptoRow : OpenClaim := { program := "ytgminhedbeblpaa", sum := "6efee8e1eeb203186f629108b1a6c4ddc38d865849b79c9fdb1b957bb976fa6d", func := "lodesman/lodesmanlaw14.MeasureLeast", spec := "measureLeast", unfollowed := true, recurses := true, apart := false, narrowed := true }
def MeasureLeastUptoSaid : Prop := measureLeastUptoRow.holds Try.pinned (OpenSpec.upto measureLeastSpec)

/-- 'lodesmanlaw14.MeasureSolves', WHERE WHAT IT READS IS OF BULK AT MOST 1048576: true; the input reads as it did. -/
def measureSolvesUptoRow : OpenClaim := { program := "ytgminhedbeblpaa", sum := "6efee8e1eeb203186f629108b1a6c4ddc38d865849b79c9fdb1b957bb976fa6d", func := "lodesman/lodesmanlaw14.MeasureSolves", spec := "measureSolves", unfollowed := true, recurses := true, apart := false, narrowed := true }
def MeasureSolvesUptoSaid : Prop := measureSolvesUptoRow.holds Try.pinned (OpenSpec.upto measureSolvesSpec)

/-- 'lodesmanlaw14.MeasureSteps', WHERE WHAT IT READS IS OF BULK AT MOST 1048576: true; the input reads as it did. -/
def measureStepsUptoRow : OpenClaim := { program := "ytgminhedbeblpaa", sum := "6efee8e1eeb203186f629108b1a6c4ddc38d865849b79c9fdb1b957bb976fa6d", func := "lodesman/lodesmanlaw14.MeasureSteps", spec := "measureSteps", unfollowed := true, recurses := true, apart := false, narrowed := true }
def MeasureStepsUptoSaid : Prop := measureStepsUptoRow.holds Try.pinned (OpenSpec.upto measureStepsSpec)

/-- 'lodesmanlaw14.MeasureMeans', WHERE WHAT IT READS IS OF BULK AT MOST 1048576: true; the input reads as it did. -/
def measureMeansUptoRow : OpenClaim := { program := "ytgminhedbeblpaa", sum := "6efee8e1eeb203186f629108b1a6c4ddc38d865849b79c9fdb1b957bb976fa6d", func := "lodesman/lodesmanlaw14.MeasureMeans", spec := "measureMeans", unfollowed := true, recurses := true, apart := false, narrowed := true }
def MeasureMeansUptoSaid : Prop := measureMeansUptoRow.holds Try.pinned (OpenSpec.upto measureMeansSpec)

end Rows
end Go.Proofs.Ytgminhedbeblpaa
