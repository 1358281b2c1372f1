/-
  No cell of these rows narrows 'for every input' (looked for: loops, veiled, ifaces, maps, wideKeys, modest, calm, conditions, laid).
  DERIVED. THE GIVEN ROWS OF THIS SEAT. 5 by the template 'for every input the law returns true; each argument reads behind the call as it read before'; 0 by the template 'total and deterministic' (their statements: YtinfflpephioiaaTotals.lean).
  GIVEN WITH THE SEED: the statements are not yours to turn. If you find one false, say at which input.
  Laid BY PROGRAM, IN A SANDBOX (cutbox-rows.mjs): the forced cells as the released guide's own fill.sh prints them over the translation a62ebd058a1fc90b… (all of the seat's roots in one cut). By AI agents, Wed Nov 11 2026. No macro, syntax, notation, axiom, sorry.
-/
import Derived.Test.YtinfflpephioiaaChecked
import GoSem.Claim
import GoSem.ClaimJoined
import GoSem.ClaimMapViews
import Derived.JoinedTies
import Derived.KernelRfl
namespace Go.Proofs.Ytinfflpephioiaa
/- THE CELL 'sum', in the pinned program and in every row, IS THE sha256 OF THE DUMP (.gsa) THAT YtinfflpephioiaaProg.lean LOADS. Nothing in Lean hashes anything: it is a label: what it is worth is what the hold of that sum in a sandbox is worth. -/
noncomputable def Try.pinned : Pinned := { name := "ytinfflpephioiaa", sum := "a62ebd058a1fc90b0cf65f50ea4b5036bd01952700b650e7d56b24252154f83e", checked := Try.checked }
namespace Rows
def none {H : Type} : Left H := { results := [], args := [] }

/-- 'lodesmanlaw12.GameFacts': WHATEVER THE INPUT: true; the input reads as it did. -/
def gameFactsSpec : ChangeSpec := { name := "gameFacts", fn := fun _ => fun
  | [d1, d2, d3, d4, d5] => { results := [.lit (.bool true)], args := [d1, d2, d3, d4, d5] }
  | _ => none }
def gameFactsRow : OpenClaim := { program := "ytinfflpephioiaa", sum := "a62ebd058a1fc90b0cf65f50ea4b5036bd01952700b650e7d56b24252154f83e", func := "lodesman/lodesmanlaw12.GameFacts", spec := "gameFacts", unfollowed := true, recurses := true, apart := false }
def GameFactsSaid : Prop := gameFactsRow.holds Try.pinned (OpenSpec.ofChange gameFactsSpec)

/-- ITS FALSE NEIGHBOUR: 'it returns false'. Refute it at one input. -/
def gameFactsWrong : ChangeSpec := { name := "gameFacts", fn := fun _ => fun
  | [d1, d2, d3, d4, d5] => { results := [.lit (.bool false)], args := [d1, d2, d3, d4, d5] }
  | _ => none }
def GameFactsWrongFalsely : Prop := gameFactsRow.holds Try.pinned (OpenSpec.ofChange gameFactsWrong)

/-- 'lodesmanlaw12.GameForced': WHATEVER THE INPUT: true; the input reads as it did. -/
def gameForcedSpec : ChangeSpec := { name := "gameForced", fn := fun _ => fun
  | [d1, d2, d3, d4, d5] => { results := [.lit (.bool true)], args := [d1, d2, d3, d4, d5] }
  | _ => none }
def gameForcedRow : OpenClaim := { program := "ytinfflpephioiaa", sum := "a62ebd058a1fc90b0cf65f50ea4b5036bd01952700b650e7d56b24252154f83e", func := "lodesman/lodesmanlaw12.GameForced", spec := "gameForced", unfollowed := true, recurses := true, apart := false }
def GameForcedSaid : Prop := gameForcedRow.holds Try.pinned (OpenSpec.ofChange gameForcedSpec)

/-- ITS FALSE NEIGHBOUR: 'it returns false'. Refute it at one input. -/
def gameForcedWrong : ChangeSpec := { name := "gameForced", fn := fun _ => fun
  | [d1, d2, d3, d4, d5] => { results := [.lit (.bool false)], args := [d1, d2, d3, d4, d5] }
  | _ => none }
def GameForcedWrongFalsely : Prop := gameForcedRow.holds Try.pinned (OpenSpec.ofChange gameForcedWrong)

/-- 'lodesmanlaw12.GameParts': WHATEVER THE INPUT: true; the input reads as it did. -/
def gamePartsSpec : ChangeSpec := { name := "gameParts", fn := fun _ => fun
  | [d1, d2, d3, d4] => { results := [.lit (.bool true)], args := [d1, d2, d3, d4] }
  | _ => none }
def gamePartsRow : OpenClaim := { program := "ytinfflpephioiaa", sum := "a62ebd058a1fc90b0cf65f50ea4b5036bd01952700b650e7d56b24252154f83e", func := "lodesman/lodesmanlaw12.GameParts", spec := "gameParts", apart := false }
def GamePartsSaid : Prop := gamePartsRow.holds Try.pinned (OpenSpec.ofChange gamePartsSpec)

/-- ITS FALSE NEIGHBOUR: 'it returns false'. Refute it at one input. -/
def gamePartsWrong : ChangeSpec := { name := "gameParts", fn := fun _ => fun
  | [d1, d2, d3, d4] => { results := [.lit (.bool false)], args := [d1, d2, d3, d4] }
  | _ => none }
def GamePartsWrongFalsely : Prop := gamePartsRow.holds Try.pinned (OpenSpec.ofChange gamePartsWrong)

/-- 'lodesmanlaw12.GameOne': WHATEVER THE INPUT: true; the input reads as it did. -/
def gameOneSpec : ChangeSpec := { name := "gameOne", fn := fun _ => fun
  | [d1, d2, d3] => { results := [.lit (.bool true)], args := [d1, d2, d3] }
  | _ => none }
def gameOneRow : OpenClaim := { program := "ytinfflpephioiaa", sum := "a62ebd058a1fc90b0cf65f50ea4b5036bd01952700b650e7d56b24252154f83e", func := "lodesman/lodesmanlaw12.GameOne", spec := "gameOne", unfollowed := true, recurses := true, apart := false }
def GameOneSaid : Prop := gameOneRow.holds Try.pinned (OpenSpec.ofChange gameOneSpec)

/-- ITS FALSE NEIGHBOUR: 'it returns false'. Refute it at one input. -/
def gameOneWrong : ChangeSpec := { name := "gameOne", fn := fun _ => fun
  | [d1, d2, d3] => { results := [.lit (.bool false)], args := [d1, d2, d3] }
  | _ => none }
def GameOneWrongFalsely : Prop := gameOneRow.holds Try.pinned (OpenSpec.ofChange gameOneWrong)

/-- 'lodesmanlaw12.GameTurned': WHATEVER THE INPUT: true; the input reads as it did. -/
def gameTurnedSpec : ChangeSpec := { name := "gameTurned", fn := fun _ => fun
  | [d1, d2, d3, d4] => { results := [.lit (.bool true)], args := [d1, d2, d3, d4] }
  | _ => none }
def gameTurnedRow : OpenClaim := { program := "ytinfflpephioiaa", sum := "a62ebd058a1fc90b0cf65f50ea4b5036bd01952700b650e7d56b24252154f83e", func := "lodesman/lodesmanlaw12.GameTurned", spec := "gameTurned", unfollowed := true, recurses := true, apart := false }
def GameTurnedSaid : Prop := gameTurnedRow.holds Try.pinned (OpenSpec.ofChange gameTurnedSpec)

/-- ITS FALSE NEIGHBOUR: 'it returns false'. Refute it at one input. -/
def gameTurnedWrong : ChangeSpec := { name := "gameTurned", fn := fun _ => fun
  | [d1, d2, d3, d4] => { results := [.lit (.bool false)], args := [d1, d2, d3, d4] }
  | _ => none }
def GameTurnedWrongFalsely : Prop := gameTurnedRow.holds Try.pinned (OpenSpec.ofChange gameTurnedWrong)

/- THE SECOND FORM. 'bulk': how many values and letters a reading holds, each counted each time it is reached (what is shared counts as often as it is met; a slice's spare places count too). A statement '..UptoSaid' is the law's where the arguments, and the package variables that the reading takes, are together of bulk at most 1048576: NARROWER than '..Said'. Prove '..Said' where nothing that the law and all that it calls make is longer than what came in: it says more and counts as full. Else prove '..UptoSaid'. A law counts once. -/
mutual
def uptoBulk {H : Type} : DataW H → Nat
  | .lit (.string bytes) => bytes.length + 1
  | .lit _ => 1
  | .nil => 1
  | .ptr d => uptoBulk d + 1
  | .slice elems spare => uptoBulkAll elems + uptoBulkAll spare + 1
  | .agg parts => uptoBulkAll parts + 1
  | .iface _ d => uptoBulk d + 1
  | .map entries => uptoBulkEntries entries + 1
  | .held _ => 1
def uptoBulkAll {H : Type} : List (DataW H) → Nat
  | [] => 0
  | d :: r => uptoBulk d + uptoBulkAll r
def uptoBulkEntries {H : Type} : List (Lit × DataW H) → Nat
  | [] => 0
  | x :: r => uptoBulkEntry x + uptoBulkEntries r
def uptoBulkEntry {H : Type} : Lit × DataW H → Nat
  | (.string bytes, d) => bytes.length + uptoBulk d + 1
  | (_, d) => uptoBulk d + 1
 end
def uptoSmall : (H : Type) → List (DataW H) → Bool := fun _ ds => decide (uptoBulkAll ds ≤ 1048576)
def OpenSpec.upto (s : _root_.Go.ChangeSpec) : _root_.Go.OpenSpec := { _root_.Go.OpenSpec.ofChange s with cond := some uptoSmall }

/-- 'lodesmanlaw12.GameFacts', WHERE WHAT IT READS IS OF BULK AT MOST 1048576: true; the input reads as it did. -/
def gameFactsUptoRow : OpenClaim := { program := "ytinfflpephioiaa", sum := "a62ebd058a1fc90b0cf65f50ea4b5036bd01952700b650e7d56b24252154f83e", func := "lodesman/lodesmanlaw12.GameFacts", spec := "gameFacts", unfollowed := true, recurses := true, apart := false, narrowed := true }
def GameFactsUptoSaid : Prop := gameFactsUptoRow.holds Try.pinned (OpenSpec.upto gameFactsSpec)

/-- 'lodesmanlaw12.GameForced', WHERE WHAT IT READS IS OF BULK AT MOST 1048576: true; the input reads as it did. -/
def gameForcedUptoRow : OpenClaim := { program := "ytinfflpephioiaa", sum := "a62ebd058a1fc90b0cf65f50ea4b5036bd01952700b650e7d56b24252154f83e", func := "lodesman/lodesmanlaw12.GameForced", spec := "gameForced", unfollowed := true, recurses := true, apart := false, narrowed := true }
def GameForcedUptoSaid : Prop := gameForcedUptoRow.holds Try.pinned (OpenSpec.upto gameForcedSpec)

/-- 'lodesmanlaw12.GameParts', WHERE WHAT IT READS IS OF BULK AT MOST 1048576: true; the input reads as it did. -/
def gamePartsUptoRow : OpenClaim := { program := "ytinfflpephioiaa", sum := "a62ebd058a1fc90b0cf65f50ea4b5036bd01952700b650e7d56b24252154f83e", func := "lodesman/lodesmanlaw12.GameParts", spec := "gameParts", apart := false, narrowed := true }
def GamePartsUptoSaid : Prop := gamePartsUptoRow.holds Try.pinned (OpenSpec.upto gamePartsSpec)

/-- 'lodesmanlaw12.GameOne', WHERE WHAT IT READS IS OF BULK AT MOST 1048576: true; the input reads as it did. -/
def gameOneUptoRow : OpenClaim := { program := "ytinfflpephioiaa", sum := "a62ebd058a1fc90b0cf65f50ea4b5036bd01952700b650e7d56b24252154f83e", func := "lodesman/lodesmanlaw12.GameOne", spec := "gameOne", unfollowed := true, recurses := true, apart := false, narrowed := true }
def GameOneUptoSaid : Prop := gameOneUptoRow.holds Try.pinned (OpenSpec.upto gameOneSpec)

/-- 'lodesmanlaw12.GameTurned', WHERE WHAT IT READS IS OF BULK AT MOST 1048576: true; the input reads as it did. -/
def gameTurnedUptoRow : OpenClaim := { program := "ytinfflpephioiaa", sum := "a62ebd058a1fc90b0cf65f50ea4b5036bd01952700b650e7d56b24252154f83e", func := "lodesman/lodesmanlaw12.GameTurned", spec := "gameTurned", unfollowed := true, recurses := true, apart := false, narrowed := true }
def GameTurnedUptoSaid : Prop := gameTurnedUptoRow.holds Try.pinned (OpenSpec.upto gameTurnedSpec)

end Rows
end Go.Proofs.Ytinfflpephioiaa
