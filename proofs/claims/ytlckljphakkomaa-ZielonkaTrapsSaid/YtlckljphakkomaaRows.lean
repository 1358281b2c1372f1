/-
  No cell of these rows narrows 'for every input' (looked for: loops, veiled, ifaces, maps, wideKeys, modest, calm, conditions, laid).
  DERIVED. THE GIVEN ROWS OF THIS SEAT. 5 by the template 'for every input the law returns true; each argument reads behind the call as it read before'; 0 by the template 'total and deterministic' (their statements: YtlckljphakkomaaTotals.lean).
  GIVEN WITH THE SEED: the statements are not yours to turn. If you find one false, say at which input.
  Laid BY PROGRAM, IN A SANDBOX (cutbox-rows.mjs): the forced cells as the released guide's own fill.sh prints them over the translation 57b77d3e73b96caf… (all of the seat's roots in one cut). By AI agents, Wed Nov 11 2026. No macro, syntax, notation, axiom, sorry.
-/
import Derived.Test.YtlckljphakkomaaChecked
import GoSem.Claim
import GoSem.ClaimJoined
import GoSem.ClaimMapViews
import Derived.JoinedTies
import Derived.KernelRfl
namespace Go.Proofs.Ytlckljphakkomaa
/- THE CELL 'sum', in the pinned program and in every row, IS THE sha256 OF THE DUMP (.gsa) THAT YtlckljphakkomaaProg.lean LOADS. Nothing in Lean hashes anything: it is a label: what it is worth is what the hold of that sum in a sandbox is worth. -/
noncomputable def Try.pinned : Pinned := { name := "ytlckljphakkomaa", sum := "57b77d3e73b96caf190224b77c7434acfae8d5aa49d4e81ad8d9cb2c36b30410", checked := Try.checked }
namespace Rows
def none {H : Type} : Left H := { results := [], args := [] }

/-- 'lodesmanlaw13.ZielonkaSolves': WHATEVER THE INPUT: true; the input reads as it did. -/
def zielonkaSolvesSpec : ChangeSpec := { name := "zielonkaSolves", fn := fun _ => fun
  | [d] => { results := [.lit (.bool true)], args := [d] }
  | _ => none }
def zielonkaSolvesRow : OpenClaim := { program := "ytlckljphakkomaa", sum := "57b77d3e73b96caf190224b77c7434acfae8d5aa49d4e81ad8d9cb2c36b30410", func := "lodesman/lodesmanlaw13.ZielonkaSolves", spec := "zielonkaSolves", unfollowed := true, recurses := true, apart := false }
def ZielonkaSolvesSaid : Prop := zielonkaSolvesRow.holds Try.pinned (OpenSpec.ofChange zielonkaSolvesSpec)

/-- ITS FALSE NEIGHBOUR: 'it returns false'. Refute it at one input. -/
def zielonkaSolvesWrong : ChangeSpec := { name := "zielonkaSolves", fn := fun _ => fun
  | [d] => { results := [.lit (.bool false)], args := [d] }
  | _ => none }
def ZielonkaSolvesWrongFalsely : Prop := zielonkaSolvesRow.holds Try.pinned (OpenSpec.ofChange zielonkaSolvesWrong)

/-- 'lodesmanlaw13.ZielonkaWins': WHATEVER THE INPUT: true; the input reads as it did. -/
def zielonkaWinsSpec : ChangeSpec := { name := "zielonkaWins", fn := fun _ => fun
  | [d1, d2] => { results := [.lit (.bool true)], args := [d1, d2] }
  | _ => none }
def zielonkaWinsRow : OpenClaim := { program := "ytlckljphakkomaa", sum := "57b77d3e73b96caf190224b77c7434acfae8d5aa49d4e81ad8d9cb2c36b30410", func := "lodesman/lodesmanlaw13.ZielonkaWins", spec := "zielonkaWins", unfollowed := true, recurses := true, apart := false }
def ZielonkaWinsSaid : Prop := zielonkaWinsRow.holds Try.pinned (OpenSpec.ofChange zielonkaWinsSpec)

/-- ITS FALSE NEIGHBOUR: 'it returns false'. Refute it at one input. -/
def zielonkaWinsWrong : ChangeSpec := { name := "zielonkaWins", fn := fun _ => fun
  | [d1, d2] => { results := [.lit (.bool false)], args := [d1, d2] }
  | _ => none }
def ZielonkaWinsWrongFalsely : Prop := zielonkaWinsRow.holds Try.pinned (OpenSpec.ofChange zielonkaWinsWrong)

/-- 'lodesmanlaw13.ZielonkaParts': WHATEVER THE INPUT: true; the input reads as it did. -/
def zielonkaPartsSpec : ChangeSpec := { name := "zielonkaParts", fn := fun _ => fun
  | [d1, d2] => { results := [.lit (.bool true)], args := [d1, d2] }
  | _ => none }
def zielonkaPartsRow : OpenClaim := { program := "ytlckljphakkomaa", sum := "57b77d3e73b96caf190224b77c7434acfae8d5aa49d4e81ad8d9cb2c36b30410", func := "lodesman/lodesmanlaw13.ZielonkaParts", spec := "zielonkaParts", unfollowed := true, recurses := true, apart := false }
def ZielonkaPartsSaid : Prop := zielonkaPartsRow.holds Try.pinned (OpenSpec.ofChange zielonkaPartsSpec)

/-- ITS FALSE NEIGHBOUR: 'it returns false'. Refute it at one input. -/
def zielonkaPartsWrong : ChangeSpec := { name := "zielonkaParts", fn := fun _ => fun
  | [d1, d2] => { results := [.lit (.bool false)], args := [d1, d2] }
  | _ => none }
def ZielonkaPartsWrongFalsely : Prop := zielonkaPartsRow.holds Try.pinned (OpenSpec.ofChange zielonkaPartsWrong)

/-- 'lodesmanlaw13.ZielonkaDual': WHATEVER THE INPUT: true; the input reads as it did. -/
def zielonkaDualSpec : ChangeSpec := { name := "zielonkaDual", fn := fun _ => fun
  | [d] => { results := [.lit (.bool true)], args := [d] }
  | _ => none }
def zielonkaDualRow : OpenClaim := { program := "ytlckljphakkomaa", sum := "57b77d3e73b96caf190224b77c7434acfae8d5aa49d4e81ad8d9cb2c36b30410", func := "lodesman/lodesmanlaw13.ZielonkaDual", spec := "zielonkaDual", unfollowed := true, recurses := true, apart := false }
def ZielonkaDualSaid : Prop := zielonkaDualRow.holds Try.pinned (OpenSpec.ofChange zielonkaDualSpec)

/-- ITS FALSE NEIGHBOUR: 'it returns false'. Refute it at one input. -/
def zielonkaDualWrong : ChangeSpec := { name := "zielonkaDual", fn := fun _ => fun
  | [d] => { results := [.lit (.bool false)], args := [d] }
  | _ => none }
def ZielonkaDualWrongFalsely : Prop := zielonkaDualRow.holds Try.pinned (OpenSpec.ofChange zielonkaDualWrong)

/-- 'lodesmanlaw13.ZielonkaTraps': WHATEVER THE INPUT: true; the input reads as it did. -/
def zielonkaTrapsSpec : ChangeSpec := { name := "zielonkaTraps", fn := fun _ => fun
  | [d1, d2, d3] => { results := [.lit (.bool true)], args := [d1, d2, d3] }
  | _ => none }
def zielonkaTrapsRow : OpenClaim := { program := "ytlckljphakkomaa", sum := "57b77d3e73b96caf190224b77c7434acfae8d5aa49d4e81ad8d9cb2c36b30410", func := "lodesman/lodesmanlaw13.ZielonkaTraps", spec := "zielonkaTraps", unfollowed := true, recurses := true, apart := false }
def ZielonkaTrapsSaid : Prop := zielonkaTrapsRow.holds Try.pinned (OpenSpec.ofChange zielonkaTrapsSpec)

/-- ITS FALSE NEIGHBOUR: 'it returns false'. Refute it at one input. -/
def zielonkaTrapsWrong : ChangeSpec := { name := "zielonkaTraps", fn := fun _ => fun
  | [d1, d2, d3] => { results := [.lit (.bool false)], args := [d1, d2, d3] }
  | _ => none }
def ZielonkaTrapsWrongFalsely : Prop := zielonkaTrapsRow.holds Try.pinned (OpenSpec.ofChange zielonkaTrapsWrong)

/- THE SECOND FORM. 'bulk': how many values and letters a reading holds, each counted each time it is reached (what is shared counts as often as it is met; a slice's spare places count too). A statement '..UptoSaid' is the law's where the arguments, and the package variables that the reading takes, are together of bulk at most 1048576: NARROWER than '..Said'. Prove '..Said' where nothing that the law and all that it calls make is longer than what came in: it says more and counts as full. Else prove '..UptoSaid'. A law counts once. -/
mutual
def uptoBulk {H : Type} : DataW H → Nat
  | .lit (.string bytes) => bytes.length + 1
  | .lit _ => 1
  | .nil => 1
  | .ptr d => uptoBulk d + 1
  | .slice elems spare => uptoBulkAll elems + uptoBulkAll spare + 1
  | .agg parts => uptoBulkAll parts + 1
  | .iface _ d => uptoBulk d + 1
  | .map entries => uptoBulkEntries entries + 1
  | .held _ => 1
def uptoBulkAll {H : Type} : List (DataW H) → Nat
  | [] => 0
  | d :: r => uptoBulk d + uptoBulkAll r
def uptoBulkEntries {H : Type} : List (Lit × DataW H) → Nat
  | [] => 0
  | x :: r => uptoBulkEntry x + uptoBulkEntries r
def uptoBulkEntry {H : Type} : Lit × DataW H → Nat
  | (.string bytes, d) => bytes.length + uptoBulk d + 1
  | (_, d) => uptoBulk d + 1
 end
def uptoSmall : (H : Type) → List (DataW H) → Bool := fun _ ds => decide (uptoBulkAll ds ≤ 1048576)
def OpenSpec.upto (s : _root_.Go.ChangeSpec) : _root_.Go.OpenSpec := { _root_.Go.OpenSpec.ofChange s with cond := some uptoSmall }

/-- 'lodesmanlaw13.ZielonkaSolves', WHERE WHAT IT READS IS OF BULK AT MOST 1048576: true; the input reads as it did. -/
def zielonkaSolvesUptoRow : OpenClaim := { program := "ytlckljphakkomaa", sum := "57b77d3e73b96caf190224b77c7434acfae8d5aa49d4e81ad8d9cb2c36b30410", func := "lodesman/lodesmanlaw13.ZielonkaSolves", spec := "zielonkaSolves", unfollowed := true, recurses := true, apart := false, narrowed := true }
def ZielonkaSolvesUptoSaid : Prop := zielonkaSolvesUptoRow.holds Try.pinned (OpenSpec.upto zielonkaSolvesSpec)

/-- 'lodesmanlaw13.ZielonkaWins', WHERE WHAT IT READS IS OF BULK AT MOST 1048576: true; the input reads as it did. -/
def zielonkaWinsUptoRow : OpenClaim := { program := "ytlckljphakkomaa", sum := "57b77d3e73b96caf190224b77c7434acfae8d5aa49d4e81ad8d9cb2c36b30410", func := "lodesman/lodesmanlaw13.ZielonkaWins", spec := "zielonkaWins", unfollowed := true, recurses := true, apart := false, narrowed := true }
def ZielonkaWinsUptoSaid : Prop := zielonkaWinsUptoRow.holds Try.pinned (OpenSpec.upto zielonkaWinsSpec)

/-- 'lodesmanlaw13.ZielonkaParts', WHERE WHAT IT READS IS OF BULK AT MOST 1048576: true; the input reads as it did. -/
def zielonkaPartsUptoRow : OpenClaim := { program := "ytlckljphakkomaa", sum := "57b77d3e73b96caf190224b77c7434acfae8d5aa49d4e81ad8d9cb2c36b30410", func := "lodesman/lodesmanlaw13.ZielonkaParts", spec := "zielonkaParts", unfollowed := true, recurses := true, apart := false, narrowed := true }
def ZielonkaPartsUptoSaid : Prop := zielonkaPartsUptoRow.holds Try.pinned (OpenSpec.upto zielonkaPartsSpec)

/-- 'lodesmanlaw13.ZielonkaDual', WHERE WHAT IT READS IS OF BULK AT MOST 1048576: true; the input reads as it did. -/
def zielonkaDualUptoRow : OpenClaim := { program := "ytlckljphakkomaa", sum := "57b77d3e73b96caf190224b77c7434acfae8d5aa49d4e81ad8d9cb2c36b30410", func := "lodesman/lodesmanlaw13.ZielonkaDual", spec := "zielonkaDual", unfollowed := true, recurses := true, apart := false, narrowed := true }
def ZielonkaDualUptoSaid : Prop := zielonkaDualUptoRow.holds Try.pinned (OpenSpec.upto zielonkaDualSpec)

/-- 'lodesmanlaw13.ZielonkaTraps', WHERE WHAT IT READS IS OF BULK AT MOST 1048576: true; the input reads as it did. -/
def zielonkaTrapsUptoRow : OpenClaim := { program := "ytlckljphakkomaa", sum := "57b77d3e73b96caf190224b77c7434acfae8d5aa49d4e81ad8d9cb2c36b30410", func := "lodesman/lodesmanlaw13.ZielonkaTraps", spec := "zielonkaTraps", unfollowed := true, recurses := true, apart := false, narrowed := true }
def ZielonkaTrapsUptoSaid : Prop := zielonkaTrapsUptoRow.holds Try.pinned (OpenSpec.upto zielonkaTrapsSpec)

end Rows
end Go.Proofs.Ytlckljphakkomaa
