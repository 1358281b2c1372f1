/-
  No cell of these rows narrows 'for every input' (looked for: loops, veiled, ifaces, maps, wideKeys, modest, calm, conditions, laid).
  DERIVED. THE GIVEN ROWS OF THIS SEAT. 5 by the template 'for every input the law returns true; each argument reads behind the call as it read before'; 0 by the template 'total and deterministic' (their statements: YtbcghiagomkadaaTotals.lean).
  GIVEN WITH THE SEED: the statements are not yours to turn. If you find one false, say at which input.
  Laid BY PROGRAM, IN A SANDBOX (cutbox-rows.mjs): the forced cells as the released guide's own fill.sh prints them over the translation 19263a2a3b109fff… (all of the seat's roots in one cut). By AI agents, Wed Nov 11 2026. No macro, syntax, notation, axiom, sorry.
-/
import Derived.Test.YtbcghiagomkadaaChecked
import GoSem.Claim
import GoSem.ClaimJoined
import GoSem.ClaimMapViews
import Derived.JoinedTies
import Derived.KernelRfl
namespace Go.Proofs.Ytbcghiagomkadaa
/- THE CELL 'sum', in the pinned program and in every row, IS THE sha256 OF THE DUMP (.gsa) THAT YtbcghiagomkadaaProg.lean LOADS. Nothing in Lean hashes anything: it is a label: what it is worth is what the hold of that sum in a sandbox is worth. -/
noncomputable def Try.pinned : Pinned := { name := "ytbcghiagomkadaa", sum := "19263a2a3b109fff7a49cf78e33b7a2a50b3aacba00bdc7a804387ce1444a10e", checked := Try.checked }
namespace Rows
def none {H : Type} : Left H := { results := [], args := [] }

/-- 'lodesmanlaw15.ImproveBetter': WHATEVER THE INPUT: true; the input reads as it did. -/
def improveBetterSpec : ChangeSpec := { name := "improveBetter", fn := fun _ => fun
  | [d1, d2] => { results := [.lit (.bool true)], args := [d1, d2] }
  | _ => none }
def improveBetterRow : OpenClaim := { program := "ytbcghiagomkadaa", sum := "19263a2a3b109fff7a49cf78e33b7a2a50b3aacba00bdc7a804387ce1444a10e", func := "lodesman/lodesmanlaw15.ImproveBetter", spec := "improveBetter", unfollowed := true, recurses := true, apart := false }
def ImproveBetterSaid : Prop := improveBetterRow.holds Try.pinned (OpenSpec.ofChange improveBetterSpec)

/-- ITS FALSE NEIGHBOUR: 'it returns false'. Refute it at one input. -/
def improveBetterWrong : ChangeSpec := { name := "improveBetter", fn := fun _ => fun
  | [d1, d2] => { results := [.lit (.bool false)], args := [d1, d2] }
  | _ => none }
def ImproveBetterWrongFalsely : Prop := improveBetterRow.holds Try.pinned (OpenSpec.ofChange improveBetterWrong)

/-- 'lodesmanlaw15.ImproveApart': WHATEVER THE INPUT: true; the input reads as it did. -/
def improveApartSpec : ChangeSpec := { name := "improveApart", fn := fun _ => fun
  | [d1, d2, d3] => { results := [.lit (.bool true)], args := [d1, d2, d3] }
  | _ => none }
def improveApartRow : OpenClaim := { program := "ytbcghiagomkadaa", sum := "19263a2a3b109fff7a49cf78e33b7a2a50b3aacba00bdc7a804387ce1444a10e", func := "lodesman/lodesmanlaw15.ImproveApart", spec := "improveApart", unfollowed := true, recurses := true, apart := false }
def ImproveApartSaid : Prop := improveApartRow.holds Try.pinned (OpenSpec.ofChange improveApartSpec)

/-- ITS FALSE NEIGHBOUR: 'it returns false'. Refute it at one input. -/
def improveApartWrong : ChangeSpec := { name := "improveApart", fn := fun _ => fun
  | [d1, d2, d3] => { results := [.lit (.bool false)], args := [d1, d2, d3] }
  | _ => none }
def ImproveApartWrongFalsely : Prop := improveApartRow.holds Try.pinned (OpenSpec.ofChange improveApartWrong)

/-- 'lodesmanlaw15.ImproveWins': WHATEVER THE INPUT: true; the input reads as it did. -/
def improveWinsSpec : ChangeSpec := { name := "improveWins", fn := fun _ => fun
  | [d1, d2, d3] => { results := [.lit (.bool true)], args := [d1, d2, d3] }
  | _ => none }
def improveWinsRow : OpenClaim := { program := "ytbcghiagomkadaa", sum := "19263a2a3b109fff7a49cf78e33b7a2a50b3aacba00bdc7a804387ce1444a10e", func := "lodesman/lodesmanlaw15.ImproveWins", spec := "improveWins", unfollowed := true, recurses := true, apart := false }
def ImproveWinsSaid : Prop := improveWinsRow.holds Try.pinned (OpenSpec.ofChange improveWinsSpec)

/-- ITS FALSE NEIGHBOUR: 'it returns false'. Refute it at one input. -/
def improveWinsWrong : ChangeSpec := { name := "improveWins", fn := fun _ => fun
  | [d1, d2, d3] => { results := [.lit (.bool false)], args := [d1, d2, d3] }
  | _ => none }
def ImproveWinsWrongFalsely : Prop := improveWinsRow.holds Try.pinned (OpenSpec.ofChange improveWinsWrong)

/-- 'lodesmanlaw15.ImproveBreak': WHATEVER THE INPUT: true; the input reads as it did. -/
def improveBreakSpec : ChangeSpec := { name := "improveBreak", fn := fun _ => fun
  | [d1, d2, d3, d4] => { results := [.lit (.bool true)], args := [d1, d2, d3, d4] }
  | _ => none }
def improveBreakRow : OpenClaim := { program := "ytbcghiagomkadaa", sum := "19263a2a3b109fff7a49cf78e33b7a2a50b3aacba00bdc7a804387ce1444a10e", func := "lodesman/lodesmanlaw15.ImproveBreak", spec := "improveBreak", unfollowed := true, recurses := true, apart := false }
def ImproveBreakSaid : Prop := improveBreakRow.holds Try.pinned (OpenSpec.ofChange improveBreakSpec)

/-- ITS FALSE NEIGHBOUR: 'it returns false'. Refute it at one input. -/
def improveBreakWrong : ChangeSpec := { name := "improveBreak", fn := fun _ => fun
  | [d1, d2, d3, d4] => { results := [.lit (.bool false)], args := [d1, d2, d3, d4] }
  | _ => none }
def ImproveBreakWrongFalsely : Prop := improveBreakRow.holds Try.pinned (OpenSpec.ofChange improveBreakWrong)

/-- 'lodesmanlaw15.ImproveSolves': WHATEVER THE INPUT: true; the input reads as it did. -/
def improveSolvesSpec : ChangeSpec := { name := "improveSolves", fn := fun _ => fun
  | [d] => { results := [.lit (.bool true)], args := [d] }
  | _ => none }
def improveSolvesRow : OpenClaim := { program := "ytbcghiagomkadaa", sum := "19263a2a3b109fff7a49cf78e33b7a2a50b3aacba00bdc7a804387ce1444a10e", func := "lodesman/lodesmanlaw15.ImproveSolves", spec := "improveSolves", unfollowed := true, recurses := true, apart := false }
def ImproveSolvesSaid : Prop := improveSolvesRow.holds Try.pinned (OpenSpec.ofChange improveSolvesSpec)

/-- ITS FALSE NEIGHBOUR: 'it returns false'. Refute it at one input. -/
def improveSolvesWrong : ChangeSpec := { name := "improveSolves", fn := fun _ => fun
  | [d] => { results := [.lit (.bool false)], args := [d] }
  | _ => none }
def ImproveSolvesWrongFalsely : Prop := improveSolvesRow.holds Try.pinned (OpenSpec.ofChange improveSolvesWrong)

/- THE SECOND FORM. 'bulk': how many values and letters a reading holds, each counted each time it is reached (what is shared counts as often as it is met; a slice's spare places count too). A statement '..UptoSaid' is the law's where the arguments, and the package variables that the reading takes, are together of bulk at most 1048576: NARROWER than '..Said'. Prove '..Said' where nothing that the law and all that it calls make is longer than what came in: it says more and counts as full. Else prove '..UptoSaid'. A law counts once. -/
mutual
def uptoBulk {H : Type} : DataW H → Nat
  | .lit (.string bytes) => bytes.length + 1
  | .lit _ => 1
  | .nil => 1
  | .ptr d => uptoBulk d + 1
  | .slice elems spare => uptoBulkAll elems + uptoBulkAll spare + 1
  | .agg parts => uptoBulkAll parts + 1
  | .iface _ d => uptoBulk d + 1
  | .map entries => uptoBulkEntries entries + 1
  | .held _ => 1
def uptoBulkAll {H : Type} : List (DataW H) → Nat
  | [] => 0
  | d :: r => uptoBulk d + uptoBulkAll r
def uptoBulkEntries {H : Type} : List (Lit × DataW H) → Nat
  | [] => 0
  | x :: r => uptoBulkEntry x + uptoBulkEntries r
def uptoBulkEntry {H : Type} : Lit × DataW H → Nat
  | (.string bytes, d) => bytes.length + uptoBulk d + 1
  | (_, d) => uptoBulk d + 1
 end
def uptoSmall : (H : Type) → List (DataW H) → Bool := fun _ ds => decide (uptoBulkAll ds ≤ 1048576)
def OpenSpec.upto (s : _root_.Go.ChangeSpec) : _root_.Go.OpenSpec := { _root_.Go.OpenSpec.ofChange s with cond := some uptoSmall }

/-- 'lodesmanlaw15.ImproveBetter', WHERE WHAT IT READS IS OF BULK AT MOST 1048576: true; the input reads as it did. -/
def improveBetterUptoRow : OpenClaim := { program := "ytbcghiagomkadaa", sum := "19263a2a3b109fff7a49cf78e33b7a2a50b3aacba00bdc7a804387ce1444a10e", func := "lodesman/lodesmanlaw15.ImproveBetter", spec := "improveBetter", unfollowed := true, recurses := true, apart := false, narrowed := true }
def ImproveBetterUptoSaid : Prop := improveBetterUptoRow.holds Try.pinned (OpenSpec.upto improveBetterSpec)

/-- 'lodesmanlaw15.ImproveApart', WHERE WHAT IT READS IS OF BULK AT MOST 1048576: true; the input reads as it did. -/
def improveApartUptoRow : OpenClaim := { program := "ytbcghiagomkadaa", sum := "19263a2a3b109fff7a49cf78e33b7a2a50b3aacba00bdc7a804387ce1444a10e", func := "lodesman/lodesmanlaw15.ImproveApart", spec := "improveApart", unfollowed := true, recurses := true, apart := false, narrowed := true }
def ImproveApartUptoSaid : Prop := improveApartUptoRow.holds Try.pinned (OpenSpec.upto improveApartSpec)

/-- 'lodesmanlaw15.ImproveWins', WHERE WHAT IT READS IS OF BULK AT MOST 1048576: true; the input reads as it did. -/
def improveWinsUptoRow : OpenClaim := { program := "ytbcghiagomkadaa", sum := "19263a2a3b109fff7a49cf78e33b7a2a50b3aacba00bdc7a804387ce1444a10e", func := "lodesman/lodesmanlaw15.ImproveWins", spec := "improveWins", unfollowed := true, recurses := true, apart := false, narrowed := true }
def ImproveWinsUptoSaid : Prop := improveWinsUptoRow.holds Try.pinned (OpenSpec.upto improveWinsSpec)

/-- 'lodesmanlaw15.ImproveBreak', WHERE WHAT IT READS IS OF BULK AT MOST 1048576: true; the input reads as it did. -/
def improveBreakUptoRow : OpenClaim := { program := "ytbcghiagomkadaa", sum := "19263a2a3b109fff7a49cf78e33b7a2a50b3aacba00bdc7a804387ce1444a10e", func := "lodesman/lodesmanlaw15.ImproveBreak", spec := "improveBreak", unfollowed := true, recurses := true, apart := false, narrowed := true }
def ImproveBreakUptoSaid : Prop := improveBreakUptoRow.holds Try.pinned (OpenSpec.upto improveBreakSpec)

/-- 'lodesmanlaw15.ImproveSolves', WHERE WHAT IT READS IS OF BULK AT MOST 1048576: true; the input reads as it did. -/
def improveSolvesUptoRow : OpenClaim := { program := "ytbcghiagomkadaa", sum := "19263a2a3b109fff7a49cf78e33b7a2a50b3aacba00bdc7a804387ce1444a10e", func := "lodesman/lodesmanlaw15.ImproveSolves", spec := "improveSolves", unfollowed := true, recurses := true, apart := false, narrowed := true }
def ImproveSolvesUptoSaid : Prop := improveSolvesUptoRow.holds Try.pinned (OpenSpec.upto improveSolvesSpec)

end Rows
end Go.Proofs.Ytbcghiagomkadaa
