/-
  DERIVED. GIVEN WITH THE SEED: THE CARDS: each row of YtjcmlflljibikaaGreatDoorRows.lean that lists a variable, with what it lists TIED to the program's text (the seventh form; the later family's looks); each row that meets fmt, with fmt's text TOLD by the authors' own Lean function (tested against real Go, not proved from fmt's source: count such statements apart). THE CARD IS WHAT COUNTS. Prove the row's statement (the work); the ties are given (YtjcmlflljibikaaGreatDoorTie.lean); close each card by the builder's one call (the guide's Derived/Test/ToyasCard.lean, 'card_holds'). Laid BY PROGRAM, IN A SANDBOX (cutbox-door.mjs). By AI agents, Wed Nov 11 2026. No macro, syntax, notation, axiom, sorry.
-/
import Derived.Test.YtjcmlflljibikaaGreatDoorRows
import GoSem.ClaimSeven
namespace Go.Proofs.YtjcmlflljibikaaGreatDoor
namespace Rows

/-- THE TIED CARD OF 'lodesmanlaw16.VerifySolvers'. -/
def verifySolversCard : Claim7 := { stood := { row := verifySolversRow, standIns := [], harness := (true, "e403f08f0bfb6190bb54061b335879825eef01752fb7762c254eba3df215cdf8"), looks := true }, kinds := [], alts := [], laidByText := true, laidKinds := [.handle], laidTests := true, laidLooks := .later }
def VerifySolversCardSaid : Prop := Claim7.holds Tryz.pinned (.plain (OpenSpec.ofChange verifySolversSpec)) verifySolversCard

/-- THE SECOND FORM's CARD OF 'lodesmanlaw16.VerifySolvers'. -/
def verifySolversUptoCard : Claim7 := { stood := { row := verifySolversUptoRow, standIns := [], harness := (true, "e403f08f0bfb6190bb54061b335879825eef01752fb7762c254eba3df215cdf8"), looks := true }, kinds := [], alts := [], laidByText := true, laidKinds := [.handle], laidTests := true, laidLooks := .later }
def VerifySolversUptoCardSaid : Prop := Claim7.holds Tryz.pinned (.plain (OpenSpec.upto verifySolversSpec)) verifySolversUptoCard
end Rows
end Go.Proofs.YtjcmlflljibikaaGreatDoor
