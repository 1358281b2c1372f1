/-
  DERIVED. GIVEN WITH THE SEED: THE CARDS: each row of YtdhoadhkkecjjaaDoorRows.lean that lists a variable, with what it lists TIED to the program's text (the seventh form; the later family's looks); each row that meets fmt, with fmt's text TOLD by the authors' own Lean function (tested against real Go, not proved from fmt's source: count such statements apart). THE CARD IS WHAT COUNTS. Prove the row's statement (the work); the ties are given (YtdhoadhkkecjjaaDoorTie.lean); close each card by the builder's one call (the guide's Derived/Test/ToyasCard.lean, 'card_holds'). Laid BY PROGRAM, IN A SANDBOX (cutbox-door.mjs). By AI agents, Wed Nov 11 2026. No macro, syntax, notation, axiom, sorry.
-/
import Derived.Test.YtdhoadhkkecjjaaDoorRows
import GoSem.ClaimSeven
namespace Go.Proofs.YtdhoadhkkecjjaaDoor
namespace Rows

/-- THE TIED CARD OF 'lodesmanlaw16.VerifyChecks'. -/
def verifyChecksCard : Claim7 := { stood := { row := verifyChecksRow, standIns := [], harness := (true, "66d323b7e923a3df1ec10a5d5a0bcb67fc9dd01cbc7b7d69802af880c96285d6"), looks := true }, kinds := [], alts := [], laidByText := true, laidKinds := [.handle], laidTests := true, laidLooks := .later }
def VerifyChecksCardSaid : Prop := Claim7.holds Tryd.pinned (.plain (OpenSpec.ofChange verifyChecksSpec)) verifyChecksCard

/-- THE TIED CARD OF 'lodesmanlaw16.VerifyExact'. -/
def verifyExactCard : Claim7 := { stood := { row := verifyExactRow, standIns := [], harness := (true, "66d323b7e923a3df1ec10a5d5a0bcb67fc9dd01cbc7b7d69802af880c96285d6"), looks := true }, kinds := [], alts := [], laidByText := true, laidKinds := [.handle], laidTests := true, laidLooks := .later }
def VerifyExactCardSaid : Prop := Claim7.holds Tryd.pinned (.plain (OpenSpec.ofChange verifyExactSpec)) verifyExactCard

/-- THE TIED CARD OF 'lodesmanlaw16.VerifyStrategies'. -/
def verifyStrategiesCard : Claim7 := { stood := { row := verifyStrategiesRow, standIns := [], harness := (true, "66d323b7e923a3df1ec10a5d5a0bcb67fc9dd01cbc7b7d69802af880c96285d6"), looks := true }, kinds := [], alts := [], laidByText := true, laidKinds := [.handle], laidTests := true, laidLooks := .later }
def VerifyStrategiesCardSaid : Prop := Claim7.holds Tryd.pinned (.plain (OpenSpec.ofChange verifyStrategiesSpec)) verifyStrategiesCard

/-- THE TIED CARD OF 'lodesmanlaw16.VerifyPlays'. -/
def verifyPlaysCard : Claim7 := { stood := { row := verifyPlaysRow, standIns := [], harness := (true, "66d323b7e923a3df1ec10a5d5a0bcb67fc9dd01cbc7b7d69802af880c96285d6"), looks := true }, kinds := [], alts := [], laidByText := true, laidKinds := [.handle], laidTests := true, laidLooks := .later }
def VerifyPlaysCardSaid : Prop := Claim7.holds Tryd.pinned (.plain (OpenSpec.ofChange verifyPlaysSpec)) verifyPlaysCard

/-- THE SECOND FORM's CARD OF 'lodesmanlaw16.VerifyChecks'. -/
def verifyChecksUptoCard : Claim7 := { stood := { row := verifyChecksUptoRow, standIns := [], harness := (true, "66d323b7e923a3df1ec10a5d5a0bcb67fc9dd01cbc7b7d69802af880c96285d6"), looks := true }, kinds := [], alts := [], laidByText := true, laidKinds := [.handle], laidTests := true, laidLooks := .later }
def VerifyChecksUptoCardSaid : Prop := Claim7.holds Tryd.pinned (.plain (OpenSpec.upto verifyChecksSpec)) verifyChecksUptoCard

/-- THE SECOND FORM's CARD OF 'lodesmanlaw16.VerifyExact'. -/
def verifyExactUptoCard : Claim7 := { stood := { row := verifyExactUptoRow, standIns := [], harness := (true, "66d323b7e923a3df1ec10a5d5a0bcb67fc9dd01cbc7b7d69802af880c96285d6"), looks := true }, kinds := [], alts := [], laidByText := true, laidKinds := [.handle], laidTests := true, laidLooks := .later }
def VerifyExactUptoCardSaid : Prop := Claim7.holds Tryd.pinned (.plain (OpenSpec.upto verifyExactSpec)) verifyExactUptoCard

/-- THE SECOND FORM's CARD OF 'lodesmanlaw16.VerifyStrategies'. -/
def verifyStrategiesUptoCard : Claim7 := { stood := { row := verifyStrategiesUptoRow, standIns := [], harness := (true, "66d323b7e923a3df1ec10a5d5a0bcb67fc9dd01cbc7b7d69802af880c96285d6"), looks := true }, kinds := [], alts := [], laidByText := true, laidKinds := [.handle], laidTests := true, laidLooks := .later }
def VerifyStrategiesUptoCardSaid : Prop := Claim7.holds Tryd.pinned (.plain (OpenSpec.upto verifyStrategiesSpec)) verifyStrategiesUptoCard

/-- THE SECOND FORM's CARD OF 'lodesmanlaw16.VerifyPlays'. -/
def verifyPlaysUptoCard : Claim7 := { stood := { row := verifyPlaysUptoRow, standIns := [], harness := (true, "66d323b7e923a3df1ec10a5d5a0bcb67fc9dd01cbc7b7d69802af880c96285d6"), looks := true }, kinds := [], alts := [], laidByText := true, laidKinds := [.handle], laidTests := true, laidLooks := .later }
def VerifyPlaysUptoCardSaid : Prop := Claim7.holds Tryd.pinned (.plain (OpenSpec.upto verifyPlaysSpec)) verifyPlaysUptoCard
end Rows
end Go.Proofs.YtdhoadhkkecjjaaDoor
