/-
  DERIVED. GIVEN WITH THE SEED: THE CARDS: each row of YtlcgkcafelpglaaGreatDoorRows.lean that lists a variable, with what it lists TIED to the program's text (the seventh form; the later family's looks); each row that meets fmt, with fmt's text TOLD by the authors' own Lean function (tested against real Go, not proved from fmt's source: count such statements apart). THE CARD IS WHAT COUNTS. Prove the row's statement (the work); the ties are given (YtlcgkcafelpglaaGreatDoorTie.lean); close each card by the builder's one call (the guide's Derived/Test/ToyasCard.lean, 'card_holds'). Laid BY PROGRAM, IN A SANDBOX (cutbox-door.mjs). By AI agents, Wed Nov 11 2026. No macro, syntax, notation, axiom, sorry.
-/
import Derived.Test.YtlcgkcafelpglaaGreatDoorRows
import GoSem.ClaimSeven
namespace Go.Proofs.YtlcgkcafelpglaaGreatDoor
namespace Rows

/-- THE TIED CARD OF 'treadwheellaw20.ManifestPlays'. -/
def manifestPlaysCard : Claim7 := { stood := { row := manifestPlaysRow, standIns := [], harness := (true, "33ecc93ba17d98e7c40803398a5d5fc802611d8d525e82ddbf9bd1db1ad22f5e"), looks := false }, kinds := [], alts := [], laidByText := true, laidKinds := [.data, .data, .data], laidTests := true, laidLooks := .later }
def ManifestPlaysCardSaid : Prop := Claim7.holds Tryz.pinned (.plain (OpenSpec.ofChange manifestPlaysSpec)) manifestPlaysCard

/-- THE TIED CARD OF 'treadwheellaw20.ManifestKnown'. -/
def manifestKnownCard : Claim7 := { stood := { row := manifestKnownRow, standIns := [], harness := (true, "33ecc93ba17d98e7c40803398a5d5fc802611d8d525e82ddbf9bd1db1ad22f5e"), looks := false }, kinds := [], alts := [], laidByText := true, laidKinds := [.data, .data, .data], laidTests := true, laidLooks := .later }
def ManifestKnownCardSaid : Prop := Claim7.holds Tryz.pinned (.plain (OpenSpec.ofChange manifestKnownSpec)) manifestKnownCard

/-- THE SECOND FORM's CARD OF 'treadwheellaw20.ManifestPlays'. -/
def manifestPlaysUptoCard : Claim7 := { stood := { row := manifestPlaysUptoRow, standIns := [], harness := (true, "33ecc93ba17d98e7c40803398a5d5fc802611d8d525e82ddbf9bd1db1ad22f5e"), looks := false }, kinds := [], alts := [], laidByText := true, laidKinds := [.data, .data, .data], laidTests := true, laidLooks := .later }
def ManifestPlaysUptoCardSaid : Prop := Claim7.holds Tryz.pinned (.plain (OpenSpec.upto manifestPlaysSpec)) manifestPlaysUptoCard

/-- THE SECOND FORM's CARD OF 'treadwheellaw20.ManifestKnown'. -/
def manifestKnownUptoCard : Claim7 := { stood := { row := manifestKnownUptoRow, standIns := [], harness := (true, "33ecc93ba17d98e7c40803398a5d5fc802611d8d525e82ddbf9bd1db1ad22f5e"), looks := false }, kinds := [], alts := [], laidByText := true, laidKinds := [.data, .data, .data], laidTests := true, laidLooks := .later }
def ManifestKnownUptoCardSaid : Prop := Claim7.holds Tryz.pinned (.plain (OpenSpec.upto manifestKnownSpec)) manifestKnownUptoCard
end Rows
end Go.Proofs.YtlcgkcafelpglaaGreatDoor
