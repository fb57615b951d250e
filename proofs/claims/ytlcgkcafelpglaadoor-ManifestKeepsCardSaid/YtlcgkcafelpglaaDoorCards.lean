/-
  DERIVED. GIVEN WITH THE SEED: THE CARDS: each row of YtlcgkcafelpglaaDoorRows.lean that lists a variable, with what it lists TIED to the program's text (the seventh form; the later family's looks); each row that meets fmt, with fmt's text TOLD by the authors' own Lean function (tested against real Go, not proved from fmt's source: count such statements apart). THE CARD IS WHAT COUNTS. Prove the row's statement (the work); the ties are given (YtlcgkcafelpglaaDoorTie.lean); close each card by the builder's one call (the guide's Derived/Test/ToyasCard.lean, 'card_holds'). Laid BY PROGRAM, IN A SANDBOX (cutbox-door.mjs). By AI agents, Wed Nov 11 2026. No macro, syntax, notation, axiom, sorry.
-/
import Derived.Test.YtlcgkcafelpglaaDoorRows
import GoSem.ClaimSeven
namespace Go.Proofs.YtlcgkcafelpglaaDoor
namespace Rows

/-- THE TIED CARD OF 'treadwheellaw20.ManifestBytes'. -/
def manifestBytesCard : Claim7 := { stood := { row := manifestBytesRow, standIns := [], harness := (true, "b36465ae5b835aaf1ee9f9838734330d93be01aac472d1e5274f8c2f9b2de229"), looks := false }, kinds := [], alts := [], laidByText := true, laidKinds := [.data, .data, .data], laidTests := true, laidLooks := .later }
def ManifestBytesCardSaid : Prop := Claim7.holds Tryd.pinned (.plain (OpenSpec.ofChange manifestBytesSpec)) manifestBytesCard

/-- THE TIED CARD OF 'treadwheellaw20.ManifestBack'. -/
def manifestBackCard : Claim7 := { stood := { row := manifestBackRow, standIns := [], harness := (true, "b36465ae5b835aaf1ee9f9838734330d93be01aac472d1e5274f8c2f9b2de229"), looks := false }, kinds := [], alts := [], laidByText := true, laidKinds := [.data, .data, .data], laidTests := true, laidLooks := .later }
def ManifestBackCardSaid : Prop := Claim7.holds Tryd.pinned (.plain (OpenSpec.ofChange manifestBackSpec)) manifestBackCard

/-- THE TIED CARD OF 'treadwheellaw20.ManifestRises'. -/
def manifestRisesCard : Claim7 := { stood := { row := manifestRisesRow, standIns := [], harness := (true, "b36465ae5b835aaf1ee9f9838734330d93be01aac472d1e5274f8c2f9b2de229"), looks := false }, kinds := [], alts := [], laidByText := true, laidKinds := [.data, .data, .data], laidTests := true, laidLooks := .later }
def ManifestRisesCardSaid : Prop := Claim7.holds Tryd.pinned (.plain (OpenSpec.ofChange manifestRisesSpec)) manifestRisesCard

/-- THE TIED CARD OF 'treadwheellaw20.ManifestOne'. -/
def manifestOneCard : Claim7 := { stood := { row := manifestOneRow, standIns := [], harness := (true, "b36465ae5b835aaf1ee9f9838734330d93be01aac472d1e5274f8c2f9b2de229"), looks := false }, kinds := [], alts := [], laidByText := true, laidKinds := [.data, .data, .data], laidTests := true, laidLooks := .later }
def ManifestOneCardSaid : Prop := Claim7.holds Tryd.pinned (.plain (OpenSpec.ofChange manifestOneSpec)) manifestOneCard

/-- THE TIED CARD OF 'treadwheellaw20.ManifestKeeps'. -/
def manifestKeepsCard : Claim7 := { stood := { row := manifestKeepsRow, standIns := [], harness := (true, "b36465ae5b835aaf1ee9f9838734330d93be01aac472d1e5274f8c2f9b2de229"), looks := false }, kinds := [], alts := [], laidByText := true, laidKinds := [.data, .data, .data], laidTests := true, laidLooks := .later }
def ManifestKeepsCardSaid : Prop := Claim7.holds Tryd.pinned (.plain (OpenSpec.ofChange manifestKeepsSpec)) manifestKeepsCard

/-- THE SECOND FORM's CARD OF 'treadwheellaw20.ManifestBytes'. -/
def manifestBytesUptoCard : Claim7 := { stood := { row := manifestBytesUptoRow, standIns := [], harness := (true, "b36465ae5b835aaf1ee9f9838734330d93be01aac472d1e5274f8c2f9b2de229"), looks := false }, kinds := [], alts := [], laidByText := true, laidKinds := [.data, .data, .data], laidTests := true, laidLooks := .later }
def ManifestBytesUptoCardSaid : Prop := Claim7.holds Tryd.pinned (.plain (OpenSpec.upto manifestBytesSpec)) manifestBytesUptoCard

/-- THE SECOND FORM's CARD OF 'treadwheellaw20.ManifestBack'. -/
def manifestBackUptoCard : Claim7 := { stood := { row := manifestBackUptoRow, standIns := [], harness := (true, "b36465ae5b835aaf1ee9f9838734330d93be01aac472d1e5274f8c2f9b2de229"), looks := false }, kinds := [], alts := [], laidByText := true, laidKinds := [.data, .data, .data], laidTests := true, laidLooks := .later }
def ManifestBackUptoCardSaid : Prop := Claim7.holds Tryd.pinned (.plain (OpenSpec.upto manifestBackSpec)) manifestBackUptoCard

/-- THE SECOND FORM's CARD OF 'treadwheellaw20.ManifestRises'. -/
def manifestRisesUptoCard : Claim7 := { stood := { row := manifestRisesUptoRow, standIns := [], harness := (true, "b36465ae5b835aaf1ee9f9838734330d93be01aac472d1e5274f8c2f9b2de229"), looks := false }, kinds := [], alts := [], laidByText := true, laidKinds := [.data, .data, .data], laidTests := true, laidLooks := .later }
def ManifestRisesUptoCardSaid : Prop := Claim7.holds Tryd.pinned (.plain (OpenSpec.upto manifestRisesSpec)) manifestRisesUptoCard

/-- THE SECOND FORM's CARD OF 'treadwheellaw20.ManifestOne'. -/
def manifestOneUptoCard : Claim7 := { stood := { row := manifestOneUptoRow, standIns := [], harness := (true, "b36465ae5b835aaf1ee9f9838734330d93be01aac472d1e5274f8c2f9b2de229"), looks := false }, kinds := [], alts := [], laidByText := true, laidKinds := [.data, .data, .data], laidTests := true, laidLooks := .later }
def ManifestOneUptoCardSaid : Prop := Claim7.holds Tryd.pinned (.plain (OpenSpec.upto manifestOneSpec)) manifestOneUptoCard

/-- THE SECOND FORM's CARD OF 'treadwheellaw20.ManifestKeeps'. -/
def manifestKeepsUptoCard : Claim7 := { stood := { row := manifestKeepsUptoRow, standIns := [], harness := (true, "b36465ae5b835aaf1ee9f9838734330d93be01aac472d1e5274f8c2f9b2de229"), looks := false }, kinds := [], alts := [], laidByText := true, laidKinds := [.data, .data, .data], laidTests := true, laidLooks := .later }
def ManifestKeepsUptoCardSaid : Prop := Claim7.holds Tryd.pinned (.plain (OpenSpec.upto manifestKeepsSpec)) manifestKeepsUptoCard
end Rows
end Go.Proofs.YtlcgkcafelpglaaDoor
