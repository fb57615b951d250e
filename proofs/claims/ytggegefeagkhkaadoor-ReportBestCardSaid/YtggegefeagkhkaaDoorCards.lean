/-
  DERIVED. GIVEN WITH THE SEED: THE CARDS: each row of YtggegefeagkhkaaDoorRows.lean that lists a variable, with what it lists TIED to the program's text (the seventh form; the later family's looks); each row that meets fmt, with fmt's text TOLD by the authors' own Lean function (tested against real Go, not proved from fmt's source: count such statements apart). THE CARD IS WHAT COUNTS. Prove the row's statement (the work); the ties are given (YtggegefeagkhkaaDoorTie.lean); close each card by the builder's one call (the guide's Derived/Test/ToyasCard.lean, 'card_holds'). Laid BY PROGRAM, IN A SANDBOX (cutbox-door.mjs). By AI agents, Wed Nov 11 2026. No macro, syntax, notation, axiom, sorry.
-/
import Derived.Test.YtggegefeagkhkaaDoorRows
import GoSem.ClaimSeven
namespace Go.Proofs.YtggegefeagkhkaaDoor
namespace Rows

/-- THE TIED CARD OF 'treadwheellaw27.ReportPrint'. -/
def reportPrintCard : Claim7 := { stood := { row := reportPrintRow, standIns := [], harness := (true, "52a774ed21b9b859e7de12324dd45a9487c25a49e6ee88aff6bd5e622d21b9e8"), looks := true }, kinds := [], alts := [], laidByText := true, laidKinds := [.data, .data, .data, .data, .data, .widerDeep, .pinned], laidTests := true, laidLooks := .later }
def ReportPrintCardSaid : Prop := Claim7.holds Tryd.pinned (.plain (OpenSpec.ofChange reportPrintSpec)) reportPrintCard

/-- THE TIED CARD OF 'treadwheellaw27.ReportRead'. -/
def reportReadCard : Claim7 := { stood := { row := reportReadRow, standIns := [], harness := (true, "52a774ed21b9b859e7de12324dd45a9487c25a49e6ee88aff6bd5e622d21b9e8"), looks := true }, kinds := [], alts := [], laidByText := true, laidKinds := [.data, .data, .data, .data, .data, .widerDeep, .pinned], laidTests := true, laidLooks := .later }
def ReportReadCardSaid : Prop := Claim7.holds Tryd.pinned (.plain (OpenSpec.ofChange reportReadSpec)) reportReadCard

/-- THE TIED CARD OF 'treadwheellaw27.ReportBack'. -/
def reportBackCard : Claim7 := { stood := { row := reportBackRow, standIns := [], harness := (true, "52a774ed21b9b859e7de12324dd45a9487c25a49e6ee88aff6bd5e622d21b9e8"), looks := true }, kinds := [], alts := [], laidByText := true, laidKinds := [.data, .data, .data, .data, .data, .widerDeep, .pinned], laidTests := true, laidLooks := .later }
def ReportBackCardSaid : Prop := Claim7.holds Tryd.pinned (.plain (OpenSpec.ofChange reportBackSpec)) reportBackCard

/-- THE TIED CARD OF 'treadwheellaw27.ReportBest'. -/
def reportBestCard : Claim7 := { stood := { row := reportBestRow, standIns := [], harness := (true, "52a774ed21b9b859e7de12324dd45a9487c25a49e6ee88aff6bd5e622d21b9e8"), looks := true }, kinds := [], alts := [], laidByText := true, laidKinds := [.data, .data, .data, .data, .data, .widerDeep, .pinned], laidTests := true, laidLooks := .later }
def ReportBestCardSaid : Prop := Claim7.holds Tryd.pinned (.plain (OpenSpec.ofChange reportBestSpec)) reportBestCard

/-- THE SECOND FORM's CARD OF 'treadwheellaw27.ReportPrint'. -/
def reportPrintUptoCard : Claim7 := { stood := { row := reportPrintUptoRow, standIns := [], harness := (true, "52a774ed21b9b859e7de12324dd45a9487c25a49e6ee88aff6bd5e622d21b9e8"), looks := true }, kinds := [], alts := [], laidByText := true, laidKinds := [.data, .data, .data, .data, .data, .widerDeep, .pinned], laidTests := true, laidLooks := .later }
def ReportPrintUptoCardSaid : Prop := Claim7.holds Tryd.pinned (.plain (OpenSpec.upto reportPrintSpec)) reportPrintUptoCard

/-- THE SECOND FORM's CARD OF 'treadwheellaw27.ReportRead'. -/
def reportReadUptoCard : Claim7 := { stood := { row := reportReadUptoRow, standIns := [], harness := (true, "52a774ed21b9b859e7de12324dd45a9487c25a49e6ee88aff6bd5e622d21b9e8"), looks := true }, kinds := [], alts := [], laidByText := true, laidKinds := [.data, .data, .data, .data, .data, .widerDeep, .pinned], laidTests := true, laidLooks := .later }
def ReportReadUptoCardSaid : Prop := Claim7.holds Tryd.pinned (.plain (OpenSpec.upto reportReadSpec)) reportReadUptoCard

/-- THE SECOND FORM's CARD OF 'treadwheellaw27.ReportBack'. -/
def reportBackUptoCard : Claim7 := { stood := { row := reportBackUptoRow, standIns := [], harness := (true, "52a774ed21b9b859e7de12324dd45a9487c25a49e6ee88aff6bd5e622d21b9e8"), looks := true }, kinds := [], alts := [], laidByText := true, laidKinds := [.data, .data, .data, .data, .data, .widerDeep, .pinned], laidTests := true, laidLooks := .later }
def ReportBackUptoCardSaid : Prop := Claim7.holds Tryd.pinned (.plain (OpenSpec.upto reportBackSpec)) reportBackUptoCard

/-- THE SECOND FORM's CARD OF 'treadwheellaw27.ReportBest'. -/
def reportBestUptoCard : Claim7 := { stood := { row := reportBestUptoRow, standIns := [], harness := (true, "52a774ed21b9b859e7de12324dd45a9487c25a49e6ee88aff6bd5e622d21b9e8"), looks := true }, kinds := [], alts := [], laidByText := true, laidKinds := [.data, .data, .data, .data, .data, .widerDeep, .pinned], laidTests := true, laidLooks := .later }
def ReportBestUptoCardSaid : Prop := Claim7.holds Tryd.pinned (.plain (OpenSpec.upto reportBestSpec)) reportBestUptoCard
end Rows
end Go.Proofs.YtggegefeagkhkaaDoor
