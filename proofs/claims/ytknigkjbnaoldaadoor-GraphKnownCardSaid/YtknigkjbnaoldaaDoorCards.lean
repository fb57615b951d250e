/-
  DERIVED. GIVEN WITH THE SEED: THE CARDS: each row of YtknigkjbnaoldaaDoorRows.lean that lists a variable, with what it lists TIED to the program's text (the seventh form; the later family's looks); each row that meets fmt, with fmt's text TOLD by the authors' own Lean function (tested against real Go, not proved from fmt's source: count such statements apart). THE CARD IS WHAT COUNTS. Prove the row's statement (the work); the ties are given (YtknigkjbnaoldaaDoorTie.lean); close each card by the builder's one call (the guide's Derived/Test/ToyasCard.lean, 'card_holds'). Laid BY PROGRAM, IN A SANDBOX (cutbox-door.mjs). By AI agents, Wed Nov 11 2026. No macro, syntax, notation, axiom, sorry.
-/
import Derived.Test.YtknigkjbnaoldaaDoorRows
import GoSem.ClaimSeven
namespace Go.Proofs.YtknigkjbnaoldaaDoor
namespace Rows

/-- THE TIED CARD OF 'treadwheellaw04.GraphParse'. -/
def graphParseCard : Claim7 := { stood := { row := graphParseRow, standIns := [], harness := (true, "4fcf1ac19f34206c7dcbac8eee7ca2747a3f249a3d21f8454aa9b6aa97592636"), looks := false }, kinds := [], alts := [], laidByText := true, laidKinds := [.data], laidTests := true, laidLooks := .later }
def GraphParseCardSaid : Prop := Claim7.holds Tryd.pinned (.plain (OpenSpec.ofChange graphParseSpec)) graphParseCard

/-- THE TIED CARD OF 'treadwheellaw04.GraphEdges'. -/
def graphEdgesCard : Claim7 := { stood := { row := graphEdgesRow, standIns := [], harness := (true, "4fcf1ac19f34206c7dcbac8eee7ca2747a3f249a3d21f8454aa9b6aa97592636"), looks := false }, kinds := [], alts := [], laidByText := true, laidKinds := [.data], laidTests := true, laidLooks := .later }
def GraphEdgesCardSaid : Prop := Claim7.holds Tryd.pinned (.plain (OpenSpec.ofChange graphEdgesSpec)) graphEdgesCard

/-- THE TIED CARD OF 'treadwheellaw04.GraphSame'. -/
def graphSameCard : Claim7 := { stood := { row := graphSameRow, standIns := [], harness := (true, "4fcf1ac19f34206c7dcbac8eee7ca2747a3f249a3d21f8454aa9b6aa97592636"), looks := false }, kinds := [], alts := [], laidByText := true, laidKinds := [.data], laidTests := true, laidLooks := .later }
def GraphSameCardSaid : Prop := Claim7.holds Tryd.pinned (.plain (OpenSpec.ofChange graphSameSpec)) graphSameCard

/-- THE TIED CARD OF 'treadwheellaw04.GraphCheck'. -/
def graphCheckCard : Claim7 := { stood := { row := graphCheckRow, standIns := [], harness := (true, "4fcf1ac19f34206c7dcbac8eee7ca2747a3f249a3d21f8454aa9b6aa97592636"), looks := false }, kinds := [], alts := [], laidByText := true, laidKinds := [.data], laidTests := true, laidLooks := .later }
def GraphCheckCardSaid : Prop := Claim7.holds Tryd.pinned (.plain (OpenSpec.ofChange graphCheckSpec)) graphCheckCard

/-- THE TIED CARD OF 'treadwheellaw04.GraphBack'. -/
def graphBackCard : Claim7 := { stood := { row := graphBackRow, standIns := [], harness := (true, "4fcf1ac19f34206c7dcbac8eee7ca2747a3f249a3d21f8454aa9b6aa97592636"), looks := false }, kinds := [], alts := [], laidByText := true, laidKinds := [.data], laidTests := true, laidLooks := .later }
def GraphBackCardSaid : Prop := Claim7.holds Tryd.pinned (.plain (OpenSpec.ofChange graphBackSpec)) graphBackCard

/-- THE TIED CARD OF 'treadwheellaw04.GraphKnown'. -/
def graphKnownCard : Claim7 := { stood := { row := graphKnownRow, standIns := [], harness := (true, "4fcf1ac19f34206c7dcbac8eee7ca2747a3f249a3d21f8454aa9b6aa97592636"), looks := false }, kinds := [], alts := [], laidByText := true, laidKinds := [.data], laidTests := true, laidLooks := .later }
def GraphKnownCardSaid : Prop := Claim7.holds Tryd.pinned (.plain (OpenSpec.ofChange graphKnownSpec)) graphKnownCard

/-- THE SECOND FORM's CARD OF 'treadwheellaw04.GraphParse'. -/
def graphParseUptoCard : Claim7 := { stood := { row := graphParseUptoRow, standIns := [], harness := (true, "4fcf1ac19f34206c7dcbac8eee7ca2747a3f249a3d21f8454aa9b6aa97592636"), looks := false }, kinds := [], alts := [], laidByText := true, laidKinds := [.data], laidTests := true, laidLooks := .later }
def GraphParseUptoCardSaid : Prop := Claim7.holds Tryd.pinned (.plain (OpenSpec.upto graphParseSpec)) graphParseUptoCard

/-- THE SECOND FORM's CARD OF 'treadwheellaw04.GraphEdges'. -/
def graphEdgesUptoCard : Claim7 := { stood := { row := graphEdgesUptoRow, standIns := [], harness := (true, "4fcf1ac19f34206c7dcbac8eee7ca2747a3f249a3d21f8454aa9b6aa97592636"), looks := false }, kinds := [], alts := [], laidByText := true, laidKinds := [.data], laidTests := true, laidLooks := .later }
def GraphEdgesUptoCardSaid : Prop := Claim7.holds Tryd.pinned (.plain (OpenSpec.upto graphEdgesSpec)) graphEdgesUptoCard

/-- THE SECOND FORM's CARD OF 'treadwheellaw04.GraphSame'. -/
def graphSameUptoCard : Claim7 := { stood := { row := graphSameUptoRow, standIns := [], harness := (true, "4fcf1ac19f34206c7dcbac8eee7ca2747a3f249a3d21f8454aa9b6aa97592636"), looks := false }, kinds := [], alts := [], laidByText := true, laidKinds := [.data], laidTests := true, laidLooks := .later }
def GraphSameUptoCardSaid : Prop := Claim7.holds Tryd.pinned (.plain (OpenSpec.upto graphSameSpec)) graphSameUptoCard

/-- THE SECOND FORM's CARD OF 'treadwheellaw04.GraphCheck'. -/
def graphCheckUptoCard : Claim7 := { stood := { row := graphCheckUptoRow, standIns := [], harness := (true, "4fcf1ac19f34206c7dcbac8eee7ca2747a3f249a3d21f8454aa9b6aa97592636"), looks := false }, kinds := [], alts := [], laidByText := true, laidKinds := [.data], laidTests := true, laidLooks := .later }
def GraphCheckUptoCardSaid : Prop := Claim7.holds Tryd.pinned (.plain (OpenSpec.upto graphCheckSpec)) graphCheckUptoCard

/-- THE SECOND FORM's CARD OF 'treadwheellaw04.GraphBack'. -/
def graphBackUptoCard : Claim7 := { stood := { row := graphBackUptoRow, standIns := [], harness := (true, "4fcf1ac19f34206c7dcbac8eee7ca2747a3f249a3d21f8454aa9b6aa97592636"), looks := false }, kinds := [], alts := [], laidByText := true, laidKinds := [.data], laidTests := true, laidLooks := .later }
def GraphBackUptoCardSaid : Prop := Claim7.holds Tryd.pinned (.plain (OpenSpec.upto graphBackSpec)) graphBackUptoCard

/-- THE SECOND FORM's CARD OF 'treadwheellaw04.GraphKnown'. -/
def graphKnownUptoCard : Claim7 := { stood := { row := graphKnownUptoRow, standIns := [], harness := (true, "4fcf1ac19f34206c7dcbac8eee7ca2747a3f249a3d21f8454aa9b6aa97592636"), looks := false }, kinds := [], alts := [], laidByText := true, laidKinds := [.data], laidTests := true, laidLooks := .later }
def GraphKnownUptoCardSaid : Prop := Claim7.holds Tryd.pinned (.plain (OpenSpec.upto graphKnownSpec)) graphKnownUptoCard
end Rows
end Go.Proofs.YtknigkjbnaoldaaDoor
