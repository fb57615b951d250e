/-
  DERIVED. GIVEN WITH THE SEED: THE CARDS: each row of YtdmijnjcgaoihaaDoorRows.lean that lists a variable, with what it lists TIED to the program's text (the seventh form; the later family's looks); each row that meets fmt, with fmt's text TOLD by the authors' own Lean function (tested against real Go, not proved from fmt's source: count such statements apart). THE CARD IS WHAT COUNTS. Prove the row's statement (the work); the ties are given (YtdmijnjcgaoihaaDoorTie.lean); close each card by the builder's one call (the guide's Derived/Test/ToyasCard.lean, 'card_holds'). Laid BY PROGRAM, IN A SANDBOX (cutbox-door.mjs). By AI agents, Wed Nov 11 2026. No macro, syntax, notation, axiom, sorry.
-/
import Derived.Test.YtdmijnjcgaoihaaDoorRows
import GoSem.ClaimSeven
namespace Go.Proofs.YtdmijnjcgaoihaaDoor
namespace Rows

/-- THE TIED CARD OF 'treadwheellaw03.WordsLines'. -/
def wordsLinesCard : Claim7 := { stood := { row := wordsLinesRow, standIns := [], harness := (true, "39fbd035b36994e5f1ba3ab7ce9836b4f49eacea2e17dbee2669726443f95ac6"), looks := false }, kinds := [], alts := [], laidByText := true, laidKinds := [.data], laidTests := true, laidLooks := .later }
def WordsLinesCardSaid : Prop := Claim7.holds Tryd.pinned (.plain (OpenSpec.ofChange wordsLinesSpec)) wordsLinesCard

/-- THE TIED CARD OF 'treadwheellaw03.WordsWords'. -/
def wordsWordsCard : Claim7 := { stood := { row := wordsWordsRow, standIns := [], harness := (true, "39fbd035b36994e5f1ba3ab7ce9836b4f49eacea2e17dbee2669726443f95ac6"), looks := false }, kinds := [], alts := [], laidByText := true, laidKinds := [.data], laidTests := true, laidLooks := .later }
def WordsWordsCardSaid : Prop := Claim7.holds Tryd.pinned (.plain (OpenSpec.ofChange wordsWordsSpec)) wordsWordsCard

/-- THE TIED CARD OF 'treadwheellaw03.WordsDigit'. -/
def wordsDigitCard : Claim7 := { stood := { row := wordsDigitRow, standIns := [], harness := (true, "39fbd035b36994e5f1ba3ab7ce9836b4f49eacea2e17dbee2669726443f95ac6"), looks := false }, kinds := [], alts := [], laidByText := true, laidKinds := [.data], laidTests := true, laidLooks := .later }
def WordsDigitCardSaid : Prop := Claim7.holds Tryd.pinned (.plain (OpenSpec.ofChange wordsDigitSpec)) wordsDigitCard

/-- THE TIED CARD OF 'treadwheellaw03.WordsNumber'. -/
def wordsNumberCard : Claim7 := { stood := { row := wordsNumberRow, standIns := [], harness := (true, "39fbd035b36994e5f1ba3ab7ce9836b4f49eacea2e17dbee2669726443f95ac6"), looks := false }, kinds := [], alts := [], laidByText := true, laidKinds := [.data], laidTests := true, laidLooks := .later }
def WordsNumberCardSaid : Prop := Claim7.holds Tryd.pinned (.plain (OpenSpec.ofChange wordsNumberSpec)) wordsNumberCard

/-- THE TIED CARD OF 'treadwheellaw03.WordsPrint'. -/
def wordsPrintCard : Claim7 := { stood := { row := wordsPrintRow, standIns := [], harness := (true, "39fbd035b36994e5f1ba3ab7ce9836b4f49eacea2e17dbee2669726443f95ac6"), looks := false }, kinds := [], alts := [], laidByText := true, laidKinds := [.data], laidTests := true, laidLooks := .later }
def WordsPrintCardSaid : Prop := Claim7.holds Tryd.pinned (.plain (OpenSpec.ofChange wordsPrintSpec)) wordsPrintCard

/-- THE TIED CARD OF 'treadwheellaw03.WordsKnown'. -/
def wordsKnownCard : Claim7 := { stood := { row := wordsKnownRow, standIns := [], harness := (true, "39fbd035b36994e5f1ba3ab7ce9836b4f49eacea2e17dbee2669726443f95ac6"), looks := false }, kinds := [], alts := [], laidByText := true, laidKinds := [.data], laidTests := true, laidLooks := .later }
def WordsKnownCardSaid : Prop := Claim7.holds Tryd.pinned (.plain (OpenSpec.ofChange wordsKnownSpec)) wordsKnownCard

/-- THE SECOND FORM's CARD OF 'treadwheellaw03.WordsLines'. -/
def wordsLinesUptoCard : Claim7 := { stood := { row := wordsLinesUptoRow, standIns := [], harness := (true, "39fbd035b36994e5f1ba3ab7ce9836b4f49eacea2e17dbee2669726443f95ac6"), looks := false }, kinds := [], alts := [], laidByText := true, laidKinds := [.data], laidTests := true, laidLooks := .later }
def WordsLinesUptoCardSaid : Prop := Claim7.holds Tryd.pinned (.plain (OpenSpec.upto wordsLinesSpec)) wordsLinesUptoCard

/-- THE SECOND FORM's CARD OF 'treadwheellaw03.WordsWords'. -/
def wordsWordsUptoCard : Claim7 := { stood := { row := wordsWordsUptoRow, standIns := [], harness := (true, "39fbd035b36994e5f1ba3ab7ce9836b4f49eacea2e17dbee2669726443f95ac6"), looks := false }, kinds := [], alts := [], laidByText := true, laidKinds := [.data], laidTests := true, laidLooks := .later }
def WordsWordsUptoCardSaid : Prop := Claim7.holds Tryd.pinned (.plain (OpenSpec.upto wordsWordsSpec)) wordsWordsUptoCard

/-- THE SECOND FORM's CARD OF 'treadwheellaw03.WordsDigit'. -/
def wordsDigitUptoCard : Claim7 := { stood := { row := wordsDigitUptoRow, standIns := [], harness := (true, "39fbd035b36994e5f1ba3ab7ce9836b4f49eacea2e17dbee2669726443f95ac6"), looks := false }, kinds := [], alts := [], laidByText := true, laidKinds := [.data], laidTests := true, laidLooks := .later }
def WordsDigitUptoCardSaid : Prop := Claim7.holds Tryd.pinned (.plain (OpenSpec.upto wordsDigitSpec)) wordsDigitUptoCard

/-- THE SECOND FORM's CARD OF 'treadwheellaw03.WordsNumber'. -/
def wordsNumberUptoCard : Claim7 := { stood := { row := wordsNumberUptoRow, standIns := [], harness := (true, "39fbd035b36994e5f1ba3ab7ce9836b4f49eacea2e17dbee2669726443f95ac6"), looks := false }, kinds := [], alts := [], laidByText := true, laidKinds := [.data], laidTests := true, laidLooks := .later }
def WordsNumberUptoCardSaid : Prop := Claim7.holds Tryd.pinned (.plain (OpenSpec.upto wordsNumberSpec)) wordsNumberUptoCard

/-- THE SECOND FORM's CARD OF 'treadwheellaw03.WordsPrint'. -/
def wordsPrintUptoCard : Claim7 := { stood := { row := wordsPrintUptoRow, standIns := [], harness := (true, "39fbd035b36994e5f1ba3ab7ce9836b4f49eacea2e17dbee2669726443f95ac6"), looks := false }, kinds := [], alts := [], laidByText := true, laidKinds := [.data], laidTests := true, laidLooks := .later }
def WordsPrintUptoCardSaid : Prop := Claim7.holds Tryd.pinned (.plain (OpenSpec.upto wordsPrintSpec)) wordsPrintUptoCard

/-- THE SECOND FORM's CARD OF 'treadwheellaw03.WordsKnown'. -/
def wordsKnownUptoCard : Claim7 := { stood := { row := wordsKnownUptoRow, standIns := [], harness := (true, "39fbd035b36994e5f1ba3ab7ce9836b4f49eacea2e17dbee2669726443f95ac6"), looks := false }, kinds := [], alts := [], laidByText := true, laidKinds := [.data], laidTests := true, laidLooks := .later }
def WordsKnownUptoCardSaid : Prop := Claim7.holds Tryd.pinned (.plain (OpenSpec.upto wordsKnownSpec)) wordsKnownUptoCard
end Rows
end Go.Proofs.YtdmijnjcgaoihaaDoor
