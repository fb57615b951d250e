/-
  NARROWER THAN 'FOR EVERY INPUT', by the rows' own cells (each row's printed sentence says how): WordsLines: laid · WordsWords: laid · WordsDigit: laid · WordsNumber: laid · WordsPrint: laid · WordsKnown: laid.
  DERIVED. THE GIVEN ROWS OF THIS SEAT. 6 by the template 'for every input the law returns true; each argument reads behind the call as it read before'; 0 by the template 'total and deterministic' (their statements: YtdmijnjcgaoihaaDoorTotals.lean).
  GIVEN WITH THE SEED: the statements are not yours to turn. If you find one false, say at which input.
  Laid BY PROGRAM, IN A SANDBOX (cutbox-rows.mjs): the forced cells as the released guide's own fill.sh prints them over the translation bc6caeb74d525211… (all of the seat's roots in one cut). By AI agents, Wed Nov 11 2026. No macro, syntax, notation, axiom, sorry.
-/
import Derived.Test.YtdmijnjcgaoihaaDoorChecked
import GoSem.Claim
import GoSem.ClaimJoined
import GoSem.ClaimMapViews
import Derived.JoinedTies
import Derived.KernelRfl
namespace Go.Proofs.YtdmijnjcgaoihaaDoor
/- THE CELL 'sum', in the pinned program and in every row, IS THE sha256 OF THE DUMP (.gsa) THAT YtdmijnjcgaoihaaDoorProg.lean LOADS. Nothing in Lean hashes anything: it is a label: what it is worth is what the hold of that sum in a sandbox is worth. -/
noncomputable def Tryd.pinned : Pinned := { name := "ytdmijnjcgaoihaadoor", sum := "bc6caeb74d525211ccde60a1f8831217a403d634a5447a45c587e30ef792627e", checked := Tryd.checked }
namespace Rows
def none {H : Type} : Left H := { results := [], args := [] }

/- WHAT THE LISTED PACKAGE-LEVEL VARIABLES READ AS WHEN THE CALL BEGINS. Each datum BY PROGRAM (the guide's laid-datum.mjs) off the statement by which the dump's own 'gosem.cut.vars' lays the variable. In a bare row this is a premise. The card (YtdmijnjcgaoihaaDoorCards.lean) ties it to the program's text. -/
def laid_treadwheel_words_firsts {H : Type} : DataW H := .agg [.lit (.int .i32 48), .lit (.int .i32 1632), .lit (.int .i32 65296)]

/-- 'treadwheellaw03.WordsLines': WHATEVER THE INPUT: true; the input reads as it did. -/
def wordsLinesSpec : ChangeSpec := { name := "wordsLines", fn := fun _ => fun
  | [d] => { results := [.lit (.bool true)], args := [d] }
  | _ => none }
def wordsLinesRow : OpenClaim := { program := "ytdmijnjcgaoihaadoor", sum := "bc6caeb74d525211ccde60a1f8831217a403d634a5447a45c587e30ef792627e", func := "treadwheel/treadwheellaw03.WordsLines", spec := "wordsLines", inPlace := ["internal/bytealg.IndexByteString"], unfollowed := true, recurses := true, named := ["treadwheel/words.firsts"], apart := false, laid := [("treadwheel/words.firsts", laid_treadwheel_words_firsts)] }
def WordsLinesSaid : Prop := wordsLinesRow.holds Tryd.pinned (OpenSpec.ofChange wordsLinesSpec)

/-- ITS FALSE NEIGHBOUR: 'it returns false'. Refute it at one input. -/
def wordsLinesWrong : ChangeSpec := { name := "wordsLines", fn := fun _ => fun
  | [d] => { results := [.lit (.bool false)], args := [d] }
  | _ => none }
def WordsLinesWrongFalsely : Prop := wordsLinesRow.holds Tryd.pinned (OpenSpec.ofChange wordsLinesWrong)

/-- 'treadwheellaw03.WordsWords': WHATEVER THE INPUT: true; the input reads as it did. -/
def wordsWordsSpec : ChangeSpec := { name := "wordsWords", fn := fun _ => fun
  | [d] => { results := [.lit (.bool true)], args := [d] }
  | _ => none }
def wordsWordsRow : OpenClaim := { program := "ytdmijnjcgaoihaadoor", sum := "bc6caeb74d525211ccde60a1f8831217a403d634a5447a45c587e30ef792627e", func := "treadwheel/treadwheellaw03.WordsWords", spec := "wordsWords", inPlace := ["internal/bytealg.IndexByteString"], unfollowed := true, recurses := true, named := ["treadwheel/words.firsts"], apart := false, laid := [("treadwheel/words.firsts", laid_treadwheel_words_firsts)] }
def WordsWordsSaid : Prop := wordsWordsRow.holds Tryd.pinned (OpenSpec.ofChange wordsWordsSpec)

/-- ITS FALSE NEIGHBOUR: 'it returns false'. Refute it at one input. -/
def wordsWordsWrong : ChangeSpec := { name := "wordsWords", fn := fun _ => fun
  | [d] => { results := [.lit (.bool false)], args := [d] }
  | _ => none }
def WordsWordsWrongFalsely : Prop := wordsWordsRow.holds Tryd.pinned (OpenSpec.ofChange wordsWordsWrong)

/-- 'treadwheellaw03.WordsDigit': WHATEVER THE INPUT: true; the input reads as it did. -/
def wordsDigitSpec : ChangeSpec := { name := "wordsDigit", fn := fun _ => fun
  | [d] => { results := [.lit (.bool true)], args := [d] }
  | _ => none }
def wordsDigitRow : OpenClaim := { program := "ytdmijnjcgaoihaadoor", sum := "bc6caeb74d525211ccde60a1f8831217a403d634a5447a45c587e30ef792627e", func := "treadwheel/treadwheellaw03.WordsDigit", spec := "wordsDigit", inPlace := ["internal/bytealg.IndexByteString"], unfollowed := true, recurses := true, named := ["treadwheel/words.firsts"], apart := false, laid := [("treadwheel/words.firsts", laid_treadwheel_words_firsts)] }
def WordsDigitSaid : Prop := wordsDigitRow.holds Tryd.pinned (OpenSpec.ofChange wordsDigitSpec)

/-- ITS FALSE NEIGHBOUR: 'it returns false'. Refute it at one input. -/
def wordsDigitWrong : ChangeSpec := { name := "wordsDigit", fn := fun _ => fun
  | [d] => { results := [.lit (.bool false)], args := [d] }
  | _ => none }
def WordsDigitWrongFalsely : Prop := wordsDigitRow.holds Tryd.pinned (OpenSpec.ofChange wordsDigitWrong)

/-- 'treadwheellaw03.WordsNumber': WHATEVER THE INPUT: true; the input reads as it did. -/
def wordsNumberSpec : ChangeSpec := { name := "wordsNumber", fn := fun _ => fun
  | [d] => { results := [.lit (.bool true)], args := [d] }
  | _ => none }
def wordsNumberRow : OpenClaim := { program := "ytdmijnjcgaoihaadoor", sum := "bc6caeb74d525211ccde60a1f8831217a403d634a5447a45c587e30ef792627e", func := "treadwheel/treadwheellaw03.WordsNumber", spec := "wordsNumber", inPlace := ["internal/bytealg.IndexByteString"], unfollowed := true, recurses := true, named := ["treadwheel/words.firsts"], apart := false, laid := [("treadwheel/words.firsts", laid_treadwheel_words_firsts)] }
def WordsNumberSaid : Prop := wordsNumberRow.holds Tryd.pinned (OpenSpec.ofChange wordsNumberSpec)

/-- ITS FALSE NEIGHBOUR: 'it returns false'. Refute it at one input. -/
def wordsNumberWrong : ChangeSpec := { name := "wordsNumber", fn := fun _ => fun
  | [d] => { results := [.lit (.bool false)], args := [d] }
  | _ => none }
def WordsNumberWrongFalsely : Prop := wordsNumberRow.holds Tryd.pinned (OpenSpec.ofChange wordsNumberWrong)

/-- 'treadwheellaw03.WordsPrint': WHATEVER THE INPUT: true; the input reads as it did. -/
def wordsPrintSpec : ChangeSpec := { name := "wordsPrint", fn := fun _ => fun
  | [d1, d2] => { results := [.lit (.bool true)], args := [d1, d2] }
  | _ => none }
def wordsPrintRow : OpenClaim := { program := "ytdmijnjcgaoihaadoor", sum := "bc6caeb74d525211ccde60a1f8831217a403d634a5447a45c587e30ef792627e", func := "treadwheel/treadwheellaw03.WordsPrint", spec := "wordsPrint", inPlace := ["internal/bytealg.IndexByteString"], unfollowed := true, recurses := true, named := ["treadwheel/words.firsts"], apart := false, laid := [("treadwheel/words.firsts", laid_treadwheel_words_firsts)] }
def WordsPrintSaid : Prop := wordsPrintRow.holds Tryd.pinned (OpenSpec.ofChange wordsPrintSpec)

/-- ITS FALSE NEIGHBOUR: 'it returns false'. Refute it at one input. -/
def wordsPrintWrong : ChangeSpec := { name := "wordsPrint", fn := fun _ => fun
  | [d1, d2] => { results := [.lit (.bool false)], args := [d1, d2] }
  | _ => none }
def WordsPrintWrongFalsely : Prop := wordsPrintRow.holds Tryd.pinned (OpenSpec.ofChange wordsPrintWrong)

/-- 'treadwheellaw03.WordsKnown': WHATEVER THE INPUT: true; the input reads as it did. -/
def wordsKnownSpec : ChangeSpec := { name := "wordsKnown", fn := fun _ => fun
  | [] => { results := [.lit (.bool true)], args := [] }
  | _ => none }
def wordsKnownRow : OpenClaim := { program := "ytdmijnjcgaoihaadoor", sum := "bc6caeb74d525211ccde60a1f8831217a403d634a5447a45c587e30ef792627e", func := "treadwheel/treadwheellaw03.WordsKnown", spec := "wordsKnown", inPlace := ["internal/bytealg.IndexByteString"], unfollowed := true, recurses := true, named := ["treadwheel/words.firsts"], apart := false, laid := [("treadwheel/words.firsts", laid_treadwheel_words_firsts)] }
def WordsKnownSaid : Prop := wordsKnownRow.holds Tryd.pinned (OpenSpec.ofChange wordsKnownSpec)

/-- ITS FALSE NEIGHBOUR: 'it returns false'. Refute it at one input. -/
def wordsKnownWrong : ChangeSpec := { name := "wordsKnown", fn := fun _ => fun
  | [] => { results := [.lit (.bool false)], args := [] }
  | _ => none }
def WordsKnownWrongFalsely : Prop := wordsKnownRow.holds Tryd.pinned (OpenSpec.ofChange wordsKnownWrong)

/- THE SECOND FORM. 'bulk': how many values and letters a reading holds, each counted each time it is reached (what is shared counts as often as it is met; a slice's spare places count too). A statement '..UptoSaid' is the law's where the arguments, and the package variables that the reading takes, are together of bulk at most 1048576: NARROWER than '..Said'. Prove '..Said' where nothing that the law and all that it calls make is longer than what came in: it says more and counts as full. Else prove '..UptoSaid'. A law counts once. -/
mutual
def uptoBulk {H : Type} : DataW H → Nat
  | .lit (.string bytes) => bytes.length + 1
  | .lit _ => 1
  | .nil => 1
  | .ptr d => uptoBulk d + 1
  | .slice elems spare => uptoBulkAll elems + uptoBulkAll spare + 1
  | .agg parts => uptoBulkAll parts + 1
  | .iface _ d => uptoBulk d + 1
  | .map entries => uptoBulkEntries entries + 1
  | .held _ => 1
def uptoBulkAll {H : Type} : List (DataW H) → Nat
  | [] => 0
  | d :: r => uptoBulk d + uptoBulkAll r
def uptoBulkEntries {H : Type} : List (Lit × DataW H) → Nat
  | [] => 0
  | x :: r => uptoBulkEntry x + uptoBulkEntries r
def uptoBulkEntry {H : Type} : Lit × DataW H → Nat
  | (.string bytes, d) => bytes.length + uptoBulk d + 1
  | (_, d) => uptoBulk d + 1
 end
def uptoSmall : (H : Type) → List (DataW H) → Bool := fun _ ds => decide (uptoBulkAll ds ≤ 1048576)
def OpenSpec.upto (s : _root_.Go.ChangeSpec) : _root_.Go.OpenSpec := { _root_.Go.OpenSpec.ofChange s with cond := some uptoSmall }

/-- 'treadwheellaw03.WordsLines', WHERE WHAT IT READS IS OF BULK AT MOST 1048576: true; the input reads as it did. -/
def wordsLinesUptoRow : OpenClaim := { program := "ytdmijnjcgaoihaadoor", sum := "bc6caeb74d525211ccde60a1f8831217a403d634a5447a45c587e30ef792627e", func := "treadwheel/treadwheellaw03.WordsLines", spec := "wordsLines", inPlace := ["internal/bytealg.IndexByteString"], unfollowed := true, recurses := true, named := ["treadwheel/words.firsts"], apart := false, laid := [("treadwheel/words.firsts", laid_treadwheel_words_firsts)], narrowed := true }
def WordsLinesUptoSaid : Prop := wordsLinesUptoRow.holds Tryd.pinned (OpenSpec.upto wordsLinesSpec)

/-- 'treadwheellaw03.WordsWords', WHERE WHAT IT READS IS OF BULK AT MOST 1048576: true; the input reads as it did. -/
def wordsWordsUptoRow : OpenClaim := { program := "ytdmijnjcgaoihaadoor", sum := "bc6caeb74d525211ccde60a1f8831217a403d634a5447a45c587e30ef792627e", func := "treadwheel/treadwheellaw03.WordsWords", spec := "wordsWords", inPlace := ["internal/bytealg.IndexByteString"], unfollowed := true, recurses := true, named := ["treadwheel/words.firsts"], apart := false, laid := [("treadwheel/words.firsts", laid_treadwheel_words_firsts)], narrowed := true }
def WordsWordsUptoSaid : Prop := wordsWordsUptoRow.holds Tryd.pinned (OpenSpec.upto wordsWordsSpec)

/-- 'treadwheellaw03.WordsDigit', WHERE WHAT IT READS IS OF BULK AT MOST 1048576: true; the input reads as it did. -/
def wordsDigitUptoRow : OpenClaim := { program := "ytdmijnjcgaoihaadoor", sum := "bc6caeb74d525211ccde60a1f8831217a403d634a5447a45c587e30ef792627e", func := "treadwheel/treadwheellaw03.WordsDigit", spec := "wordsDigit", inPlace := ["internal/bytealg.IndexByteString"], unfollowed := true, recurses := true, named := ["treadwheel/words.firsts"], apart := false, laid := [("treadwheel/words.firsts", laid_treadwheel_words_firsts)], narrowed := true }
def WordsDigitUptoSaid : Prop := wordsDigitUptoRow.holds Tryd.pinned (OpenSpec.upto wordsDigitSpec)

/-- 'treadwheellaw03.WordsNumber', WHERE WHAT IT READS IS OF BULK AT MOST 1048576: true; the input reads as it did. -/
def wordsNumberUptoRow : OpenClaim := { program := "ytdmijnjcgaoihaadoor", sum := "bc6caeb74d525211ccde60a1f8831217a403d634a5447a45c587e30ef792627e", func := "treadwheel/treadwheellaw03.WordsNumber", spec := "wordsNumber", inPlace := ["internal/bytealg.IndexByteString"], unfollowed := true, recurses := true, named := ["treadwheel/words.firsts"], apart := false, laid := [("treadwheel/words.firsts", laid_treadwheel_words_firsts)], narrowed := true }
def WordsNumberUptoSaid : Prop := wordsNumberUptoRow.holds Tryd.pinned (OpenSpec.upto wordsNumberSpec)

/-- 'treadwheellaw03.WordsPrint', WHERE WHAT IT READS IS OF BULK AT MOST 1048576: true; the input reads as it did. -/
def wordsPrintUptoRow : OpenClaim := { program := "ytdmijnjcgaoihaadoor", sum := "bc6caeb74d525211ccde60a1f8831217a403d634a5447a45c587e30ef792627e", func := "treadwheel/treadwheellaw03.WordsPrint", spec := "wordsPrint", inPlace := ["internal/bytealg.IndexByteString"], unfollowed := true, recurses := true, named := ["treadwheel/words.firsts"], apart := false, laid := [("treadwheel/words.firsts", laid_treadwheel_words_firsts)], narrowed := true }
def WordsPrintUptoSaid : Prop := wordsPrintUptoRow.holds Tryd.pinned (OpenSpec.upto wordsPrintSpec)

/-- 'treadwheellaw03.WordsKnown', WHERE WHAT IT READS IS OF BULK AT MOST 1048576: true; the input reads as it did. -/
def wordsKnownUptoRow : OpenClaim := { program := "ytdmijnjcgaoihaadoor", sum := "bc6caeb74d525211ccde60a1f8831217a403d634a5447a45c587e30ef792627e", func := "treadwheel/treadwheellaw03.WordsKnown", spec := "wordsKnown", inPlace := ["internal/bytealg.IndexByteString"], unfollowed := true, recurses := true, named := ["treadwheel/words.firsts"], apart := false, laid := [("treadwheel/words.firsts", laid_treadwheel_words_firsts)], narrowed := true }
def WordsKnownUptoSaid : Prop := wordsKnownUptoRow.holds Tryd.pinned (OpenSpec.upto wordsKnownSpec)

end Rows
end Go.Proofs.YtdmijnjcgaoihaaDoor
