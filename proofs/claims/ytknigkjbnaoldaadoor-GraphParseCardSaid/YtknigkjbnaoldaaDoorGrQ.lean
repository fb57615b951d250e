/- Both Parses answer alike; what the examples of 'works' are. -/
import Derived.Test.YtknigkjbnaoldaaDoorGrM
import Derived.Test.YtknigkjbnaoldaaDoorGrU
import Derived.Test.YtknigkjbnaoldaaDoorGrP
namespace Go.Proofs.YtknigkjbnaoldaaDoor
open Go.RowKit

/-- the document's graph of a text, the line that is wrong, and the error -/
def docG (s : ByteArray) : Gr × Nat × Int := textL wordsP (lineR numW) (linesP s)
theorem parse_doc (s : ByteArray) (w : World) (hs : s.size ≤ 262144) (hF : Firsts w) :
    Calls Tryd.prog 10 #[.string s] w (RParseP w (docG s)) := by
  refine (parse_any s w hs hF).mono ?_
  rintro R w' ⟨hb, A, c, l, hR, hc, ho, hso, hp⟩
  obtain ⟨h1, h2⟩ := text_rel numW wordsP (linesP s)
  have hl : l = (docG s).1.2 := rel_sorted h2 hso hp
  subst hl
  refine ⟨hb, A, c, ?_, hc, ho⟩
  rw [hR]
  have e1 : (textL wordsP (lineP numW) (linesP s)).1.1 = (docG s).1.1 := h2.n
  have e2 : (textL wordsP (lineP numW) (linesP s)).2 = (docG s).2 := h1
  rw [e1, e2]
theorem rparse_doc (s : ByteArray) (w : World) (hs : s.size ≤ 262144) :
    Calls Tryd.prog 11 #[.string s] w (RParseP w (docG s)) := rparse_any s w hs
def x1T : ByteArray := ⟨#[118, 101, 114, 116, 105, 99, 101, 115, 32, 51, 10, 98, 111, 116, 104, 32, 48, 32, 50, 32, 53, 10, 101, 100, 103, 101, 32, 49, 32, 48, 10]⟩
def x2T : ByteArray := ⟨#[118, 101, 114, 116, 105, 99, 101, 115, 32, 50, 10, 101, 100, 103, 101, 32, 48, 32, 49, 10, 101, 100, 103, 101, 32, 48, 32, 49, 32, 57]⟩
def x3T : ByteArray := ⟨#[118, 101, 114, 116, 105, 99, 101, 115, 32, 50, 10, 101, 100, 103, 101, 32, 48, 32, 50]⟩
def x5T : ByteArray := ⟨#[118, 101, 114, 116, 105, 99, 101, 115, 32, 51, 10, 101, 100, 103, 101, 32, 48, 32, 50, 32, 53, 10, 101, 100, 103, 101, 32, 49, 32, 48, 32, 49, 10, 101, 100, 103, 101, 32, 50, 32, 48, 32, 53, 10]⟩
theorem x1 : docG x1T = ((3, [(0, 2, 5), (1, 0, 1), (2, 0, 5)]), 0, 0) := by decide +kernel
theorem x2 : docG x2T = ((0, []), 3, 41) := by decide +kernel
theorem x3 : docG x3T = ((0, []), 2, 41) := by decide +kernel
theorem x4 : docG ⟨#[]⟩ = ((0, []), 1, 41) := by decide +kernel
theorem x5 : printE (3, [(0, 2, 5), (1, 0, 1), (2, 0, 5)]) = x5T := by decide +kernel
theorem x6 : checkL (3, [(0, 2, 5), (1, 0, 1), (2, 0, 5)]) = 0 := by decide +kernel
theorem x7 : outL [(0, 2, 5), (1, 0, 1), (2, 0, 5)] 0 = [(0, 2, 5)] := by decide +kernel
theorem x8 : backL [(0, 2, 5), (1, 0, 1), (2, 0, 5)] 0 = [(1, 0, 1), (2, 0, 5)] := by decide +kernel
theorem run_eql_edg (a b c a' b' c' : Int) (w : World) : (binOp .eql 35 (.agg #[.int .i64 a, .int .i64 b, .int .i64 c]) (.agg #[.int .i64 a', .int .i64 b', .int .i64 c'])).run Tryd.prog w = .ok (.bool (a == a' && b == b' && c == c')) w := by
  rw [run_eql_struct, run_equalIn_agg _ _ _ _ _ edg_struct edg_plain]
  cases h1 : a == a' <;> cases h2 : b == b' <;> cases h3 : c == c' <;> simp [go_sem, h1, h2, h3]
end Go.Proofs.YtknigkjbnaoldaaDoor
