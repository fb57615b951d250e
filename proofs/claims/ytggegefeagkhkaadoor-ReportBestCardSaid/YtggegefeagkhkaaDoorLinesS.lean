/- Plain lines: what the reference's Lines gathers, as it goes. No program stands in this text. -/
import Derived.Laws.RangeAny
import Derived.Lib.Strings
import Derived.Lib.Bytealg
import Derived.Lib.IndexLaws
namespace Go.Proofs.YtggegefeagkhkaaDoor

def bt (s : ByteArray) (i : Nat) : Nat := (s.get! i).toNat
theorem bt_lt (s : ByteArray) (i : Nat) (h : i < s.size) : bt s i = (s[i]'h).toNat := by
  unfold bt
  rw [show s.get! i = s[i]'h from get_at s i h]
/-- the reference's road: at place i, a line from 'fr' on is open -/
def linR (s : ByteArray) : Nat → Nat → Nat → List ByteArray → List ByteArray
  | 0, _, _, acc => acc
  | f + 1, i, fr, acc =>
    if (i < s.size ∧ bt s i ≠ 10) ∨ (i = s.size ∧ fr = i) then linR s f (i + 1) fr acc
    else linR s f (i + 1) (i + 1) (acc ++ [s.extract fr (if fr < i ∧ bt s (i - 1) = 13 then i - 1 else i)])
def linesR (s : ByteArray) : List ByteArray := linR s (s.size + 1) 0 0 []

/-- strings.Lines: the lines, each with its byte 10 -/
def lns : Nat → ByteArray → List ByteArray
  | 0, _ => []
  | f + 1, s =>
    if s.size = 0 then []
    else if 0 ≤ Lib.indexByte s.data.toList 10 then s.extract 0 ((Lib.indexByte s.data.toList 10).toNat + 1) :: lns f (s.extract ((Lib.indexByte s.data.toList 10).toNat + 1) s.size)
    else [s]
/-- words.Lines' cut of a line's end -/
def chop (s : ByteArray) : ByteArray := ⟨(Lib.trimSuffix (Lib.trimSuffix s.data.toList [10]) [13]).toArray⟩
def linesP (s : ByteArray) : List ByteArray := (lns s.size s).map chop
theorem lns_nil (f : Nat) (s : ByteArray) (h : s.size = 0) : lns f s = [] := by
  cases f with
  | zero => rfl
  | succ f => simp [lns, h]
theorem index_lt (s : ByteArray) (k : Nat) (h : Lib.indexByte s.data.toList 10 = k) : k < s.size := by
  have := (Lib.indexByte_some h).1
  rw [Lib.size_eq]
  exact (List.getElem?_eq_some_iff.1 this).1
end Go.Proofs.YtggegefeagkhkaaDoor
