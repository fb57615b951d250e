/- Plain words: what the reference's Words and the program's Words gather. No program stands in this text. -/
import Derived.Test.YtggegefeagkhkaaDoorWordsS
import Derived.Lib.Strings
namespace Go.Proofs.YtggegefeagkhkaaDoor

def ctl (r : Nat) : Bool := (decide (r < 32) && r != 9) || r == 127
def blankN (r : Nat) : Bool := r == 32 || r == 9 || r == 160
def push1 (acc : List ByteArray) (word : ByteArray) : List ByteArray := if word.size = 0 then acc else acc ++ [word]
/-- the reference's road over the characters -/
def wrdR (s : ByteArray) : List (Nat × Nat) → Nat → ByteArray → List ByteArray → Option (List ByteArray)
  | [], _, word, acc => some (push1 acc word)
  | c :: cs, at_, word, acc =>
    if c.1 = 35 then some (push1 acc word)
    else if isBroken c = true ∨ ctl c.1 = true then none
    else if blankN c.1 = true then wrdR s cs (at_ + c.2) ByteArray.empty (push1 acc word)
    else wrdR s cs (at_ + c.2) (word ++ s.extract at_ (at_ + c.2)) acc
def wordsR (s : ByteArray) : Option (List ByteArray) := wrdR s (chs s) 0 ByteArray.empty []

/-- does U+FFFD stand there, well spelt? -/
def pfx (s : ByteArray) (pos : Nat) : Bool := Lib.hasPrefix (s.extract pos s.size).data.toList [239, 191, 189]
/-- the program's look: where the words end -/
def scanP (s : ByteArray) : Nat → Nat → Option Nat
  | 0, _ => some s.size
  | f + 1, pos =>
    if pos < s.size then
      (if (Utf8.decode s pos).1 = 35 then some pos
       else if ((Utf8.decode s pos).1 = 65533 ∧ pfx s pos = false) ∨ ctl (Utf8.decode s pos).1 = true then none
       else scanP s f (pos + (Utf8.decode s pos).2))
    else some s.size
theorem scanP_end (s : ByteArray) (f pos : Nat) (h : ¬ pos < s.size) : scanP s f pos = some s.size := by
  cases f with
  | zero => rfl
  | succ f => rw [scanP, if_neg h]
def wordsP (s : ByteArray) : Option (List ByteArray) := (scanP s s.size 0).map fun e => Lib.goFieldsP blankN (s.extract 0 e)
end Go.Proofs.YtggegefeagkhkaaDoor
