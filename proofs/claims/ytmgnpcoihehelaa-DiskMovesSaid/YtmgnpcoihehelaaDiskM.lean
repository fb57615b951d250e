/- Memory words for the disk: a disk of files as it lies in memory, and what a call of it leaves. -/
import Derived.Test.YtmgnpcoihehelaaMem
import Derived.Test.YtmgnpcoihehelaaRows
import Derived.WalkKit
import Derived.WalkLawsBesides
import Derived.WalkSpells
import Derived.BigQuiet
import Derived.Deep.QuietTactic
import Derived.Lib.Hide
import Derived.Outline
namespace Go.Proofs.Ytmgnpcoihehelaa
open Go.RowKit

/-- a file: its name, its bytes, how many of them are safe -/
structure FileD where
  name : ByteArray
  b : ByteArray
  safe : Int
/-- a disk -/
structure DiskD where
  files : List FileD
  quota : Int
  steps : Int
  left : Int
  off : Bool
/-- a []byte that reads as so many bytes, out of a block of bytes -/
def Bt (w : World) (v : Value) (s : ByteArray) : Prop :=
  ∃ A c, v = .slice A s.size c ∧ s.size ≤ c ∧ (0 < s.size → ∃ blk off cs fz, A = some ⟨blk, off, none⟩ ∧ w.heap[blk]? = some (.cells cs 5 fz) ∧ ∀ j, j < s.size → cs[off + j]? = some (.int .u8 ((s.get! j).toNat : Int)))
/-- a file's three cells -/
def fcells (x : FileD × Value) : List Value := [.string x.1.name, x.2, .int .i64 x.1.safe]
def rcells (l : List (FileD × Value)) : List Value := l.flatMap fcells
theorem rcells_length (l : List (FileD × Value)) : (rcells l).length = l.length * 3 := by
  induction l with
  | nil => rfl
  | cons c l ih => simp only [rcells, List.flatMap_cons, List.length_append] at ih ⊢; rw [ih]; simp [fcells]; omega
/-- a row of files, with the values of their bytes -/
def RowD (w : World) (base : Nat) (v : Value) (rows : List (FileD × Value)) : Prop :=
  w.ownsRow base 61 3 v rows.length (rcells rows) ∧ ∀ x ∈ rows, Bt w x.2 x.1.b
/-- the disk at a place -/
def DiskIs (w : World) (base p : Nat) (v : Value) (D : DiskD) : Prop :=
  base ≤ p ∧ Blk w p 56 #[v, .int .i64 D.quota, .int .i64 D.steps, .int .i64 D.left, .bool D.off] ∧ ∃ rows, rows.map (·.1) = D.files ∧ RowD w base v rows
/-- what a call of a disk leaves: all but its own place and its own row -/
structure Moved (w w' : World) (p : Nat) (g : Option Nat) : Prop where
  os : w'.os = w.os
  tape : w'.tape = w.tape
  output : w'.output = w.output
  size : w.heap.size ≤ w'.heap.size
  block : ∀ k, k < w.heap.size → k ≠ p → some k ≠ g → w'.heap[k]? = w.heap[k]?
set_option maxHeartbeats 1000000 in
theorem steps_any (w : World) (base p : Nat) (v : Value) (D : DiskD) (h : DiskIs w base p v D) :
    Calls Try.prog 17 #[.pointer (some ⟨p, 0, none⟩)] w fun e w' => e = .returned (.int .i64 D.steps) ∧ w' = w := by
  obtain ⟨_, hb, _⟩ := h
  have c2 := hb.cell 2
  simp only [List.getElem?_toArray, List.getElem?_cons_zero, List.getElem?_cons_succ] at c2
  go_enter Try.func17, Try.ntmps17
  go_wp2
  go_ret
  exact ⟨rfl, rfl⟩
end Go.Proofs.Ytmgnpcoihehelaa
