/- What the program's table says of the type string. Walk of words.Words. Walk of the reference's Words. -/
import Derived.Test.YtggegefeagkhkaaDoorRows
import Derived.WalkKit
import Derived.Test.YtggegefeagkhkaaDoorWordsA
import Derived.Test.YtggegefeagkhkaaDoorWordsT
import Derived.Test.YtggegefeagkhkaaDoorMem
import Derived.Test.YtggegefeagkhkaaDoorShelf
import Derived.Lib.OthersKept
import Derived.Deep.LoopGhost
import Derived.Deep.DeepMust
import Derived.Test.YtggegefeagkhkaaDoorWordsE
namespace Go.Proofs.YtggegefeagkhkaaDoor
theorem info9 : (Tryd.prog.info? 9).map (fun i => (i.zero, i.size, i.bytes)) = some (some (.string ⟨#[]⟩), 1, 16) := by kernel_rfl
end Go.Proofs.YtggegefeagkhkaaDoor
namespace Go.Proofs.YtggegefeagkhkaaDoor
open Go.RowKit

/-- what Words hands back: the words, or none and an error -/
def WPost (res : Option (List ByteArray)) (w : World) (e : Ending) (w' : World) : Prop :=
  ∃ v, e = .returned (.tuple #[v, .int .i64 (if res.isSome then 0 else 30)]) ∧ w'.ownsRow w.heap.size 9 1 v (res.getD []).length ((res.getD []).map Value.string) ∧ Below w.heap.size w w'

theorem w_some {o : Option (List ByteArray)} {w w' : World} {e : Ending} {res : List ByteArray} {v : Value} (h : o = some res) (he : e = .returned (.tuple #[v, .int .i64 0]))
    (hown : w'.ownsRow w.heap.size 9 1 v res.length (res.map Value.string)) (hB : Below w.heap.size w w') : WPost o w e w' := by
  subst h; exact ⟨v, he, hown, hB⟩
theorem w_none {o : Option (List ByteArray)} {w w' : World} {e : Ending} (h : o = none) (he : e = .returned (.tuple #[.slice none 0 0, .int .i64 30])) (hB : Below w.heap.size w w') : WPost o w e w' := by
  subst h; exact ⟨_, he, World.ownsRow_nil _ _ _ _, hB⟩
theorem i32_eq {a : Nat} {b : Int} (h : ¬ (a : Int) = b) : ((a : Int) == b) = false := by rw [beq_eq_false_iff_ne]; exact h

end Go.Proofs.YtggegefeagkhkaaDoor
namespace Go.Proofs.YtggegefeagkhkaaDoor
open Go.RowKit

theorem cellsB_at3 (l : List (Nat × Nat)) (i : Nat) (r n : Nat) (h : l[i]? = some (r, n)) :
    (cellsB l)[i * 3]? = some (.int .i32 r) ∧ (cellsB l)[i * 3 + 1]? = some (.int .i64 n) ∧ (cellsB l)[i * 3 + 2]? = some (.bool (isBroken (r, n))) := by
  have hlt := (List.getElem?_eq_some_iff.1 h).1
  have h1 : l = l.take (i + 1) ++ l.drop (i + 1) := (List.take_append_drop _ _).symm
  have h2 : l.take (i + 1) = l.take i ++ [(r, n)] := by rw [List.take_add_one, h]; rfl
  have hl : (cellsB (l.take i)).length = i * 3 := by rw [cellsB_length, List.length_take]; omega
  have h3 : cellsB l = cellsB (l.take i) ++ (.int .i32 r :: .int .i64 n :: .bool (isBroken (r, n)) :: cellsB (l.drop (i + 1))) := by
    conv => lhs; rw [h1, h2]
    simp [cellsB, cellB]
  rw [h3]
  refine ⟨?_, ?_, ?_⟩ <;> rw [List.getElem?_append_right (by omega), hl]
  · simp
  · rw [show i * 3 + 1 - i * 3 = 1 by omega]; rfl
  · rw [show i * 3 + 2 - i * 3 = 2 by omega]; rfl

/-- the widths of a row of characters, added up -/
def wsum (l : List (Nat × Nat)) : Nat := (l.map (·.2)).sum
theorem chsFrom_fits (s : ByteArray) : ∀ f pos, pos ≤ s.size → pos + wsum (chsFrom s f pos) ≤ s.size := by
  intro f
  induction f with
  | zero => intro pos h; simpa [chsFrom, wsum] using h
  | succ f ih =>
    intro pos h
    unfold chsFrom
    split
    · rename_i hp
      have h1 := dec_fits s pos hp
      have h2 := ih (pos + (Utf8.decode s pos).2) h1
      simp only [wsum, List.map_cons, List.sum_cons] at h2 ⊢
      omega
    · simpa [wsum] using h
theorem chs_fits (s : ByteArray) : wsum (chs s) ≤ s.size := by
  have := chsFrom_fits s s.size 0 (Nat.zero_le _)
  unfold chs; omega
theorem wsum_drop (l : List (Nat × Nat)) (k r n : Nat) (h : l[k]? = some (r, n)) : wsum (l.drop k) = n + wsum (l.drop (k + 1)) := by
  obtain ⟨h1, h2⟩ := List.getElem?_eq_some_iff.1 h
  rw [List.drop_eq_getElem_cons h1, h2]
  simp [wsum]

theorem empty_of_size {word : ByteArray} (hw0 : word.size = 0) : word = ByteArray.empty := by
  cases word with
  | mk d => simp [ByteArray.size] at hw0; subst hw0; rfl
theorem word_isEmpty {word : ByteArray} (hw0 : ¬ word.size = 0) : word.toList.isEmpty = false := by
  rw [ByteArray.toList_eq]
  cases h : word.data.toList with
  | nil => exfalso; apply hw0; simp [ByteArray.size, Array.toList_eq_nil_iff.1 h]
  | cons _ _ => rfl

end Go.Proofs.YtggegefeagkhkaaDoor
