/- What the program's table says of the type string. Walk of words.Words. -/
import Derived.Test.YtggegefeagkhkaaDoorRows
import Derived.WalkKit
import Derived.Test.YtggegefeagkhkaaDoorWordsA
import Derived.Test.YtggegefeagkhkaaDoorWordsT
import Derived.Test.YtggegefeagkhkaaDoorMem
import Derived.Test.YtggegefeagkhkaaDoorShelf
import Derived.Lib.OthersKept
import Derived.Deep.LoopGhost
import Derived.Deep.DeepMust
namespace Go.Proofs.YtggegefeagkhkaaDoor
theorem info9 : (Tryd.prog.info? 9).map (fun i => (i.zero, i.size, i.bytes)) = some (some (.string ⟨#[]⟩), 1, 16) := by kernel_rfl
end Go.Proofs.YtggegefeagkhkaaDoor
namespace Go.Proofs.YtggegefeagkhkaaDoor
open Go.RowKit

/-- what Words hands back: the words, or none and an error -/
def WPost (res : Option (List ByteArray)) (w : World) (e : Ending) (w' : World) : Prop :=
  ∃ v, e = .returned (.tuple #[v, .int .i64 (if res.isSome then 0 else 30)]) ∧ w'.ownsRow w.heap.size 9 1 v (res.getD []).length ((res.getD []).map Value.string) ∧ Below w.heap.size w w'

theorem w_some {o : Option (List ByteArray)} {w w' : World} {e : Ending} {res : List ByteArray} {v : Value} (h : o = some res) (he : e = .returned (.tuple #[v, .int .i64 0]))
    (hown : w'.ownsRow w.heap.size 9 1 v res.length (res.map Value.string)) (hB : Below w.heap.size w w') : WPost o w e w' := by
  subst h; exact ⟨v, he, hown, hB⟩
theorem w_none {o : Option (List ByteArray)} {w w' : World} {e : Ending} (h : o = none) (he : e = .returned (.tuple #[.slice none 0 0, .int .i64 30])) (hB : Below w.heap.size w w') : WPost o w e w' := by
  subst h; exact ⟨_, he, World.ownsRow_nil _ _ _ _, hB⟩
theorem i32_eq {a : Nat} {b : Int} (h : ¬ (a : Int) = b) : ((a : Int) == b) = false := by rw [beq_eq_false_iff_ne]; exact h

end Go.Proofs.YtggegefeagkhkaaDoor
