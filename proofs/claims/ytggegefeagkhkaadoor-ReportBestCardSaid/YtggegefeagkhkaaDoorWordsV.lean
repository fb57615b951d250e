/- The contracts of layer 3 in the form in which callers take them. -/
import Derived.Test.YtggegefeagkhkaaDoorPk16
import Derived.Test.YtggegefeagkhkaaDoorWordsF
import Derived.Test.YtggegefeagkhkaaDoorPk19
import Derived.Test.YtggegefeagkhkaaDoorLinesC
namespace Go.Proofs.YtggegefeagkhkaaDoor
open Go.RowKit

/-- a row of strings as it is handed back -/
def Gives (l : List ByteArray) (w : World) (e : Ending) (w' : World) : Prop :=
  ∃ A c, e = .returned (.slice A l.length c) ∧ Rd w' 1 A l.length (l.map Value.string) ∧ Below w.heap.size w w'
theorem gives_of_own {l : List ByteArray} {w w' : World} {e : Ending} {v : Value} (he : e = .returned v) (ho : w'.ownsRow w.heap.size 9 1 v l.length (l.map Value.string)) (hB : Below w.heap.size w w') : Gives l w e w' := by
  obtain ⟨A, c, rfl⟩ := own_shape ho
  exact ⟨A, c, he, Rd.of_own ho, hB⟩
theorem linesP_rd (s : ByteArray) (w : World) (hs : s.size ≤ 4294967296) : Calls Tryd.prog 40 #[.string s] w (Gives (linesP s) w) :=
  (linesP_any s w hs).mono fun _ _ ⟨_, he, ho, hB⟩ => gives_of_own he ho hB
theorem linesR_rd (s : ByteArray) (w : World) (hs : s.size ≤ 4294967296) : Calls Tryd.prog 44 #[.string s] w (Gives (linesR s) w) :=
  (linesR_any s w hs).mono fun _ _ ⟨_, he, ho, hB⟩ => gives_of_own he ho hB
/-- words, or none and an error -/
def GivesW (o : Option (List ByteArray)) (w : World) (e : Ending) (w' : World) : Prop :=
  ∃ A c, e = .returned (.tuple #[.slice A (o.getD []).length c, .int .i64 (if o.isSome then 0 else 30)]) ∧ Rd w' 1 A (o.getD []).length ((o.getD []).map Value.string) ∧ Below w.heap.size w w'
theorem givesW_of {o : Option (List ByteArray)} {w w' : World} {e : Ending} (h : WPost o w e w') : GivesW o w e w' := by
  obtain ⟨v, he, ho, hB⟩ := h
  obtain ⟨A, c, rfl⟩ := own_shape ho
  exact ⟨A, c, he, Rd.of_own ho, hB⟩
theorem number_at (s : ByteArray) (a b : Int) (w : World) (hs : s.size ≤ 4294967296) (hF : Firsts w) (h : numP (runes s) = (a, b)) :
    Calls Tryd.prog 58 #[.string s] w fun e w' => e = .returned (.tuple #[.int .i64 a, .int .i64 b]) ∧ Below w.heap.size w w' := by
  have := number_any s w (by omega) hF
  rwa [h] at this
theorem print_at (n k : Int) (s : ByteArray) (w : World) (h1 : -9223372036854775808 ≤ n) (h2 : n ≤ 9223372036854775807) (hF : Firsts w) (h : printOf n k = s) :
    Calls Tryd.prog 34 #[.int .i64 n, .int .i64 k] w fun e w' => e = .returned (.string s) ∧ Below w.heap.size w w' := by
  refine (print_any n k w h1 h2 hF).mono ?_
  rintro e w' ⟨he, q, rfl⟩
  exact ⟨by rw [he, h], below_drewN (Below.refl _ _) q⟩
/-- a row of strings that was just laid -/
theorem rd_new (w : World) (l : List ByteArray) (t : TypeId) (g : Nat) (hg : w.heap.size = g) : Rd (w.alloc (.cells (l.map Value.string).toArray t)) 1 (some ⟨g, 0, none⟩) l.length (l.map Value.string) := by
  refine ⟨by simp, fun _ => ⟨_, rfl, by simp [← hg], fun j u hu => ?_⟩⟩
  exact cells_new w _ t g hg j u hu
end Go.Proofs.YtggegefeagkhkaaDoor
