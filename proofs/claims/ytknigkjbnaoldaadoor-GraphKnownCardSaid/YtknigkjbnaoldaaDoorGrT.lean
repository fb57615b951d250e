/- Graphs in plain words: what a line says, what a text says, by both programs. No program stands in this text. -/
import Derived.Test.YtknigkjbnaoldaaDoorGrS
namespace Go.Proofs.YtknigkjbnaoldaaDoor

def wVertices : ByteArray := ⟨#[118, 101, 114, 116, 105, 99, 101, 115]⟩
def wEdge : ByteArray := ⟨#[101, 100, 103, 101]⟩
def wBoth : ByteArray := ⟨#[98, 111, 116, 104]⟩
section
variable (num : ByteArray → Int × Int)
/-- the program's number of a word, below a bound; -1: none -/
def numB (w : ByteArray) (below : Int) : Int := if (num w).2 ≠ 0 ∨ below ≤ (num w).1 then -1 else (num w).1
/-- a graph: vertices, edges -/
abbrev Gr := Int × List Edg
def edgeP (n : Int) (l : List Edg) (both : Bool) (e : Edg) : Option Gr :=
  match addP n l e with
  | none => none
  | some l1 => if both = true ∧ e.1 ≠ e.2.1 then (addP n l1 (e.2.1, e.1, e.2.2)).map fun l2 => (n, l2) else some (n, l1)
def edgeR (n : Int) (l : List Edg) (both : Bool) (e : Edg) : Option Gr :=
  match addR n l e with
  | none => none
  | some l1 => if both = true ∧ e.1 ≠ e.2.1 then (addR n l1 (e.2.1, e.1, e.2.2)).map fun l2 => (n, l2) else some (n, l1)
/-- what the program makes of a line's words -/
def lineP (g : Gr) (w : List ByteArray) : Option Gr :=
  if g.1 = 0 then
    match w with
    | [a, b] => if a = wVertices ∧ 0 < numB num b 513 then some (numB num b 513, g.2) else none
    | _ => none
  else
    match w with
    | [a, b, c] => if a = wEdge ∨ a = wBoth then edgeP g.1 g.2 (decide (a = wBoth)) (numB num b 512, numB num c 512, 1) else none
    | [a, b, c, d] => if a = wEdge ∨ a = wBoth then edgeP g.1 g.2 (decide (a = wBoth)) (numB num b 512, numB num c 512, numB num d 2147483648) else none
    | _ => none
/-- what the reference makes of them -/
def lineR (g : Gr) (w : List ByteArray) : Option Gr :=
  if g.1 = 0 then
    match w with
    | [a, b] => if a = wVertices ∧ (num b).2 = 0 ∧ 1 ≤ (num b).1 ∧ (num b).1 ≤ 512 then some ((num b).1, g.2) else none
    | _ => none
  else
    match w with
    | [a, b, c] => if (a = wEdge ∨ a = wBoth) ∧ (num b).2 = 0 ∧ (num c).2 = 0 ∧ (num b).1 < 512 ∧ (num c).1 < 512 then edgeR g.1 g.2 (decide (a = wBoth)) ((num b).1, (num c).1, 1) else none
    | [a, b, c, d] => if (a = wEdge ∨ a = wBoth) ∧ (num b).2 = 0 ∧ (num c).2 = 0 ∧ (num d).2 = 0 ∧ (num b).1 < 512 ∧ (num c).1 < 512 then edgeR g.1 g.2 (decide (a = wBoth)) ((num b).1, (num c).1, (num d).1) else none
    | _ => none
/-- two graphs, the program's as it comes, the reference's in order -/
structure GrRel (a b : Gr) : Prop where
  n : a.1 = b.1
  perm : b.2.Perm a.2
  sorted : SortedE b.2
  few : a.2.length ≤ 8192
theorem addP_perm {n : Int} {l m : List Edg} (h : m.Perm l) (e : Edg) : (addP n l e = none ↔ addP n m e = none) := by
  unfold addP
  have h1 : l.any (sameE e) = m.any (sameE e) := by
    rw [Bool.eq_iff_iff, List.any_eq_true, List.any_eq_true]
    exact ⟨fun ⟨x, hx, hs⟩ => ⟨x, h.mem_iff.2 hx, hs⟩, fun ⟨x, hx, hs⟩ => ⟨x, h.mem_iff.1 hx, hs⟩⟩
  rw [h1, h.length_eq]
  split <;> simp
theorem addP_some {n : Int} {l l1 : List Edg} {e : Edg} (h : addP n l e = some l1) : l1 = l ++ [e] ∧ l.length ≠ 8192 := by
  unfold addP at h
  split at h
  · cases h
  · rename_i hn
    injection h with h
    exact ⟨h.symm, fun h8 => hn (.inr (.inr h8))⟩
theorem add_rel {a b : Gr} (h : GrRel a b) (e : Edg) : (addP a.1 a.2 e = none ∧ addR b.1 b.2 e = none) ∨ ∃ l m, addP a.1 a.2 e = some l ∧ addR b.1 b.2 e = some m ∧ GrRel (a.1, l) (b.1, m) := by
  rcases addR_sorted (n := b.1) (e := e) h.sorted (by rw [h.perm.length_eq]; exact h.few) with ⟨h1, h2⟩ | ⟨m, h1, h2, h3, h4, h5⟩
  · exact .inl ⟨by rw [h.n]; exact (addP_perm h.perm e).2 h1, h2⟩
  · cases hp : addP a.1 a.2 e with
    | none =>
      rw [h.n] at hp
      rw [(addP_perm h.perm e).1 hp] at h1
      cases h1
    | some l =>
      obtain ⟨rfl, hl8⟩ := addP_some hp
      have hf := h.few
      exact .inr ⟨_, m, rfl, h2, h.n, h4.trans (h.perm.append_right [e]), h3, by simp only [List.length_append, List.length_singleton]; omega⟩
theorem edge_rel {a b : Gr} (h : GrRel a b) (both : Bool) (e : Edg) : (edgeP a.1 a.2 both e = none ∧ edgeR b.1 b.2 both e = none) ∨ ∃ a' b', edgeP a.1 a.2 both e = some a' ∧ edgeR b.1 b.2 both e = some b' ∧ GrRel a' b' := by
  unfold edgeP edgeR
  rcases add_rel h e with ⟨h1, h2⟩ | ⟨l, m, h1, h2, h3⟩
  · rw [h1, h2]; exact .inl ⟨rfl, rfl⟩
  · rw [h1, h2]
    dsimp only
    split
    · rcases add_rel h3 (e.2.1, e.1, e.2.2) with ⟨g1, g2⟩ | ⟨l', m', g1, g2, g3⟩
      · dsimp only at g1 g2
        rw [g1, g2]; exact .inl ⟨rfl, rfl⟩
      · dsimp only at g1 g2
        rw [g1, g2]; exact .inr ⟨_, _, rfl, rfl, g3⟩
    · exact .inr ⟨_, _, rfl, rfl, h3⟩
theorem edgeP_no {n : Int} {l : List Edg} {both : Bool} {e : Edg} (h : fitsE e n = false) : edgeP n l both e = none := by
  unfold edgeP addP
  rw [if_pos (.inl h)]
theorem edgeR_no {n : Int} {l : List Edg} {both : Bool} {e : Edg} (h : fitsE e n = false) : edgeR n l both e = none := by
  unfold edgeR addR
  rw [if_pos (.inl h)]
theorem numB_ok {w : ByteArray} {k : Int} (h : (num w).2 = 0) (h' : (num w).1 < k) : numB num w k = (num w).1 := by
  unfold numB
  rw [if_neg (by rintro (h1 | h1); exact h1 h; omega)]
theorem numB_no {w : ByteArray} {k : Int} (h : ¬ ((num w).2 = 0 ∧ (num w).1 < k)) : numB num w k = -1 := by
  unfold numB
  rw [if_pos]
  by_cases h1 : (num w).2 = 0
  · right
    have : ¬ (num w).1 < k := fun h2 => h ⟨h1, h2⟩
    omega
  · exact .inl h1
theorem fits_from {e : Edg} {n : Int} (h : e.1 = -1) : fitsE e n = false := by unfold fitsE; rw [h]; simp
theorem fits_to {e : Edg} {n : Int} (h : e.2.1 = -1) : fitsE e n = false := by unfold fitsE; rw [h]; simp
theorem fits_weight {e : Edg} {n : Int} (h : e.2.2 = -1) : fitsE e n = false := by unfold fitsE; rw [h]; simp
theorem line_rel {a b : Gr} (h : GrRel a b) (w : List ByteArray) : (lineP num a w = none ∧ lineR num b w = none) ∨ ∃ a' b', lineP num a w = some a' ∧ lineR num b w = some b' ∧ GrRel a' b' := by
  unfold lineP lineR
  by_cases h0 : a.1 = 0
  · rw [if_pos h0, if_pos (h.n ▸ h0)]
    split
    · rename_i x y
      by_cases hx : x = wVertices
      · by_cases hy : (num y).2 = 0 ∧ 1 ≤ (num y).1 ∧ (num y).1 ≤ 512
        · obtain ⟨y1, y2, y3⟩ := hy
          have e := numB_ok num (k := 513) y1 (by omega)
          rw [e, if_pos ⟨hx, by omega⟩, if_pos ⟨hx, y1, y2, y3⟩]
          exact .inr ⟨_, _, rfl, rfl, rfl, h.perm, h.sorted, h.few⟩
        · have hp0 : ¬ (x = wVertices ∧ 0 < numB num y 513) := by
            rintro ⟨_, hp⟩
            by_cases h5 : (num y).2 = 0 ∧ (num y).1 < 513
            · rw [numB_ok num h5.1 h5.2] at hp
              exact hy ⟨h5.1, by omega, by omega⟩
            · rw [numB_no num h5] at hp
              omega
          rw [if_neg hp0, if_neg (fun hh => hy hh.2)]
          exact .inl ⟨rfl, rfl⟩
      · rw [if_neg (fun hh => hx hh.1), if_neg (fun hh => hx hh.1)]
        exact .inl ⟨rfl, rfl⟩
    · exact .inl ⟨rfl, rfl⟩
  · rw [if_neg h0, if_neg (h.n ▸ h0)]
    split
    · rename_i x y z
      by_cases hx : x = wEdge ∨ x = wBoth
      · rw [if_pos hx]
        by_cases hy : (num y).2 = 0 ∧ (num y).1 < 512
        · by_cases hz : (num z).2 = 0 ∧ (num z).1 < 512
          · rw [if_pos ⟨hx, hy.1, hz.1, hy.2, hz.2⟩, numB_ok num hy.1 hy.2, numB_ok num hz.1 hz.2]
            exact edge_rel h _ _
          · rw [if_neg (fun hh => hz ⟨hh.2.2.1, hh.2.2.2.2⟩), edgeP_no (fits_to (numB_no num hz))]
            exact .inl ⟨rfl, rfl⟩
        · rw [if_neg (fun hh => hy ⟨hh.2.1, hh.2.2.2.1⟩), edgeP_no (fits_from (numB_no num hy))]
          exact .inl ⟨rfl, rfl⟩
      · rw [if_neg hx, if_neg (fun hh => hx hh.1)]
        exact .inl ⟨rfl, rfl⟩
    · rename_i x y z u
      by_cases hx : x = wEdge ∨ x = wBoth
      · rw [if_pos hx]
        by_cases hy : (num y).2 = 0 ∧ (num y).1 < 512
        · by_cases hz : (num z).2 = 0 ∧ (num z).1 < 512
          · by_cases hu : (num u).2 = 0
            · rw [if_pos ⟨hx, hy.1, hz.1, hu, hy.2, hz.2⟩, numB_ok num hy.1 hy.2, numB_ok num hz.1 hz.2]
              by_cases hu' : (num u).1 < 2147483648
              · rw [numB_ok num hu hu']
                exact edge_rel h _ _
              · rw [edgeP_no (fits_weight (numB_no num (fun hh => hu' hh.2))), edgeR_no (by unfold fitsE; simp; omega)]
                exact .inl ⟨rfl, rfl⟩
            · rw [if_neg (fun hh => hu hh.2.2.2.1), edgeP_no (fits_weight (numB_no num (fun hh => hu hh.1)))]
              exact .inl ⟨rfl, rfl⟩
          · rw [if_neg (fun hh => hz ⟨hh.2.2.1, hh.2.2.2.2.2⟩), edgeP_no (fits_to (numB_no num hz))]
            exact .inl ⟨rfl, rfl⟩
        · rw [if_neg (fun hh => hy ⟨hh.2.1, hh.2.2.2.2.1⟩), edgeP_no (fits_from (numB_no num hy))]
          exact .inl ⟨rfl, rfl⟩
      · rw [if_neg hx, if_neg (fun hh => hx hh.1)]
        exact .inl ⟨rfl, rfl⟩
    · exact .inl ⟨rfl, rfl⟩
end
end Go.Proofs.YtknigkjbnaoldaaDoor
