/- Rows of records, sorted by the library: between the words of append and those of the sort. -/
import Derived.Test.YtknigkjbnaoldaaDoorRec
import Derived.Sort.OwnSorted
import Derived.Shelf.SlSortCmp.WholeK
namespace Go.Proofs.YtknigkjbnaoldaaDoor
open Go.RowKit Go.Sort

section
variable {α : Type} [Inhabited α] {enc : α → List Value} {k : Nat}
theorem get!_flat (hk : ∀ a, (enc a).length = k) (l : List α) {t : Nat} (ht : t < l.length * k) : (rcs enc l)[t]? = some ((flatK enc k l.toArray)[t]!) := by
  rw [get_flatK _ _ _ _ (by simpa using ht)]
  have k0 : 0 < k := by
    rcases Nat.eq_zero_or_pos k with h | h
    · subst h; simp at ht
    · exact h
  have h1 : t / k < l.length := by rw [Nat.div_lt_iff_lt_mul k0]; exact ht
  have h2 : t % k < k := Nat.mod_lt _ k0
  have h3 := rcs_get hk (List.getElem?_eq_getElem h1) h2
  rw [show t / k * k + t % k = t from Nat.div_add_mod' t k] at h3
  rw [h3]
  have h4 : (l.toArray)[t / k]! = l[t / k] := by simp [h1]
  rw [h4]
  have h5 : t % k < (enc l[t / k]).length := by rw [hk]; exact h2
  rw [List.getElem?_eq_getElem h5]
  simp [h5]
theorem holdsK_of_own (hk : ∀ a, (enc a).length = k) {w : World} {base g cap : Nat} {e : TypeId} {l : List α} (h : w.ownsRow base e k (.slice (some ⟨g, 0, none⟩) l.length cap) l.length (rcs enc l)) :
    HoldsK enc k w g 0 l.toArray ∧ g < w.heap.size := by
  rcases h.2 with ⟨h0, _⟩ | ⟨g', cap', cur, hv, hg, hb, h1, h2, h3, h4⟩
  · cases h0
  · simp only [Value.slice.injEq, Option.some.injEq, Addr.mk.injEq, and_true, true_and] at hv
    obtain ⟨rfl, rfl⟩ := hv
    refine ⟨fun j hj => ?_, (Array.getElem?_eq_some_iff.1 hb).1⟩
    have hj' : j < l.length * k := by simpa using hj
    refine ⟨?_, by simp [World.frozen?, hb]⟩
    have h5 : (cur.toList.take (l.length * k))[j]? = (rcs enc l)[j]? := by rw [h4]
    rw [List.getElem?_take_of_lt hj', get!_flat hk l hj'] at h5
    simp only [World.cell?, hb, Nat.zero_add, Option.isSome_none, Bool.false_eq_true, if_false]
    rw [← Array.getElem?_toList, h5]
    rfl
theorem heap_sortedK {w : World} {g n : Nat} {os : Array Obj} {cur : Array Value} {e : TypeId} {fr : Nat × Nat} (d : Array α) (hb : w.heap[g]? = some (.cells cur e fr)) :
    (sortWorldK enc k w g 0 n d os).heap[g]? = some (.cells (putCells id 0 (flatK enc k d) cur) e fr) := by
  have hg : g < w.heap.size := (Array.getElem?_eq_some_iff.1 hb).1
  unfold sortWorldK putRowK
  rw [heap_grow_old _ _ (by simpa using hg)]
  simp [putRow, mapBlock, Sort.ahead, Array.getElem?_modify, hb, onCells]
theorem grownBy_sortedK {w : World} {g n : Nat} {os : Array Obj} (d : Array α) : w.grownBy (sortWorldK enc k w g 0 n d os) (some g) := by
  refine ⟨rfl, rfl, rfl, by simp [sortWorldK, putRowK], fun i hi hne => ?_⟩
  unfold sortWorldK putRowK
  rw [heap_grow_old _ _ (by simpa using hi)]
  have : g ≠ i := fun e => hne (by rw [e])
  simp [putRow, mapBlock, Sort.ahead, Array.getElem?_modify, this]
theorem ownsRow_sortedK (hk : ∀ a, (enc a).length = k) {w : World} {base g cap n : Nat} {e : TypeId} {os : Array Obj} {l : List α} {d : Array α} (hd : d.size = l.length) (h : w.ownsRow base e k (.slice (some ⟨g, 0, none⟩) l.length cap) l.length (rcs enc l)) :
    (sortWorldK enc k w g 0 n d os).ownsRow base e k (.slice (some ⟨g, 0, none⟩) d.toList.length cap) d.toList.length (rcs enc d.toList) := by
  rcases h.2 with ⟨h0, _⟩ | ⟨g', cap', cur, hv, hg, hb, h1, h2, h3, h4⟩
  · cases h0
  · simp only [Value.slice.injEq, Option.some.injEq, Addr.mk.injEq, and_true, true_and] at hv
    obtain ⟨rfl, rfl⟩ := hv
    have hdl : d.toList.length = l.length := by simpa using hd
    refine ⟨rcs_length hk _, .inr ⟨g, cap, _, rfl, hg, heap_sortedK d hb, by rw [hdl]; exact h1, h2, by simp [putCells, h3], ?_⟩⟩
    have hcap : l.length * k ≤ cap * k := Nat.mul_le_mul_right k h1
    apply List.ext_getElem?
    intro j
    by_cases hj : j < d.toList.length * k
    · have hj2 : j < d.size * k := by simpa using hj
      rw [List.getElem?_take_of_lt hj, Array.getElem?_toList, get!_flat hk _ hj]
      have hjc : j < cur.size := by rw [h3]; rw [hdl] at hj; omega
      simp [putCells, hjc, hj2]
    · rw [List.getElem?_take_eq_none (by omega), List.getElem?_eq_none (by rw [rcs_length hk]; omega)]
end
end Go.Proofs.YtknigkjbnaoldaaDoor
