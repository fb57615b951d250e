/- Graphs in plain words: which may be; one that is turned. No program stands in this text. -/
import Derived.Test.YtknigkjbnaoldaaDoorGrU
namespace Go.Proofs.YtknigkjbnaoldaaDoor

/-- edge number i may not be, or does not stand behind the one ahead of it -/
def badAt (n : Int) (l : List Edg) (i : Nat) : Bool :=
  match l[i]? with
  | none => false
  | some e => !fitsE e n || (decide (0 < i) && match l[i - 1]? with
    | none => false
    | some p => !aheadE p e)
/-- the answer of Check -/
def checkL (g : Gr) : Int := if 512 < g.1 ∨ 8192 < (g.2.length : Int) then 3 else if g.1 < 1 ∨ (List.range g.2.length).any (badAt g.1 g.2) = true then 40 else 0
theorem check_ok {g : Gr} (h : checkL g = 0) : 1 ≤ g.1 ∧ g.1 ≤ 512 ∧ g.2.length ≤ 8192 ∧ (∀ e ∈ g.2, fitsE e g.1 = true) ∧ SortedE g.2 := by
  unfold checkL at h
  split at h
  · cases h
  · rename_i h1
    split at h
    · cases h
    · rename_i h2
      have hb : ∀ i, i < g.2.length → badAt g.1 g.2 i = false := by
        intro i hi
        cases hb : badAt g.1 g.2 i with
        | false => rfl
        | true => exact absurd (.inr (List.any_eq_true.2 ⟨i, List.mem_range.2 hi, hb⟩)) h2
      have hfit : ∀ i (hi : i < g.2.length), fitsE g.2[i] g.1 = true ∧ (∀ h0 : 0 < i, aheadE (g.2[i - 1]'(by omega)) g.2[i] = true) := by
        intro i hi
        have := hb i hi
        unfold badAt at this
        rw [List.getElem?_eq_getElem hi] at this
        dsimp only at this
        rw [Bool.or_eq_false_iff] at this
        refine ⟨by simpa using this.1, fun h0 => ?_⟩
        have h3 := this.2
        rw [List.getElem?_eq_getElem (show i - 1 < g.2.length by omega)] at h3
        simpa [h0] using h3
      refine ⟨by omega, by omega, by omega, fun e he => ?_, ?_⟩
      · obtain ⟨i, hi, rfl⟩ := List.mem_iff_getElem.1 he
        exact (hfit i hi).1
      · unfold SortedE
        rw [List.pairwise_iff_getElem]
        intro i j hi hj hij
        have key : ∀ d, ∀ (h : i + d + 1 < g.2.length), aheadE g.2[i] g.2[i + d + 1] = true := by
          intro d
          induction d with
          | zero => intro h; exact (hfit (i + 1) (by omega)).2 (by omega)
          | succ d ih =>
            intro h
            exact ahead_trans (ih (by omega)) ((hfit (i + (d + 1) + 1) h).2 (by omega))
        have := key (j - i - 1) (by omega)
        have e : i + (j - i - 1) + 1 = j := by omega
        simpa [e] using this
theorem check_of {g : Gr} (h1 : 1 ≤ g.1) (h2 : g.1 ≤ 512) (h3 : g.2.length ≤ 8192) (h4 : ∀ e ∈ g.2, fitsE e g.1 = true) (h5 : SortedE g.2) : checkL g = 0 := by
  unfold checkL
  rw [if_neg (by omega), if_neg]
  rintro (h | h)
  · omega
  · obtain ⟨i, hi, hb⟩ := List.any_eq_true.1 h
    have hi' := List.mem_range.1 hi
    unfold badAt at hb
    rw [List.getElem?_eq_getElem hi'] at hb
    dsimp only at hb
    rw [h4 _ (List.getElem_mem hi')] at hb
    by_cases h0 : 0 < i
    · rw [List.getElem?_eq_getElem (show i - 1 < g.2.length by omega)] at hb
      unfold SortedE at h5
      rw [List.pairwise_iff_getElem] at h5
      have := h5 (i - 1) i (by omega) hi' (by omega)
      simp [this] at hb
    · simp [h0] at hb
/-- an edge that leads the other way -/
def swapE (e : Edg) : Edg := (e.2.1, e.1, e.2.2)
theorem swap_swap (e : Edg) : swapE (swapE e) = e := rfl
/-- the edges to a vertex; from it -/
def backL (l : List Edg) (v : Int) : List Edg := l.filter fun e => e.2.1 == v
def outL (l : List Edg) (v : Int) : List Edg := l.filter fun e => e.1 == v
/-- the reference's Turn, vertex by vertex -/
def turnR (l : List Edg) (n : Nat) : List Edg := (List.range n).flatMap fun (v : Nat) => (backL l v).map fun e => ((v : Int), e.1, e.2.2)
theorem turn_mem {l : List Edg} {n : Nat} (hf : ∀ e ∈ l, fitsE e n = true) (p : Edg) : p ∈ turnR l n ↔ p ∈ l.map swapE := by
  unfold turnR backL
  rw [List.mem_flatMap, List.mem_map]
  constructor
  · rintro ⟨v, hv, hp⟩
    obtain ⟨e, he, rfl⟩ := List.mem_map.1 hp
    obtain ⟨h1, h2⟩ := List.mem_filter.1 he
    have h3 : e.2.1 = (v : Int) := by simpa using h2
    exact ⟨e, h1, by unfold swapE; rw [h3]⟩
  · rintro ⟨e, he, rfl⟩
    have := hf e he
    unfold fitsE at this
    simp at this
    refine ⟨e.2.1.toNat, List.mem_range.2 (by omega), List.mem_map.2 ⟨e, List.mem_filter.2 ⟨he, ?_⟩, ?_⟩⟩
    · rw [Int.toNat_of_nonneg (by omega)]; simp
    · rw [Int.toNat_of_nonneg (by omega)]; rfl
theorem turn_sorted {l : List Edg} {n : Nat} (hs : SortedE l) : SortedE (turnR l n) := by
  unfold SortedE turnR
  rw [List.pairwise_flatMap]
  constructor
  · intro v _
    rw [List.pairwise_map]
    have h1 : (backL l v).Pairwise fun a b => aheadE a b = true := List.Pairwise.filter _ hs
    refine List.Pairwise.imp_of_mem ?_ h1
    intro a b ha hb hab
    have h2 := (List.mem_filter.1 ha).2
    have h3 := (List.mem_filter.1 hb).2
    unfold aheadE at *
    simp at *
    omega
  · have h1 : (List.range n).Pairwise fun a b => a < b := List.pairwise_lt_range
    refine h1.imp ?_
    intro a b hab x hx y hy
    obtain ⟨_, _, rfl⟩ := List.mem_map.1 hx
    obtain ⟨_, _, rfl⟩ := List.mem_map.1 hy
    unfold aheadE
    simp
    omega
/-- the edges that were turned, sorted, are the reference's -/
theorem turn_is {l m : List Edg} {n : Nat} (hf : ∀ e ∈ l, fitsE e n = true) (hs : SortedE l) (hm : SortedE m) (hp : ∀ p, p ∈ m ↔ p ∈ l.map swapE) : m = turnR l n :=
  sortedE_ext hm (turn_sorted hs) fun p => (hp p).trans (turn_mem hf p).symm
end Go.Proofs.YtknigkjbnaoldaaDoor
