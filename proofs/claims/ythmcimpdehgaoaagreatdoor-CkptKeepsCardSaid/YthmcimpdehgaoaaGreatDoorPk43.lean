/- A [][]byte argument. Numbers of 64 bits, plain. -/
import Derived.Test.YthmcimpdehgaoaaGreatDoorPk42
import Derived.Deep.Slices
import Derived.Test.YthmcimpdehgaoaaGreatDoorCrcS
import Derived.Test.YthmcimpdehgaoaaGreatDoorPk8
namespace Go.Proofs.YthmcimpdehgaoaaGreatDoor
open Go.RowKit Go.WideShapes Go.ChangeShapes

/-- bytes that a []byte's cells read as -/
def BytesAt (W : World) (A : Option Addr) (l : List UInt8) : Prop := 0 < l.length → ∃ ad, A = some ad ∧ ad.block < W.heap.size ∧ ∀ j (hj : j < l.length), W.cell? (ad.add j) = some (.int .u8 (l[j].toNat : Int))
theorem open_btr_cells {P : Program} {H : Type} {enc : TypeId × Value → H} {t e : TypeId} (ht : P.underlying t = some (.slice e)) (he : P.underlying e = some (.int .u8)) (hc : P.cellsOf e = 1) {W : World} {n : Nat} {cs : List Value} {x : DataW H × List MemPlace}
    (hn : DataW.trod enc P W 0 (fun _ => true) true n t cs = some x) : ∃ (A : Option Addr) (l : List UInt8) (c : Nat), cs = [.slice A l.length c] ∧ l.length ≤ c ∧ BytesAt W A l := by
  rcases open_ints ht he hc hn with ⟨hcs, _⟩ | ⟨a, len, cap, zs, hcs, _, hl, hm, hz, _, hcell, hw⟩
  · exact ⟨none, [], 0, hcs, Nat.le_refl _, fun h => absurd h (by simp)⟩
  · simp only [if_true] at hz
    have hlen : ((zs.take len).map fun z => UInt8.ofNat z.toNat).length = len := by rw [List.length_map, List.length_take]; omega
    refine ⟨some a, (zs.take len).map fun z => UInt8.ofNat z.toNat, cap, by rw [hlen]; exact hcs, by rw [hlen]; exact hl, fun h0 => ⟨a, rfl, ?_, fun j hj => ?_⟩⟩
    · have := hcell 0 (by rw [hlen] at h0; omega)
      have h1 := World.block_lt_of_cell? _ _ this
      rw [block_of_add] at h1
      exact h1
    · have hj' : j < len := by rw [hlen] at hj; exact hj
      rw [hcell j (by omega)]
      have hwj := bounds_u8 (hw (zs.getD j 0) (by rw [List.getD_eq_getElem?_getD, List.getElem?_eq_getElem (by omega)]; exact List.getElem_mem _))
      have e1 : (((zs.take len).map fun z => UInt8.ofNat z.toNat)[j]).toNat = (zs.getD j 0).toNat := by
        rw [List.getElem_map, List.getElem_take, UInt8.toNat_ofNat']
        have e2 : zs.getD j 0 = zs[j] := by rw [List.getD_eq_getElem?_getD, List.getElem?_eq_getElem (by omega)]; rfl
        rw [e2] at hwj ⊢
        omega
      rw [e1, Int.toNat_of_nonneg hwj.1]
/-- a [][]byte argument -/
theorem open_btrs {P : Program} {H : Type} {enc : TypeId × Value → H} {t e b : TypeId} (ht : P.underlying t = some (.slice e)) (he : P.underlying e = some (.slice b)) (hb : P.underlying b = some (.int .u8)) (ce : P.cellsOf e = 1) (cb : P.cellsOf b = 1)
    {W : World} {base : Nat} {v : Value} {d : DataW H} {ps : List MemPlace} (hv : Value.okWide P W .any base t v) (h : DataW.Trod enc P W 0 (fun _ => true) true t v d ps) :
    ∃ (A : Option Addr) (xs : List (Value × List UInt8)) (c : Nat), v = .slice A xs.length c ∧ xs.length ≤ c ∧ c ≤ maxLen ∧
      (0 < xs.length → ∃ ad, A = some ad ∧ ad.block < W.heap.size ∧ ∀ j x, xs[j]? = some x → W.cell? (ad.add j) = some x.1) ∧ ∀ x ∈ xs, ∃ A' c', x.1 = .slice A' x.2.length c' ∧ x.2.length ≤ c' ∧ BytesAt W A' x.2 := by
  obtain ⟨a0, len0, cap0, rfl⟩ := okWide_slice ht hv
  obtain ⟨n, hn⟩ := h
  rcases Go.Deep.open_slice1 ht ce hn with ⟨hcs, _⟩ | ⟨a, len, cap, m, n', V, D, Pl, hcs, _, hl, hm, hmm, _, hx⟩
  · simp [Value.cells] at hcs
    obtain ⟨rfl, rfl, rfl⟩ := hcs
    exact ⟨none, [], 0, rfl, Nat.le_refl _, Nat.zero_le _, (fun h => absurd h (by simp)), by simp⟩
  · simp [Value.cells] at hcs
    obtain ⟨rfl, rfl, rfl⟩ := hcs
    simp only [if_true] at hmm
    subst hmm
    have each : ∀ i, ∃ l : List UInt8, i < len0 → ∃ A' c', V i = .slice A' l.length c' ∧ l.length ≤ c' ∧ BytesAt W A' l := by
      intro i
      by_cases hi : i < len0
      · obtain ⟨A', l, c', h1, h2, h3⟩ := open_btr_cells he hb cb (hx i (by omega)).2
        injection h1 with h1 _
        exact ⟨l, fun _ => ⟨A', c', h1, h2, h3⟩⟩
      · exact ⟨[], fun h => absurd h hi⟩
    let f : Nat → List UInt8 := fun i => Classical.choose (each i)
    have hf : ∀ i, i < len0 → ∃ A' c', V i = .slice A' (f i).length c' ∧ (f i).length ≤ c' ∧ BytesAt W A' (f i) := fun i => Classical.choose_spec (each i)
    have hlen : ((List.range len0).map fun i => (V i, f i)).length = len0 := by simp
    refine ⟨some a, (List.range len0).map fun i => (V i, f i), m, by rw [hlen], by rw [hlen]; exact hl, hm, fun h0 => ⟨a, rfl, ?_, fun j x hj => ?_⟩, fun x hx' => ?_⟩
    · rw [hlen] at h0
      have := (hx 0 (by omega)).1
      have h1 := World.block_lt_of_cell? _ _ this
      rw [block_of_add] at h1
      exact h1
    · rw [List.getElem?_map, Option.map_eq_some_iff] at hj
      obtain ⟨i, hi, rfl⟩ := hj
      have hjl := (List.getElem?_eq_some_iff.1 hi).1
      simp at hjl
      rw [List.getElem?_range hjl] at hi
      injection hi with hi
      subst hi
      exact (hx j (by omega)).1
    · obtain ⟨i, hi, rfl⟩ := List.mem_map.1 hx'
      exact hf i (List.mem_range.1 hi)
end Go.Proofs.YthmcimpdehgaoaaGreatDoor
namespace Go.Proofs.YthmcimpdehgaoaaGreatDoor

def In64 (z : Int) : Prop := -9223372036854775808 ≤ z ∧ z ≤ 9223372036854775807
theorem in64_0 : In64 0 := ⟨by decide, by decide⟩
def u64 (z : Int) : Nat := (z % 18446744073709551616).toNat
def i64 (n : Nat) : Int := if n < 9223372036854775808 then (n : Int) else (n : Int) - 18446744073709551616
theorem u64_lt (z : Int) : u64 z < 18446744073709551616 := by unfold u64; omega
theorem i64_u64 {z : Int} (h : In64 z) : i64 (u64 z) = z := by
  unfold In64 at h
  unfold i64 u64
  split <;> omega
theorem u64_i64 {n : Nat} (h : n < 18446744073709551616) : u64 (i64 n) = n := by
  unfold i64 u64
  split <;> omega
theorem i64_in {n : Nat} (h : n < 18446744073709551616) : In64 (i64 n) := by
  unfold i64 In64
  split <;> omega
theorem ext_num {b : ByteArray} {i j : Nat} (h : j - i ≤ 8) : numB (b.extract i j) < 18446744073709551616 := by
  refine Nat.lt_of_lt_of_le (numB_lt _) ?_
  have : (b.extract i j).size ≤ 8 := by rw [ByteArray.size_extract]; omega
  exact Nat.le_trans (Nat.pow_le_pow_right (by decide) this) (by decide)
end Go.Proofs.YthmcimpdehgaoaaGreatDoor
