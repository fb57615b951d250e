/- Rows that the laws keep beside a store: what was written of each step, and whether anything was. -/
import Derived.Test.YthmcimpdehgaoaaGreatDoorCkWk
import Derived.Laws.BitsLemmas
namespace Go.Proofs.YthmcimpdehgaoaaGreatDoor
open Go.RowKit Go.Maps

/-- the low bits of a number -/
theorem and_mask (n : Int) (k : Nat) (hk : k ≤ 60) (m : Int) (hm : m = ((2 ^ k - 1 : Nat) : Int)) : bits .and .i64 n m = n % ((2 ^ k : Nat) : Int) := by
  subst hm
  have hp : 2 ^ k ≤ 2 ^ 60 := Nat.pow_le_pow_right (by decide) hk
  have hp2 : (2 : Nat) ^ 60 < 2 ^ 64 := by decide
  have h0 : 0 < 2 ^ k := Nat.pow_pos (by decide)
  have h1 : (BitVec.ofInt 64 ((2 ^ k - 1 : Nat) : Int)).toNat = 2 ^ k - 1 := by
    rw [BitVec.ofInt_natCast, BitVec.toNat_ofNat]
    exact Nat.mod_eq_of_lt (by omega)
  have key : (BitVec.ofInt 64 n &&& BitVec.ofInt 64 ((2 ^ k - 1 : Nat) : Int)).toNat = (n % ((2 ^ 64 : Nat) : Int)).toNat % 2 ^ k := by
    rw [BitVec.toNat_and, BitVec.toNat_ofInt, h1, Nat.and_two_pow_sub_one_eq_mod]
  show IntKind.i64.wrap ((BitVec.ofInt 64 n &&& BitVec.ofInt 64 ((2 ^ k - 1 : Nat) : Int)).toNat : Nat) = _
  rw [key]
  have hd : ((2 ^ k : Nat) : Int) ∣ ((2 ^ 64 : Nat) : Int) := by
    refine Int.natCast_dvd_natCast.2 (Nat.pow_dvd_pow 2 (by omega))
  have hpos : 0 ≤ n % ((2 ^ 64 : Nat) : Int) := Int.emod_nonneg _ (by decide)
  have e1 : (((n % ((2 ^ 64 : Nat) : Int)).toNat % 2 ^ k : Nat) : Int) = n % ((2 ^ k : Nat) : Int) := by
    rw [Int.natCast_emod, Int.toNat_of_nonneg hpos, Int.emod_emod_of_dvd n hd]
  rw [e1]
  have hlt := Int.emod_lt_of_pos n (show (0 : Int) < ((2 ^ k : Nat) : Int) by omega)
  have hge := Int.emod_nonneg n (show ((2 ^ k : Nat) : Int) ≠ 0 by omega)
  exact IntWalk.i64_in _ (by omega)
theorem and15 (n : Int) : ∃ k : Nat, k < 16 ∧ bits .and .i64 n 15 = (k : Int) := by
  have h := and_mask n 4 (by decide) 15 rfl
  have h1 := Int.emod_nonneg n (show ((2 ^ 4 : Nat) : Int) ≠ 0 by decide)
  have h2 := Int.emod_lt_of_pos n (show (0 : Int) < ((2 ^ 4 : Nat) : Int) by decide)
  have e : ((2 ^ 4 : Nat) : Int) = 16 := rfl
  rw [e] at h h1 h2
  exact ⟨(n % 16).toNat, by omega, by rw [h]; omega⟩
theorem and7 (n : Int) : ∃ k : Nat, k < 8 ∧ bits .and .i64 n 7 = (k : Int) := by
  have h := and_mask n 3 (by decide) 7 rfl
  have h1 := Int.emod_nonneg n (show ((2 ^ 3 : Nat) : Int) ≠ 0 by decide)
  have h2 := Int.emod_lt_of_pos n (show (0 : Int) < ((2 ^ 3 : Nat) : Int) by decide)
  have e : ((2 ^ 3 : Nat) : Int) = 8 := rfl
  rw [e] at h h1 h2
  exact ⟨(n % 8).toNat, by omega, by rw [h]; omega⟩
theorem and1 (n : Int) : bits .and .i64 n 1 ≤ 9223372036854775807 := by
  have h := and_mask n 1 (by decide) 1 rfl
  have h2 := Int.emod_lt_of_pos n (show (0 : Int) < ((2 ^ 1 : Nat) : Int) by decide)
  have e : ((2 ^ 1 : Nat) : Int) = 2 := rfl
  rw [e] at h h2
  omega
/-- a row of K values in its block -/
def RowK (w : World) (g : Nat) (t : TypeId) (K : Nat) (f : Nat → Value) : Prop := Blk w g t ((List.range K).map f).toArray
section
variable {w w' : World} {g : Nat} {t : TypeId} {K : Nat} {f : Nat → Value}
theorem RowK.cell (h : RowK w g t K f) {k : Nat} (hk : k < K) : w.cell? ⟨g, k, none⟩ = some (f k) := by
  refine (Blk.cell h k).trans ?_
  rw [List.getElem?_toArray, List.getElem?_map, List.getElem?_range hk]
  rfl
theorem RowK.frozen (h : RowK w g t K f) (k : Nat) : w.frozen? ⟨g, k, none⟩ = false := Blk.frozen h k
theorem RowK.set_ (h : RowK w g t K f) (k : Nat) (u : Value) (f' : Nat → Value) (hf : ∀ j, j < K → f' j = if j = k then u else f j) : RowK (w.setCell ⟨g, k, none⟩ u) g t K f' := by
  have h2 := Blk.set_ h k u
  unfold RowK
  have : ((List.range K).map f').toArray = (((List.range K).map f).toArray).setIfInBounds k u := by
    rw [List.setIfInBounds_toArray]
    congr 1
    apply List.ext_getElem?
    intro j
    rw [List.getElem?_set]
    by_cases hj : j < K
    · rw [List.getElem?_map, List.getElem?_range hj, List.getElem?_map, List.getElem?_range hj, List.length_map, List.length_range]
      simp only [Option.map_some, hf j hj]
      by_cases hjk : j = k
      · subst hjk; simp [hj]
      · rw [if_neg hjk, if_neg (fun e => hjk e.symm)]
    · have h3 : ((List.range K).map f')[j]? = none := List.getElem?_eq_none (by simp; omega)
      have h4 : ((List.range K).map f)[j]? = none := List.getElem?_eq_none (by simp; omega)
      rw [h3, h4]
      simp
      omega
  rw [this]
  exact h2
theorem RowK.far (h : RowK w g t K f) {p : Addr} (hp : g ≠ p.block) (u : Value) : RowK (w.setCell p u) g t K f := Blk.far h hp u
theorem RowK.below (h : RowK w g t K f) (hb : Below w.heap.size w w') : RowK w' g t K f := Blk.below h hb (Blk.lt h)
theorem RowK.kp (h : RowK w g t K f) (k : KpB w w') (h1 : t ≠ 68) (h2 : t ≠ 90) : RowK w' g t K f := k.blk h h1 h2
end
def hvV (M : MapC) (k : Nat) : Value := .string ((M k).getD ⟨#[]⟩)
def isV (M : MapC) (k : Nat) : Value := .bool (M k).isSome
theorem hv_put (M : MapC) (k : Nat) (b : ByteArray) (j : Nat) : hvV (putC M k b) j = if j = k then .string b else hvV M j := by
  unfold hvV putC
  by_cases h : j = k
  · rw [if_pos h, if_pos h]; rfl
  · rw [if_neg h, if_neg h]
theorem is_put (M : MapC) (k : Nat) (b : ByteArray) (j : Nat) : isV (putC M k b) j = if j = k then .bool true else isV M j := by
  unfold isV putC
  by_cases h : j = k
  · rw [if_pos h, if_pos h]; rfl
  · rw [if_neg h, if_neg h]
section
variable {w wr w2 : World} {p gs g K Z : Nat} {v : Value} {q n l : Int} {M : MapC} {T L : List FileD} {off : Bool} {t : TypeId} {cs : Array Value}
/-- a block of the law's own is written -/
theorem KC.moved (a : KC w wr p v K Z q M T L n l off) (hk : Blk wr g t cs) (h1 : t ≠ 68) (h2 : t ≠ 90) (h3 : t ≠ 5) (hg : w.heap.size ≤ g) (hm : Moved wr w2 g none) : KC w w2 p v K Z q M T L n l off := by
  obtain ⟨rows, hr, hR⟩ := a.is.row
  have hty := own_type hR.1 (t := t) (fun e => h2 e.symm)
  refine ⟨a.is.keep hm (fun e => by subst e; exact blk_type a.is.blk hk (fun e => h1 e.symm)) (by simp) (fun k hk' => ⟨fun e => by subst e; exact hty k hk' _ _ hk, by simp⟩) (fun _ _ hh => blk_type hk hh h3) (by simp), a.below.trans (hm.below hg (by simp) a.below.size), a.inv, a.n0, a.l0, a.l1, a.q0⟩
theorem Blk.moved {t' : TypeId} {ds : Array Value} {g' : Nat} (h : Blk wr g' t' ds) (hm : Moved wr w2 g none) (hne : g' ≠ g) : Blk w2 g' t' ds := (hm.block g' h.lt hne (by simp)).trans h
end
/-- where a step stands among those that are there -/
theorem keysC_at {M : MapC} : ∀ {K k : Nat}, k < K → (M k).isSome = true → (keysC K M)[(keysC k M).length]? = some k := by
  intro K
  induction K with
  | zero => intro k hk; omega
  | succ K ih =>
    intro k hk hs
    have e : keysC (K + 1) M = keysC K M ++ if (M K).isSome = true then [K] else [] := by
      unfold keysC
      rw [List.range_succ, List.filter_append, List.filter_cons, List.filter_nil]
    rw [e]
    by_cases hkK : k = K
    · subst hkK
      rw [if_pos hs, List.getElem?_append_right (Nat.le_refl _), Nat.sub_self]; rfl
    · have h1 := ih (k := k) (by omega) hs
      rw [List.getElem?_append_left (List.getElem?_eq_some_iff.1 h1).1]
      exact h1
theorem keysC_succ (K : Nat) (M : MapC) : (keysC (K + 1) M).length = (keysC K M).length + if (M K).isSome = true then 1 else 0 := by
  unfold keysC
  rw [List.range_succ, List.filter_append, List.length_append, List.filter_cons, List.filter_nil]
  split <;> rfl
theorem keysC_len_lt {M : MapC} {K k : Nat} (hk : k < K) (hs : (M k).isSome = true) : (keysC k M).length < (keysC K M).length := (List.getElem?_eq_some_iff.1 (keysC_at hk hs)).1
theorem keysC_le (K : Nat) (M : MapC) : (keysC K M).length ≤ K := by unfold keysC; exact Nat.le_trans (List.length_filter_le _ _) (by simp)
end Go.Proofs.YthmcimpdehgaoaaGreatDoor
