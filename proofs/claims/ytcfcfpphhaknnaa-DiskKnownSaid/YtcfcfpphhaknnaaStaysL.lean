/- What stays of open bytes, in plain words. -/
import Derived.Test.YtcfcfpphhaknnaaDiskWk
namespace Go.Proofs.Ytcfcfpphhaknnaa
open Go.RowKit

theorem extract_all (s : ByteArray) (n : Nat) (h : s.size = n) : s.extract 0 n = s := by
  subst h
  simp
theorem extract_app (s o : ByteArray) (k : Nat) : (s ++ o).extract 0 (s.size + k) = s ++ o.extract 0 k := by
  apply ByteArray.ext
  apply Array.ext'
  rw [Lib.extract_data]
  simp only [ByteArray.data_append, Array.toList_append, Lib.extract_data, List.drop_zero]
  rw [List.take_append]
  have h1 : s.data.toList.length = s.size := by simp
  rw [List.take_of_length_le (by omega), h1]
  congr 1
  congr 1; omega
theorem extract_first (s o : ByteArray) : (s ++ o).extract 0 s.size = s := by
  have := extract_app s o 0
  rw [Nat.add_zero] at this
  rw [this]
  apply ByteArray.ext
  apply Array.ext'
  simp
/-- the numbers of the law -/
theorem stays_n (keep : Int) (n : Nat) : (keep.tmod ((n : Int) + 1) + (n : Int) + 1) % ((n : Int) + 1) = ((keep % ((n : Int) + 1)).toNat : Nat) := by
  have h := tmod_round keep ((n : Int) + 1) (by omega)
  rw [show keep.tmod ((n : Int) + 1) + (n : Int) + 1 = keep.tmod ((n : Int) + 1) + ((n : Int) + 1) by omega, h]
  have := Int.emod_nonneg keep (show (n : Int) + 1 ≠ 0 by omega)
  omega
section
variable {t : ByteArray} (S O : ByteArray) (q n : Int)
theorem stays_keep (keep : Int) : (⟨[⟨t, S ++ O, S.size⟩], q, n, -1, true⟩ : DiskD).on [keep] =
    ⟨[⟨t, S ++ O.extract 0 (keep % ((O.size : Int) + 1)).toNat, (S.size + (keep % ((O.size : Int) + 1)).toNat : Nat)⟩], q, n, -1, false⟩ := by
  rw [one_on _ (some keep) _ rfl (by show (0 : Int) ≤ (S.size : Int); omega)]
  have h : keptN ⟨t, S ++ O, S.size⟩ (some keep) = S.size + (keep % ((O.size : Int) + 1)).toNat := by
    unfold keptN
    simp only [Int.toNat_natCast, ByteArray.size_append]
    congr 4
    omega
  rw [h]
  dsimp only
  rw [extract_app]
theorem stays_again (T : ByteArray) (N : Nat) (hT : T.size = N) (other : Int) : (⟨[⟨t, T, (N : Nat)⟩], q, n, -1, true⟩ : DiskD).on [other] = ⟨[⟨t, T, (N : Nat)⟩], q, n, -1, false⟩ := by
  rw [one_on _ (some other) _ rfl (by show (0 : Int) ≤ (N : Int); omega)]
  have h : keptN ⟨t, T, (N : Nat)⟩ (some other) = N := by
    unfold keptN
    simp only [Int.toNat_natCast, hT, Nat.sub_self]
    have : other % ((0 : Nat) + 1 : Int) = 0 := by simp
    rw [this]; simp
  rw [h]
  dsimp only
  rw [extract_all T N hT]
theorem stays_none : (⟨[⟨t, S ++ O, S.size⟩], q, n, -1, true⟩ : DiskD).on [] = ⟨[⟨t, S, S.size⟩], q, n, -1, false⟩ := by
  rw [one_on _ none _ rfl (by show (0 : Int) ≤ (S.size : Int); omega)]
  have h : keptN ⟨t, S ++ O, S.size⟩ none = S.size := by unfold keptN; simp
  rw [h]
  dsimp only
  rw [extract_first]
end
end Go.Proofs.Ytcfcfpphhaknnaa
