/- Manifests in plain words: which may be, their bytes, and what bytes are one. -/
import Derived.Test.YtlcgkcafelpglaaGreatDoorCrcS
import Derived.Test.YtlcgkcafelpglaaGreatDoorDigS
namespace Go.Proofs.YtlcgkcafelpglaaGreatDoor

/-- a manifest -/
structure ManM where
  n : Int
  epoch : Int
  step : Int
  sum : Int
  most : Int
  done : Bool
  job : Nat
def ManM.may (m : ManM) : Bool := decide (1 ≤ m.n) && decide (m.n ≤ 4611686018427387904) && decide (1 ≤ m.epoch) && decide (m.epoch ≤ 4611686018427387904) && decide (-1 ≤ m.step) && decide (m.step ≤ 1073741824)
def In64 (z : Int) : Prop := -9223372036854775808 ≤ z ∧ z ≤ 9223372036854775807
structure ManM.Ok (m : ManM) : Prop where
  n : In64 m.n
  epoch : In64 m.epoch
  step : In64 m.step
  sum : In64 m.sum
  most : In64 m.most
  job : m.job < 4294967296
def zeroM : ManM := ⟨0, 0, 0, 0, 0, false, 0⟩
theorem in64_0 : In64 0 := ⟨by decide, by decide⟩
theorem zeroM_ok : zeroM.Ok := ⟨in64_0, in64_0, in64_0, in64_0, in64_0, Nat.zero_lt_succ _⟩
def u64 (z : Int) : Nat := (z % 18446744073709551616).toNat
def i64 (n : Nat) : Int := if n < 9223372036854775808 then (n : Int) else (n : Int) - 18446744073709551616
theorem u64_lt (z : Int) : u64 z < 18446744073709551616 := by unfold u64; omega
theorem i64_u64 {z : Int} (h : In64 z) : i64 (u64 z) = z := by
  unfold In64 at h
  unfold i64 u64
  split <;> omega
theorem u64_i64 {n : Nat} (h : n < 18446744073709551616) : u64 (i64 n) = n := by
  unfold i64 u64
  split <;> omega
theorem i64_in {n : Nat} (h : n < 18446744073709551616) : In64 (i64 n) := by
  unfold i64 In64
  split <;> omega
def ManM.b1 (_ : ManM) : ByteArray := ⟨#[77]⟩
def ManM.b2 (m : ManM) : ByteArray := m.b1 ++ digB 8 (u64 m.n)
def ManM.b3 (m : ManM) : ByteArray := m.b2 ++ digB 8 (u64 m.epoch)
def ManM.b4 (m : ManM) : ByteArray := m.b3 ++ digB 8 (u64 m.step)
def ManM.b5 (m : ManM) : ByteArray := m.b4 ++ digB 8 (u64 m.sum)
def ManM.b6 (m : ManM) : ByteArray := m.b5 ++ digB 8 (u64 m.most)
def ManM.b7 (m : ManM) : ByteArray := m.b6 ++ digB 1 (if m.done = true then 1 else 0)
def ManM.head (m : ManM) : ByteArray := m.b7 ++ digB 4 m.job
def ManM.bytes (m : ManM) : ByteArray := m.head ++ digB 4 (crcN m.head)
theorem ManM.s1 (m : ManM) : m.b1.size = 1 := rfl
theorem ManM.s2 (m : ManM) : m.b2.size = 9 := by rw [ManM.b2, ByteArray.size_append, digB_size, m.s1]
theorem ManM.s3 (m : ManM) : m.b3.size = 17 := by rw [ManM.b3, ByteArray.size_append, digB_size, m.s2]
theorem ManM.s4 (m : ManM) : m.b4.size = 25 := by rw [ManM.b4, ByteArray.size_append, digB_size, m.s3]
theorem ManM.s5 (m : ManM) : m.b5.size = 33 := by rw [ManM.b5, ByteArray.size_append, digB_size, m.s4]
theorem ManM.s6 (m : ManM) : m.b6.size = 41 := by rw [ManM.b6, ByteArray.size_append, digB_size, m.s5]
theorem ManM.s7 (m : ManM) : m.b7.size = 42 := by rw [ManM.b7, ByteArray.size_append, digB_size, m.s6]
theorem ManM.s8 (m : ManM) : m.head.size = 46 := by rw [ManM.head, ByteArray.size_append, digB_size, m.s7]
theorem ManM.bytes_size (m : ManM) : m.bytes.size = 50 := by rw [ManM.bytes, ByteArray.size_append, digB_size, m.s8]
/-- what bytes say -/
def ofB (b : ByteArray) : ManM := ⟨i64 (numB (b.extract 1 9)), i64 (numB (b.extract 9 17)), i64 (numB (b.extract 17 25)), i64 (numB (b.extract 25 33)), i64 (numB (b.extract 33 41)), numB (b.extract 41 42) == 1, numB (b.extract 42 46)⟩
def getM (b : ByteArray) : Option ManM := if b.size = 50 ∧ (ofB b).may = true ∧ (ofB b).bytes = b then some (ofB b) else none
theorem ext_num {b : ByteArray} {i j : Nat} (h : j - i ≤ 8) : numB (b.extract i j) < 18446744073709551616 := by
  refine Nat.lt_of_lt_of_le (numB_lt _) ?_
  have : (b.extract i j).size ≤ 8 := by rw [ByteArray.size_extract]; omega
  exact Nat.le_trans (Nat.pow_le_pow_right (by decide) this) (by decide)
theorem ofB_ok (b : ByteArray) : (ofB b).Ok := by
  have h4 : numB (b.extract 42 46) < 4294967296 := by
    refine Nat.lt_of_lt_of_le (numB_lt _) ?_
    have : (b.extract 42 46).size ≤ 4 := by rw [ByteArray.size_extract]; omega
    exact Nat.le_trans (Nat.pow_le_pow_right (by decide) this) (by decide)
  have e1 : numB (b.extract 1 9) < 18446744073709551616 := ext_num (by decide)
  have e2 : numB (b.extract 9 17) < 18446744073709551616 := ext_num (by decide)
  have e3 : numB (b.extract 17 25) < 18446744073709551616 := ext_num (by decide)
  have e4 : numB (b.extract 25 33) < 18446744073709551616 := ext_num (by decide)
  have e5 : numB (b.extract 33 41) < 18446744073709551616 := ext_num (by decide)
  unfold ofB
  generalize numB (b.extract 1 9) = n1 at *
  generalize numB (b.extract 9 17) = n2 at *
  generalize numB (b.extract 17 25) = n3 at *
  generalize numB (b.extract 25 33) = n4 at *
  generalize numB (b.extract 33 41) = n5 at *
  generalize numB (b.extract 42 46) = n6 at *
  exact ⟨i64_in e1, i64_in e2, i64_in e3, i64_in e4, i64_in e5, h4⟩
theorem ManM.x1 (m : ManM) : m.bytes.extract 1 9 = digB 8 (u64 m.n) := by
  rw [ManM.bytes, ext_left (by rw [m.s8]; decide), ManM.head, ext_left (by rw [m.s7]; decide), ManM.b7, ext_left (by rw [m.s6]; decide), ManM.b6, ext_left (by rw [m.s5]; decide), ManM.b5, ext_left (by rw [m.s4]; decide), ManM.b4, ext_left (by rw [m.s3]; decide), ManM.b3, ext_left (by rw [m.s2]; decide), ManM.b2, ext_right (by rw [m.s1]) (by rw [m.s1, digB_size])]
theorem ManM.x2 (m : ManM) : m.bytes.extract 9 17 = digB 8 (u64 m.epoch) := by
  rw [ManM.bytes, ext_left (by rw [m.s8]; decide), ManM.head, ext_left (by rw [m.s7]; decide), ManM.b7, ext_left (by rw [m.s6]; decide), ManM.b6, ext_left (by rw [m.s5]; decide), ManM.b5, ext_left (by rw [m.s4]; decide), ManM.b4, ext_left (by rw [m.s3]; decide), ManM.b3, ext_right (by rw [m.s2]) (by rw [m.s2, digB_size])]
theorem ManM.x3 (m : ManM) : m.bytes.extract 17 25 = digB 8 (u64 m.step) := by
  rw [ManM.bytes, ext_left (by rw [m.s8]; decide), ManM.head, ext_left (by rw [m.s7]; decide), ManM.b7, ext_left (by rw [m.s6]; decide), ManM.b6, ext_left (by rw [m.s5]; decide), ManM.b5, ext_left (by rw [m.s4]; decide), ManM.b4, ext_right (by rw [m.s3]) (by rw [m.s3, digB_size])]
theorem ManM.x4 (m : ManM) : m.bytes.extract 25 33 = digB 8 (u64 m.sum) := by
  rw [ManM.bytes, ext_left (by rw [m.s8]; decide), ManM.head, ext_left (by rw [m.s7]; decide), ManM.b7, ext_left (by rw [m.s6]; decide), ManM.b6, ext_left (by rw [m.s5]; decide), ManM.b5, ext_right (by rw [m.s4]) (by rw [m.s4, digB_size])]
theorem ManM.x5 (m : ManM) : m.bytes.extract 33 41 = digB 8 (u64 m.most) := by
  rw [ManM.bytes, ext_left (by rw [m.s8]; decide), ManM.head, ext_left (by rw [m.s7]; decide), ManM.b7, ext_left (by rw [m.s6]; decide), ManM.b6, ext_right (by rw [m.s5]) (by rw [m.s5, digB_size])]
theorem ManM.x6 (m : ManM) : m.bytes.extract 41 42 = digB 1 (if m.done = true then 1 else 0) := by
  rw [ManM.bytes, ext_left (by rw [m.s8]; decide), ManM.head, ext_left (by rw [m.s7]; decide), ManM.b7, ext_right (by rw [m.s6]) (by rw [m.s6, digB_size])]
theorem ManM.x7 (m : ManM) : m.bytes.extract 42 46 = digB 4 m.job := by
  rw [ManM.bytes, ext_left (by rw [m.s8]; decide), ManM.head, ext_right (by rw [m.s7]) (by rw [m.s7, digB_size])]
theorem num8 (z : Int) : numB (digB 8 (u64 z)) = u64 z := by
  rw [numB_digB]; exact Nat.mod_eq_of_lt (u64_lt z)
theorem ofB_bytes {m : ManM} (h : m.Ok) : ofB m.bytes = m := by
  unfold ofB
  rw [m.x1, m.x2, m.x3, m.x4, m.x5, m.x6, m.x7, num8, num8, num8, num8, num8, i64_u64 h.n, i64_u64 h.epoch, i64_u64 h.step, i64_u64 h.sum, i64_u64 h.most, numB_digB, numB_digB, Nat.mod_eq_of_lt (show m.job < 256 ^ 4 from h.job)]
  obtain ⟨n, ep, st, su, mo, d, j⟩ := m
  cases d <;> rfl
theorem getM_bytes {m : ManM} (h : m.Ok) (hm : m.may = true) : getM m.bytes = some m := by
  unfold getM
  rw [ofB_bytes h, if_pos ⟨m.bytes_size, hm, rfl⟩]
theorem getM_some {b : ByteArray} {m : ManM} (h : getM b = some m) : m.bytes = b ∧ m.may = true ∧ m.Ok ∧ b.size = 50 ∧ m = ofB b := by
  unfold getM at h
  split at h
  · rename_i hc
    injection h with h
    subst h
    exact ⟨hc.2.2, hc.2.1, ofB_ok b, hc.1, rfl⟩
  · cases h
theorem getM_size {b : ByteArray} (h : b.size ≠ 50) : getM b = none := by
  unfold getM
  rw [if_neg (fun e => h e.1)]
theorem bytes_inj {m m' : ManM} (h : m.Ok) (h' : m'.Ok) (e : m.bytes = m'.bytes) : m = m' := by rw [← ofB_bytes h, ← ofB_bytes h', e]
end Go.Proofs.YtlcgkcafelpglaaGreatDoor
