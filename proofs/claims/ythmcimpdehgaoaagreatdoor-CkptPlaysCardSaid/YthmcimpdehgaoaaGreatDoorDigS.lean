/- Numbers and their bytes, plain: the highest first. -/
namespace Go.Proofs.YthmcimpdehgaoaaGreatDoor

/-- the bytes of a number, the highest first -/
def digB (W n : Nat) : ByteArray := ⟨((List.range W).map fun i => UInt8.ofNat (n / 256 ^ (W - 1 - i) % 256)).toArray⟩
theorem digB_size (W n : Nat) : (digB W n).size = W := by simp [digB, ByteArray.size]
/-- the number of bytes -/
def numL (l : List UInt8) : Nat := l.foldl (fun n c => n * 256 + c.toNat) 0
def numB (s : ByteArray) : Nat := numL s.data.toList
theorem numL_snoc (l : List UInt8) (c : UInt8) : numL (l ++ [c]) = numL l * 256 + c.toNat := by unfold numL; rw [List.foldl_append]; rfl
theorem digL_succ (W n : Nat) : (digB (W + 1) n).data.toList = (digB W (n / 256)).data.toList ++ [UInt8.ofNat (n % 256)] := by
  unfold digB
  simp only [List.range_succ, List.map_append, List.map_cons, List.map_nil]
  congr 1
  · refine List.map_congr_left fun i hi => ?_
    have hi' : i < W := List.mem_range.1 hi
    rw [show W + 1 - 1 - i = (W - 1 - i) + 1 by omega, Nat.pow_succ, Nat.mul_comm, ← Nat.div_div_eq_div_mul]
  · simp
theorem ofNat_toNat (n : Nat) : (UInt8.ofNat (n % 256)).toNat = n % 256 := UInt8.toNat_ofNat_of_lt' (by have := Nat.mod_lt n (show 0 < 256 by decide); simpa using this)
theorem numB_digB (W : Nat) : ∀ n, numB (digB W n) = n % 256 ^ W := by
  induction W with
  | zero => intro n; simp [numB, digB, numL, Nat.mod_one]
  | succ W ih =>
    intro n
    have h := ih (n / 256)
    unfold numB at h ⊢
    rw [digL_succ, numL_snoc, h, ofNat_toNat, Nat.pow_succ, Nat.mul_comm (256 ^ W), Nat.mod_mul]
    omega
theorem list_snoc {α : Type} (l : List α) (n : Nat) (h : l.length = n + 1) : ∃ l' c, l = l' ++ [c] ∧ l'.length = n := by
  refine ⟨l.dropLast, l.getLast (by intro e; rw [e] at h; simp at h), (List.dropLast_concat_getLast _).symm, by rw [List.length_dropLast]; omega⟩
theorem digB_numL (W : Nat) : ∀ l : List UInt8, l.length = W → (digB W (numL l)).data.toList = l := by
  induction W with
  | zero => intro l h; rw [List.eq_nil_of_length_eq_zero h]; rfl
  | succ W ih =>
    intro l h
    obtain ⟨l', c, rfl, hl⟩ := list_snoc l W h
    rw [digL_succ, numL_snoc]
    have hc := c.toNat_lt
    have e1 : (numL l' * 256 + c.toNat) / 256 = numL l' := by omega
    have e2 : (numL l' * 256 + c.toNat) % 256 = c.toNat := by omega
    rw [e1, e2, ih l' hl]
    simp
theorem digB_numB (s : ByteArray) : digB s.size (numB s) = s := by
  apply ByteArray.ext
  exact Array.ext' (digB_numL s.size s.data.toList rfl)
theorem numL_lt (l : List UInt8) : numL l < 256 ^ l.length := by
  have h := numB_digB l.length (numL l)
  unfold numB at h
  rw [digB_numL l.length l rfl] at h
  have : 0 < 256 ^ l.length := Nat.pow_pos (by decide)
  have := Nat.mod_lt (numL l) this
  omega
theorem numB_lt (s : ByteArray) : numB s < 256 ^ s.size := by
  exact numL_lt s.data.toList
/-- pieces of bytes put together -/
theorem ext_left {a b : ByteArray} {i j : Nat} (hj : j ≤ a.size) : (a ++ b).extract i j = a.extract i j := by
  rw [ByteArray.extract_append, show j - a.size = 0 by omega]
  have : b.extract (i - a.size) 0 = ByteArray.empty := by rw [ByteArray.extract_eq_empty_iff]; omega
  rw [this, ByteArray.append_empty]
theorem ext_right {a b : ByteArray} {i j : Nat} (hi : i = a.size) (hj : j = a.size + b.size) : (a ++ b).extract i j = b := ByteArray.extract_append_eq_right hi hj
end Go.Proofs.YthmcimpdehgaoaaGreatDoor
