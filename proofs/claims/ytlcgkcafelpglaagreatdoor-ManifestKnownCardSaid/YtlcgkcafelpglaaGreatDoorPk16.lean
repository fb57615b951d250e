/- Manifests in plain words: which may be, their bytes, and what bytes are one. A store of manifests in plain words: names of files, Open, Write over a disk. -/
import Derived.Test.YtlcgkcafelpglaaGreatDoorCrcS
import Derived.Test.YtlcgkcafelpglaaGreatDoorDigS
import Derived.Test.YtlcgkcafelpglaaGreatDoorDk5
import Derived.Lib.ItoaNum
import Derived.Lib.ItoaMem
import Derived.Lib.ItoaLen
import Derived.Lib.AppendIntMem
import Derived.Lib.Strings
import Derived.Lib.LaidTab
namespace Go.Proofs.YtlcgkcafelpglaaGreatDoor

/-- a manifest -/
structure ManM where
  n : Int
  epoch : Int
  step : Int
  sum : Int
  most : Int
  done : Bool
  job : Nat
def ManM.may (m : ManM) : Bool := decide (1 ≤ m.n) && decide (m.n ≤ 4611686018427387904) && decide (1 ≤ m.epoch) && decide (m.epoch ≤ 4611686018427387904) && decide (-1 ≤ m.step) && decide (m.step ≤ 1073741824)
def In64 (z : Int) : Prop := -9223372036854775808 ≤ z ∧ z ≤ 9223372036854775807
structure ManM.Ok (m : ManM) : Prop where
  n : In64 m.n
  epoch : In64 m.epoch
  step : In64 m.step
  sum : In64 m.sum
  most : In64 m.most
  job : m.job < 4294967296
def zeroM : ManM := ⟨0, 0, 0, 0, 0, false, 0⟩
theorem in64_0 : In64 0 := ⟨by decide, by decide⟩
theorem zeroM_ok : zeroM.Ok := ⟨in64_0, in64_0, in64_0, in64_0, in64_0, Nat.zero_lt_succ _⟩
def u64 (z : Int) : Nat := (z % 18446744073709551616).toNat
def i64 (n : Nat) : Int := if n < 9223372036854775808 then (n : Int) else (n : Int) - 18446744073709551616
theorem u64_lt (z : Int) : u64 z < 18446744073709551616 := by unfold u64; omega
theorem i64_u64 {z : Int} (h : In64 z) : i64 (u64 z) = z := by
  unfold In64 at h
  unfold i64 u64
  split <;> omega
theorem u64_i64 {n : Nat} (h : n < 18446744073709551616) : u64 (i64 n) = n := by
  unfold i64 u64
  split <;> omega
theorem i64_in {n : Nat} (h : n < 18446744073709551616) : In64 (i64 n) := by
  unfold i64 In64
  split <;> omega
def ManM.b1 (_ : ManM) : ByteArray := ⟨#[77]⟩
def ManM.b2 (m : ManM) : ByteArray := m.b1 ++ digB 8 (u64 m.n)
def ManM.b3 (m : ManM) : ByteArray := m.b2 ++ digB 8 (u64 m.epoch)
def ManM.b4 (m : ManM) : ByteArray := m.b3 ++ digB 8 (u64 m.step)
def ManM.b5 (m : ManM) : ByteArray := m.b4 ++ digB 8 (u64 m.sum)
def ManM.b6 (m : ManM) : ByteArray := m.b5 ++ digB 8 (u64 m.most)
def ManM.b7 (m : ManM) : ByteArray := m.b6 ++ digB 1 (if m.done = true then 1 else 0)
def ManM.head (m : ManM) : ByteArray := m.b7 ++ digB 4 m.job
def ManM.bytes (m : ManM) : ByteArray := m.head ++ digB 4 (crcN m.head)
theorem ManM.s1 (m : ManM) : m.b1.size = 1 := rfl
theorem ManM.s2 (m : ManM) : m.b2.size = 9 := by rw [ManM.b2, ByteArray.size_append, digB_size, m.s1]
theorem ManM.s3 (m : ManM) : m.b3.size = 17 := by rw [ManM.b3, ByteArray.size_append, digB_size, m.s2]
theorem ManM.s4 (m : ManM) : m.b4.size = 25 := by rw [ManM.b4, ByteArray.size_append, digB_size, m.s3]
theorem ManM.s5 (m : ManM) : m.b5.size = 33 := by rw [ManM.b5, ByteArray.size_append, digB_size, m.s4]
theorem ManM.s6 (m : ManM) : m.b6.size = 41 := by rw [ManM.b6, ByteArray.size_append, digB_size, m.s5]
theorem ManM.s7 (m : ManM) : m.b7.size = 42 := by rw [ManM.b7, ByteArray.size_append, digB_size, m.s6]
theorem ManM.s8 (m : ManM) : m.head.size = 46 := by rw [ManM.head, ByteArray.size_append, digB_size, m.s7]
theorem ManM.bytes_size (m : ManM) : m.bytes.size = 50 := by rw [ManM.bytes, ByteArray.size_append, digB_size, m.s8]
/-- what bytes say -/
def ofB (b : ByteArray) : ManM := ⟨i64 (numB (b.extract 1 9)), i64 (numB (b.extract 9 17)), i64 (numB (b.extract 17 25)), i64 (numB (b.extract 25 33)), i64 (numB (b.extract 33 41)), numB (b.extract 41 42) == 1, numB (b.extract 42 46)⟩
def getM (b : ByteArray) : Option ManM := if b.size = 50 ∧ (ofB b).may = true ∧ (ofB b).bytes = b then some (ofB b) else none
theorem ext_num {b : ByteArray} {i j : Nat} (h : j - i ≤ 8) : numB (b.extract i j) < 18446744073709551616 := by
  refine Nat.lt_of_lt_of_le (numB_lt _) ?_
  have : (b.extract i j).size ≤ 8 := by rw [ByteArray.size_extract]; omega
  exact Nat.le_trans (Nat.pow_le_pow_right (by decide) this) (by decide)
theorem ofB_ok (b : ByteArray) : (ofB b).Ok := by
  have h4 : numB (b.extract 42 46) < 4294967296 := by
    refine Nat.lt_of_lt_of_le (numB_lt _) ?_
    have : (b.extract 42 46).size ≤ 4 := by rw [ByteArray.size_extract]; omega
    exact Nat.le_trans (Nat.pow_le_pow_right (by decide) this) (by decide)
  have e1 : numB (b.extract 1 9) < 18446744073709551616 := ext_num (by decide)
  have e2 : numB (b.extract 9 17) < 18446744073709551616 := ext_num (by decide)
  have e3 : numB (b.extract 17 25) < 18446744073709551616 := ext_num (by decide)
  have e4 : numB (b.extract 25 33) < 18446744073709551616 := ext_num (by decide)
  have e5 : numB (b.extract 33 41) < 18446744073709551616 := ext_num (by decide)
  unfold ofB
  generalize numB (b.extract 1 9) = n1 at *
  generalize numB (b.extract 9 17) = n2 at *
  generalize numB (b.extract 17 25) = n3 at *
  generalize numB (b.extract 25 33) = n4 at *
  generalize numB (b.extract 33 41) = n5 at *
  generalize numB (b.extract 42 46) = n6 at *
  exact ⟨i64_in e1, i64_in e2, i64_in e3, i64_in e4, i64_in e5, h4⟩
theorem ManM.x1 (m : ManM) : m.bytes.extract 1 9 = digB 8 (u64 m.n) := by
  rw [ManM.bytes, ext_left (by rw [m.s8]; decide), ManM.head, ext_left (by rw [m.s7]; decide), ManM.b7, ext_left (by rw [m.s6]; decide), ManM.b6, ext_left (by rw [m.s5]; decide), ManM.b5, ext_left (by rw [m.s4]; decide), ManM.b4, ext_left (by rw [m.s3]; decide), ManM.b3, ext_left (by rw [m.s2]; decide), ManM.b2, ext_right (by rw [m.s1]) (by rw [m.s1, digB_size])]
theorem ManM.x2 (m : ManM) : m.bytes.extract 9 17 = digB 8 (u64 m.epoch) := by
  rw [ManM.bytes, ext_left (by rw [m.s8]; decide), ManM.head, ext_left (by rw [m.s7]; decide), ManM.b7, ext_left (by rw [m.s6]; decide), ManM.b6, ext_left (by rw [m.s5]; decide), ManM.b5, ext_left (by rw [m.s4]; decide), ManM.b4, ext_left (by rw [m.s3]; decide), ManM.b3, ext_right (by rw [m.s2]) (by rw [m.s2, digB_size])]
theorem ManM.x3 (m : ManM) : m.bytes.extract 17 25 = digB 8 (u64 m.step) := by
  rw [ManM.bytes, ext_left (by rw [m.s8]; decide), ManM.head, ext_left (by rw [m.s7]; decide), ManM.b7, ext_left (by rw [m.s6]; decide), ManM.b6, ext_left (by rw [m.s5]; decide), ManM.b5, ext_left (by rw [m.s4]; decide), ManM.b4, ext_right (by rw [m.s3]) (by rw [m.s3, digB_size])]
theorem ManM.x4 (m : ManM) : m.bytes.extract 25 33 = digB 8 (u64 m.sum) := by
  rw [ManM.bytes, ext_left (by rw [m.s8]; decide), ManM.head, ext_left (by rw [m.s7]; decide), ManM.b7, ext_left (by rw [m.s6]; decide), ManM.b6, ext_left (by rw [m.s5]; decide), ManM.b5, ext_right (by rw [m.s4]) (by rw [m.s4, digB_size])]
theorem ManM.x5 (m : ManM) : m.bytes.extract 33 41 = digB 8 (u64 m.most) := by
  rw [ManM.bytes, ext_left (by rw [m.s8]; decide), ManM.head, ext_left (by rw [m.s7]; decide), ManM.b7, ext_left (by rw [m.s6]; decide), ManM.b6, ext_right (by rw [m.s5]) (by rw [m.s5, digB_size])]
theorem ManM.x6 (m : ManM) : m.bytes.extract 41 42 = digB 1 (if m.done = true then 1 else 0) := by
  rw [ManM.bytes, ext_left (by rw [m.s8]; decide), ManM.head, ext_left (by rw [m.s7]; decide), ManM.b7, ext_right (by rw [m.s6]) (by rw [m.s6, digB_size])]
theorem ManM.x7 (m : ManM) : m.bytes.extract 42 46 = digB 4 m.job := by
  rw [ManM.bytes, ext_left (by rw [m.s8]; decide), ManM.head, ext_right (by rw [m.s7]) (by rw [m.s7, digB_size])]
theorem num8 (z : Int) : numB (digB 8 (u64 z)) = u64 z := by
  rw [numB_digB]; exact Nat.mod_eq_of_lt (u64_lt z)
theorem ofB_bytes {m : ManM} (h : m.Ok) : ofB m.bytes = m := by
  unfold ofB
  rw [m.x1, m.x2, m.x3, m.x4, m.x5, m.x6, m.x7, num8, num8, num8, num8, num8, i64_u64 h.n, i64_u64 h.epoch, i64_u64 h.step, i64_u64 h.sum, i64_u64 h.most, numB_digB, numB_digB, Nat.mod_eq_of_lt (show m.job < 256 ^ 4 from h.job)]
  obtain ⟨n, ep, st, su, mo, d, j⟩ := m
  cases d <;> rfl
theorem getM_bytes {m : ManM} (h : m.Ok) (hm : m.may = true) : getM m.bytes = some m := by
  unfold getM
  rw [ofB_bytes h, if_pos ⟨m.bytes_size, hm, rfl⟩]
theorem getM_some {b : ByteArray} {m : ManM} (h : getM b = some m) : m.bytes = b ∧ m.may = true ∧ m.Ok ∧ b.size = 50 ∧ m = ofB b := by
  unfold getM at h
  split at h
  · rename_i hc
    injection h with h
    subst h
    exact ⟨hc.2.2, hc.2.1, ofB_ok b, hc.1, rfl⟩
  · cases h
theorem getM_size {b : ByteArray} (h : b.size ≠ 50) : getM b = none := by
  unfold getM
  rw [if_neg (fun e => h e.1)]
theorem bytes_inj {m m' : ManM} (h : m.Ok) (h' : m'.Ok) (e : m.bytes = m'.bytes) : m = m' := by rw [← ofB_bytes h, ← ofB_bytes h', e]
end Go.Proofs.YtlcgkcafelpglaaGreatDoor
namespace Go.Proofs.YtlcgkcafelpglaaGreatDoor
open Go.RowKit

/-- the file of a number -/
def nameM (n : Int) : ByteArray := ⟨#[109, 102, 46]⟩ ++ ⟨(Lib.itoa n).toArray⟩
def tmpN : ByteArray := ⟨#[109, 102, 46, 116, 109, 112]⟩
theorem nameM_size {n : Int} (h : In64 n) : 3 ≤ (nameM n).size ∧ (nameM n).size ≤ 24 := by
  have := Lib.itoa_length_le n h.1 h.2
  unfold nameM
  rw [ByteArray.size_append]
  have h1 : (⟨#[109, 102, 46]⟩ : ByteArray).size = 3 := rfl
  have h2 : (⟨(Lib.itoa n).toArray⟩ : ByteArray).size = (Lib.itoa n).length := by simp [ByteArray.size]
  omega
theorem nameM_bad {n : Int} (h : In64 n) : badN (nameM n) = false := by
  have := nameM_size h
  unfold badN
  rw [Bool.or_eq_false_iff]
  exact ⟨beq_eq_false_iff_ne.2 (by omega), decide_eq_false (by omega)⟩
theorem tmp_bad : badN tmpN = false := rfl
theorem nameM_list (n : Int) : (nameM n).data.toList = [109, 102, 46] ++ Lib.itoa n := by
  unfold nameM
  simp [ByteArray.data_append]
theorem dig_nat {u : Nat} (h : u < 10) : (UInt8.ofNat (48 + u)).toNat = 48 + u := by rw [UInt8.toNat_ofNat']; omega
theorem decDigits_val : ∀ (u : Nat), (Lib.decDigits u).foldl (fun a c => a * 10 + (c.toNat - 48)) 0 = u := by
  intro u
  induction u using Nat.strongRecOn with
  | _ u ih =>
    rw [Lib.decDigits]
    split
    · rename_i h
      simp only [List.foldl_cons, List.foldl_nil]
      rw [dig_nat h]
      omega
    · rename_i h
      rw [List.foldl_append, ih (u / 10) (by omega)]
      simp only [List.foldl_cons, List.foldl_nil]
      rw [dig_nat (show u % 10 < 10 by omega)]
      omega
theorem decDigits_inj {a b : Nat} (h : Lib.decDigits a = Lib.decDigits b) : a = b := by rw [← decDigits_val a, ← decDigits_val b, h]
theorem decDigits_lt : ∀ (u : Nat), ∀ c ∈ Lib.decDigits u, 48 ≤ c.toNat ∧ c.toNat ≤ 57 := by
  intro u
  induction u using Nat.strongRecOn with
  | _ u ih =>
    intro c hc
    rw [Lib.decDigits] at hc
    split at hc
    · rename_i h
      obtain rfl := List.mem_singleton.1 hc
      rw [dig_nat h]; omega
    · rcases List.mem_append.1 hc with hc | hc
      · exact ih _ (by omega) c hc
      · obtain rfl := List.mem_singleton.1 hc
        rw [dig_nat (show u % 10 < 10 by omega)]; omega
theorem nameM_inj {a b : Int} (ha : 0 ≤ a) (hb : 0 ≤ b) (h : nameM a = nameM b) : a = b := by
  have h1 := congrArg (fun s : ByteArray => s.data.toList) h
  simp only [nameM_list, List.append_cancel_left_eq] at h1
  obtain ⟨x, rfl⟩ : ∃ x : Nat, a = x := ⟨a.toNat, by omega⟩
  obtain ⟨y, rfl⟩ : ∃ y : Nat, b = y := ⟨b.toNat, by omega⟩
  rw [Lib.itoa_nonneg, Lib.itoa_nonneg] at h1
  rw [decDigits_inj h1]
theorem nameM_tmp {a : Int} (ha : 0 ≤ a) : nameM a ≠ tmpN := by
  intro h
  have h1 := congrArg (fun s : ByteArray => s.data.toList) h
  obtain ⟨x, rfl⟩ : ∃ x : Nat, a = x := ⟨a.toNat, by omega⟩
  simp only [nameM_list] at h1
  rw [Lib.itoa_nonneg] at h1
  have h2 : Lib.decDigits x = [116, 109, 112] := by simpa [tmpN] using h1
  have := decDigits_lt x 116 (by rw [h2]; simp)
  simp at this
/-- does a name begin as a manifest's -/
def prefN (s : ByteArray) : Bool := Lib.hasPrefix s.data.toList [109, 102, 46]
theorem pref_name (n : Int) : prefN (nameM n) = true := by
  unfold prefN Lib.hasPrefix
  rw [nameM_list]
  simp [List.isPrefixOf]
theorem pref_tmp : prefN tmpN = true := rfl
/-- a store: its newest one, whether there is one -/
structure StD where
  m : ManM
  some : Bool
def scanStep (D : DiskD) (S : StD) (t : ByteArray) : StD :=
  match getM (D.read t).2 with
  | none => S
  | some m => if nameM m.n = t ∧ S.m.n < m.n then ⟨m, true⟩ else S
def scanD (D : DiskD) (ns : List ByteArray) : StD := ns.foldl (scanStep D) ⟨zeroM, false⟩
theorem scanD_snoc (D : DiskD) (ns : List ByteArray) (t : ByteArray) : scanD D (ns ++ [t]) = scanStep D (scanD D ns) t := by unfold scanD; rw [List.foldl_append]; rfl
def keptS (S : StD) (t : ByteArray) : Bool := S.some && decide (t = nameM S.m.n)
def dropD (S : StD) : DiskD → List ByteArray → Int × DiskD
  | D, [] => (0, D)
  | D, t :: r => if keptS S t = true then dropD S D r else if (D.step 3 t t 0 true).1 ≠ 0 then D.step 3 t t 0 true else dropD S (D.step 3 t t 0 true).2 r
def mfNames (D : DiskD) : List ByteArray := (D.files.map (·.name)).filter prefN
def newestD (D : DiskD) : StD := scanD D (mfNames D)
def openD (D : DiskD) : Int × DiskD := if D.off = true then (160, D) else dropD (newestD D) D (mfNames D)
def clearD (D : DiskD) : Int × DiskD := if (D.read tmpN).1 ≠ 0 then (0, D) else D.step 3 tmpN tmpN 0 true
/-- what stands behind the label -/
def outD (E : Int) (D : DiskD) (S : StD) : Int × DiskD × StD := if E = 161 then (E, (clearD D).2, S) else (E, D, S)
def nextM (S : StD) (m : ManM) : ManM := { m with n := S.m.n + 1 }
def writeD (D : DiskD) (S : StD) (m : ManM) : Int × DiskD × StD :=
  if (nextM S m).may = false then (2, D, S)
  else if (clearD D).1 ≠ 0 then outD (clearD D).1 (clearD D).2 S
  else if ((clearD D).2.append tmpN (nextM S m).bytes).1 ≠ 0 then outD ((clearD D).2.append tmpN (nextM S m).bytes).1 ((clearD D).2.append tmpN (nextM S m).bytes).2 S
  else if ((((clearD D).2.append tmpN (nextM S m).bytes).2).step 0 tmpN tmpN 0 true).1 ≠ 0 then outD ((((clearD D).2.append tmpN (nextM S m).bytes).2).step 0 tmpN tmpN 0 true).1 ((((clearD D).2.append tmpN (nextM S m).bytes).2).step 0 tmpN tmpN 0 true).2 S
  else if (((((clearD D).2.append tmpN (nextM S m).bytes).2).step 0 tmpN tmpN 0 true).2.step 2 tmpN (nameM (nextM S m).n) 0 true).1 ≠ 0 then
    outD (((((clearD D).2.append tmpN (nextM S m).bytes).2).step 0 tmpN tmpN 0 true).2.step 2 tmpN (nameM (nextM S m).n) 0 true).1 (((((clearD D).2.append tmpN (nextM S m).bytes).2).step 0 tmpN tmpN 0 true).2.step 2 tmpN (nameM (nextM S m).n) 0 true).2 S
  else if S.some = true then
    ((((((clearD D).2.append tmpN (nextM S m).bytes).2).step 0 tmpN tmpN 0 true).2.step 2 tmpN (nameM (nextM S m).n) 0 true).2.step 3 (nameM S.m.n) (nameM S.m.n) 0 true |>.1,
      (((((clearD D).2.append tmpN (nextM S m).bytes).2).step 0 tmpN tmpN 0 true).2.step 2 tmpN (nameM (nextM S m).n) 0 true).2.step 3 (nameM S.m.n) (nameM S.m.n) 0 true |>.2, ⟨nextM S m, true⟩)
  else (0, (((((clearD D).2.append tmpN (nextM S m).bytes).2).step 0 tmpN tmpN 0 true).2.step 2 tmpN (nameM (nextM S m).n) 0 true).2, ⟨nextM S m, true⟩)
/-- the steps and files that a disk may still have -/
structure FitN (D : DiskD) (n : Nat) : Prop where
  steps0 : 0 ≤ D.steps
  steps : D.steps + n ≤ 4611686018427387904
  files : D.files.length + n ≤ 10000000
  used : D.used + 100 * n ≤ 1000000000
  left : -1 ≤ D.left
  left1 : D.left ≤ 9223372036854775807
theorem FitN.less {D : DiskD} {n k : Nat} (h : FitN D n) (hk : k ≤ n) : FitN D k := ⟨h.steps0, by have := h.steps; omega, by have := h.files; omega, by have := h.used; omega, h.left, h.left1⟩
theorem FitN.fit {D : DiskD} {n : Nat} (h : FitN D n) : Fit D :=
  ⟨by have := h.files; omega, fun f hf => by have := size_le_used hf; have := h.used; unfold DiskD.used at this; omega, by have := h.steps; omega, h.steps0, h.left, h.left1⟩
theorem putL_len (L : List FileD) (k : Nat) (th : Bool) (f : FileD) : (putL L k th f).length ≤ L.length + 1 := by
  unfold putL
  split
  · rw [List.length_set]; omega
  · rw [List.length_append, List.length_cons, List.length_take, List.length_drop]; omega
theorem putL_used (L : List FileD) (k : Nat) (th : Bool) (f : FileD) : usedL (putL L k th f) ≤ usedL L + f.b.size := by
  unfold putL
  split
  · rcases Nat.lt_or_ge k L.length with hk | hk
    · have := usedL_set f (List.getElem?_eq_getElem hk); omega
    · rw [List.set_eq_of_length_le hk]; omega
  · rw [usedL_new]; omega
theorem does_fit (kind : Int) (L : List FileD) (i n : Nat) (dst : ByteArray) (f : FileD) (hi : L[i]? = some f) : (doesL kind L i n dst f).length ≤ L.length ∧ usedL (doesL kind L i n dst f) ≤ usedL L := by
  have hlt := (List.getElem?_eq_some_iff.1 hi).1
  have hs := usedL_split hi
  unfold doesL
  split
  · refine ⟨?_, by omega⟩
    rw [List.length_append, List.length_take, List.length_drop]; omega
  · split
    · have h1 := putL_len (L.take i ++ L.drop (i + 1)) (findN ((L.take i ++ L.drop (i + 1)).map (·.name)) dst).1 (findN ((L.take i ++ L.drop (i + 1)).map (·.name)) dst).2 ⟨dst, f.b, n⟩
      have h2 := putL_used (L.take i ++ L.drop (i + 1)) (findN ((L.take i ++ L.drop (i + 1)).map (·.name)) dst).1 (findN ((L.take i ++ L.drop (i + 1)).map (·.name)) dst).2 ⟨dst, f.b, n⟩
      rw [List.length_append, List.length_take, List.length_drop] at h1
      have h3 : (⟨dst, f.b, n⟩ : FileD).b.size = f.b.size := rfl
      exact ⟨by omega, by omega⟩
    · refine ⟨by rw [List.length_set]; omega, ?_⟩
      have h1 := usedL_set ⟨f.name, f.b.extract 0 n, n⟩ hi
      have h3 : (⟨f.name, f.b.extract 0 n, n⟩ : FileD).b.size ≤ f.b.size := by show (f.b.extract 0 n).size ≤ _; rw [ByteArray.size_extract]; omega
      omega
theorem power_fit (D : DiskD) (h : -1 ≤ D.left) : D.power.2.steps = D.steps + 1 ∧ D.power.2.files = D.files ∧ D.power.2.quota = D.quota ∧ -1 ≤ D.power.2.left ∧ D.power.2.left ≤ max D.left (-1) := by
  unfold DiskD.power
  split
  · exact ⟨rfl, rfl, rfl, by simp, by simp; omega⟩
  · split
    · exact ⟨rfl, rfl, rfl, by simp; omega, by simp; omega⟩
    · exact ⟨rfl, rfl, rfl, h, by simp; omega⟩
theorem FitN.step {D : DiskD} {n : Nat} (h : FitN D (n + 1)) (kind : Int) (a b : ByteArray) (k : Int) (all : Bool) : FitN (D.step kind a b k all).2 n := by
  have hl := h.less (Nat.le_succ n)
  unfold DiskD.step
  split
  · exact hl
  · split
    · exact hl
    · rename_i i f hat
      have hp := power_fit D h.left
      generalize (if all = true then (f.b.size : Int) else k) = K
      split
      · exact hl
      · have h1 := (DiskD.at_some hat).2
        have hd := does_fit kind D.files i K.toNat b f h1
        have hu := h.used; have hf := h.files; have hs := h.steps; have hl1 := h.left1; have hs0 := h.steps0
        unfold DiskD.used at hu
        split
        · refine ⟨?_, ?_, ?_, ?_, ?_, ?_⟩
          · show 0 ≤ D.power.2.steps; omega
          · show D.power.2.steps + n ≤ _; omega
          · show (doesL kind D.files i _ b f).length + n ≤ _; omega
          · show usedL (doesL kind D.files i _ b f) + 100 * n ≤ _; omega
          · exact hp.2.2.2.1
          · show D.power.2.left ≤ _; omega
        · refine ⟨?_, ?_, ?_, ?_, ?_, ?_⟩
          · show 0 ≤ D.power.2.steps; omega
          · show D.power.2.steps + n ≤ _; omega
          · show D.power.2.files.length + n ≤ _; rw [hp.2.1]; omega
          · show usedL D.power.2.files + 100 * n ≤ _; rw [hp.2.1]; omega
          · exact hp.2.2.2.1
          · show D.power.2.left ≤ _; omega
theorem FitN.append {D : DiskD} {n : Nat} (h : FitN D (n + 1)) (a b : ByteArray) (hb : b.size ≤ 100) : FitN (D.append a b).2 n := by
  have hl := h.less (Nat.le_succ n)
  unfold DiskD.append
  split
  · exact hl
  · split
    · exact hl
    · split
      · exact hl
      · have hp := power_fit (D.put a b) h.left
        have h0 := h.used; have h2 := h.files; have h3 := h.steps; have h4 := h.left1; have h5 := h.steps0
        unfold DiskD.used at h0
        have hpl : (D.put a b).files.length ≤ D.files.length + 1 := putL_len _ _ _ _
        have hpu : usedL (D.put a b).files ≤ usedL D.files + b.size := by
          unfold DiskD.put
          show usedL (putL D.files (findN (D.files.map (·.name)) a).1 (findN (D.files.map (·.name)) a).2 ⟨(D.was a).name, (D.was a).b ++ b, (D.was a).safe⟩) ≤ _
          cases hat : D.at_ a with
          | none =>
            have hw : D.was a = ⟨a, ByteArray.empty, -1⟩ := by unfold DiskD.was; rw [hat]
            have := putL_used D.files (findN (D.files.map (·.name)) a).1 (findN (D.files.map (·.name)) a).2 ⟨(D.was a).name, (D.was a).b ++ b, (D.was a).safe⟩
            have e : (⟨(D.was a).name, (D.was a).b ++ b, (D.was a).safe⟩ : FileD).b.size = b.size := by
              show ((D.was a).b ++ b).size = _
              rw [hw, ByteArray.size_append]; simp
            omega
          | some x =>
            obtain ⟨i, f⟩ := x
            obtain ⟨h6, h7⟩ := DiskD.at_some hat
            have hw : D.was a = f := by unfold DiskD.was; rw [hat]
            rw [h6]
            unfold putL
            rw [if_pos rfl]
            have := usedL_set ⟨(D.was a).name, (D.was a).b ++ b, (D.was a).safe⟩ h7
            have e : (⟨(D.was a).name, (D.was a).b ++ b, (D.was a).safe⟩ : FileD).b.size = f.b.size + b.size := by
              show ((D.was a).b ++ b).size = _
              rw [hw, ByteArray.size_append]
            show usedL (D.files.set i ⟨(D.was a).name, (D.was a).b ++ b, (D.was a).safe⟩) ≤ _
            omega
        have hst : (D.put a b).steps = D.steps := rfl
        have hlf : (D.put a b).left = D.left := rfl
        refine ⟨?_, ?_, ?_, ?_, hp.2.2.2.1, ?_⟩
        · rw [hp.1, hst]; omega
        · rw [hp.1, hst]; omega
        · rw [hp.2.1]; omega
        · unfold DiskD.used; rw [hp.2.1]; omega
        · omega
theorem FitN.clear {D : DiskD} {n : Nat} (h : FitN D (n + 1)) : FitN (clearD D).2 n := by
  unfold clearD
  split
  · exact h.less (Nat.le_succ n)
  · exact h.step _ _ _ _ _
end Go.Proofs.YtlcgkcafelpglaaGreatDoor
