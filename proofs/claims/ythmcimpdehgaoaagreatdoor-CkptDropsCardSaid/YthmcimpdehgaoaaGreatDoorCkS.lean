/- Checkpoints in plain words: names, files, and what a store's calls make of a disk. -/
import Derived.Test.YthmcimpdehgaoaaGreatDoorCstD
import Derived.Test.YthmcimpdehgaoaaGreatDoorCrcS
import Derived.Test.YthmcimpdehgaoaaGreatDoorPk8
namespace Go.Proofs.YthmcimpdehgaoaaGreatDoor
open Go.RowKit

def nameC (n : Nat) : ByteArray := ⟨#[99, 107, 46]⟩ ++ ⟨(Lib.decDigits n).toArray⟩
def tmpC : ByteArray := ⟨#[99, 107, 46, 116, 109, 112]⟩
theorem nameC_list (n : Nat) : (nameC n).data.toList = [99, 107, 46] ++ Lib.decDigits n := by
  unfold nameC
  simp [ByteArray.data_append]
theorem nameC_size {n : Nat} (h : n ≤ 4294967296) : 3 ≤ (nameC n).size ∧ (nameC n).size ≤ 24 := by
  have := Lib.itoa_length_le (n : Int) (by omega) (by omega)
  rw [Lib.itoa_nonneg] at this
  unfold nameC
  rw [ByteArray.size_append]
  have h1 : (⟨#[99, 107, 46]⟩ : ByteArray).size = 3 := rfl
  have h2 : (⟨(Lib.decDigits n).toArray⟩ : ByteArray).size = (Lib.decDigits n).length := by simp [ByteArray.size]
  omega
theorem nameC_bad {n : Nat} (h : n ≤ 4294967296) : badN (nameC n) = false := by
  have := nameC_size h
  unfold badN
  rw [Bool.or_eq_false_iff]
  exact ⟨beq_eq_false_iff_ne.2 (by omega), decide_eq_false (by omega)⟩
theorem tmpC_bad : badN tmpC = false := rfl
theorem nameC_inj {a b : Nat} (h : nameC a = nameC b) : a = b := by
  have h1 := congrArg (fun s : ByteArray => s.data.toList) h
  simp only [nameC_list, List.append_cancel_left_eq] at h1
  exact decDigits_inj h1
theorem nameC_tmp {a : Nat} : nameC a ≠ tmpC := by
  intro h
  have h1 := congrArg (fun s : ByteArray => s.data.toList) h
  simp only [nameC_list] at h1
  have h2 : Lib.decDigits a = [116, 109, 112] := by simpa [tmpC] using h1
  have := decDigits_lt a 116 (by rw [h2]; simp)
  simp at this
def headC (n : Nat) (b : ByteArray) : ByteArray := ((⟨#[67]⟩ ++ digB 8 n) ++ digB 4 b.size) ++ b
def fileC (n : Nat) (b : ByteArray) : ByteArray := headC n b ++ digB 4 (crcN (headC n b))
theorem headC_size (n : Nat) (b : ByteArray) : (headC n b).size = 13 + b.size := by
  unfold headC
  rw [ByteArray.size_append, ByteArray.size_append, ByteArray.size_append, digB_size, digB_size]
  rfl
theorem fileC_size (n : Nat) (b : ByteArray) : (fileC n b).size = 17 + b.size := by
  unfold fileC
  rw [ByteArray.size_append, headC_size, digB_size]
  omega
/-- what a file holds, if it is right -/
def dataC (n : Nat) (f : ByteArray) : Option ByteArray :=
  if 17 ≤ f.size ∧ f.size - 17 ≤ 4194304 ∧ fileC n (f.extract 13 (f.size - 4)) = f then some (f.extract 13 (f.size - 4)) else none
theorem headC_data (n : Nat) (b : ByteArray) (t : ByteArray) : (headC n b ++ t).extract 13 (13 + b.size) = b := by
  have h1 : ((⟨#[67]⟩ ++ digB 8 n) ++ digB 4 b.size).size = 13 := by rw [ByteArray.size_append, ByteArray.size_append, digB_size, digB_size]; rfl
  unfold headC
  generalize (⟨#[67]⟩ ++ digB 8 n) ++ digB 4 b.size = p at h1
  apply ByteArray.ext
  have h2 : p.data.size = 13 := h1
  have h3 : b.size = b.data.size := rfl
  rw [ByteArray.data_extract, ByteArray.data_append, ByteArray.data_append, Array.append_assoc]
  apply Array.ext'
  rw [Array.toList_extract]
  simp only [Array.toList_append, List.extract_eq_take_drop]
  rw [List.drop_append_of_le_length (by simp [h2]), List.drop_of_length_le (by simp [h2]), List.nil_append, List.take_append_of_le_length (by simp), List.take_of_length_le (by simp)]
theorem dataC_file {n : Nat} {b : ByteArray} (hb : b.size ≤ 4194304) : dataC n (fileC n b) = some b := by
  have h1 := fileC_size n b
  have h2 : (fileC n b).extract 13 ((fileC n b).size - 4) = b := by
    rw [h1, show 17 + b.size - 4 = 13 + b.size by omega]
    exact headC_data n b _
  unfold dataC
  rw [h2, if_pos ⟨by omega, by omega, rfl⟩]
theorem dataC_some {n : Nat} {f b : ByteArray} (h : dataC n f = some b) : f = fileC n b ∧ b.size ≤ 4194304 := by
  unfold dataC at h
  split at h
  · rename_i hc
    injection h with h
    subst h
    refine ⟨hc.2.2.symm, ?_⟩
    rw [ByteArray.size_extract]; omega
  · cases h
def clearC (D : DiskD) : Int × DiskD := if (D.read tmpC).1 ≠ 0 then (0, D) else D.step 3 tmpC tmpC 0 true
def openC (D : DiskD) : Int × DiskD := if D.off = true then (160, D) else clearC D
/-- the end of a write -/
def outC (E : Int) (D : DiskD) : Int × DiskD := if E = 161 ∨ E = 3 then (E, (clearC D).2) else (E, D)
def writeC (D : DiskD) (step : Int) (b : ByteArray) : Int × DiskD :=
  if step < 0 ∨ 1073741824 < step then (2, D)
  else if 4194304 < b.size then (3, D)
  else if D.off = true then (160, D)
  else if (clearC D).1 ≠ 0 then outC (clearC D).1 (clearC D).2
  else if ((clearC D).2.append tmpC (fileC step.toNat b)).1 ≠ 0 then outC ((clearC D).2.append tmpC (fileC step.toNat b)).1 ((clearC D).2.append tmpC (fileC step.toNat b)).2
  else if (((clearC D).2.append tmpC (fileC step.toNat b)).2.step 0 tmpC tmpC 0 true).1 ≠ 0 then outC (((clearC D).2.append tmpC (fileC step.toNat b)).2.step 0 tmpC tmpC 0 true).1 (((clearC D).2.append tmpC (fileC step.toNat b)).2.step 0 tmpC tmpC 0 true).2
  else if ((((clearC D).2.append tmpC (fileC step.toNat b)).2.step 0 tmpC tmpC 0 true).2.step 2 tmpC (nameC step.toNat) 0 true).1 ≠ 0 then outC ((((clearC D).2.append tmpC (fileC step.toNat b)).2.step 0 tmpC tmpC 0 true).2.step 2 tmpC (nameC step.toNat) 0 true).1 ((((clearC D).2.append tmpC (fileC step.toNat b)).2.step 0 tmpC tmpC 0 true).2.step 2 tmpC (nameC step.toNat) 0 true).2
  else (0, ((((clearC D).2.append tmpC (fileC step.toNat b)).2.step 0 tmpC tmpC 0 true).2.step 2 tmpC (nameC step.toNat) 0 true).2)
def readC (D : DiskD) (step : Int) : Int × ByteArray :=
  if step < 0 ∨ 1073741824 < step then (2, ByteArray.empty)
  else if (D.read (nameC step.toNat)).1 = 160 then (160, ByteArray.empty)
  else if (D.read (nameC step.toNat)).1 ≠ 0 then (190, ByteArray.empty)
  else match dataC step.toNat (D.read (nameC step.toNat)).2 with
    | none => (190, ByteArray.empty)
    | some b => (0, b)
/-- the step of a file's name -/
noncomputable def stepOf (t : ByteArray) : Option Nat := open Classical in if h : ∃ n, n ≤ 1073741824 ∧ nameC n = t then some (Classical.choose h) else none
theorem stepOf_some {t : ByteArray} {n : Nat} : stepOf t = some n ↔ n ≤ 1073741824 ∧ nameC n = t := by
  unfold stepOf
  constructor
  · intro h
    split at h
    · rename_i hx
      injection h with h
      subst h
      exact Classical.choose_spec hx
    · cases h
  · intro h
    rw [dif_pos ⟨n, h⟩]
    rw [nameC_inj ((Classical.choose_spec (⟨n, h⟩ : ∃ n, n ≤ 1073741824 ∧ nameC n = t)).2.trans h.2.symm)]
theorem stepOf_name {n : Nat} (h : n ≤ 1073741824) : stepOf (nameC n) = some n := stepOf_some.2 ⟨h, rfl⟩
/-- a number, in its place among rising ones -/
def insN (l : List Nat) (n : Nat) : List Nat := l.takeWhile (fun k => decide (k ≤ n)) ++ n :: l.dropWhile (fun k => decide (k ≤ n))
noncomputable def stepsOf (D : DiskD) : List Nat := (D.files.map (·.name)).filterMap stepOf
noncomputable def allC (D : DiskD) : List Nat := (stepsOf D).mergeSort
noncomputable def stepsC (D : DiskD) : List Nat := (allC D).filter fun n => decide ((readC D (n : Int)).1 = 0)
noncomputable def newestC (D : DiskD) : Int × Bool := match (stepsC D).getLast? with
  | none => (0, false)
  | some n => ((n : Int), true)
def dropGo (below : Int) : DiskD → List Nat → Int × DiskD
  | D, [] => (0, D)
  | D, n :: r => if below ≤ (n : Int) then (0, D) else if (D.step 3 (nameC n) (nameC n) 0 true).1 ≠ 0 then D.step 3 (nameC n) (nameC n) 0 true else dropGo below (D.step 3 (nameC n) (nameC n) 0 true).2 r
noncomputable def dropC (D : DiskD) (below : Int) : Int × DiskD := if D.off = true then (160, D) else dropGo below D (allC D)
end Go.Proofs.YthmcimpdehgaoaaGreatDoor
