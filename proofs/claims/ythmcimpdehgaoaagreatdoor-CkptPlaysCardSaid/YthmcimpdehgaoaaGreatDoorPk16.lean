/- Decimal digits, plain. Checkpoints in plain words: names, files, and what a store's calls make of a disk. The reference's store of checkpoints in plain words; alike to the program's over disks that are alike. -/
import Derived.Lib.ItoaNum
import Derived.Lib.ItoaMem
import Derived.Lib.ItoaLen
import Derived.Test.YthmcimpdehgaoaaGreatDoorPk15
import Derived.Test.YthmcimpdehgaoaaGreatDoorDigS
import Derived.Test.YthmcimpdehgaoaaGreatDoorRkP
namespace Go.Proofs.YthmcimpdehgaoaaGreatDoor
open Go.RowKit

theorem dig_nat {u : Nat} (h : u < 10) : (UInt8.ofNat (48 + u)).toNat = 48 + u := by rw [UInt8.toNat_ofNat']; omega
theorem decDigits_val : ∀ (u : Nat), (Lib.decDigits u).foldl (fun a c => a * 10 + (c.toNat - 48)) 0 = u := by
  intro u
  induction u using Nat.strongRecOn with
  | _ u ih =>
    rw [Lib.decDigits]
    split
    · rename_i h
      simp only [List.foldl_cons, List.foldl_nil]
      rw [dig_nat h]
      omega
    · rename_i h
      rw [List.foldl_append, ih (u / 10) (by omega)]
      simp only [List.foldl_cons, List.foldl_nil]
      rw [dig_nat (show u % 10 < 10 by omega)]
      omega
theorem decDigits_inj {a b : Nat} (h : Lib.decDigits a = Lib.decDigits b) : a = b := by rw [← decDigits_val a, ← decDigits_val b, h]
theorem decDigits_lt : ∀ (u : Nat), ∀ c ∈ Lib.decDigits u, 48 ≤ c.toNat ∧ c.toNat ≤ 57 := by
  intro u
  induction u using Nat.strongRecOn with
  | _ u ih =>
    intro c hc
    rw [Lib.decDigits] at hc
    split at hc
    · rename_i h
      obtain rfl := List.mem_singleton.1 hc
      rw [dig_nat h]; omega
    · rcases List.mem_append.1 hc with hc | hc
      · exact ih _ (by omega) c hc
      · obtain rfl := List.mem_singleton.1 hc
        rw [dig_nat (show u % 10 < 10 by omega)]; omega
end Go.Proofs.YthmcimpdehgaoaaGreatDoor
namespace Go.Proofs.YthmcimpdehgaoaaGreatDoor
open Go.RowKit

def nameC (n : Nat) : ByteArray := ⟨#[99, 107, 46]⟩ ++ ⟨(Lib.decDigits n).toArray⟩
def tmpC : ByteArray := ⟨#[99, 107, 46, 116, 109, 112]⟩
theorem nameC_list (n : Nat) : (nameC n).data.toList = [99, 107, 46] ++ Lib.decDigits n := by
  unfold nameC
  simp [ByteArray.data_append]
theorem nameC_size {n : Nat} (h : n ≤ 4294967296) : 3 ≤ (nameC n).size ∧ (nameC n).size ≤ 24 := by
  have := Lib.itoa_length_le (n : Int) (by omega) (by omega)
  rw [Lib.itoa_nonneg] at this
  unfold nameC
  rw [ByteArray.size_append]
  have h1 : (⟨#[99, 107, 46]⟩ : ByteArray).size = 3 := rfl
  have h2 : (⟨(Lib.decDigits n).toArray⟩ : ByteArray).size = (Lib.decDigits n).length := by simp [ByteArray.size]
  omega
theorem nameC_bad {n : Nat} (h : n ≤ 4294967296) : badN (nameC n) = false := by
  have := nameC_size h
  unfold badN
  rw [Bool.or_eq_false_iff]
  exact ⟨beq_eq_false_iff_ne.2 (by omega), decide_eq_false (by omega)⟩
theorem tmpC_bad : badN tmpC = false := rfl
theorem nameC_inj {a b : Nat} (h : nameC a = nameC b) : a = b := by
  have h1 := congrArg (fun s : ByteArray => s.data.toList) h
  simp only [nameC_list, List.append_cancel_left_eq] at h1
  exact decDigits_inj h1
theorem nameC_tmp {a : Nat} : nameC a ≠ tmpC := by
  intro h
  have h1 := congrArg (fun s : ByteArray => s.data.toList) h
  simp only [nameC_list] at h1
  have h2 : Lib.decDigits a = [116, 109, 112] := by simpa [tmpC] using h1
  have := decDigits_lt a 116 (by rw [h2]; simp)
  simp at this
def headC (n : Nat) (b : ByteArray) : ByteArray := ((⟨#[67]⟩ ++ digB 8 n) ++ digB 4 b.size) ++ b
def fileC (n : Nat) (b : ByteArray) : ByteArray := headC n b ++ digB 4 (crcN (headC n b))
theorem headC_size (n : Nat) (b : ByteArray) : (headC n b).size = 13 + b.size := by
  unfold headC
  rw [ByteArray.size_append, ByteArray.size_append, ByteArray.size_append, digB_size, digB_size]
  rfl
theorem fileC_size (n : Nat) (b : ByteArray) : (fileC n b).size = 17 + b.size := by
  unfold fileC
  rw [ByteArray.size_append, headC_size, digB_size]
  omega
/-- what a file holds, if it is right -/
def dataC (n : Nat) (f : ByteArray) : Option ByteArray :=
  if 17 ≤ f.size ∧ f.size - 17 ≤ 4194304 ∧ fileC n (f.extract 13 (f.size - 4)) = f then some (f.extract 13 (f.size - 4)) else none
theorem headC_data (n : Nat) (b : ByteArray) (t : ByteArray) : (headC n b ++ t).extract 13 (13 + b.size) = b := by
  have h1 : ((⟨#[67]⟩ ++ digB 8 n) ++ digB 4 b.size).size = 13 := by rw [ByteArray.size_append, ByteArray.size_append, digB_size, digB_size]; rfl
  unfold headC
  generalize (⟨#[67]⟩ ++ digB 8 n) ++ digB 4 b.size = p at h1
  apply ByteArray.ext
  have h2 : p.data.size = 13 := h1
  have h3 : b.size = b.data.size := rfl
  rw [ByteArray.data_extract, ByteArray.data_append, ByteArray.data_append, Array.append_assoc]
  apply Array.ext'
  rw [Array.toList_extract]
  simp only [Array.toList_append, List.extract_eq_take_drop]
  rw [List.drop_append_of_le_length (by simp [h2]), List.drop_of_length_le (by simp [h2]), List.nil_append, List.take_append_of_le_length (by simp), List.take_of_length_le (by simp)]
theorem dataC_file {n : Nat} {b : ByteArray} (hb : b.size ≤ 4194304) : dataC n (fileC n b) = some b := by
  have h1 := fileC_size n b
  have h2 : (fileC n b).extract 13 ((fileC n b).size - 4) = b := by
    rw [h1, show 17 + b.size - 4 = 13 + b.size by omega]
    exact headC_data n b _
  unfold dataC
  rw [h2, if_pos ⟨by omega, by omega, rfl⟩]
theorem dataC_some {n : Nat} {f b : ByteArray} (h : dataC n f = some b) : f = fileC n b ∧ b.size ≤ 4194304 := by
  unfold dataC at h
  split at h
  · rename_i hc
    injection h with h
    subst h
    refine ⟨hc.2.2.symm, ?_⟩
    rw [ByteArray.size_extract]; omega
  · cases h
def clearC (D : DiskD) : Int × DiskD := if (D.read tmpC).1 ≠ 0 then (0, D) else D.step 3 tmpC tmpC 0 true
def openC (D : DiskD) : Int × DiskD := if D.off = true then (160, D) else clearC D
/-- the end of a write -/
def outC (E : Int) (D : DiskD) : Int × DiskD := if E = 161 ∨ E = 3 then (E, (clearC D).2) else (E, D)
def writeC (D : DiskD) (step : Int) (b : ByteArray) : Int × DiskD :=
  if step < 0 ∨ 1073741824 < step then (2, D)
  else if 4194304 < b.size then (3, D)
  else if D.off = true then (160, D)
  else if (clearC D).1 ≠ 0 then outC (clearC D).1 (clearC D).2
  else if ((clearC D).2.append tmpC (fileC step.toNat b)).1 ≠ 0 then outC ((clearC D).2.append tmpC (fileC step.toNat b)).1 ((clearC D).2.append tmpC (fileC step.toNat b)).2
  else if (((clearC D).2.append tmpC (fileC step.toNat b)).2.step 0 tmpC tmpC 0 true).1 ≠ 0 then outC (((clearC D).2.append tmpC (fileC step.toNat b)).2.step 0 tmpC tmpC 0 true).1 (((clearC D).2.append tmpC (fileC step.toNat b)).2.step 0 tmpC tmpC 0 true).2
  else if ((((clearC D).2.append tmpC (fileC step.toNat b)).2.step 0 tmpC tmpC 0 true).2.step 2 tmpC (nameC step.toNat) 0 true).1 ≠ 0 then outC ((((clearC D).2.append tmpC (fileC step.toNat b)).2.step 0 tmpC tmpC 0 true).2.step 2 tmpC (nameC step.toNat) 0 true).1 ((((clearC D).2.append tmpC (fileC step.toNat b)).2.step 0 tmpC tmpC 0 true).2.step 2 tmpC (nameC step.toNat) 0 true).2
  else (0, ((((clearC D).2.append tmpC (fileC step.toNat b)).2.step 0 tmpC tmpC 0 true).2.step 2 tmpC (nameC step.toNat) 0 true).2)
def readC (D : DiskD) (step : Int) : Int × ByteArray :=
  if step < 0 ∨ 1073741824 < step then (2, ByteArray.empty)
  else if (D.read (nameC step.toNat)).1 = 160 then (160, ByteArray.empty)
  else if (D.read (nameC step.toNat)).1 ≠ 0 then (190, ByteArray.empty)
  else match dataC step.toNat (D.read (nameC step.toNat)).2 with
    | none => (190, ByteArray.empty)
    | some b => (0, b)
/-- the step of a file's name -/
noncomputable def stepOf (t : ByteArray) : Option Nat := open Classical in if h : ∃ n, n ≤ 1073741824 ∧ nameC n = t then some (Classical.choose h) else none
theorem stepOf_some {t : ByteArray} {n : Nat} : stepOf t = some n ↔ n ≤ 1073741824 ∧ nameC n = t := by
  unfold stepOf
  constructor
  · intro h
    split at h
    · rename_i hx
      injection h with h
      subst h
      exact Classical.choose_spec hx
    · cases h
  · intro h
    rw [dif_pos ⟨n, h⟩]
    rw [nameC_inj ((Classical.choose_spec (⟨n, h⟩ : ∃ n, n ≤ 1073741824 ∧ nameC n = t)).2.trans h.2.symm)]
theorem stepOf_name {n : Nat} (h : n ≤ 1073741824) : stepOf (nameC n) = some n := stepOf_some.2 ⟨h, rfl⟩
/-- a number, in its place among rising ones -/
def insN (l : List Nat) (n : Nat) : List Nat := l.takeWhile (fun k => decide (k ≤ n)) ++ n :: l.dropWhile (fun k => decide (k ≤ n))
noncomputable def stepsOf (D : DiskD) : List Nat := (D.files.map (·.name)).filterMap stepOf
noncomputable def allC (D : DiskD) : List Nat := (stepsOf D).mergeSort
noncomputable def stepsC (D : DiskD) : List Nat := (allC D).filter fun n => decide ((readC D (n : Int)).1 = 0)
noncomputable def newestC (D : DiskD) : Int × Bool := match (stepsC D).getLast? with
  | none => (0, false)
  | some n => ((n : Int), true)
def dropGo (below : Int) : DiskD → List Nat → Int × DiskD
  | D, [] => (0, D)
  | D, n :: r => if below ≤ (n : Int) then (0, D) else if (D.step 3 (nameC n) (nameC n) 0 true).1 ≠ 0 then D.step 3 (nameC n) (nameC n) 0 true else dropGo below (D.step 3 (nameC n) (nameC n) 0 true).2 r
noncomputable def dropC (D : DiskD) (below : Int) : Int × DiskD := if D.off = true then (160, D) else dropGo below D (allC D)
end Go.Proofs.YthmcimpdehgaoaaGreatDoor
namespace Go.Proofs.YthmcimpdehgaoaaGreatDoor
open Go.RowKit

def clearRC (R : RDisk) : Int × RDisk := if (R.read tmpC).1 = 0 then R.remove tmpC else (0, R)
def openRC (R : RDisk) : Int × RDisk := if R.gone = true then (160, R) else clearRC R
def stepRC (x : Int × RDisk) (f : RDisk → Int × RDisk) : Int × RDisk := if x.1 = 0 then f x.2 else x
def w2C (R : RDisk) (n : Nat) (b : ByteArray) : Int × RDisk := stepRC (clearRC R) fun R => R.append tmpC (fileC n b)
def w3C (R : RDisk) (n : Nat) (b : ByteArray) : Int × RDisk := stepRC (w2C R n b) fun R => R.sync tmpC
def w4C (R : RDisk) (n : Nat) (b : ByteArray) : Int × RDisk := stepRC (w3C R n b) fun R => R.rename tmpC (nameC n)
def w5C (x : Int × RDisk) : RDisk := if x.1 = 161 ∨ x.1 = 3 then (clearRC x.2).2 else x.2
def writeRC (R : RDisk) (step : Int) (b : ByteArray) : Int × RDisk :=
  if step < 0 ∨ 1073741824 < step then (2, R)
  else if 4194304 < b.size then (3, R)
  else if R.gone = true then (160, R)
  else ((w4C R step.toNat b).1, w5C (w4C R step.toNat b))
def readRC (R : RDisk) (step : Int) : Int × ByteArray :=
  if step < 0 ∨ 1073741824 < step then (2, ByteArray.empty)
  else if (R.read (nameC step.toNat)).1 = 160 then (160, ByteArray.empty)
  else if (R.read (nameC step.toNat)).1 ≠ 0 then (190, ByteArray.empty)
  else match dataC step.toNat (R.read (nameC step.toNat)).2 with
    | none => (190, ByteArray.empty)
    | some b => (0, b)
noncomputable def allRC (R : RDisk) : List Nat := ((R.files.map (·.1)).filterMap stepOf).mergeSort
noncomputable def stepsRC (R : RDisk) : List Nat := (allRC R).filter fun n => decide ((readRC R (n : Int)).1 = 0)
def dropGoR (below : Int) : RDisk → List Nat → Int × RDisk
  | R, [] => (0, R)
  | R, n :: r => if below ≤ (n : Int) then (0, R) else if (R.remove (nameC n)).1 ≠ 0 then R.remove (nameC n) else dropGoR below (R.remove (nameC n)).2 r
noncomputable def dropRC (R : RDisk) (below : Int) : Int × RDisk := if R.gone = true then (160, R) else dropGoR below R (allRC R)
section
variable {D : DiskD} {R : RDisk} (h : Sim D R)
include h
theorem sim_clearC : (clearC D).1 = (clearRC R).1 ∧ Sim (clearC D).2 (clearRC R).2 := by
  unfold clearC clearRC
  rw [sim_read h]
  by_cases he : (R.read tmpC).1 = 0
  · rw [if_neg (by simpa using he), if_pos he]
    exact sim_remove h tmpC
  · rw [if_pos he, if_neg he]
    exact ⟨rfl, h⟩
theorem sim_openC : (openC D).1 = (openRC R).1 ∧ Sim (openC D).2 (openRC R).2 := by
  unfold openC openRC
  rw [h.off]
  cases hoff : D.off with
  | true => simp; exact h
  | false => simp only [Bool.false_eq_true, if_false]; exact sim_clearC h
theorem sim_outC (E : Int) : (outC E D).1 = E ∧ Sim (outC E D).2 (w5C (E, R)) := by
  unfold outC w5C
  by_cases he : E = 161 ∨ E = 3
  · rw [if_pos he, if_pos he]; exact ⟨rfl, (sim_clearC h).2⟩
  · rw [if_neg he, if_neg he]; exact ⟨rfl, h⟩
theorem sim_writeC (step : Int) (b : ByteArray) : (writeC D step b).1 = (writeRC R step b).1 ∧ Sim (writeC D step b).2 (writeRC R step b).2 := by
  unfold writeC writeRC
  by_cases hs : step < 0 ∨ 1073741824 < step
  · rw [if_pos hs, if_pos hs]; exact ⟨rfl, h⟩
  rw [if_neg hs, if_neg hs]
  by_cases hb : 4194304 < b.size
  · rw [if_pos hb, if_pos hb]; exact ⟨rfl, h⟩
  rw [if_neg hb, if_neg hb, h.off]
  cases hoff : D.off with
  | true => simp; exact h
  | false =>
  simp only [Bool.false_eq_true, if_false]
  obtain ⟨n, hn⟩ : ∃ n, step.toNat = n := ⟨_, rfl⟩
  rw [hn]
  obtain ⟨e1, s1⟩ := sim_clearC h
  by_cases h1 : (clearC D).1 = 0
  case neg =>
    have h1' : (clearRC R).1 ≠ 0 := by rw [← e1]; exact h1
    have hw : w4C R n b = clearRC R := by unfold w4C w3C w2C stepRC; simp [h1']
    rw [if_pos h1, hw]
    obtain ⟨a, c⟩ := sim_outC s1 (clearC D).1
    rw [e1] at a c ⊢
    exact ⟨a, c⟩
  have h1' : (clearRC R).1 = 0 := by rw [← e1]; exact h1
  rw [if_neg (show ¬ (clearC D).1 ≠ 0 by simpa using h1)]
  obtain ⟨e2, s2⟩ := sim_append s1 tmpC (fileC n b)
  have hw2 : w2C R n b = (clearRC R).2.append tmpC (fileC n b) := by unfold w2C stepRC; rw [if_pos h1']
  rw [← hw2] at e2 s2
  by_cases h2 : ((clearC D).2.append tmpC (fileC n b)).1 = 0
  case neg =>
    have h2' : (w2C R n b).1 ≠ 0 := by rw [← e2]; exact h2
    have hw : w4C R n b = w2C R n b := by unfold w4C w3C stepRC; simp [h2']
    rw [if_pos h2, hw]
    obtain ⟨a, c⟩ := sim_outC s2 ((clearC D).2.append tmpC (fileC n b)).1
    rw [e2] at a c ⊢
    exact ⟨a, c⟩
  have h2' : (w2C R n b).1 = 0 := by rw [← e2]; exact h2
  rw [if_neg (show ¬ ((clearC D).2.append tmpC (fileC n b)).1 ≠ 0 by simpa using h2)]
  obtain ⟨e3, s3⟩ := sim_sync s2 tmpC
  have hw3 : w3C R n b = (w2C R n b).2.sync tmpC := by unfold w3C stepRC; rw [if_pos h2']
  rw [← hw3] at e3 s3
  by_cases h3 : (((clearC D).2.append tmpC (fileC n b)).2.step 0 tmpC tmpC 0 true).1 = 0
  case neg =>
    have h3' : (w3C R n b).1 ≠ 0 := by rw [← e3]; exact h3
    have hw : w4C R n b = w3C R n b := by unfold w4C stepRC; simp [h3']
    rw [if_pos h3, hw]
    obtain ⟨a, c⟩ := sim_outC s3 (((clearC D).2.append tmpC (fileC n b)).2.step 0 tmpC tmpC 0 true).1
    rw [e3] at a c ⊢
    exact ⟨a, c⟩
  have h3' : (w3C R n b).1 = 0 := by rw [← e3]; exact h3
  rw [if_neg (show ¬ (((clearC D).2.append tmpC (fileC n b)).2.step 0 tmpC tmpC 0 true).1 ≠ 0 by simpa using h3)]
  obtain ⟨e4, s4⟩ := sim_rename s3 tmpC (nameC n)
  have hw4 : w4C R n b = (w3C R n b).2.rename tmpC (nameC n) := by unfold w4C stepRC; rw [if_pos h3']
  rw [← hw4] at e4 s4
  by_cases h4 : ((((clearC D).2.append tmpC (fileC n b)).2.step 0 tmpC tmpC 0 true).2.step 2 tmpC (nameC n) 0 true).1 = 0
  case neg =>
    rw [if_pos h4]
    obtain ⟨a, c⟩ := sim_outC s4 ((((clearC D).2.append tmpC (fileC n b)).2.step 0 tmpC tmpC 0 true).2.step 2 tmpC (nameC n) 0 true).1
    rw [e4] at a c ⊢
    exact ⟨a, c⟩
  have h4' : (w4C R n b).1 = 0 := by rw [← e4]; exact h4
  rw [if_neg (show ¬ ((((clearC D).2.append tmpC (fileC n b)).2.step 0 tmpC tmpC 0 true).2.step 2 tmpC (nameC n) 0 true).1 ≠ 0 from fun e => e h4)]
  refine ⟨h4'.symm, ?_⟩
  show Sim _ (w5C (w4C R n b))
  unfold w5C
  rw [if_neg (by rw [h4']; decide)]
  exact s4
theorem sim_readC (step : Int) : readC D step = readRC R step := by
  unfold readC readRC
  rw [sim_read h] <;> rfl
theorem sim_allC : allC D = allRC R := by
  have : D.files.map (·.name) = R.files.map (·.1) := by rw [h.files]; unfold seenL; rw [List.map_map]; rfl
  unfold allC stepsOf allRC
  rw [this]
theorem sim_stepsC : stepsC D = stepsRC R := by
  unfold stepsC stepsRC
  rw [sim_allC h]
  simp only [sim_readC h]
end
theorem sim_dropGo (below : Int) : ∀ (ns : List Nat) {D : DiskD} {R : RDisk}, Sim D R → (dropGo below D ns).1 = (dropGoR below R ns).1 ∧ Sim (dropGo below D ns).2 (dropGoR below R ns).2 := by
  intro ns
  induction ns with
  | nil => intro D R h; exact ⟨rfl, h⟩
  | cons n r ih =>
    intro D R h
    rw [dropGo, dropGoR]
    by_cases hk : below ≤ (n : Int)
    · rw [if_pos hk, if_pos hk]; exact ⟨rfl, h⟩
    · rw [if_neg hk, if_neg hk]
      obtain ⟨e, s⟩ := sim_remove h (nameC n)
      by_cases he : (D.step 3 (nameC n) (nameC n) 0 true).1 = 0
      · rw [if_neg (by simpa using he), if_neg (by rw [← e]; simpa using he)]
        exact ih s
      · rw [if_pos he, if_pos (by rw [← e]; exact he)]
        exact ⟨e, s⟩
theorem sim_dropC {D : DiskD} {R : RDisk} (h : Sim D R) (below : Int) : (dropC D below).1 = (dropRC R below).1 ∧ Sim (dropC D below).2 (dropRC R below).2 := by
  unfold dropC dropRC
  rw [h.off, sim_allC h]
  cases hoff : D.off with
  | true => simp; exact h
  | false => simp only [Bool.false_eq_true, if_false]; exact sim_dropGo below _ h
end Go.Proofs.YthmcimpdehgaoaaGreatDoor
