/- Numbers and their bytes, plain: the highest first. Decimal digits, plain. Checkpoints in plain words: names, files, and what a store's calls make of a disk. What calls of a disk leave, one behind the other; Off. The table of powers that strconv reads. -/
import Derived.Lib.ItoaNum
import Derived.Lib.ItoaMem
import Derived.Lib.ItoaLen
import Derived.Test.YthmcimpdehgaoaaGreatDoorPk6
import Derived.Test.YthmcimpdehgaoaaGreatDoorDk4
import Derived.Test.YthmcimpdehgaoaaGreatDoorMem
import Derived.Test.YthmcimpdehgaoaaGreatDoorShelf
import Derived.Lib.LaidTab
import Derived.Shelf.Abstract
import Derived.Lib.AppendIntMem
namespace Go.Proofs.YthmcimpdehgaoaaGreatDoor

/-- the bytes of a number, the highest first -/
def digB (W n : Nat) : ByteArray := ⟨((List.range W).map fun i => UInt8.ofNat (n / 256 ^ (W - 1 - i) % 256)).toArray⟩
theorem digB_size (W n : Nat) : (digB W n).size = W := by simp [digB, ByteArray.size]
/-- the number of bytes -/
def numL (l : List UInt8) : Nat := l.foldl (fun n c => n * 256 + c.toNat) 0
def numB (s : ByteArray) : Nat := numL s.data.toList
theorem numL_snoc (l : List UInt8) (c : UInt8) : numL (l ++ [c]) = numL l * 256 + c.toNat := by unfold numL; rw [List.foldl_append]; rfl
theorem digL_succ (W n : Nat) : (digB (W + 1) n).data.toList = (digB W (n / 256)).data.toList ++ [UInt8.ofNat (n % 256)] := by
  unfold digB
  simp only [List.range_succ, List.map_append, List.map_cons, List.map_nil]
  congr 1
  · refine List.map_congr_left fun i hi => ?_
    have hi' : i < W := List.mem_range.1 hi
    rw [show W + 1 - 1 - i = (W - 1 - i) + 1 by omega, Nat.pow_succ, Nat.mul_comm, ← Nat.div_div_eq_div_mul]
  · simp
theorem ofNat_toNat (n : Nat) : (UInt8.ofNat (n % 256)).toNat = n % 256 := UInt8.toNat_ofNat_of_lt' (by have := Nat.mod_lt n (show 0 < 256 by decide); simpa using this)
theorem numB_digB (W : Nat) : ∀ n, numB (digB W n) = n % 256 ^ W := by
  induction W with
  | zero => intro n; simp [numB, digB, numL, Nat.mod_one]
  | succ W ih =>
    intro n
    have h := ih (n / 256)
    unfold numB at h ⊢
    rw [digL_succ, numL_snoc, h, ofNat_toNat, Nat.pow_succ, Nat.mul_comm (256 ^ W), Nat.mod_mul]
    omega
theorem list_snoc {α : Type} (l : List α) (n : Nat) (h : l.length = n + 1) : ∃ l' c, l = l' ++ [c] ∧ l'.length = n := by
  refine ⟨l.dropLast, l.getLast (by intro e; rw [e] at h; simp at h), (List.dropLast_concat_getLast _).symm, by rw [List.length_dropLast]; omega⟩
theorem digB_numL (W : Nat) : ∀ l : List UInt8, l.length = W → (digB W (numL l)).data.toList = l := by
  induction W with
  | zero => intro l h; rw [List.eq_nil_of_length_eq_zero h]; rfl
  | succ W ih =>
    intro l h
    obtain ⟨l', c, rfl, hl⟩ := list_snoc l W h
    rw [digL_succ, numL_snoc]
    have hc := c.toNat_lt
    have e1 : (numL l' * 256 + c.toNat) / 256 = numL l' := by omega
    have e2 : (numL l' * 256 + c.toNat) % 256 = c.toNat := by omega
    rw [e1, e2, ih l' hl]
    simp
theorem digB_numB (s : ByteArray) : digB s.size (numB s) = s := by
  apply ByteArray.ext
  exact Array.ext' (digB_numL s.size s.data.toList rfl)
theorem numL_lt (l : List UInt8) : numL l < 256 ^ l.length := by
  have h := numB_digB l.length (numL l)
  unfold numB at h
  rw [digB_numL l.length l rfl] at h
  have : 0 < 256 ^ l.length := Nat.pow_pos (by decide)
  have := Nat.mod_lt (numL l) this
  omega
theorem numB_lt (s : ByteArray) : numB s < 256 ^ s.size := by
  exact numL_lt s.data.toList
/-- pieces of bytes put together -/
theorem ext_left {a b : ByteArray} {i j : Nat} (hj : j ≤ a.size) : (a ++ b).extract i j = a.extract i j := by
  rw [ByteArray.extract_append, show j - a.size = 0 by omega]
  have : b.extract (i - a.size) 0 = ByteArray.empty := by rw [ByteArray.extract_eq_empty_iff]; omega
  rw [this, ByteArray.append_empty]
theorem ext_right {a b : ByteArray} {i j : Nat} (hi : i = a.size) (hj : j = a.size + b.size) : (a ++ b).extract i j = b := ByteArray.extract_append_eq_right hi hj
end Go.Proofs.YthmcimpdehgaoaaGreatDoor
namespace Go.Proofs.YthmcimpdehgaoaaGreatDoor
open Go.RowKit

theorem dig_nat {u : Nat} (h : u < 10) : (UInt8.ofNat (48 + u)).toNat = 48 + u := by rw [UInt8.toNat_ofNat']; omega
theorem decDigits_val : ∀ (u : Nat), (Lib.decDigits u).foldl (fun a c => a * 10 + (c.toNat - 48)) 0 = u := by
  intro u
  induction u using Nat.strongRecOn with
  | _ u ih =>
    rw [Lib.decDigits]
    split
    · rename_i h
      simp only [List.foldl_cons, List.foldl_nil]
      rw [dig_nat h]
      omega
    · rename_i h
      rw [List.foldl_append, ih (u / 10) (by omega)]
      simp only [List.foldl_cons, List.foldl_nil]
      rw [dig_nat (show u % 10 < 10 by omega)]
      omega
theorem decDigits_inj {a b : Nat} (h : Lib.decDigits a = Lib.decDigits b) : a = b := by rw [← decDigits_val a, ← decDigits_val b, h]
theorem decDigits_lt : ∀ (u : Nat), ∀ c ∈ Lib.decDigits u, 48 ≤ c.toNat ∧ c.toNat ≤ 57 := by
  intro u
  induction u using Nat.strongRecOn with
  | _ u ih =>
    intro c hc
    rw [Lib.decDigits] at hc
    split at hc
    · rename_i h
      obtain rfl := List.mem_singleton.1 hc
      rw [dig_nat h]; omega
    · rcases List.mem_append.1 hc with hc | hc
      · exact ih _ (by omega) c hc
      · obtain rfl := List.mem_singleton.1 hc
        rw [dig_nat (show u % 10 < 10 by omega)]; omega
end Go.Proofs.YthmcimpdehgaoaaGreatDoor
namespace Go.Proofs.YthmcimpdehgaoaaGreatDoor
open Go.RowKit

def nameC (n : Nat) : ByteArray := ⟨#[99, 107, 46]⟩ ++ ⟨(Lib.decDigits n).toArray⟩
def tmpC : ByteArray := ⟨#[99, 107, 46, 116, 109, 112]⟩
theorem nameC_list (n : Nat) : (nameC n).data.toList = [99, 107, 46] ++ Lib.decDigits n := by
  unfold nameC
  simp [ByteArray.data_append]
theorem nameC_size {n : Nat} (h : n ≤ 4294967296) : 3 ≤ (nameC n).size ∧ (nameC n).size ≤ 24 := by
  have := Lib.itoa_length_le (n : Int) (by omega) (by omega)
  rw [Lib.itoa_nonneg] at this
  unfold nameC
  rw [ByteArray.size_append]
  have h1 : (⟨#[99, 107, 46]⟩ : ByteArray).size = 3 := rfl
  have h2 : (⟨(Lib.decDigits n).toArray⟩ : ByteArray).size = (Lib.decDigits n).length := by simp [ByteArray.size]
  omega
theorem nameC_bad {n : Nat} (h : n ≤ 4294967296) : badN (nameC n) = false := by
  have := nameC_size h
  unfold badN
  rw [Bool.or_eq_false_iff]
  exact ⟨beq_eq_false_iff_ne.2 (by omega), decide_eq_false (by omega)⟩
theorem tmpC_bad : badN tmpC = false := rfl
theorem nameC_inj {a b : Nat} (h : nameC a = nameC b) : a = b := by
  have h1 := congrArg (fun s : ByteArray => s.data.toList) h
  simp only [nameC_list, List.append_cancel_left_eq] at h1
  exact decDigits_inj h1
theorem nameC_tmp {a : Nat} : nameC a ≠ tmpC := by
  intro h
  have h1 := congrArg (fun s : ByteArray => s.data.toList) h
  simp only [nameC_list] at h1
  have h2 : Lib.decDigits a = [116, 109, 112] := by simpa [tmpC] using h1
  have := decDigits_lt a 116 (by rw [h2]; simp)
  simp at this
def headC (n : Nat) (b : ByteArray) : ByteArray := ((⟨#[67]⟩ ++ digB 8 n) ++ digB 4 b.size) ++ b
def fileC (n : Nat) (b : ByteArray) : ByteArray := headC n b ++ digB 4 (crcN (headC n b))
theorem headC_size (n : Nat) (b : ByteArray) : (headC n b).size = 13 + b.size := by
  unfold headC
  rw [ByteArray.size_append, ByteArray.size_append, ByteArray.size_append, digB_size, digB_size]
  rfl
theorem fileC_size (n : Nat) (b : ByteArray) : (fileC n b).size = 17 + b.size := by
  unfold fileC
  rw [ByteArray.size_append, headC_size, digB_size]
  omega
/-- what a file holds, if it is right -/
def dataC (n : Nat) (f : ByteArray) : Option ByteArray :=
  if 17 ≤ f.size ∧ f.size - 17 ≤ 4194304 ∧ fileC n (f.extract 13 (f.size - 4)) = f then some (f.extract 13 (f.size - 4)) else none
theorem headC_data (n : Nat) (b : ByteArray) (t : ByteArray) : (headC n b ++ t).extract 13 (13 + b.size) = b := by
  have h1 : ((⟨#[67]⟩ ++ digB 8 n) ++ digB 4 b.size).size = 13 := by rw [ByteArray.size_append, ByteArray.size_append, digB_size, digB_size]; rfl
  unfold headC
  generalize (⟨#[67]⟩ ++ digB 8 n) ++ digB 4 b.size = p at h1
  apply ByteArray.ext
  have h2 : p.data.size = 13 := h1
  have h3 : b.size = b.data.size := rfl
  rw [ByteArray.data_extract, ByteArray.data_append, ByteArray.data_append, Array.append_assoc]
  apply Array.ext'
  rw [Array.toList_extract]
  simp only [Array.toList_append, List.extract_eq_take_drop]
  rw [List.drop_append_of_le_length (by simp [h2]), List.drop_of_length_le (by simp [h2]), List.nil_append, List.take_append_of_le_length (by simp), List.take_of_length_le (by simp)]
theorem dataC_file {n : Nat} {b : ByteArray} (hb : b.size ≤ 4194304) : dataC n (fileC n b) = some b := by
  have h1 := fileC_size n b
  have h2 : (fileC n b).extract 13 ((fileC n b).size - 4) = b := by
    rw [h1, show 17 + b.size - 4 = 13 + b.size by omega]
    exact headC_data n b _
  unfold dataC
  rw [h2, if_pos ⟨by omega, by omega, rfl⟩]
theorem dataC_some {n : Nat} {f b : ByteArray} (h : dataC n f = some b) : f = fileC n b ∧ b.size ≤ 4194304 := by
  unfold dataC at h
  split at h
  · rename_i hc
    injection h with h
    subst h
    refine ⟨hc.2.2.symm, ?_⟩
    rw [ByteArray.size_extract]; omega
  · cases h
def clearC (D : DiskD) : Int × DiskD := if (D.read tmpC).1 ≠ 0 then (0, D) else D.step 3 tmpC tmpC 0 true
def openC (D : DiskD) : Int × DiskD := if D.off = true then (160, D) else clearC D
/-- the end of a write -/
def outC (E : Int) (D : DiskD) : Int × DiskD := if E = 161 ∨ E = 3 then (E, (clearC D).2) else (E, D)
def writeC (D : DiskD) (step : Int) (b : ByteArray) : Int × DiskD :=
  if step < 0 ∨ 1073741824 < step then (2, D)
  else if 4194304 < b.size then (3, D)
  else if D.off = true then (160, D)
  else if (clearC D).1 ≠ 0 then outC (clearC D).1 (clearC D).2
  else if ((clearC D).2.append tmpC (fileC step.toNat b)).1 ≠ 0 then outC ((clearC D).2.append tmpC (fileC step.toNat b)).1 ((clearC D).2.append tmpC (fileC step.toNat b)).2
  else if (((clearC D).2.append tmpC (fileC step.toNat b)).2.step 0 tmpC tmpC 0 true).1 ≠ 0 then outC (((clearC D).2.append tmpC (fileC step.toNat b)).2.step 0 tmpC tmpC 0 true).1 (((clearC D).2.append tmpC (fileC step.toNat b)).2.step 0 tmpC tmpC 0 true).2
  else if ((((clearC D).2.append tmpC (fileC step.toNat b)).2.step 0 tmpC tmpC 0 true).2.step 2 tmpC (nameC step.toNat) 0 true).1 ≠ 0 then outC ((((clearC D).2.append tmpC (fileC step.toNat b)).2.step 0 tmpC tmpC 0 true).2.step 2 tmpC (nameC step.toNat) 0 true).1 ((((clearC D).2.append tmpC (fileC step.toNat b)).2.step 0 tmpC tmpC 0 true).2.step 2 tmpC (nameC step.toNat) 0 true).2
  else (0, ((((clearC D).2.append tmpC (fileC step.toNat b)).2.step 0 tmpC tmpC 0 true).2.step 2 tmpC (nameC step.toNat) 0 true).2)
def readC (D : DiskD) (step : Int) : Int × ByteArray :=
  if step < 0 ∨ 1073741824 < step then (2, ByteArray.empty)
  else if (D.read (nameC step.toNat)).1 = 160 then (160, ByteArray.empty)
  else if (D.read (nameC step.toNat)).1 ≠ 0 then (190, ByteArray.empty)
  else match dataC step.toNat (D.read (nameC step.toNat)).2 with
    | none => (190, ByteArray.empty)
    | some b => (0, b)
/-- the step of a file's name -/
noncomputable def stepOf (t : ByteArray) : Option Nat := open Classical in if h : ∃ n, n ≤ 1073741824 ∧ nameC n = t then some (Classical.choose h) else none
theorem stepOf_some {t : ByteArray} {n : Nat} : stepOf t = some n ↔ n ≤ 1073741824 ∧ nameC n = t := by
  unfold stepOf
  constructor
  · intro h
    split at h
    · rename_i hx
      injection h with h
      subst h
      exact Classical.choose_spec hx
    · cases h
  · intro h
    rw [dif_pos ⟨n, h⟩]
    rw [nameC_inj ((Classical.choose_spec (⟨n, h⟩ : ∃ n, n ≤ 1073741824 ∧ nameC n = t)).2.trans h.2.symm)]
theorem stepOf_name {n : Nat} (h : n ≤ 1073741824) : stepOf (nameC n) = some n := stepOf_some.2 ⟨h, rfl⟩
/-- a number, in its place among rising ones -/
def insN (l : List Nat) (n : Nat) : List Nat := l.takeWhile (fun k => decide (k ≤ n)) ++ n :: l.dropWhile (fun k => decide (k ≤ n))
noncomputable def stepsOf (D : DiskD) : List Nat := (D.files.map (·.name)).filterMap stepOf
noncomputable def allC (D : DiskD) : List Nat := (stepsOf D).mergeSort
noncomputable def stepsC (D : DiskD) : List Nat := (allC D).filter fun n => decide ((readC D (n : Int)).1 = 0)
noncomputable def newestC (D : DiskD) : Int × Bool := match (stepsC D).getLast? with
  | none => (0, false)
  | some n => ((n : Int), true)
def dropGo (below : Int) : DiskD → List Nat → Int × DiskD
  | D, [] => (0, D)
  | D, n :: r => if below ≤ (n : Int) then (0, D) else if (D.step 3 (nameC n) (nameC n) 0 true).1 ≠ 0 then D.step 3 (nameC n) (nameC n) 0 true else dropGo below (D.step 3 (nameC n) (nameC n) 0 true).2 r
noncomputable def dropC (D : DiskD) (below : Int) : Int × DiskD := if D.off = true then (160, D) else dropGo below D (allC D)
end Go.Proofs.YthmcimpdehgaoaaGreatDoor
namespace Go.Proofs.YthmcimpdehgaoaaGreatDoor
open Go.RowKit Go.Maps

section
variable [Forb] {w w1 w2 : World} {B p gs : Nat} {v v1 v2 : Value} {D D1 D2 : DiskD}
theorem Out.of_below (h : DiskIs w B p v D) (hB : B ≤ w.heap.size) (hb : Below w.heap.size w w1) : Out B w w1 p v D v :=
  ⟨h.below hb (Nat.le_refl _), hb.mono hB, fun _ _ hx => hx.below hb, fun g _ _ _ _ _ hg => hb.block g (Array.getElem?_eq_some_iff.1 hg).1, fun _ _ _ _ h2 ha => ⟨h2.below hb (Nat.le_refl _), ha⟩⟩
theorem Out.trans (o : Out B w w1 p v D1 v1) (q : Out B w1 w2 p v1 D2 v2) : Out B w w2 p v D2 v2 :=
  ⟨q.is, o.below.trans q.below, fun x s h => q.bt x s (o.bt x s h), fun g cs t fz h1 h2 hh => by
    have e := o.blk g cs t fz h1 h2 hh
    exact (q.blk g cs t fz h1 h2 (e.trans hh)).trans e, fun B' p' v' D' h2 ha => by
    obtain ⟨a, b⟩ := o.other B' p' v' D' h2 ha
    exact q.other B' p' v' D' a b⟩
theorem Out.keep_blk (o : Out B w w1 p v D1 v1) {g : Nat} {t : TypeId} {cs : Array Value} (h : Blk w g t cs) (h1 : t ≠ 68) (h2 : t ≠ 90) : Blk w1 g t cs := (o.blk g cs t _ h1 h2 h).trans h
end
set_option maxHeartbeats 1000000 in
theorem off_any [Forb] (w : World) (B p : Nat) (v : Value) (D : DiskD) (h : DiskIs w B p v D) :
    Calls Tryz.prog 18 #[.pointer (some ⟨p, 0, none⟩)] w fun e w' => e = .returned (.bool D.off) ∧ w' = w := by
  have c4 := h.blk.cell 4
  simp only [List.getElem?_toArray, List.getElem?_cons_zero, List.getElem?_cons_succ] at c4
  clear h
  go_enter Tryz.func18, Tryz.ntmps18
  go_wp2
  go_ret
  exact ⟨rfl, rfl⟩
end Go.Proofs.YthmcimpdehgaoaaGreatDoor
namespace Go.Proofs.YthmcimpdehgaoaaGreatDoor
open Go.RowKit

/-- the table of powers that strconv reads lies below the call's own -/
def Tb (B : Nat) (w : World) : Prop := Lib.TabBelow Tryz.prog B w "internal/strconv.uint64pow10" .u64 Lib.pow10Tab
theorem Tb.on {B : Nat} {w w' : World} (h : Tb B w) (hb : Below B w w') : Tb B w' := Lib.TabBelow.on h hb
theorem Tb.at_ {w W : World} (h : Tb w.heap.size w) (hb : Below w.heap.size w W) : Tb W.heap.size W := fun w2 h2 => h w2 (hb.trans (h2.mono hb.size))
end Go.Proofs.YthmcimpdehgaoaaGreatDoor
