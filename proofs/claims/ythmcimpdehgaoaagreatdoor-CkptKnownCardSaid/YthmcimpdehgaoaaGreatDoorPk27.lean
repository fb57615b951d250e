/- The reference's store of checkpoints in plain words; alike to the program's over disks that are alike. The reference's decimal digits. The reference's check of bytes: a row of bits, divided: P, Rest. -/
import Derived.Test.YthmcimpdehgaoaaGreatDoorRkP
import Derived.Test.YthmcimpdehgaoaaGreatDoorPk7
import Derived.Test.YthmcimpdehgaoaaGreatDoorDk1
import Derived.Deep.LoopGhost
import Derived.Test.YthmcimpdehgaoaaGreatDoorPk12
import Derived.Test.YthmcimpdehgaoaaGreatDoorPk6
namespace Go.Proofs.YthmcimpdehgaoaaGreatDoor
open Go.RowKit

def clearRC (R : RDisk) : Int × RDisk := if (R.read tmpC).1 = 0 then R.remove tmpC else (0, R)
def openRC (R : RDisk) : Int × RDisk := if R.gone = true then (160, R) else clearRC R
def stepRC (x : Int × RDisk) (f : RDisk → Int × RDisk) : Int × RDisk := if x.1 = 0 then f x.2 else x
def w2C (R : RDisk) (n : Nat) (b : ByteArray) : Int × RDisk := stepRC (clearRC R) fun R => R.append tmpC (fileC n b)
def w3C (R : RDisk) (n : Nat) (b : ByteArray) : Int × RDisk := stepRC (w2C R n b) fun R => R.sync tmpC
def w4C (R : RDisk) (n : Nat) (b : ByteArray) : Int × RDisk := stepRC (w3C R n b) fun R => R.rename tmpC (nameC n)
def w5C (x : Int × RDisk) : RDisk := if x.1 = 161 ∨ x.1 = 3 then (clearRC x.2).2 else x.2
def writeRC (R : RDisk) (step : Int) (b : ByteArray) : Int × RDisk :=
  if step < 0 ∨ 1073741824 < step then (2, R)
  else if 4194304 < b.size then (3, R)
  else if R.gone = true then (160, R)
  else ((w4C R step.toNat b).1, w5C (w4C R step.toNat b))
def readRC (R : RDisk) (step : Int) : Int × ByteArray :=
  if step < 0 ∨ 1073741824 < step then (2, ByteArray.empty)
  else if (R.read (nameC step.toNat)).1 = 160 then (160, ByteArray.empty)
  else if (R.read (nameC step.toNat)).1 ≠ 0 then (190, ByteArray.empty)
  else match dataC step.toNat (R.read (nameC step.toNat)).2 with
    | none => (190, ByteArray.empty)
    | some b => (0, b)
noncomputable def allRC (R : RDisk) : List Nat := ((R.files.map (·.1)).filterMap stepOf).mergeSort
noncomputable def stepsRC (R : RDisk) : List Nat := (allRC R).filter fun n => decide ((readRC R (n : Int)).1 = 0)
def dropGoR (below : Int) : RDisk → List Nat → Int × RDisk
  | R, [] => (0, R)
  | R, n :: r => if below ≤ (n : Int) then (0, R) else if (R.remove (nameC n)).1 ≠ 0 then R.remove (nameC n) else dropGoR below (R.remove (nameC n)).2 r
noncomputable def dropRC (R : RDisk) (below : Int) : Int × RDisk := if R.gone = true then (160, R) else dropGoR below R (allRC R)
section
variable {D : DiskD} {R : RDisk} (h : Sim D R)
include h
theorem sim_clearC : (clearC D).1 = (clearRC R).1 ∧ Sim (clearC D).2 (clearRC R).2 := by
  unfold clearC clearRC
  rw [sim_read h]
  by_cases he : (R.read tmpC).1 = 0
  · rw [if_neg (by simpa using he), if_pos he]
    exact sim_remove h tmpC
  · rw [if_pos he, if_neg he]
    exact ⟨rfl, h⟩
theorem sim_openC : (openC D).1 = (openRC R).1 ∧ Sim (openC D).2 (openRC R).2 := by
  unfold openC openRC
  rw [h.off]
  cases hoff : D.off with
  | true => simp; exact h
  | false => simp only [Bool.false_eq_true, if_false]; exact sim_clearC h
theorem sim_outC (E : Int) : (outC E D).1 = E ∧ Sim (outC E D).2 (w5C (E, R)) := by
  unfold outC w5C
  by_cases he : E = 161 ∨ E = 3
  · rw [if_pos he, if_pos he]; exact ⟨rfl, (sim_clearC h).2⟩
  · rw [if_neg he, if_neg he]; exact ⟨rfl, h⟩
theorem sim_writeC (step : Int) (b : ByteArray) : (writeC D step b).1 = (writeRC R step b).1 ∧ Sim (writeC D step b).2 (writeRC R step b).2 := by
  unfold writeC writeRC
  by_cases hs : step < 0 ∨ 1073741824 < step
  · rw [if_pos hs, if_pos hs]; exact ⟨rfl, h⟩
  rw [if_neg hs, if_neg hs]
  by_cases hb : 4194304 < b.size
  · rw [if_pos hb, if_pos hb]; exact ⟨rfl, h⟩
  rw [if_neg hb, if_neg hb, h.off]
  cases hoff : D.off with
  | true => simp; exact h
  | false =>
  simp only [Bool.false_eq_true, if_false]
  obtain ⟨n, hn⟩ : ∃ n, step.toNat = n := ⟨_, rfl⟩
  rw [hn]
  obtain ⟨e1, s1⟩ := sim_clearC h
  by_cases h1 : (clearC D).1 = 0
  case neg =>
    have h1' : (clearRC R).1 ≠ 0 := by rw [← e1]; exact h1
    have hw : w4C R n b = clearRC R := by unfold w4C w3C w2C stepRC; simp [h1']
    rw [if_pos h1, hw]
    obtain ⟨a, c⟩ := sim_outC s1 (clearC D).1
    rw [e1] at a c ⊢
    exact ⟨a, c⟩
  have h1' : (clearRC R).1 = 0 := by rw [← e1]; exact h1
  rw [if_neg (show ¬ (clearC D).1 ≠ 0 by simpa using h1)]
  obtain ⟨e2, s2⟩ := sim_append s1 tmpC (fileC n b)
  have hw2 : w2C R n b = (clearRC R).2.append tmpC (fileC n b) := by unfold w2C stepRC; rw [if_pos h1']
  rw [← hw2] at e2 s2
  by_cases h2 : ((clearC D).2.append tmpC (fileC n b)).1 = 0
  case neg =>
    have h2' : (w2C R n b).1 ≠ 0 := by rw [← e2]; exact h2
    have hw : w4C R n b = w2C R n b := by unfold w4C w3C stepRC; simp [h2']
    rw [if_pos h2, hw]
    obtain ⟨a, c⟩ := sim_outC s2 ((clearC D).2.append tmpC (fileC n b)).1
    rw [e2] at a c ⊢
    exact ⟨a, c⟩
  have h2' : (w2C R n b).1 = 0 := by rw [← e2]; exact h2
  rw [if_neg (show ¬ ((clearC D).2.append tmpC (fileC n b)).1 ≠ 0 by simpa using h2)]
  obtain ⟨e3, s3⟩ := sim_sync s2 tmpC
  have hw3 : w3C R n b = (w2C R n b).2.sync tmpC := by unfold w3C stepRC; rw [if_pos h2']
  rw [← hw3] at e3 s3
  by_cases h3 : (((clearC D).2.append tmpC (fileC n b)).2.step 0 tmpC tmpC 0 true).1 = 0
  case neg =>
    have h3' : (w3C R n b).1 ≠ 0 := by rw [← e3]; exact h3
    have hw : w4C R n b = w3C R n b := by unfold w4C stepRC; simp [h3']
    rw [if_pos h3, hw]
    obtain ⟨a, c⟩ := sim_outC s3 (((clearC D).2.append tmpC (fileC n b)).2.step 0 tmpC tmpC 0 true).1
    rw [e3] at a c ⊢
    exact ⟨a, c⟩
  have h3' : (w3C R n b).1 = 0 := by rw [← e3]; exact h3
  rw [if_neg (show ¬ (((clearC D).2.append tmpC (fileC n b)).2.step 0 tmpC tmpC 0 true).1 ≠ 0 by simpa using h3)]
  obtain ⟨e4, s4⟩ := sim_rename s3 tmpC (nameC n)
  have hw4 : w4C R n b = (w3C R n b).2.rename tmpC (nameC n) := by unfold w4C stepRC; rw [if_pos h3']
  rw [← hw4] at e4 s4
  by_cases h4 : ((((clearC D).2.append tmpC (fileC n b)).2.step 0 tmpC tmpC 0 true).2.step 2 tmpC (nameC n) 0 true).1 = 0
  case neg =>
    rw [if_pos h4]
    obtain ⟨a, c⟩ := sim_outC s4 ((((clearC D).2.append tmpC (fileC n b)).2.step 0 tmpC tmpC 0 true).2.step 2 tmpC (nameC n) 0 true).1
    rw [e4] at a c ⊢
    exact ⟨a, c⟩
  have h4' : (w4C R n b).1 = 0 := by rw [← e4]; exact h4
  rw [if_neg (show ¬ ((((clearC D).2.append tmpC (fileC n b)).2.step 0 tmpC tmpC 0 true).2.step 2 tmpC (nameC n) 0 true).1 ≠ 0 from fun e => e h4)]
  refine ⟨h4'.symm, ?_⟩
  show Sim _ (w5C (w4C R n b))
  unfold w5C
  rw [if_neg (by rw [h4']; decide)]
  exact s4
theorem sim_readC (step : Int) : readC D step = readRC R step := by
  unfold readC readRC
  rw [sim_read h] <;> rfl
theorem sim_allC : allC D = allRC R := by
  have : D.files.map (·.name) = R.files.map (·.1) := by rw [h.files]; unfold seenL; rw [List.map_map]; rfl
  unfold allC stepsOf allRC
  rw [this]
theorem sim_stepsC : stepsC D = stepsRC R := by
  unfold stepsC stepsRC
  rw [sim_allC h]
  simp only [sim_readC h]
end
theorem sim_dropGo (below : Int) : ∀ (ns : List Nat) {D : DiskD} {R : RDisk}, Sim D R → (dropGo below D ns).1 = (dropGoR below R ns).1 ∧ Sim (dropGo below D ns).2 (dropGoR below R ns).2 := by
  intro ns
  induction ns with
  | nil => intro D R h; exact ⟨rfl, h⟩
  | cons n r ih =>
    intro D R h
    rw [dropGo, dropGoR]
    by_cases hk : below ≤ (n : Int)
    · rw [if_pos hk, if_pos hk]; exact ⟨rfl, h⟩
    · rw [if_neg hk, if_neg hk]
      obtain ⟨e, s⟩ := sim_remove h (nameC n)
      by_cases he : (D.step 3 (nameC n) (nameC n) 0 true).1 = 0
      · rw [if_neg (by simpa using he), if_neg (by rw [← e]; simpa using he)]
        exact ih s
      · rw [if_pos he, if_pos (by rw [← e]; exact he)]
        exact ⟨e, s⟩
theorem sim_dropC {D : DiskD} {R : RDisk} (h : Sim D R) (below : Int) : (dropC D below).1 = (dropRC R below).1 ∧ Sim (dropC D below).2 (dropRC R below).2 := by
  unfold dropC dropRC
  rw [h.off, sim_allC h]
  cases hoff : D.off with
  | true => simp; exact h
  | false => simp only [Bool.false_eq_true, if_false]; exact sim_dropGo below _ h
end Go.Proofs.YthmcimpdehgaoaaGreatDoor
namespace Go.Proofs.YthmcimpdehgaoaaGreatDoor
open Go.RowKit Go.Maps

/-- the digits that are still to come -/
def dn (u : Nat) : List UInt8 := if u = 0 then [] else Lib.decDigits u
theorem dn_step (u : Nat) : dn (u / 10) ++ [UInt8.ofNat (48 + u % 10)] = Lib.decDigits u := by
  rw [Lib.decDigits]
  by_cases h : u < 10
  · rw [dif_pos h, show u / 10 = 0 by omega, show u % 10 = u by omega]; rfl
  · rw [dif_neg h]
    unfold dn
    rw [if_neg (by omega)]
def digS : ByteArray := ⟨#[48, 49, 50, 51, 52, 53, 54, 55, 56, 57]⟩
theorem digS_at (k : Nat) (h : k < 10) : digS.extract k (k + 1) = ⟨#[UInt8.ofNat (48 + k)]⟩ := by
  have : k = 0 ∨ k = 1 ∨ k = 2 ∨ k = 3 ∨ k = 4 ∨ k = 5 ∨ k = 6 ∨ k = 7 ∨ k = 8 ∨ k = 9 := by omega
  rcases this with rfl | rfl | rfl | rfl | rfl | rfl | rfl | rfl | rfl | rfl <;> decide +kernel
/-- what has been put together -/
def DgR (n u : Nat) (s : ByteArray) : Prop := (s.size = 0 ∧ u = n) ∨ (0 < s.size ∧ dn u ++ s.data.toList = Lib.decDigits n)
theorem DgR.step {n u : Nat} {s : ByteArray} (h : DgR n u s) (h2 : 0 < u ∨ s.size = 0) : DgR n (u / 10) (⟨#[UInt8.ofNat (48 + u % 10)]⟩ ++ s) := by
  refine .inr ⟨by rw [ByteArray.size_append]; show 0 < 1 + s.size; omega, ?_⟩
  rw [ByteArray.data_append, Array.toList_append]
  show dn (u / 10) ++ ([UInt8.ofNat (48 + u % 10)] ++ s.data.toList) = _
  rw [← List.append_assoc, dn_step]
  rcases h with ⟨h0, rfl⟩ | ⟨h0, h1⟩
  · have : s.data.toList = [] := List.eq_nil_of_length_eq_zero (by simpa using h0)
    rw [this, List.append_nil]
  · have hu : 0 < u := by omega
    unfold dn at h1
    rwa [if_neg (by omega)] at h1
theorem DgR.done {n : Nat} {s : ByteArray} (h : DgR n 0 s) (h0 : 0 < s.size) : s = ⟨(Lib.itoa (n : Int)).toArray⟩ := by
  rcases h with ⟨h1, _⟩ | ⟨_, h1⟩
  · omega
  · rw [Lib.itoa_nonneg, ← h1]
    unfold dn
    simp
theorem DgR.size {n u : Nat} {s : ByteArray} (h : DgR n u s) (hn : n ≤ 9223372036854775807) : s.size ≤ 21 := by
  rcases h with ⟨h1, _⟩ | ⟨_, h1⟩
  · omega
  · have h2 := Lib.itoa_length_le (n : Int) (by omega) (by omega)
    rw [Lib.itoa_nonneg, ← h1, List.length_append] at h2
    have : s.data.toList.length = s.size := by simp
    omega
set_option maxRecDepth 100000 in
set_option maxHeartbeats 4000000 in
theorem rdigits_any (w : World) (n : Nat) (hn : n ≤ 9223372036854775807) : Calls Tryz.prog 137 #[.int .i64 n] w fun e w' => e = .returned (.string ⟨(Lib.itoa (n : Int)).toArray⟩) ∧ w' = w := by
  have h0 : DgR n n ⟨#[]⟩ := .inl ⟨rfl, rfl⟩
  have H0 := Lib.hid h0
  clear h0
  go_enter Tryz.func137, Tryz.ntmps137
  go_wp2
  go_loopg [0, 3] (n + 1) (fun gf a b wr => ∃ (u : Nat) (s : ByteArray), a = .int .i64 u ∧ b = .string s ∧ gf = u + (if s.size = 0 then 1 else 0) ∧ u ≤ n ∧ DgR n u s ∧ wr = w)
  case atStart => exact ⟨n, ⟨#[]⟩, rfl, rfl, rfl, Nat.le_refl _, H0.out, rfl⟩
  case round =>
    clear H0
    obtain ⟨u, s, rfl, rfl, hg, hun, hd, rfl⟩ := hrel
    have hsz := hd.size hn
    by_cases hc : 0 < u ∨ s.size = 0
    · have hst := hd.step hc
      have hk : u % 10 < 10 := Nat.mod_lt _ (by decide)
      have hx := digS_at (u % 10) hk
      have HST := Lib.hid hst; have HX := Lib.hid hx
      have hszI : (s.size : Int) ≤ 21 := by omega
      have hlt : u / 10 + 0 < gk := by
        rcases hc with h | h
        · have : u / 10 < u := Nat.div_lt_self h (by decide)
          omega
        · rw [if_pos h] at hg; omega
      clear hst hx hd
      by_cases hu : 0 < u
      · have huI : (0 : Int) < (u : Int) := by omega
        have hub : decide ((0 : Int) < (u : Int)) = true := by simpa using hu
        go_wp2
        go_roundg (u / 10 + 0)
        case measure => exact hlt
        case rel => exact ⟨u / 10, ⟨#[UInt8.ofNat (48 + u % 10)]⟩ ++ s, by go_num, by rw [← HX.out]; rfl, by rw [if_neg (by rw [ByteArray.size_append]; show ¬ 1 + s.size = 0; omega)], by omega, HST.out, rfl⟩
      · obtain rfl : u = 0 := by omega
        have hs0 : s.size = 0 := by omega
        have hse : (s.toList == []) = true := by
          have h1 : s.toList = [] := by rw [ByteArray.toList_eq]; exact List.eq_nil_of_length_eq_zero (by simpa using hs0)
          rw [h1]; rfl
        have hse2 : s.toList = [] := by simpa using hse
        have hgk : 0 < gk := by rw [if_pos hs0] at hg; omega
        go_wp2
        go_roundg 0
        case measure => exact hgk
        case rel => exact ⟨0, ⟨#[UInt8.ofNat (48 + 0 % 10)]⟩ ++ s, rfl, by rw [← HX.out]; rfl, by rw [if_neg (by rw [ByteArray.size_append]; show ¬ 1 + s.size = 0; omega)], by omega, HST.out, rfl⟩
    · obtain rfl : u = 0 := by omega
      have hs0 : 0 < s.size := by omega
      have hfin := hd.done hs0
      have hne : s.toList ≠ [] := by
        rw [ByteArray.toList_eq]
        intro h
        have h2 : s.data.toList.length = 0 := by rw [h]; rfl
        have h3 : s.data.toList.length = s.size := by simp
        omega
      have hne2 : (s.toList == []) = false := by simpa using hne
      have hne3 : s.toList.isEmpty = false := by simpa using hne
      have HFIN := Lib.hid hfin
      clear hfin hd hc hg hun hne
      go_wp2
      go_ret
      exact ⟨by rw [← HFIN.out]; rfl, rfl⟩
end Go.Proofs.YthmcimpdehgaoaaGreatDoor
namespace Go.Proofs.YthmcimpdehgaoaaGreatDoor
open Go.RowKit

def boolC (b : Bool) : List Value := [.bool b]
theorem boolC_len (b : Bool) : (boolC b).length = 1 := rfl
theorem rcs_bool (l : List Bool) : rcs boolC l = l.map Value.bool := by
  induction l with
  | nil => rfl
  | cons b l ih => show boolC b ++ rcs boolC l = _; rw [ih]; rfl
theorem infoBo : (Tryz.prog.info? 4).map (fun i => (i.zero, i.size, i.bytes)) = some (some (.bool false), 1, 1) := by kernel_rfl
/-- the powers, as they lie -/
def powV : Array Value := (pows.map fun (p : Nat) => Value.int .i64 (p : Int)).toArray
theorem p_any (w : World) : Calls Tryz.prog 138 #[] w fun e w' => e = .returned (.slice (some ⟨w.heap.size, 0, none⟩) 18 18) ∧ w' = w.alloc (.cells powV 3) := by
  go_enter Tryz.func138, Tryz.ntmps138
  go_wp2
  go_ret
  exact ⟨rfl, rfl⟩
/-- a row of bits of the call's own -/
def OwnB (w : World) (base g n cap : Nat) (row : List Bool) : Prop := w.ownsRow base 4 1 (.slice (some ⟨g, 0, none⟩) n cap) n (row.map Value.bool)
theorem OwnB.set_ {w : World} {base g n cap : Nat} {row : List Bool} (h : OwnB w base g n cap row) (j : Nat) (u : Bool) : OwnB (w.setCell ⟨g, j, none⟩ (.bool u)) base g n cap (row.set j u) := by
  unfold OwnB at h ⊢
  rw [List.map_set]
  exact (h.stored j (.bool u)).1
theorem OwnB.flip_ {w : World} {base g n cap : Nat} {row : List Bool} (h : OwnB w base g n cap row) (j : Nat) : OwnB (w.setCell ⟨g, j, none⟩ (.bool (!row.getD j false))) base g n cap (flip row j) := h.set_ j _
theorem OwnB.len {w : World} {base g n cap : Nat} {row : List Bool} (h : OwnB w base g n cap row) : row.length = n := by
  have := h.1
  simpa using this
theorem OwnB.cell {w : World} {base g n cap : Nat} {row : List Bool} (h : OwnB w base g n cap row) {j : Nat} (hj : j < n) : w.cell? ⟨g, j, none⟩ = some (.bool (row.getD j false)) := by
  have hl := h.len
  rw [h.cellAt j (by omega), List.getElem?_map, List.getD_eq_getElem?_getD, List.getElem?_eq_getElem (by omega)]
  rfl
theorem OwnB.base_le {w : World} {base g n cap : Nat} {row : List Bool} (h : OwnB w base g n cap row) : base ≤ g ∧ g < w.heap.size := h.lt g rfl
theorem flips_take (i k p : Nat) (row : List Bool) (h : pows[k]? = some p) : flips i row (pows.take (k + 1)) = flip (flips i row (pows.take k)) (i + 32 - p) := by
  unfold flips
  rw [List.take_add_one, h, List.foldl_append]
  rfl
theorem powV_at {k p : Nat} (h : pows[k]? = some p) : powV[k]? = some (.int .i64 (p : Int)) := by
  unfold powV
  rw [List.getElem?_toArray, List.getElem?_map, h]
  rfl
theorem lows_succ (row : List Bool) (k : Nat) : lows row (k + 1) = if row.getD (row.length - 32 + k) false then lows row k + 2 ^ k else lows row k := by
  unfold lows; rw [List.range_succ, List.foldl_append]; rfl
theorem lows_lt (row : List Bool) (k : Nat) : lows row k < 2 ^ k := by
  induction k with
  | zero => simp [lows]
  | succ k ih => rw [lows_succ, Nat.pow_succ]; split <;> omega
set_option maxRecDepth 100000 in
set_option maxHeartbeats 8000000 in
theorem rest_any (w : World) (A : Option Addr) (c : Nat) (row : List Bool) (hR : Rs boolC 1 w A row) (h32 : 32 ≤ row.length) (hl : row.length ≤ 100000) :
    Calls Tryz.prog 114 #[.slice A row.length c] w fun e w' => e = .returned (.int .u32 (restN row)) ∧ Below w.heap.size w w' := by
  obtain ⟨i0, hi0, hz0, hz1, hz2⟩ := parts infoBo
  have hown0 := Lib.hid (World.ownsRow_nil w w.heap.size 4 1)
  have HR : Hid (Sl w 1 A row.length (rcs boolC row)) := Lib.hid hR
  have hone : ∀ u ∈ rcs boolC row, u.oneCell' = true := by
    rw [rcs_bool]
    intro u hu
    obtain ⟨b, _, rfl⟩ := List.mem_map.1 hu
    rfl
  have HONE := Lib.hid hone; have HI0 := Lib.hid hi0; have HZ0 := Lib.hid hz0
  clear hR hone hi0 hz0
  go_enter Tryz.func114, Tryz.ntmps114
  go_wp2_with (at_builtin; refine wpList_cat _ rfl (.tmp 10) (.tmp 11) 32 rfl w.heap.size 4 i0 (.bool false) 1 1 Tryz.underlying32 HI0.out HZ0.out hz1 hz2 rfl (by decide) (by decide) _ 0 _ rfl hown0 _ row.length _ (rcs boolC row) rfl HR HONE.out (by omega) (by omega) ?_; intro v1 w1 h2 h3 h4; have HO1 := Lib.hid h2.out; have HB1 := Lib.hid h4.out; clear h2 h3 h4)
  have ho := HO1.out
  rw [Nat.zero_add, List.nil_append, rcs_bool] at ho
  obtain ⟨g, cap, rfl, hbg, hgl⟩ := World.ownsRow.form ho (by omega)
  have ho1 : OwnB w1 w.heap.size g row.length cap (divs row 0) := ho
  have HO := Lib.hid ho1
  clear ho HO1 ho1 hbg hgl hown0
  go_loopg [3] 0 (fun gf a wr => a = .slice (some ⟨g, 0, none⟩) row.length cap ∧ wr = w1)
  case atStart => exact ⟨rfl, rfl⟩
  case round =>
  obtain ⟨rfl, rfl⟩ := hrel
  have h32I : (32 : Int) ≤ (row.length : Int) := by omega
  go_wp2_with (go_at_call 138; refine (p_any _).mono ?_; rintro e w' ⟨rfl, rfl⟩)
  obtain ⟨w2, hw2⟩ : ∃ w2, wr.alloc (.cells powV 3) = w2 := ⟨_, rfl⟩
  have hP : Blk w2 wr.heap.size 3 powV := by rw [← hw2]; exact Blk.new wr _ _
  have hO2 : OwnB w2 w.heap.size g row.length cap (divs row 0) := by rw [← hw2]; exact World.ownsRow.alloc HO.out _
  have hB2 : Below w.heap.size w w2 := by rw [← hw2]; exact HB1.out.alloc HB1.out.size _
  obtain ⟨gp, hgp⟩ : ∃ gp, wr.heap.size = gp := ⟨_, rfl⟩
  have hgb := HO.out.base_le
  rw [hgp] at hP hgb
  rw [hw2, hgp]
  have hgne : g ≠ gp := by omega
  have hbase := hgb.1
  have HP := Lib.hid hP; have HO2 := Lib.hid hO2; have HB2 := Lib.hid hB2
  clear hw2 hP hO2 hB2 hgp HO HB1 hgb
  go_wp2
  go_loopg [5] (row.length - 32) (fun gf a wr => ∃ i : Nat, a = .int .i64 i ∧ i + gf = row.length - 32 ∧ OwnB wr w.heap.size g row.length cap (divs row i) ∧ Blk wr gp 3 powV ∧ Below w.heap.size w wr)
  case atStart => exact ⟨0, rfl, by omega, HO2.out, HP.out, HB2.out⟩
  case round =>
  clear HO2 HP HB2
  obtain ⟨i, rfl, hi, hO, hP, hB⟩ := hrel
  cases gk with
  | zero =>
    obtain rfl : i = row.length - 32 := by omega
    obtain ⟨R, hRR⟩ : ∃ R, divs row (row.length - 32) = R := ⟨_, rfl⟩
    have hlen := hO.len
    have hfin : restN row = lows R 32 := by unfold restN; rw [hRR]
    rw [hRR] at hO hlen
    have hiI : ((row.length - 32 : Nat) : Int) = (row.length : Int) - 32 := by omega
    rw [hiI]
    have HFIN := Lib.hid hfin
    have HO := Lib.hid hO; have HB := Lib.hid hB; have HLEN := Lib.hid hlen
    clear hO hB hlen hfin hRR hiI hP
    go_wp2
    go_loopg [8, 9] 32 (fun gf a b wr' => ∃ k : Nat, a = .int .u32 (lows R k) ∧ b = .int .i64 k ∧ k + gf = 32 ∧ wr' = wr)
    case atStart => exact ⟨0, rfl, rfl, rfl, rfl⟩
    case round =>
    rename_i wo wr'
    obtain ⟨k, rfl, rfl, hk, rfl⟩ := hrel
    cases gk with
    | zero =>
      obtain rfl : k = 32 := by omega
      go_wp2
      go_ret
      exact ⟨by rw [HFIN.out]; rfl, HB.out⟩
    | succ gf =>
      have hkI : (k : Int) < 32 := by omega
      have hc := HO.out.cell (j := row.length - 32 + k) (by omega)
      have hls := lows_succ R k
      have hll := lows_lt R k
      have hpk : 2 ^ k ≤ 2 ^ 31 := Nat.pow_le_pow_right (by decide) (by omega)
      rw [HLEN.out] at hls
      have hI : ((row.length - 32 + k : Nat) : Int) = (row.length : Int) - 32 + (k : Int) := by omega
      have HI := Lib.hid hI
      cases hb : R.getD (row.length - 32 + k) false with
      | true =>
        rw [hb] at hc hls
        have hsum : ((lows R k : Int) + 2 ^ k % 4294967296) % 4294967296 = (lows R (k + 1) : Int) := by
          have h2k : (2 : Int) ^ k = ((2 ^ k : Nat) : Int) := by simp
          rw [hls, h2k, if_pos rfl]
          omega
        have HSUM := Lib.hid hsum
        clear hI hls hsum
        go_wp2
        go_roundg gf
        case measure => omega
        case rel => exact ⟨k + 1, by rw [HSUM.out], by go_num, by omega, rfl⟩
      | false =>
        rw [hb, if_neg (by simp)] at hls
        rw [hb] at hc
        have HLS := Lib.hid hls
        clear hI hls
        go_wp2
        go_roundg gf
        case measure => omega
        case rel => exact ⟨k + 1, by rw [HLS.out], by go_num, by omega, rfl⟩
  | succ gf =>
    have hiN : i + 32 < row.length := by omega
    have hiI : (i : Int) + 32 < (row.length : Int) := by omega
    have hc := hO.cell (j := i) (by omega)
    have hds := divs_succ row i
    obtain ⟨R, hRR⟩ : ∃ R, divs row i = R := ⟨_, rfl⟩
    rw [hRR] at hc hds hO
    have hlen := hO.len
    unfold divStep at hds
    cases hb : R.getD i false with
    | false =>
      rw [hb, if_neg (by simp)] at hds
      rw [hb] at hc
      have HO := Lib.hid hO; have HP := Lib.hid hP; have HB := Lib.hid hB; have HDS := Lib.hid hds
      clear hO hP hB hds hRR hlen
      go_wp2
      go_roundg gf
      case measure => omega
      case rel => exact ⟨i + 1, by go_num, by omega, by rw [HDS.out]; exact HO.out, HP.out, HB.out⟩
    | true =>
      rw [hb, if_pos rfl] at hds
      rw [hb] at hc
      have hF : OwnB wr w.heap.size g row.length cap (flips i R (pows.take 0)) := hO
      have HF := Lib.hid hF; have HP := Lib.hid hP; have HB := Lib.hid hB; have HDS := Lib.hid hds; have HLEN := Lib.hid hlen
      clear hO hP hB hds hRR hlen hF
      go_wp2
      go_loopg [6, 7] 18 (fun gf' a b wr' => ∃ k : Nat, a = .int .i64 k ∧ k + gf' = 18 ∧ OwnB wr' w.heap.size g row.length cap (flips i R (pows.take k)) ∧ Blk wr' gp 3 powV ∧ Below w.heap.size w wr')
      case atStart => exact ⟨0, rfl, rfl, HF.out, HP.out, HB.out⟩
      case round =>
      clear HF HP HB
      rename_i wo wr'
      obtain ⟨k, rfl, hk, hO, hP, hB⟩ := hrel
      cases gk with
      | zero =>
        obtain rfl : k = 18 := by omega
        have hall : flips i R (pows.take 18) = divs row (i + 1) := HDS.out.symm
        rw [hall] at hO
        have HO := Lib.hid hO; have HP := Lib.hid hP; have HB := Lib.hid hB
        clear hO hP hB hall
        go_wp2
        go_roundg gf
        case measure => omega
        case rel => exact ⟨i + 1, by go_num, by omega, HO.out, HP.out, HB.out⟩
      | succ gf' =>
        have hkN : k < pows.length := by show k < 18; omega
        have hp := List.getElem?_eq_getElem hkN
        obtain ⟨p, hpe⟩ : ∃ p, pows[k] = p := ⟨_, rfl⟩
        rw [hpe] at hp
        have hple : p ≤ 32 := pows_le p (by rw [← hpe]; exact List.getElem_mem _)
        have cp := hP.cell k
        rw [powV_at hp] at cp
        have hft := flips_take i k p R hp
        have hfc := hO.cell (j := i + 32 - p) (by omega)
        have hO2 := hO.flip_ (i + 32 - p)
        rw [← hft] at hO2
        have hff := World.ownsRow.frozenAt hO (i + 32 - p)
        have hgp : g ≠ gp := hgne
        obtain ⟨q, hq⟩ : ∃ q, i + 32 - p = q := ⟨_, rfl⟩
        obtain ⟨u, hu⟩ : ∃ u, (flips i R (pows.take k)).getD q false = u := ⟨_, rfl⟩
        rw [hq] at hfc hO2 hff
        rw [hu] at hfc hO2
        have hqI : (i : Int) + 32 - (p : Int) = (q : Int) := by omega
        have hqn : (q : Int) < (row.length : Int) := by omega
        have hpI : (p : Int) ≤ 32 := by omega
        have hkI : (k : Int) < 18 := by omega
        have hP2 := hP.far (p := ⟨g, q, none⟩) (by show gp ≠ g; omega) (.bool (!u))
        have hB2 := hB.setCell (p := ⟨g, q, none⟩) hbase (.bool (!u))
        have HO2 := Lib.hid hO2; have HP2 := Lib.hid hP2; have HB2 := Lib.hid hB2
        clear hO hO2 hP hP2 hB hB2 hft hq hu hp hpe
        go_wp2
        go_roundg gf'
        case measure => omega
        case rel => exact ⟨k + 1, by go_num, by omega, HO2.out, HP2.out, HB2.out⟩
end Go.Proofs.YthmcimpdehgaoaaGreatDoor
