/- The reference's decimal digits. fields.width of bytes, words and longs. The reference's numbers and their bytes: Digits, Number. -/
import Derived.Test.YthmcimpdehgaoaaGreatDoorPk16
import Derived.Test.YthmcimpdehgaoaaGreatDoorDk1
import Derived.Deep.LoopGhost
import Derived.Test.YthmcimpdehgaoaaGreatDoorPk0
import Derived.Test.YthmcimpdehgaoaaGreatDoorRows
import Derived.WalkKit
import Derived.WalkLawsBesides
import Derived.WalkSpells
import Derived.BigQuiet
import Derived.Deep.QuietTactic
import Derived.Deep.RegionHeld3
import Derived.Outline
import Derived.IntWalk
import Derived.Lib.Hide
import Derived.Test.YthmcimpdehgaoaaGreatDoorDk4
import Derived.Test.YthmcimpdehgaoaaGreatDoorDigS
import Derived.Test.YthmcimpdehgaoaaGreatDoorPk6
namespace Go.Proofs.YthmcimpdehgaoaaGreatDoor
open Go.RowKit Go.Maps

/-- the digits that are still to come -/
def dn (u : Nat) : List UInt8 := if u = 0 then [] else Lib.decDigits u
theorem dn_step (u : Nat) : dn (u / 10) ++ [UInt8.ofNat (48 + u % 10)] = Lib.decDigits u := by
  rw [Lib.decDigits]
  by_cases h : u < 10
  · rw [dif_pos h, show u / 10 = 0 by omega, show u % 10 = u by omega]; rfl
  · rw [dif_neg h]
    unfold dn
    rw [if_neg (by omega)]
def digS : ByteArray := ⟨#[48, 49, 50, 51, 52, 53, 54, 55, 56, 57]⟩
theorem digS_at (k : Nat) (h : k < 10) : digS.extract k (k + 1) = ⟨#[UInt8.ofNat (48 + k)]⟩ := by
  have : k = 0 ∨ k = 1 ∨ k = 2 ∨ k = 3 ∨ k = 4 ∨ k = 5 ∨ k = 6 ∨ k = 7 ∨ k = 8 ∨ k = 9 := by omega
  rcases this with rfl | rfl | rfl | rfl | rfl | rfl | rfl | rfl | rfl | rfl <;> decide +kernel
/-- what has been put together -/
def DgR (n u : Nat) (s : ByteArray) : Prop := (s.size = 0 ∧ u = n) ∨ (0 < s.size ∧ dn u ++ s.data.toList = Lib.decDigits n)
theorem DgR.step {n u : Nat} {s : ByteArray} (h : DgR n u s) (h2 : 0 < u ∨ s.size = 0) : DgR n (u / 10) (⟨#[UInt8.ofNat (48 + u % 10)]⟩ ++ s) := by
  refine .inr ⟨by rw [ByteArray.size_append]; show 0 < 1 + s.size; omega, ?_⟩
  rw [ByteArray.data_append, Array.toList_append]
  show dn (u / 10) ++ ([UInt8.ofNat (48 + u % 10)] ++ s.data.toList) = _
  rw [← List.append_assoc, dn_step]
  rcases h with ⟨h0, rfl⟩ | ⟨h0, h1⟩
  · have : s.data.toList = [] := List.eq_nil_of_length_eq_zero (by simpa using h0)
    rw [this, List.append_nil]
  · have hu : 0 < u := by omega
    unfold dn at h1
    rwa [if_neg (by omega)] at h1
theorem DgR.done {n : Nat} {s : ByteArray} (h : DgR n 0 s) (h0 : 0 < s.size) : s = ⟨(Lib.itoa (n : Int)).toArray⟩ := by
  rcases h with ⟨h1, _⟩ | ⟨_, h1⟩
  · omega
  · rw [Lib.itoa_nonneg, ← h1]
    unfold dn
    simp
theorem DgR.size {n u : Nat} {s : ByteArray} (h : DgR n u s) (hn : n ≤ 9223372036854775807) : s.size ≤ 21 := by
  rcases h with ⟨h1, _⟩ | ⟨_, h1⟩
  · omega
  · have h2 := Lib.itoa_length_le (n : Int) (by omega) (by omega)
    rw [Lib.itoa_nonneg, ← h1, List.length_append] at h2
    have : s.data.toList.length = s.size := by simp
    omega
set_option maxRecDepth 100000 in
set_option maxHeartbeats 4000000 in
theorem rdigits_any (w : World) (n : Nat) (hn : n ≤ 9223372036854775807) : Calls Tryz.prog 137 #[.int .i64 n] w fun e w' => e = .returned (.string ⟨(Lib.itoa (n : Int)).toArray⟩) ∧ w' = w := by
  have h0 : DgR n n ⟨#[]⟩ := .inl ⟨rfl, rfl⟩
  have H0 := Lib.hid h0
  clear h0
  go_enter Tryz.func137, Tryz.ntmps137
  go_wp2
  go_loopg [0, 3] (n + 1) (fun gf a b wr => ∃ (u : Nat) (s : ByteArray), a = .int .i64 u ∧ b = .string s ∧ gf = u + (if s.size = 0 then 1 else 0) ∧ u ≤ n ∧ DgR n u s ∧ wr = w)
  case atStart => exact ⟨n, ⟨#[]⟩, rfl, rfl, rfl, Nat.le_refl _, H0.out, rfl⟩
  case round =>
    clear H0
    obtain ⟨u, s, rfl, rfl, hg, hun, hd, rfl⟩ := hrel
    have hsz := hd.size hn
    by_cases hc : 0 < u ∨ s.size = 0
    · have hst := hd.step hc
      have hk : u % 10 < 10 := Nat.mod_lt _ (by decide)
      have hx := digS_at (u % 10) hk
      have HST := Lib.hid hst; have HX := Lib.hid hx
      have hszI : (s.size : Int) ≤ 21 := by omega
      have hlt : u / 10 + 0 < gk := by
        rcases hc with h | h
        · have : u / 10 < u := Nat.div_lt_self h (by decide)
          omega
        · rw [if_pos h] at hg; omega
      clear hst hx hd
      by_cases hu : 0 < u
      · have huI : (0 : Int) < (u : Int) := by omega
        have hub : decide ((0 : Int) < (u : Int)) = true := by simpa using hu
        go_wp2
        go_roundg (u / 10 + 0)
        case measure => exact hlt
        case rel => exact ⟨u / 10, ⟨#[UInt8.ofNat (48 + u % 10)]⟩ ++ s, by go_num, by rw [← HX.out]; rfl, by rw [if_neg (by rw [ByteArray.size_append]; show ¬ 1 + s.size = 0; omega)], by omega, HST.out, rfl⟩
      · obtain rfl : u = 0 := by omega
        have hs0 : s.size = 0 := by omega
        have hse : (s.toList == []) = true := by
          have h1 : s.toList = [] := by rw [ByteArray.toList_eq]; exact List.eq_nil_of_length_eq_zero (by simpa using hs0)
          rw [h1]; rfl
        have hse2 : s.toList = [] := by simpa using hse
        have hgk : 0 < gk := by rw [if_pos hs0] at hg; omega
        go_wp2
        go_roundg 0
        case measure => exact hgk
        case rel => exact ⟨0, ⟨#[UInt8.ofNat (48 + 0 % 10)]⟩ ++ s, rfl, by rw [← HX.out]; rfl, by rw [if_neg (by rw [ByteArray.size_append]; show ¬ 1 + s.size = 0; omega)], by omega, HST.out, rfl⟩
    · obtain rfl : u = 0 := by omega
      have hs0 : 0 < s.size := by omega
      have hfin := hd.done hs0
      have hne : s.toList ≠ [] := by
        rw [ByteArray.toList_eq]
        intro h
        have h2 : s.data.toList.length = 0 := by rw [h]; rfl
        have h3 : s.data.toList.length = s.size := by simp
        omega
      have hne2 : (s.toList == []) = false := by simpa using hne
      have hne3 : s.toList.isEmpty = false := by simpa using hne
      have HFIN := Lib.hid hfin
      clear hfin hd hc hg hun hne
      go_wp2
      go_ret
      exact ⟨by rw [← HFIN.out]; rfl, rfl⟩
end Go.Proofs.YthmcimpdehgaoaaGreatDoor
namespace Go.Proofs.YthmcimpdehgaoaaGreatDoor
open Go.RowKit

set_option maxRecDepth 100000 in
set_option maxHeartbeats 4000000 in
theorem width_u8 (w : World) : Calls Tryz.prog 125 #[] w fun e w' => e = .returned (.int .i64 1) ∧ w' = w := by
  go_enter Tryz.func125, Tryz.ntmps125
  go_wp2
  go_loopg [1, 2] 1 (fun gf a b wr => (gf = 1 ∧ a = .int .i64 0 ∧ b = .int .u8 255 ∨ gf = 0 ∧ a = .int .i64 1 ∧ b = .int .u8 0) ∧ wr = w)
  case atStart => exact ⟨.inl ⟨rfl, rfl, rfl⟩, rfl⟩
  case round =>
    obtain ⟨h, rfl⟩ := hrel
    rcases h with ⟨rfl, rfl, rfl⟩ | ⟨rfl, rfl, rfl⟩
    · go_wp2
      go_roundg 0
      case measure => omega
      case rel => exact ⟨.inr (⟨rfl, rfl, rfl⟩), rfl⟩
    · go_wp2
      go_ret
      exact ⟨rfl, rfl⟩
set_option maxRecDepth 100000 in
set_option maxHeartbeats 4000000 in
theorem width_u32 (w : World) : Calls Tryz.prog 127 #[] w fun e w' => e = .returned (.int .i64 4) ∧ w' = w := by
  go_enter Tryz.func127, Tryz.ntmps127
  go_wp2
  go_loopg [1, 2] 4 (fun gf a b wr => (gf = 4 ∧ a = .int .i64 0 ∧ b = .int .u32 4294967295 ∨ gf = 3 ∧ a = .int .i64 1 ∧ b = .int .u32 16777215 ∨ gf = 2 ∧ a = .int .i64 2 ∧ b = .int .u32 65535 ∨ gf = 1 ∧ a = .int .i64 3 ∧ b = .int .u32 255 ∨ gf = 0 ∧ a = .int .i64 4 ∧ b = .int .u32 0) ∧ wr = w)
  case atStart => exact ⟨.inl ⟨rfl, rfl, rfl⟩, rfl⟩
  case round =>
    obtain ⟨h, rfl⟩ := hrel
    rcases h with ⟨rfl, rfl, rfl⟩ | ⟨rfl, rfl, rfl⟩ | ⟨rfl, rfl, rfl⟩ | ⟨rfl, rfl, rfl⟩ | ⟨rfl, rfl, rfl⟩
    · go_wp2
      go_roundg 3
      case measure => omega
      case rel => exact ⟨.inr (.inl ⟨rfl, rfl, rfl⟩), rfl⟩
    · go_wp2
      go_roundg 2
      case measure => omega
      case rel => exact ⟨.inr (.inr (.inl ⟨rfl, rfl, rfl⟩)), rfl⟩
    · go_wp2
      go_roundg 1
      case measure => omega
      case rel => exact ⟨.inr (.inr (.inr (.inl ⟨rfl, rfl, rfl⟩))), rfl⟩
    · go_wp2
      go_roundg 0
      case measure => omega
      case rel => exact ⟨.inr (.inr (.inr (.inr (⟨rfl, rfl, rfl⟩)))), rfl⟩
    · go_wp2
      go_ret
      exact ⟨rfl, rfl⟩
set_option maxRecDepth 100000 in
set_option maxHeartbeats 4000000 in
theorem width_u64 (w : World) : Calls Tryz.prog 126 #[] w fun e w' => e = .returned (.int .i64 8) ∧ w' = w := by
  go_enter Tryz.func126, Tryz.ntmps126
  go_wp2
  go_loopg [1, 2] 8 (fun gf a b wr => (gf = 8 ∧ a = .int .i64 0 ∧ b = .int .u64 18446744073709551615 ∨ gf = 7 ∧ a = .int .i64 1 ∧ b = .int .u64 72057594037927935 ∨ gf = 6 ∧ a = .int .i64 2 ∧ b = .int .u64 281474976710655 ∨ gf = 5 ∧ a = .int .i64 3 ∧ b = .int .u64 1099511627775 ∨ gf = 4 ∧ a = .int .i64 4 ∧ b = .int .u64 4294967295 ∨ gf = 3 ∧ a = .int .i64 5 ∧ b = .int .u64 16777215 ∨ gf = 2 ∧ a = .int .i64 6 ∧ b = .int .u64 65535 ∨ gf = 1 ∧ a = .int .i64 7 ∧ b = .int .u64 255 ∨ gf = 0 ∧ a = .int .i64 8 ∧ b = .int .u64 0) ∧ wr = w)
  case atStart => exact ⟨.inl ⟨rfl, rfl, rfl⟩, rfl⟩
  case round =>
    obtain ⟨h, rfl⟩ := hrel
    rcases h with ⟨rfl, rfl, rfl⟩ | ⟨rfl, rfl, rfl⟩ | ⟨rfl, rfl, rfl⟩ | ⟨rfl, rfl, rfl⟩ | ⟨rfl, rfl, rfl⟩ | ⟨rfl, rfl, rfl⟩ | ⟨rfl, rfl, rfl⟩ | ⟨rfl, rfl, rfl⟩ | ⟨rfl, rfl, rfl⟩
    · go_wp2
      go_roundg 7
      case measure => omega
      case rel => exact ⟨.inr (.inl ⟨rfl, rfl, rfl⟩), rfl⟩
    · go_wp2
      go_roundg 6
      case measure => omega
      case rel => exact ⟨.inr (.inr (.inl ⟨rfl, rfl, rfl⟩)), rfl⟩
    · go_wp2
      go_roundg 5
      case measure => omega
      case rel => exact ⟨.inr (.inr (.inr (.inl ⟨rfl, rfl, rfl⟩))), rfl⟩
    · go_wp2
      go_roundg 4
      case measure => omega
      case rel => exact ⟨.inr (.inr (.inr (.inr (.inl ⟨rfl, rfl, rfl⟩)))), rfl⟩
    · go_wp2
      go_roundg 3
      case measure => omega
      case rel => exact ⟨.inr (.inr (.inr (.inr (.inr (.inl ⟨rfl, rfl, rfl⟩))))), rfl⟩
    · go_wp2
      go_roundg 2
      case measure => omega
      case rel => exact ⟨.inr (.inr (.inr (.inr (.inr (.inr (.inl ⟨rfl, rfl, rfl⟩)))))), rfl⟩
    · go_wp2
      go_roundg 1
      case measure => omega
      case rel => exact ⟨.inr (.inr (.inr (.inr (.inr (.inr (.inr (.inl ⟨rfl, rfl, rfl⟩))))))), rfl⟩
    · go_wp2
      go_roundg 0
      case measure => omega
      case rel => exact ⟨.inr (.inr (.inr (.inr (.inr (.inr (.inr (.inr (⟨rfl, rfl, rfl⟩)))))))), rfl⟩
    · go_wp2
      go_ret
      exact ⟨rfl, rfl⟩
end Go.Proofs.YthmcimpdehgaoaaGreatDoor
namespace Go.Proofs.YthmcimpdehgaoaaGreatDoor
open Go.RowKit

theorem digL_cons (j n : Nat) : (digB (j + 1) n).data.toList = UInt8.ofNat (n / 256 ^ j % 256) :: (digB j n).data.toList := by
  unfold digB
  simp only [List.range_succ_eq_map, List.map_cons, List.map_map]
  congr 1
  refine List.map_congr_left fun i _ => ?_
  simp only [Function.comp]
  rw [show j + 1 - 1 - (i + 1) = j - 1 - i by omega]
theorem ucells_cons (j n : Nat) : ucells (digB (j + 1) n) = Value.int .u8 ((n / 256 ^ j % 256 : Nat) : Int) :: ucells (digB j n) := by
  unfold ucells
  rw [digL_cons, List.map_cons, ofNat_toNat]
theorem rep_set (k : Nat) (z u : Value) (tl : List Value) : ((List.replicate (k + 1) z ++ tl).toArray).setIfInBounds k u = (List.replicate k z ++ u :: tl).toArray := by
  rw [List.setIfInBounds_toArray]
  congr 1
  rw [List.set_append_left _ _ (by simp), List.replicate_succ', List.set_append_right _ _ (by simp)]
  simp
set_option maxRecDepth 100000 in
set_option maxHeartbeats 4000000 in
theorem rfDigits_any (w : World) (n W : Nat) (hn : n < 18446744073709551616) (hW : W ≤ 1000) :
    Calls Tryz.prog 78 #[.int .u64 n, .int .i64 W] w fun e w' => ∃ v, e = .returned v ∧ w'.ownsRow w.heap.size 5 1 v W (ucells (digB W n)) ∧ Below w.heap.size w w' := by
  obtain ⟨i0, hi0, hz0, hz1, hz2⟩ := parts infoU
  obtain ⟨Z, hZ⟩ : ∃ Z, (List.replicate W (Value.int .u8 0)).toArray = Z := ⟨_, rfl⟩
  have hmk : ∀ X : World, (Instr.makeSlice 33 (.int .i64 W) (.int .i64 W)).run Tryz.prog X = .ok (.slice (some ⟨X.heap.size, 0, none⟩) W W) (X.alloc (.cells Z 5)) := by
    rw [← hZ]
    exact fun X => run_make_one (P := Tryz.prog) 33 5 i0 (.int .u8 0) Tryz.underlying33 hi0 hz0 rfl hz1 W (by rw [hz2]; omega) (by omega) X
  have hK0 : Blk (w.alloc (.cells Z 5)) w.heap.size 5 (List.replicate W (Value.int .u8 0) ++ ucells (digB (W - W) (n))).toArray := by
    rw [Nat.sub_self, show ucells (digB 0 n) = [] from rfl, List.append_nil, hZ]; exact Blk.new w _ _
  have hB0 := (Below.refl w.heap.size w).alloc (Nat.le_refl _) (.cells Z 5)
  have HK0 := Lib.hid hK0; have HB0 := Lib.hid hB0
  clear hK0 hB0 hZ hi0 hz0 hz1 hz2
  go_enter Tryz.func78, Tryz.ntmps78
  go_wp2
  go_loopg [0, 6] W (fun gf a b wr => a = .int .u64 ((n / 256 ^ (W - gf) : Nat) : Int) ∧ b = .int .i64 ((gf : Int) - 1) ∧ gf ≤ W ∧ Blk wr w.heap.size 5 (List.replicate gf (Value.int .u8 0) ++ ucells (digB (W - gf) n)).toArray ∧ Below w.heap.size w wr)
  case atStart => exact ⟨by simp, rfl, Nat.le_refl _, HK0.out, HB0.out⟩
  case round =>
    clear HK0 HB0
    obtain ⟨rfl, rfl, hk, hK, hB⟩ := hrel
    cases gk with
    | zero =>
      have HB := Lib.hid hB
      have hK' : Blk wr w.heap.size 5 (ucells (digB W n)).toArray := hK
      have HK := Lib.hid hK'
      clear hK hB hK'
      go_wp2
      go_ret
      exact ⟨_, rfl, ⟨by rw [ucells_length, digB_size]; omega, .inr ⟨w.heap.size, W, _, rfl, Nat.le_refl _, HK.out, Nat.le_refl _, by unfold maxLen; omega, by simp [ucells_length, digB_size], by rw [List.take_of_length_le (by simp [ucells_length, digB_size])]⟩⟩, HB.out⟩
    | succ gf =>
      have hkN : gf < W := by omega
      have hkI : (gf : Int) < (W : Int) := by omega
      obtain ⟨j, hj⟩ : ∃ j, W - (gf + 1) = j := ⟨_, rfl⟩
      have hj1 : W - gf = j + 1 := by omega
      rw [hj] at hK ⊢
      have ck := hK.cell gf; have fk := hK.frozen gf
      rw [List.getElem?_toArray, List.getElem?_append_left (by simp), List.getElem?_replicate, if_pos (by omega)] at ck
      have hK2 := hK.set_ gf (.int .u8 ((n / 256 ^ j % 256 : Nat) : Int))
      rw [rep_set, ← ucells_cons, ← hj1] at hK2
      have hB2 := hB.setCell (p := ⟨w.heap.size, gf, none⟩) (Nat.le_refl _) (.int .u8 ((n / 256 ^ j % 256 : Nat) : Int))
      have hdv : n / 256 ^ (W - gf) = n / 256 ^ j / 256 := by rw [hj1, Nat.pow_succ, Nat.div_div_eq_div_mul]
      have hlt : n / 256 ^ j < 18446744073709551616 := Nat.lt_of_le_of_lt (Nat.div_le_self _ _) hn
      obtain ⟨m, hm⟩ : ∃ m, n / 256 ^ j = m := ⟨_, rfl⟩
      rw [hm] at hK2 hB2 hdv hlt ⊢
      have e1 : ((m % 256 : Nat) : Int) = (m : Int) % 256 := by omega
      have e2 : ((m / 256 : Nat) : Int) = (m : Int) / 256 := by omega
      rw [e1] at hK2 hB2
      have e0 : ((gf + 1 : Nat) : Int) - 1 = (gf : Int) := by omega
      rw [e0]
      have HK2 := Lib.hid hK2; have HB2 := Lib.hid hB2; have HDV := Lib.hid hdv; have E2 := Lib.hid e2
      clear hK hB hK2 hB2 hdv hm hj hj1 e1 e2 e0 hmk
      go_wp2
      go_roundg gf
      case measure => omega
      case rel => exact ⟨by rw [HDV.out, E2.out], by go_num, by omega, HK2.out, HB2.out⟩
theorem numL_take_succ (s : ByteArray) (k : Nat) (hk : k < s.size) : numL (s.data.toList.take (k + 1)) = numL (s.data.toList.take k) * 256 + (s.get! k).toNat := by
  have hl : k < s.data.toList.length := hk
  rw [List.take_succ_eq_append_getElem hl, numL_snoc]
  congr 2
  have h2 : k < s.data.size := hk
  simp only [ByteArray.get!, getElem!_pos, h2]
  simp
theorem numL_take_lt (s : ByteArray) (k : Nat) : numL (s.data.toList.take k) < 256 ^ k := by
  have h := numL_lt (s.data.toList.take k)
  refine Nat.lt_of_lt_of_le h (Nat.pow_le_pow_right (by decide) ?_)
  rw [List.length_take]; omega
theorem numL_all (s : ByteArray) : numL (s.data.toList.take s.size) = numB s := by
  have h : s.data.toList.take s.size = s.data.toList := List.take_length
  rw [h]; rfl
theorem BtR.cell {w : World} {A : Option Addr} {n c : Nat} {s : ByteArray} (h : BtR w (.slice A n c) s) {k : Nat} (hk : k < s.size) : ∃ b : Addr, A = some b ∧ w.cell? (b.add k) = some (.int .u8 ((s.get! k).toNat : Int)) := by
  obtain ⟨A', c', he, hc, hr⟩ := h
  simp only [Value.slice.injEq] at he
  obtain ⟨rfl, -, rfl⟩ := he
  obtain ⟨ad, rfl, hb, hx⟩ := hr.2 (by omega)
  exact ⟨ad, rfl, hx k _ (ucells_at s k hk)⟩
end Go.Proofs.YthmcimpdehgaoaaGreatDoor
