/- The reference's numbers and their bytes: Digits, Number. -/
import Derived.Test.YthmcimpdehgaoaaGreatDoorMaA
import Derived.Test.YthmcimpdehgaoaaGreatDoorDk4
import Derived.Test.YthmcimpdehgaoaaGreatDoorPk8
import Derived.Test.YthmcimpdehgaoaaGreatDoorRec2
namespace Go.Proofs.YthmcimpdehgaoaaGreatDoor
open Go.RowKit

theorem digL_cons (j n : Nat) : (digB (j + 1) n).data.toList = UInt8.ofNat (n / 256 ^ j % 256) :: (digB j n).data.toList := by
  unfold digB
  simp only [List.range_succ_eq_map, List.map_cons, List.map_map]
  congr 1
  refine List.map_congr_left fun i _ => ?_
  simp only [Function.comp]
  rw [show j + 1 - 1 - (i + 1) = j - 1 - i by omega]
theorem ucells_cons (j n : Nat) : ucells (digB (j + 1) n) = Value.int .u8 ((n / 256 ^ j % 256 : Nat) : Int) :: ucells (digB j n) := by
  unfold ucells
  rw [digL_cons, List.map_cons, ofNat_toNat]
theorem rep_set (k : Nat) (z u : Value) (tl : List Value) : ((List.replicate (k + 1) z ++ tl).toArray).setIfInBounds k u = (List.replicate k z ++ u :: tl).toArray := by
  rw [List.setIfInBounds_toArray]
  congr 1
  rw [List.set_append_left _ _ (by simp), List.replicate_succ', List.set_append_right _ _ (by simp)]
  simp
set_option maxRecDepth 100000 in
set_option maxHeartbeats 4000000 in
theorem rfDigits_any (w : World) (n W : Nat) (hn : n < 18446744073709551616) (hW : W ≤ 1000) :
    Calls Tryz.prog 78 #[.int .u64 n, .int .i64 W] w fun e w' => ∃ v, e = .returned v ∧ w'.ownsRow w.heap.size 5 1 v W (ucells (digB W n)) ∧ Below w.heap.size w w' := by
  obtain ⟨i0, hi0, hz0, hz1, hz2⟩ := parts infoU
  obtain ⟨Z, hZ⟩ : ∃ Z, (List.replicate W (Value.int .u8 0)).toArray = Z := ⟨_, rfl⟩
  have hmk : ∀ X : World, (Instr.makeSlice 33 (.int .i64 W) (.int .i64 W)).run Tryz.prog X = .ok (.slice (some ⟨X.heap.size, 0, none⟩) W W) (X.alloc (.cells Z 5)) := by
    rw [← hZ]
    exact fun X => run_make_one (P := Tryz.prog) 33 5 i0 (.int .u8 0) Tryz.underlying33 hi0 hz0 rfl hz1 W (by rw [hz2]; omega) (by omega) X
  have hK0 : Blk (w.alloc (.cells Z 5)) w.heap.size 5 (List.replicate W (Value.int .u8 0) ++ ucells (digB (W - W) (n))).toArray := by
    rw [Nat.sub_self, show ucells (digB 0 n) = [] from rfl, List.append_nil, hZ]; exact Blk.new w _ _
  have hB0 := (Below.refl w.heap.size w).alloc (Nat.le_refl _) (.cells Z 5)
  have HK0 := Lib.hid hK0; have HB0 := Lib.hid hB0
  clear hK0 hB0 hZ hi0 hz0 hz1 hz2
  go_enter Tryz.func78, Tryz.ntmps78
  go_wp2
  go_loopg [0, 6] W (fun gf a b wr => a = .int .u64 ((n / 256 ^ (W - gf) : Nat) : Int) ∧ b = .int .i64 ((gf : Int) - 1) ∧ gf ≤ W ∧ Blk wr w.heap.size 5 (List.replicate gf (Value.int .u8 0) ++ ucells (digB (W - gf) n)).toArray ∧ Below w.heap.size w wr)
  case atStart => exact ⟨by simp, rfl, Nat.le_refl _, HK0.out, HB0.out⟩
  case round =>
    clear HK0 HB0
    obtain ⟨rfl, rfl, hk, hK, hB⟩ := hrel
    cases gk with
    | zero =>
      have HB := Lib.hid hB
      have hK' : Blk wr w.heap.size 5 (ucells (digB W n)).toArray := hK
      have HK := Lib.hid hK'
      clear hK hB hK'
      go_wp2
      go_ret
      exact ⟨_, rfl, ⟨by rw [ucells_length, digB_size]; omega, .inr ⟨w.heap.size, W, _, rfl, Nat.le_refl _, HK.out, Nat.le_refl _, by unfold maxLen; omega, by simp [ucells_length, digB_size], by rw [List.take_of_length_le (by simp [ucells_length, digB_size])]⟩⟩, HB.out⟩
    | succ gf =>
      have hkN : gf < W := by omega
      have hkI : (gf : Int) < (W : Int) := by omega
      obtain ⟨j, hj⟩ : ∃ j, W - (gf + 1) = j := ⟨_, rfl⟩
      have hj1 : W - gf = j + 1 := by omega
      rw [hj] at hK ⊢
      have ck := hK.cell gf; have fk := hK.frozen gf
      rw [List.getElem?_toArray, List.getElem?_append_left (by simp), List.getElem?_replicate, if_pos (by omega)] at ck
      have hK2 := hK.set_ gf (.int .u8 ((n / 256 ^ j % 256 : Nat) : Int))
      rw [rep_set, ← ucells_cons, ← hj1] at hK2
      have hB2 := hB.setCell (p := ⟨w.heap.size, gf, none⟩) (Nat.le_refl _) (.int .u8 ((n / 256 ^ j % 256 : Nat) : Int))
      have hdv : n / 256 ^ (W - gf) = n / 256 ^ j / 256 := by rw [hj1, Nat.pow_succ, Nat.div_div_eq_div_mul]
      have hlt : n / 256 ^ j < 18446744073709551616 := Nat.lt_of_le_of_lt (Nat.div_le_self _ _) hn
      obtain ⟨m, hm⟩ : ∃ m, n / 256 ^ j = m := ⟨_, rfl⟩
      rw [hm] at hK2 hB2 hdv hlt ⊢
      have e1 : ((m % 256 : Nat) : Int) = (m : Int) % 256 := by omega
      have e2 : ((m / 256 : Nat) : Int) = (m : Int) / 256 := by omega
      rw [e1] at hK2 hB2
      have e0 : ((gf + 1 : Nat) : Int) - 1 = (gf : Int) := by omega
      rw [e0]
      have HK2 := Lib.hid hK2; have HB2 := Lib.hid hB2; have HDV := Lib.hid hdv; have E2 := Lib.hid e2
      clear hK hB hK2 hB2 hdv hm hj hj1 e1 e2 e0 hmk
      go_wp2
      go_roundg gf
      case measure => omega
      case rel => exact ⟨by rw [HDV.out, E2.out], by go_num, by omega, HK2.out, HB2.out⟩
theorem numL_take_succ (s : ByteArray) (k : Nat) (hk : k < s.size) : numL (s.data.toList.take (k + 1)) = numL (s.data.toList.take k) * 256 + (s.get! k).toNat := by
  have hl : k < s.data.toList.length := hk
  rw [List.take_succ_eq_append_getElem hl, numL_snoc]
  congr 2
  have h2 : k < s.data.size := hk
  simp only [ByteArray.get!, getElem!_pos, h2]
  simp
theorem numL_take_lt (s : ByteArray) (k : Nat) : numL (s.data.toList.take k) < 256 ^ k := by
  have h := numL_lt (s.data.toList.take k)
  refine Nat.lt_of_lt_of_le h (Nat.pow_le_pow_right (by decide) ?_)
  rw [List.length_take]; omega
theorem numL_all (s : ByteArray) : numL (s.data.toList.take s.size) = numB s := by
  have h : s.data.toList.take s.size = s.data.toList := List.take_length
  rw [h]; rfl
theorem BtR.cell {w : World} {A : Option Addr} {n c : Nat} {s : ByteArray} (h : BtR w (.slice A n c) s) {k : Nat} (hk : k < s.size) : ∃ b : Addr, A = some b ∧ w.cell? (b.add k) = some (.int .u8 ((s.get! k).toNat : Int)) := by
  obtain ⟨A', c', he, hc, hr⟩ := h
  simp only [Value.slice.injEq] at he
  obtain ⟨rfl, -, rfl⟩ := he
  obtain ⟨ad, rfl, hb, hx⟩ := hr.2 (by omega)
  exact ⟨ad, rfl, hx k _ (ucells_at s k hk)⟩
end Go.Proofs.YthmcimpdehgaoaaGreatDoor
