/- The program's text of a number in fixed point. -/
import Derived.Test.YtggegefeagkhkaaDoorRpB
import Derived.Test.YtggegefeagkhkaaDoorShelf
import Derived.Lib.LaidTab
import Derived.Lib.AppendIntMem
import Derived.Deep.RegionHeld3
import Derived.Deep.Cut
namespace Go.Proofs.YtggegefeagkhkaaDoor
open Go.RowKit

def Tb (B : Nat) (w : World) : Prop := Lib.TabBelow Tryd.prog B w "internal/strconv.uint64pow10" .u64 Lib.pow10Tab
theorem Tb.on {B : Nat} {w w' : World} (h : Tb B w) (hb : Below B w w') : Tb B w' := Lib.TabBelow.on h hb
theorem and32 (a : Nat) (h : a < 18446744073709551616) : bits .and .u64 (a : Int) 4294967295 = ((a % 4294967296 : Nat) : Int) := by
  have h1 : (BitVec.ofInt 64 4294967295).toNat = 2 ^ 32 - 1 := by decide
  have h2 : (BitVec.ofInt 64 (a : Int)).toNat = a := by
    rw [BitVec.toNat_ofInt]
    omega
  have key : (BitVec.ofInt 64 (a : Int) &&& BitVec.ofInt 64 4294967295).toNat = a % 2 ^ 32 := by
    rw [BitVec.toNat_and, h1, h2, Nat.and_two_pow_sub_one_eq_mod]
  show IntKind.u64.wrap ((BitVec.ofInt 64 (a : Int) &&& BitVec.ofInt 64 4294967295).toNat : Nat) = _
  rw [key, IntKind.wrap_u64]
  omega
theorem undrew {B : Nat} {a b : World} (h : Below B a.drew b) : Below B a b := ⟨h.os, h.tape, h.output, h.size, h.block⟩
set_option maxHeartbeats 2000000 in
theorem text_neg (w : World) (a : Int) (ha : a < 0) : Calls Tryd.prog 35 #[.int .i64 a] w fun e w' => e = .returned (.string ⟨#[]⟩) ∧ Below w.heap.size w w' := by
  have hb : decide (a < 0) = true := decide_eq_true ha
  go_enter Tryd.func35, Tryd.ntmps35
  go_wp2
  go_ret
  exact ⟨rfl, Below.refl _ _⟩
/-- so many of the nine digits are laid -/
def TailP (w wr : World) (a i r gf : Nat) : Prop :=
  ∃ (cs : Array Value) (L : List UInt8), cs.size = 9 ∧ Blk wr w.heap.size 81 cs ∧ L.length = i ∧ (∀ (j : Nat) (x : UInt8), L[j]? = some x → cs[j]? = some (Value.int .u8 (x.toNat : Int))) ∧ L ++ fixD gf r = fixD 9 (a % 4294967296) ∧ Below w.heap.size w wr
set_option maxRecDepth 100000 in
set_option maxHeartbeats 4000000 in
theorem text_any (w : World) (hT : Tb w.heap.size w) (a : Nat) (ha : a ≤ 9223372036854775807) : Calls Tryd.prog 35 #[.int .i64 a] w fun e w' => e = .returned (.string (fixText a)) ∧ Below w.heap.size w w' := by
  have haI : ¬ (a : Int) < 0 := by omega
  have hx := and32 a (by omega)
  have HT := Lib.hid hT
  clear hT
  go_enter Tryd.func35, Tryd.ntmps35
  have hk0 := Blk.new w 81 #[.int .u8 0, .int .u8 0, .int .u8 0, .int .u8 0, .int .u8 0, .int .u8 0, .int .u8 0, .int .u8 0, .int .u8 0]
  have HK0 := Lib.hid hk0; have HB0 := Lib.hid ((Below.refl w.heap.size w).alloc (Nat.le_refl _) (.cells #[.int .u8 0, .int .u8 0, .int .u8 0, .int .u8 0, .int .u8 0, .int .u8 0, .int .u8 0, .int .u8 0, .int .u8 0] 81))
  clear hk0
  go_wp2
  go_loopg [4, 11] 9 (fun gf v4 v11 wr => ∃ (i r : Nat), v4 = .int .u64 r ∧ v11 = .int .i64 i ∧ i + gf = 9 ∧ r < 4294967296 ∧ TailP w wr a i r gf)
  case atStart => exact ⟨0, a % 4294967296, by go_num, rfl, rfl, Nat.mod_lt _ (by decide), _, [], rfl, HK0.out, rfl, (fun j x h => by cases h), rfl, HB0.out⟩
  case round =>
    clear HK0 HB0 hx
    obtain ⟨i, r, rfl, rfl, hi, hr, cs, L, hcs, hk, hL, hLc, hd, hb⟩ := hrel
    cases gk with
    | zero =>
      obtain rfl : i = 9 := by omega
      rw [fixD, List.append_nil] at hd
      have hcv : ∀ wx, Below wr.heap.size wr wx → (convert 58 9 (.slice (some ⟨w.heap.size, 0, none⟩) 9 9)).run Tryd.prog wx = .ok (.string ⟨(fixD 9 (a % 4294967296)).toArray⟩) wx := fun wx hx => by
        have h := run_convert_bytes_back (P := Tryd.prog) wx 58 9 5 ⟨w.heap.size, 0, none⟩ 9 L Tryd.underlying58 Tryd.underlying5 Tryd.underlying9 (fun j hj => by
          have h0 : (⟨w.heap.size, 0, none⟩ : Addr).add j = ⟨w.heap.size, j, none⟩ := by
            unfold Addr.add
            split
            · rename_i h; subst h; rfl
            · simp
          rw [h0, (hk.below hx hk.lt).cell]
          exact hLc j _ (List.getElem?_eq_getElem hj))
        rw [hL, hd] at h
        exact h
      obtain ⟨q, hq⟩ : ∃ q : ByteArray, ⟨(Lib.decDigits (a / 4294967296)).toArray⟩ = q := ⟨_, rfl⟩
      have hfi : ∀ W, Below w.heap.size w W → Calls Tryd.prog 52 #[.int .i64 ((a : Int) / 4294967296), .int .i64 10] W fun e w' => e = .returned (.string q) ∧ Below W.heap.size W w' := fun W hW => by
        have h := Tryd.strconv_FormatInt_10 ((a : Int) / 4294967296) (by omega) (by omega) W (Lib.TabBelow.here (HT.out.on hW))
        rw [show (a : Int) / 4294967296 = ((a / 4294967296 : Nat) : Int) by omega, Lib.itoa_nonneg, hq, ← show (a : Int) / 4294967296 = ((a / 4294967296 : Nat) : Int) by omega] at h
        exact h.mono fun _ w1 ⟨he, k, os, hw⟩ => ⟨he, by rw [hw]; exact Lib.below_grow _ W (Nat.le_refl _) k os⟩
      obtain ⟨tl, htl⟩ : ∃ tl : ByteArray, ⟨(fixD 9 (a % 4294967296)).toArray⟩ = tl := ⟨_, rfl⟩
      have htls : tl.size = 9 := by rw [← htl]; show (fixD 9 (a % 4294967296)).toArray.size = 9; rw [List.size_toArray]; exact fixD_len _ _
      have hqs : q.size ≤ 100 := by rw [← hq]; show (Lib.decDigits (a / 4294967296)).toArray.size ≤ 100; rw [List.size_toArray]; exact dec_len _ (by omega)
      have hfin : q ++ ⟨#[46]⟩ ++ tl = fixText a := by
        unfold fixText
        rw [← hq, ← htl]
        apply ByteArray.ext
        simp [ByteArray.data_append]
      rw [htl] at hcv
      have hq1 : (q ++ ⟨#[46]⟩ : ByteArray).size = q.size + 1 := by rw [ByteArray.size_append]; rfl
      have HFIN := Lib.hid hfin
      have hqI : (q.size : Int) ≤ 100 := by omega
      have hs46 : (⟨#[46]⟩ : ByteArray).size = 1 := rfl
      have hn1 : ¬ 9223372036854775807 < q.size + 1 := by omega
      have hn2 : ¬ 9223372036854775807 < q.size + 1 + 9 := by omega
      clear hq htl hfin
      have HCV := Lib.hid hcv; have HFI := Lib.hid hfi; have HB := Lib.hid hb
      clear hcv hfi hk hLc hd hb hL hcs
      go_upto_region 12 with (fail)
      have HCX := Lib.hid (HCV.out wr.drew (Below.refl _ _).drew)
      go_region_held3 (fun w' => (convert 58 9 (.slice (some ⟨w.heap.size, 0, none⟩) 9 9)).run Tryd.prog w' = .ok (.string tl) w') (first | exact HCY.out | exact HCX.out) (first | (go_at_call 52; (with_reducible refine (HFI.out _ (HB.out.drew)).mono ?_); rintro e w5 ⟨rfl, hb5⟩; have hb5 : Below wr.heap.size wr w5 := undrew hb5; have HCY := Lib.hid (HCV.out w5 hb5); have HB5 := Lib.hid (HB.out.trans (hb5.mono HB.out.size)); clear hb5))
      go_wp2
      go_ret
      exact ⟨by rw [← HFIN.out]; rfl, HB5.out⟩
    | succ gf =>
      have hi9 : (i : Int) < 9 := by omega
      have hic : i < cs.size := by omega
      have hc : wr.cell? ⟨w.heap.size, i, none⟩ = some cs[i] := by rw [hk.cell, Array.getElem?_eq_getElem hic]
      have hf := hk.frozen i
      have hx := and32 (r * 10) (by omega)
      have hlt := hk.lt
      rw [show ((r * 10 : Nat) : Int) = (r : Int) * 10 by omega, show ((r * 10 % 4294967296 : Nat) : Int) = (r : Int) * 10 % 4294967296 by omega] at hx
      obtain ⟨d, hdd⟩ : ∃ d, UInt8.ofNat (48 + r * 10 / 4294967296) = d := ⟨_, rfl⟩
      have hdn : ((d.toNat : Nat) : Int) = 48 + (r : Int) * 10 / 4294967296 := by
        have hq9 : r * 10 / 4294967296 ≤ 9 := by omega
        have hqi : (r : Int) * 10 / 4294967296 = ((r * 10 / 4294967296 : Nat) : Int) := by omega
        rw [← hdd, hqi]
        generalize r * 10 / 4294967296 = z at hq9
        rw [UInt8.toNat_ofNat']
        omega
      rw [fixD, hdd] at hd
      have hk2 := hk.set_ i (.int .u8 (48 + (r : Int) * 10 / 4294967296))
      have hb2 : Below w.heap.size w (wr.setCell ⟨w.heap.size, i, none⟩ (.int .u8 (48 + (r : Int) * 10 / 4294967296))) := hb.setCell (p := ⟨w.heap.size, i, none⟩) (Nat.le_refl _) _
      have hL2 : ∀ (j : Nat) (x : UInt8), (L ++ [d])[j]? = some x → (cs.setIfInBounds i (.int .u8 (48 + (r : Int) * 10 / 4294967296)))[j]? = some (.int .u8 (x.toNat : Int)) := fun j x hj => by
        rw [Array.getElem?_setIfInBounds]
        by_cases hji : i = j
        · subst hji
          rw [List.getElem?_append_right (by omega), hL, Nat.sub_self] at hj
          injection hj with hj
          subst hj
          rw [if_pos rfl, if_pos hic, hdn]
        · have hjl : j < (L ++ [d]).length := (List.getElem?_eq_some_iff.1 hj).1
          rw [List.length_append] at hjl
          simp only [List.length_cons, List.length_nil] at hjl
          rw [List.getElem?_append_left (by omega)] at hj
          rw [if_neg hji]
          exact hLc j x hj
      have hd2 : (L ++ [d]) ++ fixD gf (r * 10 % 4294967296) = fixD 9 (a % 4294967296) := by rw [← hd]; simp
      have HK2 := Lib.hid hk2; have HB2 := Lib.hid hb2; have HL2 := Lib.hid hL2; have HD2 := Lib.hid hd2; have HLN := Lib.hid (show (L ++ [d]).length = i + 1 by rw [List.length_append, hL]; rfl); have HCS := Lib.hid (show (cs.setIfInBounds i (.int .u8 (48 + (r : Int) * 10 / 4294967296))).size = 9 by rw [Array.size_setIfInBounds]; exact hcs)
      clear hk hk2 hb hb2 hL2 hd hd2 hLc hL hcs hdd hdn hlt
      go_wp2
      go_roundg gf
      case measure => omega
      case rel => exact ⟨i + 1, r * 10 % 4294967296, by go_num, by go_num, by omega, Nat.mod_lt _ (by decide), _, L ++ [d], HCS.out, HK2.out, HLN.out, HL2.out, HD2.out, HB2.out⟩
end Go.Proofs.YtggegefeagkhkaaDoor
