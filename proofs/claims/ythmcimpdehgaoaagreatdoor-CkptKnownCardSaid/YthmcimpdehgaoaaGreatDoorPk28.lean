/- The reference's check of bytes: Sum. The reference's store of checkpoints: may, Name, there, Bytes. -/
import Derived.Test.YthmcimpdehgaoaaGreatDoorPk27
import Derived.Laws.BitsAllLaws
import Derived.Test.YthmcimpdehgaoaaGreatDoorPk12
import Derived.Test.YthmcimpdehgaoaaGreatDoorRkF
import Derived.Lib.AppendStr
namespace Go.Proofs.YthmcimpdehgaoaaGreatDoor
open Go.RowKit

/-- a row of bits by a rule -/
def bitsV (n : Nat) (p : Nat → Bool) : Array Value := ((List.range n).map fun j => Value.bool (p j)).toArray
theorem bitsV_size (n : Nat) (p : Nat → Bool) : (bitsV n p).size = n := by simp [bitsV]
theorem bitsV_at {n : Nat} {p : Nat → Bool} {j : Nat} (hj : j < n) : (bitsV n p)[j]? = some (.bool (p j)) := by
  unfold bitsV
  rw [List.getElem?_toArray, List.getElem?_map, List.getElem?_range hj]; rfl
theorem bitsV_congr {n : Nat} {p q : Nat → Bool} (h : ∀ j, j < n → p j = q j) : bitsV n p = bitsV n q := by
  unfold bitsV
  congr 1
  exact List.map_congr_left fun j hj => by rw [h j (List.mem_range.1 hj)]
theorem bitsV_set {n : Nat} {p : Nat → Bool} {m : Nat} (b : Bool) (q : Nat → Bool) (h : ∀ j, j < n → q j = if j = m then b else p j) : (bitsV n p).setIfInBounds m (.bool b) = bitsV n q := by
  apply Array.ext
  · simp [bitsV]
  · intro i h1 h2
    have hi : i < n := by rw [bitsV_size] at h2; exact h2
    rw [Array.getElem_setIfInBounds (by rw [bitsV_size]; exact hi)]
    simp only [bitsV, List.getElem_toArray, List.getElem_map, List.getElem_range]
    rw [h i hi]
    by_cases hm : m = i
    · subst hm; simp
    · rw [if_neg hm, if_neg (fun e => hm e.symm)]
/-- the bits of so many -/
def fillP (l : List UInt8) (m j : Nat) : Bool := if j < m then bitM l j else false
def invP (l : List UInt8) (k j : Nat) : Bool := if j < k then !bitM l j else bitM l j
theorem bitM_at {l : List UInt8} {i k : Nat} (hi : i < l.length) (hk : k < 8) : bitM l (8 * i + k) = (l[i].toNat).testBit k := by
  unfold bitM
  rw [if_pos (by omega), show (8 * i + k) / 8 = i by omega, show (8 * i + k) % 8 = k by omega, List.getD_eq_getElem?_getD, List.getElem?_eq_getElem hi]
  rfl
theorem bitM_far {l : List UInt8} {j : Nat} (h : 8 * l.length ≤ j) : bitM l j = false := by unfold bitM; rw [if_neg (by omega)]
theorem bit_test (b k : Nat) (hb : b < 256) : (bits .and .u8 ((b : Int) / 2 ^ k) 1 == 1) = b.testBit k := by
  have h0 : (b : Int) / 2 ^ k = ((b / 2 ^ k : Nat) : Int) := by simp
  rw [h0]
  have h1 : b / 2 ^ k ≤ b := Nat.div_le_self _ _
  have := u8_and_nat (b / 2 ^ k) 1 (by omega) (by decide)
  rw [nat_mask1] at this
  rw [show (1 : Int) = ((1 : Nat) : Int) from rfl, this, Nat.testBit_eq_decide_div_mod_eq]
  rcases Nat.mod_two_eq_zero_or_one (b / 2 ^ k) with h | h <;> rw [h] <;> rfl
set_option maxRecDepth 100000 in
set_option maxHeartbeats 8000000 in
theorem rfSum_any (w : World) (v : Value) (s : ByteArray) (h : BtR w v s) (hs : s.size ≤ 10000) :
    Calls Tryz.prog 79 #[v] w fun e w' => e = .returned (.int .u32 (crcN s)) ∧ Below w.heap.size w w' := by
  obtain ⟨A, c, rfl, hc, -⟩ := id h
  obtain ⟨i0, hi0, hz0, hz1, hz2⟩ := parts infoBo
  obtain ⟨N, hN⟩ : ∃ N, 8 * s.size + 32 = N := ⟨_, rfl⟩
  have hNI : 8 * (s.size : Int) + 32 = (N : Int) := by omega
  obtain ⟨l, hl⟩ : ∃ l, s.data.toList = l := ⟨_, rfl⟩
  have hll : l.length = s.size := by rw [← hl]; rfl
  obtain ⟨Z, hZ⟩ : ∃ Z, (List.replicate N (Value.bool false)).toArray = Z := ⟨_, rfl⟩
  have hmk : ∀ X : World, (Instr.makeSlice 32 (.int .i64 N) (.int .i64 N)).run Tryz.prog X = .ok (.slice (some ⟨X.heap.size, 0, none⟩) N N) (X.alloc (.cells Z 4)) := by
    rw [← hZ]
    exact fun X => run_make_one (P := Tryz.prog) 32 4 i0 (.bool false) Tryz.underlying32 hi0 hz0 rfl hz1 N (by rw [hz2]; omega) (by omega) X
  have hZ0 : Z = bitsV N (fillP l 0) := by
    rw [← hZ]
    unfold bitsV
    congr 1
    apply List.ext_getElem
    · simp
    · intro i h1 h2; simp [fillP]
  have hK0 : Blk (w.alloc (.cells Z 4)) w.heap.size 4 (bitsV N (fillP l 0)) := by rw [← hZ0]; exact Blk.new w _ _
  have hB0 := (Below.refl w.heap.size w).alloc (Nat.le_refl _) (.cells Z 4)
  have HK0 := Lib.hid hK0; have HB0 := Lib.hid hB0; have HH := Lib.hid h; have HLL := Lib.hid hll; have HL := Lib.hid hl
  have hN2 : N ≤ 80032 := by omega
  have hNs : s.size * 8 + 32 = N := by omega
  clear hK0 hB0 hZ hi0 hz0 hz1 hz2 hZ0 h hll hl hN
  have HNS := Lib.hid hNs
  clear hNs
  go_enter Tryz.func79, Tryz.ntmps79
  go_wp2
  go_loopg [4] s.size (fun gf a wr => ∃ i : Nat, a = .int .i64 i ∧ i + gf = s.size ∧ Blk wr w.heap.size 4 (bitsV N (fillP l (8 * i))) ∧ Below w.heap.size w wr)
  case atStart => exact ⟨0, rfl, by omega, HK0.out, HB0.out⟩
  case round =>
  clear HK0 HB0 hmk
  obtain ⟨i, rfl, hi, hK, hB⟩ := hrel
  cases gk with
  | zero =>
    obtain rfl : i = s.size := by omega
    have hK2 : Blk wr w.heap.size 4 (bitsV N (invP l 0)) := by
      rw [← bitsV_congr (p := fillP l (8 * s.size)) (fun j _ => ?_)]; exact hK
      unfold fillP invP
      by_cases hj : j < 8 * s.size
      · rw [if_pos hj, if_neg (by omega)]
      · rw [if_neg hj, if_neg (by omega), bitM_far (by rw [HLL.out]; omega)]
    have HK := Lib.hid hK2; have HB := Lib.hid hB
    clear hK hK2 hB
    go_wp2
    go_loopg [6] 32 (fun gf a wr => ∃ k : Nat, a = .int .i64 k ∧ k + gf = 32 ∧ Blk wr w.heap.size 4 (bitsV N (invP l k)) ∧ Below w.heap.size w wr)
    case atStart => exact ⟨0, rfl, rfl, HK.out, HB.out⟩
    case round =>
    clear HK HB
    obtain ⟨k, rfl, hk, hK, hB⟩ := hrel
    cases gk with
    | zero =>
      obtain rfl : k = 32 := by omega
      have hrow : bitsV N (invP l 32) = ((rowOf l).map Value.bool).toArray := by
        unfold bitsV rowOf invP
        rw [List.map_map, HLL.out, show 8 * s.size + 32 = N by have := HNS.out; omega]
        rfl
      have hrl : (rowOf l).length = N := by unfold rowOf; rw [List.length_map, List.length_range, HLL.out]; have := HNS.out; omega
      rw [hrow] at hK
      have hR : Rs boolC 1 wr (some ⟨w.heap.size, 0, none⟩) (rowOf l) := by
        refine ⟨rcs_length boolC_len _, fun _ => ⟨w.heap.size, 0, rfl, hK.lt, fun j u hu => ?_⟩⟩
        rw [rcs_bool] at hu
        rw [hK.cell, List.getElem?_toArray, Nat.zero_add, hu]
      have hcall := rest_any wr (some ⟨w.heap.size, 0, none⟩) N (rowOf l) hR (by rw [hrl]; have := HNS.out; omega) (by omega)
      rw [hrl] at hcall
      have hlaw := crc_law s
      rw [HL.out] at hlaw
      have hlt : restN (rowOf l) < 4294967296 := by
        have e : restN (rowOf l) = crcN s ^^^ 4294967295 := by rw [← hlaw, Nat.xor_assoc, Nat.xor_self, Nat.xor_zero]
        rw [e]; exact Nat.xor_lt_two_pow (n := 32) (crcN_lt s) (by decide)
      have hx := u32_xor_nat (restN (rowOf l)) 4294967295 hlt (by decide)
      rw [hlaw] at hx
      have HC := Lib.hid hcall; have HB := Lib.hid hB; have HX := Lib.hid hx
      clear hcall hK hR hrow hrl hB hlaw hlt hx
      go_wp2_with fail
      refine HC.out.mono ?_
      rintro e w2 ⟨rfl, hb⟩
      have HB2 := Lib.hid (HB.out.trans (hb.mono HB.out.size))
      clear hb HB HC
      go_wp2
      go_ret
      exact ⟨congrArg (fun z => Ending.returned (.int .u32 z)) HX.out, HB2.out⟩
    | succ gf =>
      have hkI : (k : Int) < 32 := by omega
      have hkN : k < N := by have := HNS.out; omega
      have hkNI : (k : Int) < (N : Int) := by omega
      have ck := hK.cell k; have fk := hK.frozen k
      rw [bitsV_at hkN] at ck
      have hp : invP l k k = bitM l k := by unfold invP; rw [if_neg (by omega)]
      rw [hp] at ck
      have hK2 := hK.set_ k (.bool (!bitM l k))
      rw [bitsV_set (!bitM l k) (invP l (k + 1)) (fun j _ => by
        unfold invP
        by_cases hj : j = k
        · subst hj; rw [if_pos (by omega), if_pos rfl]
        · rw [if_neg hj]
          by_cases hj2 : j < k
          · rw [if_pos (by omega), if_pos hj2]
          · rw [if_neg (by omega), if_neg hj2])] at hK2
      have hB2 := hB.setCell (p := ⟨w.heap.size, k, none⟩) (Nat.le_refl _) (.bool (!bitM l k))
      obtain ⟨u, hu⟩ : ∃ u, bitM l k = u := ⟨_, rfl⟩
      rw [hu] at ck hK2 hB2
      have HK2 := Lib.hid hK2; have HB2 := Lib.hid hB2
      clear hK hK2 hB hB2 hp hu hkN
      go_wp2
      go_roundg gf
      case measure => omega
      case rel => exact ⟨k + 1, by go_num, by omega, HK2.out, HB2.out⟩
  | succ gf =>
    have hiN : i < s.size := by omega
    have hiI : (i : Int) < (s.size : Int) := by omega
    have HK := Lib.hid hK; have HB := Lib.hid hB
    clear hK hB
    go_wp2
    go_loopg [5] 8 (fun gf a wr => ∃ k : Nat, a = .int .i64 k ∧ k + gf = 8 ∧ Blk wr w.heap.size 4 (bitsV N (fillP l (8 * i + k))) ∧ Below w.heap.size w wr)
    case atStart => exact ⟨0, rfl, rfl, HK.out, HB.out⟩
    case round =>
    clear HK HB
    obtain ⟨k, rfl, hk, hK, hB⟩ := hrel
    cases gk with
    | zero =>
      obtain rfl : k = 8 := by omega
      have HK := Lib.hid hK; have HB := Lib.hid hB
      clear hK hB
      go_wp2
      go_roundg gf
      case measure => omega
      case rel => exact ⟨i + 1, by go_num, by omega, HK.out, HB.out⟩
    | succ gf' =>
      have hkI : (k : Int) < 8 := by omega
      have hkN : 8 * i + k < N := by have := HNS.out; omega
      have hkNI : 8 * (i : Int) + (k : Int) < (N : Int) := by omega
      obtain ⟨m, hm⟩ : ∃ m, 8 * i + k = m := ⟨_, rfl⟩
      have hmI : 8 * (i : Int) + (k : Int) = (m : Int) := by omega
      have hil : i < l.length := by rw [HLL.out]; exact hiN
      have hbm := bitM_at hil (show k < 8 by omega)
      rw [hm] at hbm hK hkN
      obtain ⟨ad, rfl, cb⟩ := (HH.out.below hB).cell (k := i) hiN
      have hg : s.get! i = l[i] := by
        have h2 : i < s.data.size := hiN
        simp only [ByteArray.get!, getElem!_pos, h2]
        simp [← HL.out]
      rw [hg] at cb
      have ck := hK.cell m; have fk := hK.frozen m
      rw [bitsV_at hkN] at ck
      obtain ⟨b, hb⟩ : ∃ b : UInt8, l[i] = b := ⟨_, rfl⟩
      rw [hb] at cb hbm
      have hbt := bit_test b.toNat k b.toNat_lt
      have hK2 := hK.set_ m (.bool (b.toNat.testBit k))
      rw [bitsV_set (b.toNat.testBit k) (fillP l (m + 1)) (fun j _ => by
        unfold fillP
        by_cases hj : j = m
        · subst hj; rw [if_pos (by omega), if_pos rfl, hbm]
        · rw [if_neg hj]
          by_cases hj2 : j < m
          · rw [if_pos (by omega), if_pos hj2]
          · rw [if_neg (by omega), if_neg hj2])] at hK2
      have hB2 := hB.setCell (p := ⟨w.heap.size, m, none⟩) (Nat.le_refl _) (.bool (b.toNat.testBit k))
      have hmS : m + 1 = 8 * i + (k + 1) := by omega
      rw [hmS] at hK2
      have HK2 := Lib.hid hK2; have HB2 := Lib.hid hB2
      have hb8 := b.toNat_lt
      clear hK hK2 hB hB2 hbm hm hb hg hil hmS
      go_wp2
      go_roundg gf'
      case measure => omega
      case rel => exact ⟨k + 1, by go_num, by omega, HK2.out, HB2.out⟩
end Go.Proofs.YthmcimpdehgaoaaGreatDoor
namespace Go.Proofs.YthmcimpdehgaoaaGreatDoor
open Go.RowKit Go.Maps

/-- the reference's store at its place -/
def RcSt (w : World) (gs p : Nat) : Prop := Blk w gs 96 #[.pointer (some ⟨p, 0, none⟩)]
theorem RcSt.below {w w1 : World} {p gs : Nat} (h : RcSt w gs p) (hb : Below w.heap.size w w1) : RcSt w1 gs p := Blk.below h hb (Blk.lt h)
theorem RcSt.out [Forb] {w w1 : World} {B p q gs : Nat} {R R1 : RDisk} (h : RcSt w gs p) (o : RkOut B w w1 q R1) (h0 : RkIs w B q R) : RcSt w1 gs p := o.keep_blk h0 h (by decide)
theorem rcmay_any (w : World) (n : Int) : Calls Tryz.prog 111 #[.int .i64 n] w fun e w' => e = .returned (.bool (decide (0 ≤ n ∧ n ≤ 1073741824))) ∧ w = w' := by
  by_cases h0 : 0 ≤ n
  · by_cases h1 : n ≤ 1073741824
    · have hd : decide (0 ≤ n ∧ n ≤ 1073741824) = true := decide_eq_true ⟨h0, h1⟩
      rw [hd]
      go_enter Tryz.func111, Tryz.ntmps111
      go_wp2
      go_ret
      exact ⟨rfl, rfl⟩
    · have hd : decide (0 ≤ n ∧ n ≤ 1073741824) = false := decide_eq_false (fun h => h1 h.2)
      rw [hd]
      go_enter Tryz.func111, Tryz.ntmps111
      go_wp2
      go_ret
      exact ⟨rfl, rfl⟩
  · have hd : decide (0 ≤ n ∧ n ≤ 1073741824) = false := decide_eq_false (fun h => h0 h.1)
    rw [hd]
    go_enter Tryz.func111, Tryz.ntmps111
    go_wp2
    go_ret
    exact ⟨rfl, rfl⟩
theorem rcname_any (w : World) (n : Nat) (hn : n ≤ 4294967296) : Calls Tryz.prog 110 #[.int .i64 n] w fun e w' => e = .returned (.string (nameC n)) ∧ w = w' := by
  have HC := Lib.hid (rdigits_any w n (by omega))
  have hsz := (nameC_size hn).2
  rw [Lib.itoa_nonneg] at HC
  unfold nameC at hsz
  rw [ByteArray.size_append] at hsz
  have h3 : (⟨#[99, 107, 46]⟩ : ByteArray).size = 3 := rfl
  rw [h3] at hsz
  have HN : Hid (nameC n = ⟨#[99, 107, 46]⟩ ++ ⟨(Lib.decDigits n).toArray⟩) := Lib.hid rfl
  obtain ⟨s, hs⟩ : ∃ s : ByteArray, ⟨(Lib.decDigits n).toArray⟩ = s := ⟨_, rfl⟩
  rw [hs] at hsz HC HN
  clear hs h3
  go_enter Tryz.func110, Tryz.ntmps110
  go_wp2_with fail
  refine HC.out.mono ?_
  rintro e w1 ⟨rfl, rfl⟩
  go_wp2
  go_ret
  exact ⟨by rw [HN.out]; rfl, rfl⟩
set_option maxHeartbeats 2000000 in
theorem rcthere_any [Forb] (w : World) (B p gs : Nat) (R : RDisk) (h : RkIs w B p R) (hf : RFit R) (hs : RcSt w gs p) (t : ByteArray) : Calls Tryz.prog 57 #[.pointer (some ⟨gs, 0, none⟩), .string t] w fun e w' => e = .returned (.bool (decide ((R.read t).1 = 0))) ∧ w = w' := by
  have c0 := Blk.cell hs 0
  simp only [List.getElem?_toArray, List.getElem?_cons_zero] at c0
  have HR := Lib.hid (rread_any w B p R h hf t)
  obtain ⟨E, hE⟩ : ∃ E, (R.read t).1 = E := ⟨_, rfl⟩
  rw [hE] at HR ⊢
  clear h hf hs hE
  go_enter Tryz.func57, Tryz.ntmps57
  go_wp2_with fail
  refine HR.out.mono ?_
  rintro e w1 ⟨bv, rfl, hbt, rfl⟩
  obtain ⟨Ab, cb, rfl, -, -⟩ := hbt
  clear HR
  go_wp2
  go_ret
  exact ⟨by show Ending.returned (.bool (E == 0)) = _; rw [show (E == 0) = decide (E = 0) from by cases hd : decide (E = 0) <;> simp_all], rfl⟩
/-- the reference's own bytes in Bytes -/
structure RcS (w x : World) (T : ByteArray) (v : Value) : Prop where
  own : x.ownsRow w.heap.size 5 1 v T.size (ucells T)
  below : Below w.heap.size w x
theorem RcS.below_ {w x y : World} {T : ByteArray} {v : Value} (h : RcS w x T v) (hb : Below x.heap.size x y) : RcS w y T v :=
  ⟨own_below h.own hb, h.below.trans (hb.mono h.below.size)⟩
theorem RcS.put {w x y : World} {T s : ByteArray} {v v' : Value} (h : RcS w x T v) (ho : y.ownsRow w.heap.size 5 1 v' (T.size + s.size) (ucells T ++ ucells s)) (hb : Below w.heap.size x y) : RcS w y (T ++ s) v' :=
  ⟨by rw [ByteArray.size_append, ucells_append]; exact ho, h.below.trans hb⟩
theorem RcS.start (w : World) : RcS w (w.alloc (.cells #[.int .u8 67] 5)) ⟨#[67]⟩ (.slice (some ⟨w.heap.size, 0, none⟩) 1 1) :=
  ⟨⟨rfl, .inr ⟨w.heap.size, 1, _, rfl, Nat.le_refl _, Blk.new w 5 #[.int .u8 67], Nat.le_refl _, by unfold maxLen; omega, rfl, rfl⟩⟩, (Below.refl _ _).alloc (Nat.le_refl _) _⟩
theorem slU {x : World} {b n : Nat} {v : Value} {s : ByteArray} (h : x.ownsRow b 5 1 v n (ucells s)) : ∃ A c, v = .slice A n c ∧ Sl x 1 A n (ucells s) := by
  obtain ⟨A, c, rfl, _⟩ := own_parts h
  exact ⟨A, c, rfl, Sl.of_own h⟩
set_option maxRecDepth 100000 in
set_option maxHeartbeats 16000000 in
theorem rcbytes_any (w : World) (n : Nat) (hn : n ≤ 1073741824) (s : ByteArray) (hs : s.size ≤ 9900) : Calls Tryz.prog 34 #[.int .i64 n, .string s] w fun e w' => ∃ v, e = .returned v ∧ w'.ownsRow w.heap.size 5 1 v (fileC n s).size (ucells (fileC n s)) ∧ Below w.heap.size w w' := by
  obtain ⟨i0, hi0, hz0, hz1, hz2⟩ := parts infoU
  have hz0' : i0.zero = some (.int .u8 0) := hz0
  have HI0 := Lib.hid hi0; have HZ0 := Lib.hid hz0; have HS0 := Lib.hid (RcS.start w)
  have hwn : IntKind.u64.wrap (n : Int) = (n : Int) := by rw [IntKind.wrap_u64]; omega
  have hws : IntKind.u64.wrap (s.size : Int) = (s.size : Int) := by rw [IntKind.wrap_u64]; omega
  have hwc : IntKind.u64.wrap (crcN (headC n s) : Int) = (crcN (headC n s) : Int) := by have := crcN_lt (headC n s); rw [IntKind.wrap_u64]; omega
  have HWC := Lib.hid hwc
  clear hi0 hz0 hz0' hwc
  go_enter Tryz.func34, Tryz.ntmps34
  go_wp2_with fail
  obtain ⟨x0, hX0⟩ : ∃ x0, w.alloc (.cells #[.int .u8 67] 5) = x0 := ⟨_, rfl⟩
  rw [hX0] at HS0 ⊢
  clear hX0
  have HC := Lib.hid (rfDigits_any x0 n 8 (by omega) (by decide))
  refine HC.out.mono ?_
  rintro e y0 ⟨vd, rfl, hod, hbd⟩
  have hs2 := HS0.out.below_ hbd
  obtain ⟨Ad, cd, rfl, hsd⟩ := slU hod
  have HO := Lib.hid hs2.own; have HSD : Hid (Sl y0 1 Ad 8 (ucells (digB 8 n))) := Lib.hid hsd; have HQ2 := Lib.hid hs2; have hsz := hs2.below.size
  clear hs2 hod hbd hsd HC
  go_upto_region 3 with (at_builtin; refine wpList_cat _ rfl (.tmp 7) (.tmp 10) 33 rfl w.heap.size 5 i0 (.int .u8 0) 1 1 Tryz.underlying33 HI0.out HZ0.out hz1 hz2 rfl (by decide) (by decide) _ _ _ rfl HO _ 8 _ (ucells (digB 8 n)) rfl HSD (ucells_one _) (by decide) hsz ?_; intro v1 x1 h2 h3 h4; have HO2 := Lib.hid h2.out; have HB2 := Lib.hid h4.out; clear h2 h3 h4)
  have hs3 : RcS w x1 (⟨#[67]⟩ ++ digB 8 n) v1 := HQ2.out.put (by rw [digB_size]; exact HO2.out) HB2.out
  have t1 : (⟨#[67]⟩ ++ digB 8 n : ByteArray).size = 9 := by rw [ByteArray.size_append, digB_size]; rfl
  obtain ⟨T1, hT1⟩ : ∃ T1, (⟨#[67]⟩ ++ digB 8 n : ByteArray) = T1 := ⟨_, rfl⟩
  rw [hT1] at hs3 t1
  have HS1 := Lib.hid hs3; have HT1 := Lib.hid hT1; have HL1 := Lib.hid t1
  clear hs3 HS0 HQ2 HO HSD HO2 HB2 hsz hT1 t1
  go_wp2_with fail
  have HC := Lib.hid (rfDigits_any x1 s.size 4 (by omega) (by decide))
  refine HC.out.mono ?_
  rintro e y1 ⟨vd, rfl, hod, hbd⟩
  have hs2 := HS1.out.below_ hbd
  obtain ⟨Ad, cd, rfl, hsd⟩ := slU hod
  have HO := Lib.hid hs2.own; have HSD : Hid (Sl y1 1 Ad 4 (ucells (digB 4 s.size))) := Lib.hid hsd; have HQ2 := Lib.hid hs2; have hsz := hs2.below.size
  obtain ⟨Ab, cb, hve, hcb⟩ := own_parts hs2.own
  subst hve
  clear hcb
  clear hs2 hod hbd hsd HC
  go_upto_region 4 with (at_builtin; refine wpList_cat _ rfl (.tmp 12) (.tmp 16) 33 rfl w.heap.size 5 i0 (.int .u8 0) 1 1 Tryz.underlying33 HI0.out HZ0.out hz1 hz2 rfl (by decide) (by decide) _ _ _ rfl HO _ 4 _ (ucells (digB 4 s.size)) rfl HSD (ucells_one _) (by rw [HL1.out]; decide) hsz ?_; intro v2 x2 h2 h3 h4; have HO2 := Lib.hid h2.out; have HB2 := Lib.hid h4.out; clear h2 h3 h4)
  have hs3 : RcS w x2 (T1 ++ digB 4 s.size) v2 := HQ2.out.put (by rw [digB_size]; exact HO2.out) HB2.out
  have t2 : (T1 ++ digB 4 s.size).size = 13 := by rw [ByteArray.size_append, digB_size, HL1.out]
  have hH : (T1 ++ digB 4 s.size) ++ s = headC n s := by rw [← HT1.out]; rfl
  obtain ⟨T2, hT2⟩ : ∃ T2, T1 ++ digB 4 s.size = T2 := ⟨_, rfl⟩
  rw [hT2] at hs3 t2 hH
  have HS2 := Lib.hid hs3; have HL2 := Lib.hid t2; have HH := Lib.hid hH
  clear hs3 HS1 HQ2 HO HSD HO2 HB2 hsz hT2 t2 hH HT1 HL1
  obtain ⟨A2, c2, hve, hcb⟩ := own_parts HS2.out.own
  subst hve
  have HO := Lib.hid HS2.out.own; have hsz := HS2.out.below.size
  clear hcb
  go_upto_region 5 with (at_builtin; refine Lib.wpList_append_own_string _ rfl (.tmp 18) (.tmp 19) 33 9 rfl w.heap.size 5 i0 Tryz.underlying33 Tryz.underlying9 HI0.out HZ0.out hz1 hz2 _ _ _ rfl HO.out s rfl (by rw [HL2.out]; unfold maxLen; omega) (by rw [HL2.out]; omega) hsz ?_; intro v3 x3 h2 h3 h4; have HO2 := Lib.hid h2; have HB2 := Lib.hid ((Below.refl w.heap.size x2).grown h3 hsz fun k hk => (HO.out.lt k hk).1); clear h2 h3 h4)
  have hs3 : RcS w x3 (T2 ++ s) v3 := HS2.out.put HO2.out HB2.out
  rw [HH.out] at hs3
  have HS3 := Lib.hid hs3
  clear hs3 HS2 HO HO2 HB2 hsz HL2 HH
  obtain ⟨A3, c3, hve, hcb⟩ := own_parts HS3.out.own
  subst hve
  have hhs := headC_size n s
  have HSm := Lib.hid (rfSum_any x3 _ (headC n s) (Bt.of_own HS3.out.own).btr (by omega))
  have HHS := Lib.hid hhs
  clear hcb hhs
  have hcI := HWC.out
  obtain ⟨cr, hcr⟩ : ∃ cr, crcN (headC n s) = cr := ⟨_, rfl⟩
  have hcl : cr < 4294967296 := by rw [← hcr]; exact crcN_lt _
  rw [hcr] at HSm hcI
  have HCR := Lib.hid hcr
  clear hcr HWC
  go_wp2_with fail
  refine HSm.out.mono ?_
  rintro e x4 ⟨rfl, hb4⟩
  have HS4 := Lib.hid (HS3.out.below_ hb4)
  clear hb4 HSm HS3
  go_wp2_with fail
  have HC := Lib.hid (rfDigits_any x4 cr 4 (by omega) (by decide))
  refine HC.out.mono ?_
  rintro e y4 ⟨vd, rfl, hod, hbd⟩
  have hs2 := HS4.out.below_ hbd
  obtain ⟨Ad, cd, rfl, hsd⟩ := slU hod
  have HO := Lib.hid hs2.own; have HSD : Hid (Sl y4 1 Ad 4 (ucells (digB 4 cr))) := Lib.hid hsd; have HQ2 := Lib.hid hs2; have hsz := hs2.below.size
  clear hs2 hod hbd hsd HC
  go_wp2_with (at_builtin; refine wpList_cat _ rfl (.tmp 21) (.tmp 25) 33 rfl w.heap.size 5 i0 (.int .u8 0) 1 1 Tryz.underlying33 HI0.out HZ0.out hz1 hz2 rfl (by decide) (by decide) _ _ _ rfl HO _ 4 _ (ucells (digB 4 cr)) rfl HSD (ucells_one _) (by rw [HHS.out]; omega) hsz ?_; intro v5 x5 h2 h3 h4; have HO2 := Lib.hid h2.out; have HB2 := Lib.hid h4.out; clear h2 h3 h4)
  have hs3 : RcS w x5 (headC n s ++ digB 4 cr) v5 := HQ2.out.put (by rw [digB_size]; exact HO2.out) HB2.out
  rw [← HCR.out] at hs3
  have HB := Lib.hid (show x5.ownsRow w.heap.size 5 1 v5 (fileC n s).size (ucells (fileC n s)) from hs3.own); have HBL := Lib.hid hs3.below
  clear hs3 HS4 HQ2 HO HSD HO2 HB2 hsz
  go_ret
  exact ⟨v5, rfl, HB.out, HBL.out⟩
end Go.Proofs.YthmcimpdehgaoaaGreatDoor
