/- crc.Sum: the check of bytes, four bits at a time. crc.Sum: its table, and its loop. fields.Reader: its bytes, its place, whether it has fallen; Left, next. The reference's numbers and their bytes: Digits, Number. -/
import Derived.Test.YthmcimpdehgaoaaGreatDoorPk8
import Derived.Test.YthmcimpdehgaoaaGreatDoorDk1
import Derived.Test.YthmcimpdehgaoaaGreatDoorPk6
import Derived.Laws.BitsAllLaws
import Derived.Laws.Tables
import Derived.Test.YthmcimpdehgaoaaGreatDoorDk4
import Derived.Test.YthmcimpdehgaoaaGreatDoorPk7
import Derived.Test.YthmcimpdehgaoaaGreatDoorPk9
namespace Go.Proofs.YthmcimpdehgaoaaGreatDoor
open Go.RowKit

set_option maxRecDepth 100000 in
set_option maxHeartbeats 2000000 in
theorem up_any (r : Nat) (hr : r < 4294967296) (w : World) : Calls Tryz.prog 129 #[.int .u32 r] w fun e w' => e = .returned (.int .u32 (upN r)) ∧ w' = w := by
  have ha : bits .and .u32 (r : Int) 1 = ((r % 2 : Nat) : Int) := by
    have := u32_and_nat r 1 hr (by decide)
    rw [nat_mask1] at this
    exact this
  by_cases h : r % 2 = 1
  · have hd : (bits .and .u32 (r : Int) 1 == 1) = true := by rw [ha, h]; rfl
    have hx : bits .xor .u32 ((r : Int) / 2) 2197175160 = (upN r : Int) := by
      have := u32_xor_nat (r / 2) 2197175160 (by omega) (by decide)
      rw [upN, if_pos h, ← this, show ((r / 2 : Nat) : Int) = (r : Int) / 2 by omega]
      rfl
    clear ha
    go_enter Tryz.func129, Tryz.ntmps129
    go_wp2
    go_ret
    exact ⟨rfl, rfl⟩
  · have hd : (bits .and .u32 (r : Int) 1 == 1) = false := by rw [ha, show r % 2 = 0 by omega]; rfl
    have hx : (r : Int) / 2 = (upN r : Int) := by rw [upN, if_neg h]; omega
    clear ha
    go_enter Tryz.func129, Tryz.ntmps129
    go_wp2
    go_ret
    exact ⟨rfl, rfl⟩
set_option maxRecDepth 100000 in
set_option maxHeartbeats 2000000 in
theorem leave_any (r : Nat) (hr : r < 4294967296) (w : World) : Calls Tryz.prog 128 #[.int .u32 r] w fun e w' => e = .returned (.int .u32 (up4 r)) ∧ w' = w := by
  go_enter Tryz.func128, Tryz.ntmps128
  go_wp2
  go_loopg [0, 3] 4 (fun gf a b wr => ∃ k : Nat, a = .int .u32 (upK k r) ∧ b = .int .i64 k ∧ k + gf = 4 ∧ wr = w)
  case atStart => exact ⟨0, rfl, rfl, rfl, rfl⟩
  case round =>
    obtain ⟨k, rfl, rfl, hk, rfl⟩ := hrel
    cases gk with
    | zero =>
      obtain rfl : k = 4 := by omega
      go_wp2
      go_ret
      exact ⟨rfl, rfl⟩
    | succ gf =>
      have hkI : (k : Int) < 4 := by omega
      have HU := Lib.hid (up_any (upK k r) (upK_lt hr k) wr)
      go_wp2_with fail
      refine HU.out.mono ?_
      rintro e w' ⟨rfl, rfl⟩
      clear HU
      go_wp2
      go_roundg gf
      case measure => omega
      case rel => exact ⟨k + 1, rfl, by go_num, by omega, rfl⟩
end Go.Proofs.YthmcimpdehgaoaaGreatDoor
namespace Go.Proofs.YthmcimpdehgaoaaGreatDoor
open Go.RowKit

/-- the table, of which the first k are there -/
def tabC (k : Nat) : Array Value := ((List.range 16).map fun i => if i < k then Value.int .u32 (up4 i) else Value.int .u32 0).toArray
theorem tabC_set (k : Nat) : (tabC k).setIfInBounds k (.int .u32 (up4 k)) = tabC (k + 1) := by
  apply Array.ext
  · simp [tabC]
  · intro i h1 h2
    rw [Array.getElem_setIfInBounds (by simpa [tabC] using h2)]
    simp only [tabC, List.getElem_toArray, List.getElem_map, List.getElem_range]
    by_cases hki : k = i
    · subst hki; rw [if_pos rfl, if_pos (by omega)]
    · rw [if_neg hki]
      by_cases hi : i < k
      · rw [if_pos hi, if_pos (by omega)]
      · rw [if_neg hi, if_neg (by omega)]
theorem tabC_size (k : Nat) : (tabC k).size = 16 := by simp [tabC]
theorem tabC_at {k i : Nat} (hi : i < 16) : ∃ v : Int, (tabC k)[i]? = some (.int .u32 v) := by
  refine ⟨if i < k then (up4 i : Int) else 0, ?_⟩
  rw [Array.getElem?_eq_getElem (by rw [tabC_size]; exact hi)]
  simp only [tabC, List.getElem_toArray, List.getElem_map, List.getElem_range]
  split <;> rfl
theorem tabC_all {i : Nat} (hi : i < 16) : (tabC 16)[i]? = some (.int .u32 (up4 i)) := by
  rw [Array.getElem?_eq_getElem (by rw [tabC_size]; exact hi)]
  simp only [tabC, List.getElem_toArray, List.getElem_map, List.getElem_range, if_pos hi]
theorem tabC_one (k : Nat) : (tabC k).all (·.oneCell') = true := by
  rw [Array.all_eq_true_iff_forall_mem]
  intro x hx
  simp only [tabC, List.mem_toArray, List.mem_map] at hx
  obtain ⟨i, _, rfl⟩ := hx
  split <;> rfl
theorem tabInfo : (Tryz.prog.info? 138).map (·.size) = some 16 := by kernel_rfl
theorem Blk.setRow {w : World} {g : Nat} {t : TypeId} {cs : Array Value} (h : Blk w g t cs) (cs' : Array Value) : Blk (w.setRow g cs') g t cs' := setRow_heap w g cs cs' t _ h
theorem below_row {B g : Nat} {w0 w : World} (hb : Below B w0 w) (hBg : B ≤ g) (cs : Array Value) : Below B w0 (w.setRow g cs) :=
  hb.trans ⟨rfl, rfl, rfl, by simp [World.setRow], fun k hk => setRow_other w g k cs (by omega)⟩
set_option maxRecDepth 100000 in
set_option maxHeartbeats 4000000 in
theorem halves_any (w : World) : Calls Tryz.prog 96 #[] w fun e w' => e = .returned (.agg (tabC 16)) ∧ Below w.heap.size w w' := by
  have hT0 : tabC 0 = #[.int .u32 0, .int .u32 0, .int .u32 0, .int .u32 0, .int .u32 0, .int .u32 0, .int .u32 0, .int .u32 0, .int .u32 0, .int .u32 0, .int .u32 0, .int .u32 0, .int .u32 0, .int .u32 0, .int .u32 0, .int .u32 0] := rfl
  have hB : Below w.heap.size w (w.alloc (.cells (tabC 0) 138)) := (Below.refl _ _).alloc (Nat.le_refl _) _
  have hK : Blk (w.alloc (.cells (tabC 0) 138)) w.heap.size 138 (tabC 0) := Blk.new w _ _
  rw [hT0] at hB
  have HB := Lib.hid hB; have HK := Lib.hid hK
  clear hB hK
  go_enter Tryz.func96, Tryz.ntmps96
  go_wp2
  go_loopg [3] 16 (fun gf a wr => ∃ k : Nat, a = .int .i64 k ∧ k + gf = 16 ∧ Blk wr w.heap.size 138 (tabC k) ∧ Below w.heap.size w wr)
  case atStart => exact ⟨0, rfl, rfl, HK.out, HB.out⟩
  case round =>
    clear HB HK hT0
    obtain ⟨k, rfl, hk, hK, hB⟩ := hrel
    cases gk with
    | zero =>
      obtain rfl : k = 16 := by omega
      have hK2 := hK.setRow (tabC 16)
      have HB2 := Lib.hid (below_row hB (Nat.le_refl _) (tabC 16)); have HK := Lib.hid hK; have HK2 := Lib.hid hK2
      clear hK hB hK2
      go_wp2_with (first | (refine wpList_load_row rfl 138 (.tmp 0) rfl w.heap.size rfl 138 (tabC 16) (0, 0) _ HK.out Tryz.underlying138 rfl (by rw [tabC_size]; exact tabInfo) ?_) | (refine wpList_store_row rfl 138 (.tmp 0) (.tmp 13) rfl w.heap.size (tabC 16) rfl rfl 138 (tabC 16) HK.out (by rw [tabC_size]; exact tabInfo) rfl (tabC_one 16) ?_))
      refine bodyPost_ret (v := .agg (tabC 16)) (results_cell_row (Tryz.results96) _ _ w.heap.size 138 (tabC 16) (0, 0) _ rfl HK2.out Tryz.underlying138 rfl (by rw [tabC_size]; exact tabInfo)) rfl ?_
      exact ⟨rfl, HB2.out⟩
    | succ gf =>
      have hkI : (k : Int) < 16 := by omega
      have hkN : k < 16 := by omega
      obtain ⟨u, hu⟩ := tabC_at (k := k) hkN
      have ck := hK.cell k; have fk := hK.frozen k
      rw [hu] at ck
      have hK2 := hK.set_ k (.int .u32 (up4 k))
      rw [tabC_set k] at hK2
      have HB2 := Lib.hid (hB.setCell (p := ⟨w.heap.size, k, none⟩) (Nat.le_refl _) (.int .u32 (up4 k))); have HK2 := Lib.hid hK2
      have HU := Lib.hid (leave_any k (by omega) wr)
      clear hK hB hK2 hu
      go_wp2_with fail
      refine HU.out.mono ?_
      rintro e w' ⟨rfl, rfl⟩
      clear HU
      go_wp2
      go_roundg gf
      case measure => omega
      case rel => exact ⟨k + 1, by go_num, by omega, HK2.out, HB2.out⟩
theorem nib_and {r : Nat} (h : r < 4294967296) : bits .and .u32 (r : Int) 15 = ((r % 16 : Nat) : Int) := by
  have := u32_and_nat r 15 h (by decide)
  rw [nat_mask4] at this
  exact this
theorem nib_xor {r : Nat} (h : r < 4294967296) : bits .xor .u32 ((r / 16 : Nat) : Int) (up4 (r % 16) : Int) = (nib r : Int) := u32_xor_nat (r / 16) (up4 (r % 16)) (by omega) (up4_lt (by omega))
set_option maxRecDepth 100000 in
set_option maxHeartbeats 4000000 in
theorem sum_any (w : World) (v : Value) (s : ByteArray) (h : Bt w v s) (hs : s.size ≤ 1000000000) :
    Calls Tryz.prog 55 #[v] w fun e w' => e = .returned (.int .u32 (crcN s)) ∧ Below w.heap.size w w' := by
  obtain ⟨A, c, rfl, hsc, hrd⟩ := id h
  have HB0 := Lib.hid h
  clear h
  go_enter Tryz.func55, Tryz.ntmps55
  go_wp2_with fail
  refine (halves_any w).mono ?_
  rintro e w1 ⟨rfl, hb1⟩
  have hT0 : tabC 0 = #[.int .u32 0, .int .u32 0, .int .u32 0, .int .u32 0, .int .u32 0, .int .u32 0, .int .u32 0, .int .u32 0, .int .u32 0, .int .u32 0, .int .u32 0, .int .u32 0, .int .u32 0, .int .u32 0, .int .u32 0, .int .u32 0] := rfl
  have hK0 := Blk.new w1 138 (tabC 0)
  have hK1 := hK0.setRow (tabC 16)
  have hB1 := below_row (hb1.alloc hb1.size (.cells (tabC 0) 138)) hb1.size (tabC 16)
  rw [hT0] at hK0 hK1 hB1
  have HK0 := Lib.hid hK0; have HK1 := Lib.hid hK1; have HB1 := Lib.hid hB1
  clear hK0 hK1 hB1 hb1 hT0
  go_wp2_with (first | (refine wpList_store_row rfl 138 (.tmp 3) (.tmp 7) rfl w1.heap.size (tabC 16) rfl rfl 138 _ HK0.out (by rw [tabC_size]; exact tabInfo) rfl (tabC_one 16) ?_))
  clear HK0
  generalize (w1.alloc (Obj.cells _ 138)).setRow w1.heap.size (tabC 16) = w2 at HK1 HB1 ⊢
  go_loopg [4, 10] s.size (fun gf a b wr => ∃ i : Nat, a = .int .u32 (crcF (s.data.toList.take i)) ∧ b = .int .i64 i ∧ i + gf = s.size ∧ wr = w2)
  case atStart => exact ⟨0, by simp [crcF], rfl, by omega, rfl⟩
  case round =>
    obtain ⟨i, rfl, rfl, hi, rfl⟩ := hrel
    have hlen : s.data.toList.length = s.size := rfl
    cases gk with
    | zero =>
      obtain rfl : i = s.size := by omega
      have hall : s.data.toList.take s.size = s.data.toList := List.take_of_length_le (by omega)
      have hx : bits .xor .u32 IntKind.u32.max (crcF s.data.toList : Int) = (crcN s : Int) := by rw [crcN, Nat.xor_comm]; exact u32_xor_nat 4294967295 (crcF s.data.toList) (by decide) (crcF_lt _)
      rw [hall]
      clear hall hlen
      go_wp2
      go_ret
      exact ⟨rfl, HB1.out⟩
    | succ gf =>
      have hiI : (i : Int) < (s.size : Int) := by omega
      have hiN : i < s.size := by omega
      have hil : i < s.data.toList.length := by omega
      obtain ⟨blk, off, cs, fz, rfl, hh, hx⟩ := hrd (by omega)
      have hbl : blk < w.heap.size := (Array.getElem?_eq_some_iff.1 hh).1
      have hhw := (HB1.out.block blk hbl).trans hh
      have cb := cell_of_row wr blk (off + i) cs 5 fz hhw
      rw [hx i hiN] at cb
      have hgt : s.get! i = s.data.toList[i] := by
        have h2 : i < s.data.size := hiN
        simp only [ByteArray.get!, getElem!_pos, h2]
        simp
      have hsn : s.data.toList.take (i + 1) = s.data.toList.take i ++ [s.data.toList[i]] := (List.take_succ_eq_append_getElem hil)
      rw [hgt] at cb
      have hr := crcF_lt (s.data.toList.take i)
      have hnx := crcF_snoc (s.data.toList.take i) s.data.toList[i]
      rw [← hsn] at hnx
      obtain ⟨r, hrr⟩ : ∃ r, crcF (s.data.toList.take i) = r := ⟨_, rfl⟩
      obtain ⟨b, hbb⟩ : ∃ b : UInt8, s.data.toList[i] = b := ⟨_, rfl⟩
      rw [hrr] at hr hnx ⊢
      rw [hbb] at cb hnx
      have hb8 := b.toNat_lt
      have x1 : bits .xor .u32 (r : Int) (b.toNat : Int) = ((r ^^^ b.toNat : Nat) : Int) := u32_xor_nat r b.toNat hr (by omega)
      have hR1 : r ^^^ b.toNat < 4294967296 := Nat.xor_lt_two_pow (n := 32) hr (by omega)
      obtain ⟨R1, hR⟩ : ∃ R1, r ^^^ b.toNat = R1 := ⟨_, rfl⟩
      rw [hR] at x1 hR1 hnx
      have a1 := nib_and hR1; have y1 := nib_xor hR1; have hR2 := nib_lt hR1
      obtain ⟨R2, hR'⟩ : ∃ R2, nib R1 = R2 := ⟨_, rfl⟩
      rw [hR'] at y1 hR2 hnx
      have a2 := nib_and hR2; have y2 := nib_xor hR2
      have t1 := HK1.out.cell (R1 % 16); have t2 := HK1.out.cell (R2 % 16)
      rw [tabC_all (by omega)] at t1 t2
      obtain ⟨q1, hq1⟩ : ∃ q, R1 % 16 = q := ⟨_, rfl⟩
      obtain ⟨q2, hq2⟩ : ∃ q, R2 % 16 = q := ⟨_, rfl⟩
      have hl1 : q1 < 16 := by omega
      have hl2 : q2 < 16 := by omega
      have hl1I : (q1 : Int) < 16 := by omega
      have hl2I : (q2 : Int) < 16 := by omega
      rw [hq1] at a1 y1 t1
      rw [hq2] at a2 y2 t2
      rw [show ((R1 / 16 : Nat) : Int) = (R1 : Int) / 16 by omega] at y1
      rw [show ((R2 / 16 : Nat) : Int) = (R2 : Int) / 16 by omega] at y2
      have HNX := Lib.hid hnx
      clear hnx hrr hbb hR hR' hq1 hq2 hsn hgt hhw hh hx hrd
      go_wp2
      go_roundg gf
      case measure => omega
      case rel => exact ⟨i + 1, by rw [HNX.out], by go_num, by omega, rfl⟩
end Go.Proofs.YthmcimpdehgaoaaGreatDoor
namespace Go.Proofs.YthmcimpdehgaoaaGreatDoor
open Go.RowKit

/-- a reader: its bytes, its place, whether it has fallen -/
structure RdD where
  b : ByteArray
  at_ : Nat
  bad : Bool
def RdIs (w : World) (g : Nat) (r : RdD) : Prop := r.at_ ≤ r.b.size ∧ r.b.size ≤ 1000000000 ∧ ∃ v, Blk w g 134 #[v, .int .i64 r.at_, .bool r.bad] ∧ Bt w v r.b
def RdD.falls (r : RdD) (n : Int) : Bool := r.bad || decide (n < 0) || decide ((r.b.size : Int) - (r.at_ : Int) < n)
def RdD.next (r : RdD) (n : Int) : ByteArray × RdD := if r.falls n = true then (ByteArray.empty, ⟨r.b, r.b.size, true⟩) else (r.b.extract r.at_ (r.at_ + n.toNat), ⟨r.b, r.at_ + n.toNat, r.bad⟩)
theorem RdIs.keep {w w' : World} {g : Nat} {r : RdD} (h : RdIs w g r) (hg : w'.heap[g]? = w.heap[g]?) (hu : ∀ (k : Nat) cs fz, w.heap[k]? = some (.cells cs 5 fz) → w'.heap[k]? = w.heap[k]?) : RdIs w' g r := by
  obtain ⟨h1, h2, v, hk, hb⟩ := h
  exact ⟨h1, h2, v, hg.trans hk, hb.keep hu⟩
theorem RdIs.lt {w : World} {g : Nat} {r : RdD} (h : RdIs w g r) : g < w.heap.size := by obtain ⟨_, _, v, hk, _⟩ := h; exact hk.lt
theorem RdIs.below {w w' : World} {g : Nat} {r : RdD} (h : RdIs w g r) (hb : Below w.heap.size w w') : RdIs w' g r :=
  h.keep (hb.block g h.lt) fun k _ _ hk => hb.block k (Array.getElem?_eq_some_iff.1 hk).1
theorem RdIs.drewN {w : World} {g : Nat} {r : RdD} (h : RdIs w g r) (n : Nat) : RdIs (w.drewN n) g r := h
theorem moved_drewN {w w' : World} {p : Nat} {g : Option Nat} (h : Moved w w' p g) (n : Nat) : Moved w (w'.drewN n) p g := ⟨h.os, h.tape, h.output, h.size, h.block⟩
theorem ext_empty (b : ByteArray) (i : Nat) : b.extract i i = ByteArray.empty := by
  apply ByteArray.ext
  simp
theorem ext_get (b : ByteArray) (i j k : Nat) (hj : j ≤ b.size) (hk : k < j - i) : (b.extract i j).get! k = b.get! (i + k) := by
  have h1 : k < (b.extract i j).data.size := by simp; have : b.data.size = b.size := rfl; omega
  have h2 : i + k < b.data.size := by have : b.data.size = b.size := rfl; omega
  simp only [ByteArray.get!, getElem!_pos, h1, h2]
  simp [ByteArray.data_extract]
theorem run_fromto {P : Program} {t e : TypeId} {ti : TypeInfo} (ht : P.underlying t = some (.slice e)) (hi : P.info? e = some ti) (h1 : ti.size = 1) (A : Option Addr) (n c i j : Nat) (hij : i ≤ j) (hj : j ≤ c) (w : World) :
    (Instr.sliceAt t (.slice A n c) (some (.int .i64 (i : Int))) (some (.int .i64 (j : Int))) none).run P w = .ok (.slice (if c = i then A else A.map (·.add i)) (j - i) (c - i)) w := by
  have he : P.elem t = e := by unfold Program.elem; rw [ht]
  rw [run_sliceAt_slice w _ _ _ _ _ (by rw [he]; exact ht), run_slice_lh w t A n c (by rw [he]; exact ht) .i64 .i64 i j (by omega) (by omega) (by omega)]
  simp [he, sizeOf, typeInfo, hi, sliced, h1, Result.andThen]
/-- a piece of bytes -/
theorem Bt.piece {w : World} {A : Option Addr} {c : Nat} {s : ByteArray} (h : Bt w (.slice A s.size c) s) (i j : Nat) (hij : i ≤ j) (hj : j ≤ s.size) :
    ∃ v, (∀ W : World, (Instr.sliceAt 33 (.slice A s.size c) (some (.int .i64 (i : Int))) (some (.int .i64 (j : Int))) none).run Tryz.prog W = .ok v W) ∧ Bt w v (s.extract i j) := by
  obtain ⟨A2, c2, he, hc, hr⟩ := h
  simp only [Value.slice.injEq] at he
  obtain ⟨rfl, -, rfl⟩ := he
  obtain ⟨i0, hi0, hz0, hz1, hz2⟩ := parts infoU
  have hsz : (s.extract i j).size = j - i := by rw [ByteArray.size_extract]; omega
  have hrun : ∀ W : World, (Instr.sliceAt 33 (.slice A s.size c) (some (.int .i64 (i : Int))) (some (.int .i64 (j : Int))) none).run Tryz.prog W = .ok (.slice (if c = i then A else A.map (·.add i)) (j - i) (c - i)) W := run_fromto Tryz.underlying33 hi0 hz1 A s.size c i j hij (by omega)
  refine ⟨_, hrun, ?_⟩
  refine ⟨if c = i then A else A.map (·.add i), c - i, by rw [hsz], by rw [hsz]; omega, fun h0 => ?_⟩
  rw [hsz] at h0
  rw [if_neg (by omega)]
  obtain ⟨blk, off, cs, fz, rfl, hh, hx⟩ := hr (by omega)
  refine ⟨blk, off + i, cs, fz, ?_, hh, fun k hk => ?_⟩
  · exact congrArg some (addr_add blk off i)
  · rw [hsz] at hk
    rw [ext_get s i j k hj (by omega), Nat.add_assoc]
    exact hx (i + k) (by omega)
set_option maxHeartbeats 1000000 in
theorem left_any (w : World) (g : Nat) (r : RdD) (h : RdIs w g r) : Calls Tryz.prog 54 #[.pointer (some ⟨g, 0, none⟩)] w fun e w' => e = .returned (.int .i64 ((r.b.size : Int) - (r.at_ : Int))) ∧ ∃ n, w' = w.drewN n := by
  obtain ⟨h1, h2, v, hk, hb⟩ := h
  obtain ⟨A, c, rfl, -, -⟩ := hb
  have c0 := hk.cell 0; have c1 := hk.cell 1
  simp only [List.getElem?_toArray, List.getElem?_cons_zero, List.getElem?_cons_succ] at c0 c1
  clear hk
  go_enter Tryz.func54, Tryz.ntmps54
  go_wp2
  go_quiet (fail)
  go_wp2
  go_ret
  exact ⟨rfl, _, rfl⟩
set_option maxRecDepth 100000 in
set_option maxHeartbeats 4000000 in
theorem next_any (w : World) (g : Nat) (r : RdD) (n : Int) (h : RdIs w g r) (hn : n ≤ 4611686018427387904) :
    Calls Tryz.prog 95 #[.pointer (some ⟨g, 0, none⟩), .int .i64 n] w fun e w' => ∃ v, e = .returned v ∧ Bt w' v (r.next n).1 ∧ RdIs w' g (r.next n).2 ∧ Moved w w' g none := by
  have HL := Lib.hid (left_any w g r h)
  obtain ⟨h1, h2, v, hk, hb⟩ := id h
  obtain ⟨A, c, rfl, hc, hr⟩ := id hb
  have c0 := hk.cell 0; have c1 := hk.cell 1; have c2 := hk.cell 2; have f1 := hk.frozen 1; have f2 := hk.frozen 2
  simp only [List.getElem?_toArray, List.getElem?_cons_zero, List.getElem?_cons_succ] at c0 c1 c2
  have h1I : (r.at_ : Int) ≤ (r.b.size : Int) := by omega
  have h2I : (r.b.size : Int) ≤ 1000000000 := by omega
  have hfall : ∀ X : World, X.heap = w.heap → X.os = w.os → X.tape = w.tape → X.output = w.output → RdIs ((X.setCell ⟨g, 2, none⟩ (.bool true)).setCell ⟨g, 1, none⟩ (.int .i64 (r.b.size : Int))) g ⟨r.b, r.b.size, true⟩ ∧ Moved w ((X.setCell ⟨g, 2, none⟩ (.bool true)).setCell ⟨g, 1, none⟩ (.int .i64 (r.b.size : Int))) g none := fun X e1 e2 e3 e4 => by
    have hkX : Blk X g 134 #[.slice A r.b.size c, .int .i64 r.at_, .bool r.bad] := by unfold Blk; rw [e1]; exact hk
    have hm0 : Moved w X g none := ⟨e2, e3, e4, by rw [e1]; exact Nat.le_refl _, fun k _ _ _ => by rw [e1]⟩
    have hm := (hm0.trans (Moved.set_ X g 2 none (.bool true)) (.inl rfl)).trans (Moved.set_ _ g 1 none (.int .i64 (r.b.size : Int))) (.inl rfl)
    refine ⟨⟨Nat.le_refl _, h2, _, (hkX.set_ 2 (.bool true)).set_ 1 (.int .i64 (r.b.size : Int)), ?_⟩, hm⟩
    exact hb.keep fun blk cs fz hh => hm.block blk (Array.getElem?_eq_some_iff.1 hh).1 (fun e => by subst e; exact blk_type hk hh (by decide)) (by simp)
  have HF := Lib.hid hfall
  by_cases hf : r.falls n = true
  · rw [RdD.next, if_pos hf]
    clear hfall hr hb h
    cases hbad : r.bad with
    | true =>
      rw [hbad] at c2
      clear hf hbad
      go_enter Tryz.func95, Tryz.ntmps95
      go_wp2
      go_ret
      exact ⟨_, rfl, bt_nil _, (HF.out w rfl rfl rfl rfl).1, (HF.out w rfl rfl rfl rfl).2⟩
    | false =>
      rw [hbad] at c2
      by_cases hn0 : n < 0
      · clear hf hbad
        go_enter Tryz.func95, Tryz.ntmps95
        go_wp2
        go_ret
        exact ⟨_, rfl, bt_nil _, (HF.out w rfl rfl rfl rfl).1, (HF.out w rfl rfl rfl rfl).2⟩
      · have hgt : (r.b.size : Int) - (r.at_ : Int) < n := by
          unfold RdD.falls at hf
          simp [hbad] at hf
          omega
        have hn1 : 0 ≤ n := by omega
        clear hf hbad hn0
        go_enter Tryz.func95, Tryz.ntmps95
        go_wp2_with fail
        refine HL.out.mono ?_
        rintro e w1 ⟨rfl, q, rfl⟩
        go_wp2
        go_ret
        exact ⟨_, rfl, bt_nil _, (HF.out (w.drewN q) rfl rfl rfl rfl).1, (HF.out (w.drewN q) rfl rfl rfl rfl).2⟩
  · have hbad : r.bad = false := by
      cases hx : r.bad with
      | false => rfl
      | true => exact absurd (by unfold RdD.falls; rw [hx]; rfl) hf
    have hle : 0 ≤ n ∧ n ≤ (r.b.size : Int) - (r.at_ : Int) := by
      unfold RdD.falls at hf
      simp [hbad] at hf
      omega
    rw [RdD.next, if_neg hf]
    obtain ⟨m, rfl⟩ : ∃ m : Nat, n = m := ⟨n.toNat, by omega⟩
    rw [hbad] at c2
    have hmI := hle.2
    have hmN : r.at_ + m ≤ r.b.size := by omega
    obtain ⟨v, hrun, hbv⟩ := hb.piece r.at_ (r.at_ + m) (by omega) hmN
    have hgo : ∀ q, Bt (((w.drewN q).setCell ⟨g, 1, none⟩ (.int .i64 ((r.at_ : Int) + (m : Int)))).drew) v (r.b.extract r.at_ (r.at_ + m)) ∧ RdIs (((w.drewN q).setCell ⟨g, 1, none⟩ (.int .i64 ((r.at_ : Int) + (m : Int)))).drew) g ⟨r.b, r.at_ + m, r.bad⟩ ∧ Moved w (((w.drewN q).setCell ⟨g, 1, none⟩ (.int .i64 ((r.at_ : Int) + (m : Int)))).drew) g none := fun q => by
      have hm : Moved w ((w.drewN q).setCell ⟨g, 1, none⟩ (.int .i64 ((r.at_ : Int) + (m : Int)))) g none := Moved.trans (⟨rfl, rfl, rfl, Nat.le_refl _, fun _ _ _ _ => rfl⟩ : Moved w (w.drewN q) g none) (Moved.set_ (w.drewN q) g 1 none _) (.inl rfl)
      have hu : ∀ (blk : Nat) cs fz, w.heap[blk]? = some (Obj.cells cs 5 fz) → ((w.drewN q).setCell ⟨g, 1, none⟩ (.int .i64 ((r.at_ : Int) + (m : Int)))).drew.heap[blk]? = w.heap[blk]? := fun blk cs fz hh => hm.block blk (Array.getElem?_eq_some_iff.1 hh).1 (fun e => by subst e; exact blk_type hk hh (by decide)) (by simp)
      refine ⟨hbv.keep hu, ⟨hmN, h2, _, ?_, hb.keep hu⟩, ⟨hm.os, hm.tape, hm.output, hm.size, hm.block⟩⟩
      have := (hk.drewN q).set_ 1 (.int .i64 ((r.at_ : Int) + (m : Int)))
      rw [Int.natCast_add]
      exact this
    have HG := Lib.hid hgo
    have hm0 : (0 : Int) ≤ (m : Int) := by omega
    have hrunI : ∀ W : World, (Instr.sliceAt 33 (.slice A r.b.size c) (some (.int .i64 (r.at_ : Int))) (some (.int .i64 ((r.at_ : Int) + (m : Int)))) none).run Tryz.prog W = .ok v W := fun W => by
      have := hrun W
      rwa [Int.natCast_add] at this
    clear hf hbad hfall hr hb h hk hgo hrun hbv hle HF
    go_enter Tryz.func95, Tryz.ntmps95
    go_wp2_with fail
    refine HL.out.mono ?_
    rintro e w1 ⟨rfl, q, rfl⟩
    go_wp2
    go_region
    go_wp2
    go_ret
    exact ⟨_, rfl, HG.out q⟩
end Go.Proofs.YthmcimpdehgaoaaGreatDoor
namespace Go.Proofs.YthmcimpdehgaoaaGreatDoor
open Go.RowKit

theorem digL_cons (j n : Nat) : (digB (j + 1) n).data.toList = UInt8.ofNat (n / 256 ^ j % 256) :: (digB j n).data.toList := by
  unfold digB
  simp only [List.range_succ_eq_map, List.map_cons, List.map_map]
  congr 1
  refine List.map_congr_left fun i _ => ?_
  simp only [Function.comp]
  rw [show j + 1 - 1 - (i + 1) = j - 1 - i by omega]
theorem ucells_cons (j n : Nat) : ucells (digB (j + 1) n) = Value.int .u8 ((n / 256 ^ j % 256 : Nat) : Int) :: ucells (digB j n) := by
  unfold ucells
  rw [digL_cons, List.map_cons, ofNat_toNat]
theorem rep_set (k : Nat) (z u : Value) (tl : List Value) : ((List.replicate (k + 1) z ++ tl).toArray).setIfInBounds k u = (List.replicate k z ++ u :: tl).toArray := by
  rw [List.setIfInBounds_toArray]
  congr 1
  rw [List.set_append_left _ _ (by simp), List.replicate_succ', List.set_append_right _ _ (by simp)]
  simp
set_option maxRecDepth 100000 in
set_option maxHeartbeats 4000000 in
theorem rfDigits_any (w : World) (n W : Nat) (hn : n < 18446744073709551616) (hW : W ≤ 1000) :
    Calls Tryz.prog 78 #[.int .u64 n, .int .i64 W] w fun e w' => ∃ v, e = .returned v ∧ w'.ownsRow w.heap.size 5 1 v W (ucells (digB W n)) ∧ Below w.heap.size w w' := by
  obtain ⟨i0, hi0, hz0, hz1, hz2⟩ := parts infoU
  obtain ⟨Z, hZ⟩ : ∃ Z, (List.replicate W (Value.int .u8 0)).toArray = Z := ⟨_, rfl⟩
  have hmk : ∀ X : World, (Instr.makeSlice 33 (.int .i64 W) (.int .i64 W)).run Tryz.prog X = .ok (.slice (some ⟨X.heap.size, 0, none⟩) W W) (X.alloc (.cells Z 5)) := by
    rw [← hZ]
    exact fun X => run_make_one (P := Tryz.prog) 33 5 i0 (.int .u8 0) Tryz.underlying33 hi0 hz0 rfl hz1 W (by rw [hz2]; omega) (by omega) X
  have hK0 : Blk (w.alloc (.cells Z 5)) w.heap.size 5 (List.replicate W (Value.int .u8 0) ++ ucells (digB (W - W) (n))).toArray := by
    rw [Nat.sub_self, show ucells (digB 0 n) = [] from rfl, List.append_nil, hZ]; exact Blk.new w _ _
  have hB0 := (Below.refl w.heap.size w).alloc (Nat.le_refl _) (.cells Z 5)
  have HK0 := Lib.hid hK0; have HB0 := Lib.hid hB0
  clear hK0 hB0 hZ hi0 hz0 hz1 hz2
  go_enter Tryz.func78, Tryz.ntmps78
  go_wp2
  go_loopg [0, 6] W (fun gf a b wr => a = .int .u64 ((n / 256 ^ (W - gf) : Nat) : Int) ∧ b = .int .i64 ((gf : Int) - 1) ∧ gf ≤ W ∧ Blk wr w.heap.size 5 (List.replicate gf (Value.int .u8 0) ++ ucells (digB (W - gf) n)).toArray ∧ Below w.heap.size w wr)
  case atStart => exact ⟨by simp, rfl, Nat.le_refl _, HK0.out, HB0.out⟩
  case round =>
    clear HK0 HB0
    obtain ⟨rfl, rfl, hk, hK, hB⟩ := hrel
    cases gk with
    | zero =>
      have HB := Lib.hid hB
      have hK' : Blk wr w.heap.size 5 (ucells (digB W n)).toArray := hK
      have HK := Lib.hid hK'
      clear hK hB hK'
      go_wp2
      go_ret
      exact ⟨_, rfl, ⟨by rw [ucells_length, digB_size]; omega, .inr ⟨w.heap.size, W, _, rfl, Nat.le_refl _, HK.out, Nat.le_refl _, by unfold maxLen; omega, by simp [ucells_length, digB_size], by rw [List.take_of_length_le (by simp [ucells_length, digB_size])]⟩⟩, HB.out⟩
    | succ gf =>
      have hkN : gf < W := by omega
      have hkI : (gf : Int) < (W : Int) := by omega
      obtain ⟨j, hj⟩ : ∃ j, W - (gf + 1) = j := ⟨_, rfl⟩
      have hj1 : W - gf = j + 1 := by omega
      rw [hj] at hK ⊢
      have ck := hK.cell gf; have fk := hK.frozen gf
      rw [List.getElem?_toArray, List.getElem?_append_left (by simp), List.getElem?_replicate, if_pos (by omega)] at ck
      have hK2 := hK.set_ gf (.int .u8 ((n / 256 ^ j % 256 : Nat) : Int))
      rw [rep_set, ← ucells_cons, ← hj1] at hK2
      have hB2 := hB.setCell (p := ⟨w.heap.size, gf, none⟩) (Nat.le_refl _) (.int .u8 ((n / 256 ^ j % 256 : Nat) : Int))
      have hdv : n / 256 ^ (W - gf) = n / 256 ^ j / 256 := by rw [hj1, Nat.pow_succ, Nat.div_div_eq_div_mul]
      have hlt : n / 256 ^ j < 18446744073709551616 := Nat.lt_of_le_of_lt (Nat.div_le_self _ _) hn
      obtain ⟨m, hm⟩ : ∃ m, n / 256 ^ j = m := ⟨_, rfl⟩
      rw [hm] at hK2 hB2 hdv hlt ⊢
      have e1 : ((m % 256 : Nat) : Int) = (m : Int) % 256 := by omega
      have e2 : ((m / 256 : Nat) : Int) = (m : Int) / 256 := by omega
      rw [e1] at hK2 hB2
      have e0 : ((gf + 1 : Nat) : Int) - 1 = (gf : Int) := by omega
      rw [e0]
      have HK2 := Lib.hid hK2; have HB2 := Lib.hid hB2; have HDV := Lib.hid hdv; have E2 := Lib.hid e2
      clear hK hB hK2 hB2 hdv hm hj hj1 e1 e2 e0 hmk
      go_wp2
      go_roundg gf
      case measure => omega
      case rel => exact ⟨by rw [HDV.out, E2.out], by go_num, by omega, HK2.out, HB2.out⟩
theorem numL_take_succ (s : ByteArray) (k : Nat) (hk : k < s.size) : numL (s.data.toList.take (k + 1)) = numL (s.data.toList.take k) * 256 + (s.get! k).toNat := by
  have hl : k < s.data.toList.length := hk
  rw [List.take_succ_eq_append_getElem hl, numL_snoc]
  congr 2
  have h2 : k < s.data.size := hk
  simp only [ByteArray.get!, getElem!_pos, h2]
  simp
theorem numL_take_lt (s : ByteArray) (k : Nat) : numL (s.data.toList.take k) < 256 ^ k := by
  have h := numL_lt (s.data.toList.take k)
  refine Nat.lt_of_lt_of_le h (Nat.pow_le_pow_right (by decide) ?_)
  rw [List.length_take]; omega
theorem numL_all (s : ByteArray) : numL (s.data.toList.take s.size) = numB s := by
  have h : s.data.toList.take s.size = s.data.toList := List.take_length
  rw [h]; rfl
theorem BtR.cell {w : World} {A : Option Addr} {n c : Nat} {s : ByteArray} (h : BtR w (.slice A n c) s) {k : Nat} (hk : k < s.size) : ∃ b : Addr, A = some b ∧ w.cell? (b.add k) = some (.int .u8 ((s.get! k).toNat : Int)) := by
  obtain ⟨A', c', he, hc, hr⟩ := h
  simp only [Value.slice.injEq] at he
  obtain ⟨rfl, -, rfl⟩ := he
  obtain ⟨ad, rfl, hb, hx⟩ := hr.2 (by omega)
  exact ⟨ad, rfl, hx k _ (ucells_at s k hk)⟩
end Go.Proofs.YthmcimpdehgaoaaGreatDoor
