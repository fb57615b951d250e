/- crc.Sum: its table, and its loop. -/
import Derived.Test.YthmcimpdehgaoaaGreatDoorMaF
import Derived.Laws.Tables
namespace Go.Proofs.YthmcimpdehgaoaaGreatDoor
open Go.RowKit

/-- the table, of which the first k are there -/
def tabC (k : Nat) : Array Value := ((List.range 16).map fun i => if i < k then Value.int .u32 (up4 i) else Value.int .u32 0).toArray
theorem tabC_set (k : Nat) : (tabC k).setIfInBounds k (.int .u32 (up4 k)) = tabC (k + 1) := by
  apply Array.ext
  · simp [tabC]
  · intro i h1 h2
    rw [Array.getElem_setIfInBounds (by simpa [tabC] using h2)]
    simp only [tabC, List.getElem_toArray, List.getElem_map, List.getElem_range]
    by_cases hki : k = i
    · subst hki; rw [if_pos rfl, if_pos (by omega)]
    · rw [if_neg hki]
      by_cases hi : i < k
      · rw [if_pos hi, if_pos (by omega)]
      · rw [if_neg hi, if_neg (by omega)]
theorem tabC_size (k : Nat) : (tabC k).size = 16 := by simp [tabC]
theorem tabC_at {k i : Nat} (hi : i < 16) : ∃ v : Int, (tabC k)[i]? = some (.int .u32 v) := by
  refine ⟨if i < k then (up4 i : Int) else 0, ?_⟩
  rw [Array.getElem?_eq_getElem (by rw [tabC_size]; exact hi)]
  simp only [tabC, List.getElem_toArray, List.getElem_map, List.getElem_range]
  split <;> rfl
theorem tabC_all {i : Nat} (hi : i < 16) : (tabC 16)[i]? = some (.int .u32 (up4 i)) := by
  rw [Array.getElem?_eq_getElem (by rw [tabC_size]; exact hi)]
  simp only [tabC, List.getElem_toArray, List.getElem_map, List.getElem_range, if_pos hi]
theorem tabC_one (k : Nat) : (tabC k).all (·.oneCell') = true := by
  rw [Array.all_eq_true_iff_forall_mem]
  intro x hx
  simp only [tabC, List.mem_toArray, List.mem_map] at hx
  obtain ⟨i, _, rfl⟩ := hx
  split <;> rfl
theorem tabInfo : (Tryz.prog.info? 138).map (·.size) = some 16 := by kernel_rfl
theorem Blk.setRow {w : World} {g : Nat} {t : TypeId} {cs : Array Value} (h : Blk w g t cs) (cs' : Array Value) : Blk (w.setRow g cs') g t cs' := setRow_heap w g cs cs' t _ h
theorem below_row {B g : Nat} {w0 w : World} (hb : Below B w0 w) (hBg : B ≤ g) (cs : Array Value) : Below B w0 (w.setRow g cs) :=
  hb.trans ⟨rfl, rfl, rfl, by simp [World.setRow], fun k hk => setRow_other w g k cs (by omega)⟩
set_option maxRecDepth 100000 in
set_option maxHeartbeats 4000000 in
theorem halves_any (w : World) : Calls Tryz.prog 96 #[] w fun e w' => e = .returned (.agg (tabC 16)) ∧ Below w.heap.size w w' := by
  have hT0 : tabC 0 = #[.int .u32 0, .int .u32 0, .int .u32 0, .int .u32 0, .int .u32 0, .int .u32 0, .int .u32 0, .int .u32 0, .int .u32 0, .int .u32 0, .int .u32 0, .int .u32 0, .int .u32 0, .int .u32 0, .int .u32 0, .int .u32 0] := rfl
  have hB : Below w.heap.size w (w.alloc (.cells (tabC 0) 138)) := (Below.refl _ _).alloc (Nat.le_refl _) _
  have hK : Blk (w.alloc (.cells (tabC 0) 138)) w.heap.size 138 (tabC 0) := Blk.new w _ _
  rw [hT0] at hB
  have HB := Lib.hid hB; have HK := Lib.hid hK
  clear hB hK
  go_enter Tryz.func96, Tryz.ntmps96
  go_wp2
  go_loopg [3] 16 (fun gf a wr => ∃ k : Nat, a = .int .i64 k ∧ k + gf = 16 ∧ Blk wr w.heap.size 138 (tabC k) ∧ Below w.heap.size w wr)
  case atStart => exact ⟨0, rfl, rfl, HK.out, HB.out⟩
  case round =>
    clear HB HK hT0
    obtain ⟨k, rfl, hk, hK, hB⟩ := hrel
    cases gk with
    | zero =>
      obtain rfl : k = 16 := by omega
      have hK2 := hK.setRow (tabC 16)
      have HB2 := Lib.hid (below_row hB (Nat.le_refl _) (tabC 16)); have HK := Lib.hid hK; have HK2 := Lib.hid hK2
      clear hK hB hK2
      go_wp2_with (first | (refine wpList_load_row rfl 138 (.tmp 0) rfl w.heap.size rfl 138 (tabC 16) (0, 0) _ HK.out Tryz.underlying138 rfl (by rw [tabC_size]; exact tabInfo) ?_) | (refine wpList_store_row rfl 138 (.tmp 0) (.tmp 13) rfl w.heap.size (tabC 16) rfl rfl 138 (tabC 16) HK.out (by rw [tabC_size]; exact tabInfo) rfl (tabC_one 16) ?_))
      refine bodyPost_ret (v := .agg (tabC 16)) (results_cell_row (Tryz.results96) _ _ w.heap.size 138 (tabC 16) (0, 0) _ rfl HK2.out Tryz.underlying138 rfl (by rw [tabC_size]; exact tabInfo)) rfl ?_
      exact ⟨rfl, HB2.out⟩
    | succ gf =>
      have hkI : (k : Int) < 16 := by omega
      have hkN : k < 16 := by omega
      obtain ⟨u, hu⟩ := tabC_at (k := k) hkN
      have ck := hK.cell k; have fk := hK.frozen k
      rw [hu] at ck
      have hK2 := hK.set_ k (.int .u32 (up4 k))
      rw [tabC_set k] at hK2
      have HB2 := Lib.hid (hB.setCell (p := ⟨w.heap.size, k, none⟩) (Nat.le_refl _) (.int .u32 (up4 k))); have HK2 := Lib.hid hK2
      have HU := Lib.hid (leave_any k (by omega) wr)
      clear hK hB hK2 hu
      go_wp2_with fail
      refine HU.out.mono ?_
      rintro e w' ⟨rfl, rfl⟩
      clear HU
      go_wp2
      go_roundg gf
      case measure => omega
      case rel => exact ⟨k + 1, by go_num, by omega, HK2.out, HB2.out⟩
theorem nib_and {r : Nat} (h : r < 4294967296) : bits .and .u32 (r : Int) 15 = ((r % 16 : Nat) : Int) := by
  have := u32_and_nat r 15 h (by decide)
  rw [nat_mask4] at this
  exact this
theorem nib_xor {r : Nat} (h : r < 4294967296) : bits .xor .u32 ((r / 16 : Nat) : Int) (up4 (r % 16) : Int) = (nib r : Int) := u32_xor_nat (r / 16) (up4 (r % 16)) (by omega) (up4_lt (by omega))
set_option maxRecDepth 100000 in
set_option maxHeartbeats 4000000 in
theorem sum_any (w : World) (v : Value) (s : ByteArray) (h : Bt w v s) (hs : s.size ≤ 1000000000) :
    Calls Tryz.prog 55 #[v] w fun e w' => e = .returned (.int .u32 (crcN s)) ∧ Below w.heap.size w w' := by
  obtain ⟨A, c, rfl, hsc, hrd⟩ := id h
  have HB0 := Lib.hid h
  clear h
  go_enter Tryz.func55, Tryz.ntmps55
  go_wp2_with fail
  refine (halves_any w).mono ?_
  rintro e w1 ⟨rfl, hb1⟩
  have hT0 : tabC 0 = #[.int .u32 0, .int .u32 0, .int .u32 0, .int .u32 0, .int .u32 0, .int .u32 0, .int .u32 0, .int .u32 0, .int .u32 0, .int .u32 0, .int .u32 0, .int .u32 0, .int .u32 0, .int .u32 0, .int .u32 0, .int .u32 0] := rfl
  have hK0 := Blk.new w1 138 (tabC 0)
  have hK1 := hK0.setRow (tabC 16)
  have hB1 := below_row (hb1.alloc hb1.size (.cells (tabC 0) 138)) hb1.size (tabC 16)
  rw [hT0] at hK0 hK1 hB1
  have HK0 := Lib.hid hK0; have HK1 := Lib.hid hK1; have HB1 := Lib.hid hB1
  clear hK0 hK1 hB1 hb1 hT0
  go_wp2_with (first | (refine wpList_store_row rfl 138 (.tmp 3) (.tmp 7) rfl w1.heap.size (tabC 16) rfl rfl 138 _ HK0.out (by rw [tabC_size]; exact tabInfo) rfl (tabC_one 16) ?_))
  clear HK0
  generalize (w1.alloc (Obj.cells _ 138)).setRow w1.heap.size (tabC 16) = w2 at HK1 HB1 ⊢
  go_loopg [4, 10] s.size (fun gf a b wr => ∃ i : Nat, a = .int .u32 (crcF (s.data.toList.take i)) ∧ b = .int .i64 i ∧ i + gf = s.size ∧ wr = w2)
  case atStart => exact ⟨0, by simp [crcF], rfl, by omega, rfl⟩
  case round =>
    obtain ⟨i, rfl, rfl, hi, rfl⟩ := hrel
    have hlen : s.data.toList.length = s.size := rfl
    cases gk with
    | zero =>
      obtain rfl : i = s.size := by omega
      have hall : s.data.toList.take s.size = s.data.toList := List.take_of_length_le (by omega)
      have hx : bits .xor .u32 IntKind.u32.max (crcF s.data.toList : Int) = (crcN s : Int) := by rw [crcN, Nat.xor_comm]; exact u32_xor_nat 4294967295 (crcF s.data.toList) (by decide) (crcF_lt _)
      rw [hall]
      clear hall hlen
      go_wp2
      go_ret
      exact ⟨rfl, HB1.out⟩
    | succ gf =>
      have hiI : (i : Int) < (s.size : Int) := by omega
      have hiN : i < s.size := by omega
      have hil : i < s.data.toList.length := by omega
      obtain ⟨blk, off, cs, fz, rfl, hh, hx⟩ := hrd (by omega)
      have hbl : blk < w.heap.size := (Array.getElem?_eq_some_iff.1 hh).1
      have hhw := (HB1.out.block blk hbl).trans hh
      have cb := cell_of_row wr blk (off + i) cs 5 fz hhw
      rw [hx i hiN] at cb
      have hgt : s.get! i = s.data.toList[i] := by
        have h2 : i < s.data.size := hiN
        simp only [ByteArray.get!, getElem!_pos, h2]
        simp
      have hsn : s.data.toList.take (i + 1) = s.data.toList.take i ++ [s.data.toList[i]] := (List.take_succ_eq_append_getElem hil)
      rw [hgt] at cb
      have hr := crcF_lt (s.data.toList.take i)
      have hnx := crcF_snoc (s.data.toList.take i) s.data.toList[i]
      rw [← hsn] at hnx
      obtain ⟨r, hrr⟩ : ∃ r, crcF (s.data.toList.take i) = r := ⟨_, rfl⟩
      obtain ⟨b, hbb⟩ : ∃ b : UInt8, s.data.toList[i] = b := ⟨_, rfl⟩
      rw [hrr] at hr hnx ⊢
      rw [hbb] at cb hnx
      have hb8 := b.toNat_lt
      have x1 : bits .xor .u32 (r : Int) (b.toNat : Int) = ((r ^^^ b.toNat : Nat) : Int) := u32_xor_nat r b.toNat hr (by omega)
      have hR1 : r ^^^ b.toNat < 4294967296 := Nat.xor_lt_two_pow (n := 32) hr (by omega)
      obtain ⟨R1, hR⟩ : ∃ R1, r ^^^ b.toNat = R1 := ⟨_, rfl⟩
      rw [hR] at x1 hR1 hnx
      have a1 := nib_and hR1; have y1 := nib_xor hR1; have hR2 := nib_lt hR1
      obtain ⟨R2, hR'⟩ : ∃ R2, nib R1 = R2 := ⟨_, rfl⟩
      rw [hR'] at y1 hR2 hnx
      have a2 := nib_and hR2; have y2 := nib_xor hR2
      have t1 := HK1.out.cell (R1 % 16); have t2 := HK1.out.cell (R2 % 16)
      rw [tabC_all (by omega)] at t1 t2
      obtain ⟨q1, hq1⟩ : ∃ q, R1 % 16 = q := ⟨_, rfl⟩
      obtain ⟨q2, hq2⟩ : ∃ q, R2 % 16 = q := ⟨_, rfl⟩
      have hl1 : q1 < 16 := by omega
      have hl2 : q2 < 16 := by omega
      have hl1I : (q1 : Int) < 16 := by omega
      have hl2I : (q2 : Int) < 16 := by omega
      rw [hq1] at a1 y1 t1
      rw [hq2] at a2 y2 t2
      rw [show ((R1 / 16 : Nat) : Int) = (R1 : Int) / 16 by omega] at y1
      rw [show ((R2 / 16 : Nat) : Int) = (R2 : Int) / 16 by omega] at y2
      have HNX := Lib.hid hnx
      clear hnx hrr hbb hR hR' hq1 hq2 hsn hgt hhw hh hx hrd
      go_wp2
      go_roundg gf
      case measure => omega
      case rel => exact ⟨i + 1, by rw [HNX.out], by go_num, by omega, rfl⟩
end Go.Proofs.YthmcimpdehgaoaaGreatDoor
