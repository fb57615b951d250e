/- The closed law of manifests: its walk. -/
import Derived.Test.YtlcgkcafelpglaaGreatDoorMaKm
import Derived.Great.CaseRows
import Derived.Deep.DeepCutAuto
namespace Go.Proofs.YtlcgkcafelpglaaGreatDoor
open Go.RowKit Go.Maps

theorem kn_in : ∀ z ∈ ([-1, 0, 1, 2, 3, 0, 2, 3, 1] : List Int), In64 z := by
  intro z hz
  simp only [List.mem_cons, List.not_mem_nil, or_false] at hz
  rcases hz with rfl | rfl | rfl | rfl | rfl | rfl | rfl | rfl | rfl <;> exact ⟨by decide, by decide⟩
def m7 : ManM := ⟨7, 3, 5, -9, 1099511627776, true, 2147483648⟩
theorem m7_ok : m7.Ok := ⟨⟨by decide, by decide⟩, ⟨by decide, by decide⟩, ⟨by decide, by decide⟩, ⟨by decide, by decide⟩, ⟨by decide, by decide⟩, by decide⟩
/-- the law's state behind its first part -/
structure KnM (w wr : World) (g : Nat) (A : Option Addr) (c : Nat) (T : ByteArray) : Prop where
  below : Below w.heap.size w wr
  box : Blk wr g 38 #[.int .i64 7, .int .i64 3, .int .i64 5, .int .i64 (-9), .int .i64 1099511627776, .bool true, .int .u32 2147483648]
  bt : BtR wr (.slice A 50 c) T
theorem KnM.step {w wr w2 : World} {g : Nat} {A : Option Addr} {c : Nat} {T : ByteArray} (h : KnM w wr g A c T) (hb : Below wr.heap.size wr w2) : KnM w w2 g A c T :=
  ⟨h.below.trans (hb.mono h.below.size), h.box.below hb h.box.lt, h.bt.below hb⟩
theorem KnM.cells {w wr : World} {g : Nat} {A : Option Addr} {c : Nat} {T : ByteArray} (h : KnM w wr g A c T) : wr.cell? ⟨g, 0, none⟩ = some (.int .i64 7) ∧ wr.cell? ⟨g, 1, none⟩ = some (.int .i64 3) ∧ wr.cell? ⟨g, 2, none⟩ = some (.int .i64 5) ∧ wr.cell? ⟨g, 3, none⟩ = some (.int .i64 (-9)) ∧ wr.cell? ⟨g, 4, none⟩ = some (.int .i64 1099511627776) ∧ wr.cell? ⟨g, 5, none⟩ = some (.bool true) ∧ wr.cell? ⟨g, 6, none⟩ = some (.int .u32 2147483648) :=
  ⟨h.box.cell 0, h.box.cell 1, h.box.cell 2, h.box.cell 3, h.box.cell 4, h.box.cell 5, h.box.cell 6⟩
theorem btr_take {w : World} {A : Option Addr} {c : Nat} {s : ByteArray} (h : BtR w (.slice A 50 c) s) (hs : s.size = 50) (i : Nat) (hi : i ≤ 50) : BtR w (.slice A (s.extract 0 i).size c) (s.extract 0 i) ∧ (s.extract 0 i).size = i := by
  have hsz : (s.extract 0 i).size = i := by rw [ByteArray.size_extract]; omega
  refine ⟨?_, hsz⟩
  obtain ⟨A2, c2, he, hc, hr⟩ := h
  injection he with h1 h2 h3
  subst h1 h3
  refine ⟨A, c, rfl, by omega, by rw [ucells_length, Nat.mul_one], fun h0 => ?_⟩
  rw [hsz] at h0
  obtain ⟨ad, hA, hb, hx⟩ := hr.2 (by omega)
  refine ⟨ad, hA, hb, fun j u hu => hx j u ?_⟩
  have hj : j < i := by have := (List.getElem?_eq_some_iff.1 hu).1; rwa [ucells_length, hsz] at this
  rw [ucells_at _ j (by omega)] at hu
  rw [ucells_at _ j (by omega), ← hu]
  have e1 : (s.extract 0 i).get! j = s.get! j := by
    unfold ByteArray.get!
    simp [ByteArray.data_extract, getElem!_def, Array.getElem?_extract]
    rw [if_pos (by omega)]
  rw [e1]
theorem man7 {wr : World} {g : Nat} {m : ManM} (h : Blk wr g 38 #[.int .i64 m.n, .int .i64 m.epoch, .int .i64 m.step, .int .i64 m.sum, .int .i64 m.most, .bool m.done, .int .u32 m.job]) : wr.cell? ⟨g, 0, none⟩ = some (.int .i64 m.n) ∧ wr.cell? ⟨g, 1, none⟩ = some (.int .i64 m.epoch) ∧ wr.cell? ⟨g, 2, none⟩ = some (.int .i64 m.step) ∧ wr.cell? ⟨g, 3, none⟩ = some (.int .i64 m.sum) ∧ wr.cell? ⟨g, 4, none⟩ = some (.int .i64 m.most) ∧ wr.cell? ⟨g, 5, none⟩ = some (.bool m.done) ∧ wr.cell? ⟨g, 6, none⟩ = some (.int .u32 m.job) :=
  ⟨h.cell 0, h.cell 1, h.cell 2, h.cell 3, h.cell 4, h.cell 5, h.cell 6⟩
set_option maxRecDepth 100000 in
set_option maxHeartbeats 16000000 in
theorem mknown_any (w : World) (hT : Tb w.heap.size w) : Calls Tryz.prog 4 #[] w fun e w' => e = .returned (.bool true) ∧ Below w.heap.size w w' := by
  have HT := Lib.hid (fun W (hW : Below w.heap.size w W) => hT.on4 hW)
  clear hT
  go_enter Tryz.func4, Tryz.ntmps4
  go_wp2_with fail
  refine (open_nil _).mono ?_
  rintro e w ⟨rfl, rfl⟩
  go_wp2_with fail
  refine (new_any 9 _).mono ?_
  rintro e w2 ⟨rfl, hd2, hb2⟩
  have HD2 := Lib.hid hd2; have HB2 := Lib.hid hb2
  clear hd2 hb2
  go_wp2_with fail
  refine (d_crash HD2.out HB2.out.size rfl).mono ?_
  rintro e w3 ⟨rfl, v3, o3⟩
  have HO3 := Lib.hid (open_gone w3 _ _ v3 _ o3.is (Nat.le_trans HB2.out.size o3.below.size) rfl); have HB3 := Lib.hid (HB2.out.trans o3.below)
  clear o3 HD2
  go_wp2_with fail
  refine HO3.out.mono ?_
  rintro e w4 ⟨rfl, hb4⟩
  have HB4 := Lib.hid (HB3.out.trans hb4)
  clear hb4 HO3 HB3 HB2
  go_wp2_with fail
  refine (newest_nil _).mono ?_
  rintro e w5 ⟨rfl, hb5⟩
  have hk5 := Blk.new w5 38 #[.int .i64 0, .int .i64 0, .int .i64 0, .int .i64 0, .int .i64 0, .bool false, .int .u32 0]
  have hb6 := below_row ((Below.refl w5.heap.size w5).alloc (Nat.le_refl _) (.cells #[.int .i64 0, .int .i64 0, .int .i64 0, .int .i64 0, .int .i64 0, .bool false, .int .u32 0] 38)) (Nat.le_refl _) #[.int .i64 0, .int .i64 0, .int .i64 0, .int .i64 0, .int .i64 0, .bool false, .int .u32 0]
  have hone := mCells_oneA zeroM
  rw [show mCells zeroM = #[.int .i64 0, .int .i64 0, .int .i64 0, .int .i64 0, .int .i64 0, .bool false, .int .u32 0] from rfl] at hone
  have HK5 := Lib.hid hk5; have HONE := Lib.hid hone; have HB5 := Lib.hid (HB4.out.trans ((hb5.trans (hb6.mono hb5.size)).mono HB4.out.size))
  clear hk5 hone hb6 hb5 HB4
  go_upto_region 7 with (first | (refine wpList_store_row rfl 38 (.tmp 7) (.tmp 32) rfl w5.heap.size #[.int .i64 0, .int .i64 0, .int .i64 0, .int .i64 0, .int .i64 0, .bool false, .int .u32 0] rfl rfl 38 _ HK5.out infoMf rfl HONE.out ?_))
  obtain ⟨w6, hw6⟩ : ∃ w6, (w5.alloc (.cells #[.int .i64 0, .int .i64 0, .int .i64 0, .int .i64 0, .int .i64 0, .bool false, .int .u32 0] 38)).setRow w5.heap.size #[.int .i64 0, .int .i64 0, .int .i64 0, .int .i64 0, .int .i64 0, .bool false, .int .u32 0] = w6 := ⟨_, rfl⟩
  rw [hw6] at HB5 ⊢
  clear hw6 HK5 HONE
  go_wp2_with fail
  refine (write_nil _).mono ?_
  rintro e w7 ⟨rfl, hb7⟩
  have hk7 := Blk.new w7 38 #[.int .i64 0, .int .i64 0, .int .i64 0, .int .i64 0, .int .i64 0, .bool false, .int .u32 0]
  have hk8 := hk7.setRow #[.int .i64 7, .int .i64 3, .int .i64 5, .int .i64 (-9), .int .i64 1099511627776, .bool true, .int .u32 2147483648]
  have hb8 := below_row ((Below.refl w7.heap.size w7).alloc (Nat.le_refl _) (.cells #[.int .i64 0, .int .i64 0, .int .i64 0, .int .i64 0, .int .i64 0, .bool false, .int .u32 0] 38)) (Nat.le_refl _) #[.int .i64 7, .int .i64 3, .int .i64 5, .int .i64 (-9), .int .i64 1099511627776, .bool true, .int .u32 2147483648]
  have hone := mCells_oneA m7
  rw [show mCells m7 = #[.int .i64 7, .int .i64 3, .int .i64 5, .int .i64 (-9), .int .i64 1099511627776, .bool true, .int .u32 2147483648] from rfl] at hone
  have HK7 := Lib.hid hk7; have HK8 := Lib.hid hk8; have HONE := Lib.hid hone; have HB8 := Lib.hid (HB5.out.trans ((hb7.trans (hb8.mono hb7.size)).mono HB5.out.size))
  clear hk7 hk8 hone hb8 hb7 HB5
  go_upto_region 9 with (first | (refine wpList_store_row rfl 38 (.tmp 10) (.tmp 50) rfl w7.heap.size #[.int .i64 7, .int .i64 3, .int .i64 5, .int .i64 (-9), .int .i64 1099511627776, .bool true, .int .u32 2147483648] rfl rfl 38 _ HK7.out infoMf rfl HONE.out ?_))
  obtain ⟨w8, hw8⟩ : ∃ w8, (w7.alloc (.cells #[.int .i64 0, .int .i64 0, .int .i64 0, .int .i64 0, .int .i64 0, .bool false, .int .u32 0] 38)).setRow w7.heap.size #[.int .i64 7, .int .i64 3, .int .i64 5, .int .i64 (-9), .int .i64 1099511627776, .bool true, .int .u32 2147483648] = w8 := ⟨_, rfl⟩
  rw [hw8] at HB8 HK8 ⊢
  obtain ⟨g, hg⟩ : ∃ g, w7.heap.size = g := ⟨_, rfl⟩
  rw [hg] at HK8 ⊢
  clear hw8 hg HK7 HONE
  have hpl := plain_any m7 w8
  rw [show mCells m7 = #[.int .i64 7, .int .i64 3, .int .i64 5, .int .i64 (-9), .int .i64 1099511627776, .bool true, .int .u32 2147483648] from rfl] at hpl
  have k0 := HK8.out.cell 0; have k1 := HK8.out.cell 1; have k2 := HK8.out.cell 2; have k3 := HK8.out.cell 3; have k4 := HK8.out.cell 4; have k5 := HK8.out.cell 5; have k6 := HK8.out.cell 6
  simp only [List.getElem?_toArray, List.getElem?_cons_zero, List.getElem?_cons_succ] at k0 k1 k2 k3 k4 k5 k6
  have HPL := Lib.hid hpl
  clear hpl
  go_wp2_with fail
  refine HPL.out.mono ?_
  rintro e w9 ⟨rfl, hb9⟩
  have hby := rfBytes_any m7 m7_ok w9
  rw [show mCells m7 = #[.int .i64 7, .int .i64 3, .int .i64 5, .int .i64 (-9), .int .i64 1099511627776, .bool true, .int .u32 2147483648] from rfl] at hby
  have HBY := Lib.hid hby; have HB9 := Lib.hid hb9
  clear hby hb9 HPL k0 k1 k2 k3 k4 k5 k6
  go_wp2_with fail
  refine HBY.out.mono ?_
  rintro e w10 ⟨v10, rfl, hbt, -, hb10⟩
  obtain ⟨T, hTe⟩ : ∃ T, m7.bytes = T := ⟨_, rfl⟩
  have hTs : T.size = 50 := by rw [← hTe]; exact m7.bytes_size
  rw [hTe] at hbt
  obtain ⟨A, c, rfl, hc50, -⟩ := id hbt
  rw [hTs] at hbt hc50
  have hb810 := HB9.out.trans (hb10.mono HB9.out.size)
  have hkn : KnM w w10 g A c T := ⟨HB8.out.trans (hb810.mono HB8.out.size), HK8.out.below hb810 HK8.out.lt, by rw [← hTs]; rw [← hTs] at hbt; exact hbt.btr⟩
  rw [hTs]
  have HKN := Lib.hid hkn; have HTS := Lib.hid hTs
  clear hkn hTs hTe hbt hb10 hb810 HBY HB9 HB8 HK8
  go_wp2
  go_loopg [12] 50 (fun gf vi wr => ∃ i : Nat, vi = .int .i64 i ∧ i + gf = 50 ∧ KnM w wr g A c T)
  case atStart => exact ⟨0, rfl, by omega, HKN.out⟩
  case round =>
    clear HKN
    obtain ⟨i, rfl, hi, hkn⟩ := hrel
    cases gk with
    | zero =>
      obtain rfl : i = 50 := by omega
      have HKN := Lib.hid hkn
      clear hkn hi
      as_aux_lemma =>
      go_upto_region 17 with (fail)
      go_step
      refine wpList_buildTo rfl 38 _ rfl (some 89) rfl #[.int .i64 0, .int .i64 0, .int .i64 0, .int .i64 0, .int .i64 0, .bool false, .int .u32 0] (by kernel_rfl) ?_
      try simp only [Act.put, List.setIfInBounds_toArray, List.set_cons_zero, List.set_cons_succ]
      refine wpList_buildTo rfl 38 _ rfl (some 90) rfl #[.int .i64 1, .int .i64 1, .int .i64 (-1), .int .i64 0, .int .i64 0, .bool false, .int .u32 0] (by kernel_rfl) ?_
      try simp only [Act.put, List.setIfInBounds_toArray, List.set_cons_zero, List.set_cons_succ]
      refine wpList_buildTo rfl 38 _ rfl (some 91) rfl #[.int .i64 1, .int .i64 1, .int .i64 (-2), .int .i64 0, .int .i64 0, .bool false, .int .u32 0] (by kernel_rfl) ?_
      try simp only [Act.put, List.setIfInBounds_toArray, List.set_cons_zero, List.set_cons_succ]
      refine wpList_buildTo rfl 38 _ rfl (some 92) rfl #[.int .i64 4611686018427387904, .int .i64 4611686018427387904, .int .i64 1073741824, .int .i64 0, .int .i64 0, .bool false, .int .u32 0] (by kernel_rfl) ?_
      try simp only [Act.put, List.setIfInBounds_toArray, List.set_cons_zero, List.set_cons_succ]
      refine wpList_buildTo rfl 38 _ rfl (some 93) rfl #[.int .i64 4611686018427387905, .int .i64 1, .int .i64 0, .int .i64 0, .int .i64 0, .bool false, .int .u32 0] (by kernel_rfl) ?_
      try simp only [Act.put, List.setIfInBounds_toArray, List.set_cons_zero, List.set_cons_succ]
      refine wpList_buildTo rfl 38 _ rfl (some 94) rfl #[.int .i64 1, .int .i64 4611686018427387905, .int .i64 0, .int .i64 0, .int .i64 0, .bool false, .int .u32 0] (by kernel_rfl) ?_
      try simp only [Act.put, List.setIfInBounds_toArray, List.set_cons_zero, List.set_cons_succ]
      refine wpList_buildTo rfl 38 _ rfl (some 95) rfl #[.int .i64 1, .int .i64 1, .int .i64 1073741825, .int .i64 0, .int .i64 0, .bool false, .int .u32 0] (by kernel_rfl) ?_
      try simp only [Act.put, List.setIfInBounds_toArray, List.set_cons_zero, List.set_cons_succ]
      refine wpList_buildTo rfl 38 _ rfl (some 96) rfl #[.int .i64 1, .int .i64 0, .int .i64 0, .int .i64 0, .int .i64 0, .bool false, .int .u32 0] (by kernel_rfl) ?_
      try simp only [Act.put, List.setIfInBounds_toArray, List.set_cons_zero, List.set_cons_succ]
      refine wpList_buildTo rfl 38 _ rfl (some 97) rfl #[.int .i64 (-1), .int .i64 1, .int .i64 0, .int .i64 0, .int .i64 0, .bool false, .int .u32 0] (by kernel_rfl) ?_
      try simp only [Act.put, List.setIfInBounds_toArray, List.set_cons_zero, List.set_cons_succ]
      refine Great.wpList_buildRows rfl 58 38 _ 7 (knZ.map fun m => Value.agg (mCells m)) rfl (fun i => 89 + i) wr.heap.size rfl (some 98) rfl Tryz.underlying58 infoMf (by kernel_rfl) (by decide) (by decide) (by decide) rfl (fun v hv => by obtain ⟨m, _, rfl⟩ := List.mem_map.1 hv; rfl) (fun i hi => by
        match i, hi with
        | 0, _ => rfl
        | 1, _ => rfl
        | 2, _ => rfl
        | 3, _ => rfl
        | 4, _ => rfl
        | 5, _ => rfl
        | 6, _ => rfl
        | 7, _ => rfl
        | 8, _ => rfl
        | n + 9, h => exact absurd h (by rw [List.length_map, show knZ.length = 9 from rfl]; omega)) ?_
      rw [flat7_map, show (knZ.map fun m => Value.agg (mCells m)).length = 9 from rfl]
      try simp only [Act.put, List.setIfInBounds_toArray, List.set_cons_zero, List.set_cons_succ]
      have hkn2 := HKN.out.step ((Below.refl wr.heap.size wr).alloc (Nat.le_refl _) (.cells (knZ.flatMap fun m => (mCells m).toList).toArray 38))
      have hmz := knZ_at (Blk.new wr 38 (knZ.flatMap fun m => (mCells m).toList).toArray)
      obtain ⟨w3, hw3⟩ : ∃ w3, wr.alloc (.cells (knZ.flatMap fun m => (mCells m).toList).toArray 38) = w3 := ⟨_, rfl⟩
      obtain ⟨gz, hgz⟩ : ∃ gz, wr.heap.size = gz := ⟨_, rfl⟩
      rw [hw3] at hkn2 hmz ⊢
      rw [hgz] at hmz ⊢
      have HK3 := Lib.hid hkn2; have HM3 := Lib.hid hmz
      clear hw3 hgz hkn2 hmz HKN
      go_wp2
      go_loopg [100] 9 (fun gf vi wr => ∃ i : Nat, vi = .int .i64 i ∧ i + gf = 9 ∧ KnM w wr g A c T ∧ Mans wr (some ⟨gz, 0, none⟩) knZ)
      case atStart => exact ⟨0, rfl, by omega, HK3.out, HM3.out⟩
      case round =>
        clear HK3 HM3
        obtain ⟨i, rfl, hi, hkn, hmz⟩ := hrel
        cases gk with
        | zero =>
          obtain rfl : i = 9 := by omega
          have HKN := Lib.hid hkn
          clear hkn hmz hi
          as_aux_lemma =>
          go_upto_region 23 with (fail)
          go_step
          refine wpList_buildTo rfl 38 _ rfl (some 119) rfl #[.int .i64 0, .int .i64 1, .int .i64 (-1), .int .i64 0, .int .i64 0, .bool false, .int .u32 0] (by kernel_rfl) ?_
          try simp only [Act.put, List.setIfInBounds_toArray, List.set_cons_zero, List.set_cons_succ]
          refine wpList_buildTo rfl 42 _ rfl (some 120) rfl #[.int .u8 0, .int .i64 0, .int .i64 1, .int .i64 (-1), .int .i64 0, .int .i64 0, .bool false, .int .u32 0, .string ⟨#[]⟩, .slice none 0 0, .int .i64 0, .slice none 0 0] (by simp only [List.map_toArray, List.map_cons, List.map_nil]; exact hb1 _ _ _ _ _ _ _ _) ?_
          try simp only [Act.put, List.setIfInBounds_toArray, List.set_cons_zero, List.set_cons_succ]
          refine wpList_buildTo rfl 38 _ rfl (some 121) rfl #[.int .i64 0, .int .i64 1, .int .i64 0, .int .i64 5, .int .i64 0, .bool false, .int .u32 0] (by kernel_rfl) ?_
          try simp only [Act.put, List.setIfInBounds_toArray, List.set_cons_zero, List.set_cons_succ]
          refine wpList_buildTo rfl 42 _ rfl (some 122) rfl #[.int .u8 0, .int .i64 0, .int .i64 1, .int .i64 0, .int .i64 5, .int .i64 0, .bool false, .int .u32 0, .string ⟨#[]⟩, .slice none 0 0, .int .i64 0, .slice none 0 0] (by simp only [List.map_toArray, List.map_cons, List.map_nil]; exact hb1 _ _ _ _ _ _ _ _) ?_
          try simp only [Act.put, List.setIfInBounds_toArray, List.set_cons_zero, List.set_cons_succ]
          refine wpList_buildTo rfl 38 _ rfl (some 123) rfl #[.int .i64 0, .int .i64 0, .int .i64 0, .int .i64 0, .int .i64 0, .bool false, .int .u32 0] (by kernel_rfl) ?_
          try simp only [Act.put, List.setIfInBounds_toArray, List.set_cons_zero, List.set_cons_succ]
          refine wpList_buildTo rfl 42 _ rfl (some 124) rfl #[.int .u8 0, .int .i64 0, .int .i64 0, .int .i64 0, .int .i64 0, .int .i64 0, .bool false, .int .u32 0, .string ⟨#[]⟩, .slice none 0 0, .int .i64 0, .slice none 0 0] (by simp only [List.map_toArray, List.map_cons, List.map_nil]; exact hb1 _ _ _ _ _ _ _ _) ?_
          try simp only [Act.put, List.setIfInBounds_toArray, List.set_cons_zero, List.set_cons_succ]
          refine wpList_mv rfl (.tmp 11) rfl (some 125) rfl (.slice A 50 c) rfl ?_
          try simp only [Act.put, List.setIfInBounds_toArray, List.set_cons_zero, List.set_cons_succ]
          refine wpList_buildTo rfl 42 _ rfl (some 126) rfl #[.int .u8 7, .int .i64 0, .int .i64 0, .int .i64 0, .int .i64 0, .int .i64 0, .bool false, .int .u32 0, .string ⟨#[109, 102, 46, 55]⟩, .slice A 50 c, .int .i64 0, .slice none 0 0] (by simp only [List.map_toArray, List.map_cons, List.map_nil]; exact hb23 _ _ _ _ _) ?_
          try simp only [Act.put, List.setIfInBounds_toArray, List.set_cons_zero, List.set_cons_succ]
          refine wpList_mv rfl (.tmp 11) rfl (some 127) rfl (.slice A 50 c) rfl ?_
          try simp only [Act.put, List.setIfInBounds_toArray, List.set_cons_zero, List.set_cons_succ]
          refine wpList_buildTo rfl 42 _ rfl (some 128) rfl #[.int .u8 7, .int .i64 0, .int .i64 0, .int .i64 0, .int .i64 0, .int .i64 0, .bool false, .int .u32 0, .string ⟨#[109, 102, 46, 56]⟩, .slice A 50 c, .int .i64 0, .slice none 0 0] (by simp only [List.map_toArray, List.map_cons, List.map_nil]; exact hb23 _ _ _ _ _) ?_
          try simp only [Act.put, List.setIfInBounds_toArray, List.set_cons_zero, List.set_cons_succ]
          refine wpList_buildTo rfl 42 _ rfl (some 129) rfl #[.int .u8 7, .int .i64 0, .int .i64 0, .int .i64 0, .int .i64 0, .int .i64 0, .bool false, .int .u32 0, .string ⟨#[109, 102, 46, 120]⟩, .slice none 0 0, .int .i64 0, .slice none 0 0] (by simp only [List.map_toArray, List.map_cons, List.map_nil]; exact hb2 _ _) ?_
          try simp only [Act.put, List.setIfInBounds_toArray, List.set_cons_zero, List.set_cons_succ]
          refine wpList_mv rfl (.tmp 11) rfl (some 130) rfl (.slice A 50 c) rfl ?_
          try simp only [Act.put, List.setIfInBounds_toArray, List.set_cons_zero, List.set_cons_succ]
          refine wpList_buildTo rfl 42 _ rfl (some 131) rfl #[.int .u8 7, .int .i64 0, .int .i64 0, .int .i64 0, .int .i64 0, .int .i64 0, .bool false, .int .u32 0, .string ⟨#[109, 102, 46, 116, 109, 112]⟩, .slice A 50 c, .int .i64 0, .slice none 0 0] (by simp only [List.map_toArray, List.map_cons, List.map_nil]; exact hb23 _ _ _ _ _) ?_
          try simp only [Act.put, List.setIfInBounds_toArray, List.set_cons_zero, List.set_cons_succ]
          refine wpList_buildTo rfl 38 _ rfl (some 132) rfl #[.int .i64 0, .int .i64 1, .int .i64 1, .int .i64 0, .int .i64 0, .bool false, .int .u32 0] (by kernel_rfl) ?_
          try simp only [Act.put, List.setIfInBounds_toArray, List.set_cons_zero, List.set_cons_succ]
          refine wpList_buildTo rfl 42 _ rfl (some 133) rfl #[.int .u8 0, .int .i64 0, .int .i64 1, .int .i64 1, .int .i64 0, .int .i64 0, .bool false, .int .u32 0, .string ⟨#[]⟩, .slice none 0 0, .int .i64 0, .slice none 0 0] (by simp only [List.map_toArray, List.map_cons, List.map_nil]; exact hb1 _ _ _ _ _ _ _ _) ?_
          try simp only [Act.put, List.setIfInBounds_toArray, List.set_cons_zero, List.set_cons_succ]
          refine wpList_buildTo rfl 42 _ rfl (some 134) rfl #[.int .u8 6, .int .i64 0, .int .i64 0, .int .i64 0, .int .i64 0, .int .i64 0, .bool false, .int .u32 0, .string ⟨#[]⟩, .slice none 0 0, .int .i64 0, .slice none 0 0] (by simp only [List.map_toArray, List.map_cons, List.map_nil]; exact hb0 _) ?_
          try simp only [Act.put, List.setIfInBounds_toArray, List.set_cons_zero, List.set_cons_succ]
          refine wpList_buildTo rfl 42 _ rfl (some 135) rfl #[.int .u8 4, .int .i64 0, .int .i64 0, .int .i64 0, .int .i64 0, .int .i64 0, .bool false, .int .u32 0, .string ⟨#[]⟩, .slice none 0 0, .int .i64 1, .slice none 0 0] (by simp only [List.map_toArray, List.map_cons, List.map_nil]; exact hb4 _ _) ?_
          try simp only [Act.put, List.setIfInBounds_toArray, List.set_cons_zero, List.set_cons_succ]
          refine wpList_buildTo rfl 38 _ rfl (some 136) rfl #[.int .i64 0, .int .i64 9, .int .i64 0, .int .i64 0, .int .i64 0, .bool false, .int .u32 0] (by kernel_rfl) ?_
          try simp only [Act.put, List.setIfInBounds_toArray, List.set_cons_zero, List.set_cons_succ]
          refine wpList_buildTo rfl 42 _ rfl (some 137) rfl #[.int .u8 0, .int .i64 0, .int .i64 9, .int .i64 0, .int .i64 0, .int .i64 0, .bool false, .int .u32 0, .string ⟨#[]⟩, .slice none 0 0, .int .i64 0, .slice none 0 0] (by simp only [List.map_toArray, List.map_cons, List.map_nil]; exact hb1 _ _ _ _ _ _ _ _) ?_
          try simp only [Act.put, List.setIfInBounds_toArray, List.set_cons_zero, List.set_cons_succ]
          refine wpList_buildFlatAt rfl 40 3 2 _ rfl .i64 [99, 99] wr.heap.size rfl (some 138) rfl Tryz.underlying40 (by kernel_rfl) (by kernel_rfl) rfl (by decide) (by decide) rfl ?_
          try simp only [Act.put, List.setIfInBounds_toArray, List.set_cons_zero, List.set_cons_succ]
          refine wpList_buildTo rfl 42 _ rfl (some 139) rfl #[.int .u8 5, .int .i64 0, .int .i64 0, .int .i64 0, .int .i64 0, .int .i64 0, .bool false, .int .u32 0, .string ⟨#[]⟩, .slice none 0 0, .int .i64 0, .slice (some ⟨wr.heap.size, 0, none⟩) 2 2] (by simp only [List.map_toArray, List.map_cons, List.map_nil]; exact hb5 _ _ _ _) ?_
          try simp only [Act.put, List.setIfInBounds_toArray, List.set_cons_zero, List.set_cons_succ]
          refine wpList_buildTo rfl 42 _ rfl (some 140) rfl #[.int .u8 4, .int .i64 0, .int .i64 0, .int .i64 0, .int .i64 0, .int .i64 0, .bool false, .int .u32 0, .string ⟨#[]⟩, .slice none 0 0, .int .i64 3, .slice none 0 0] (by simp only [List.map_toArray, List.map_cons, List.map_nil]; exact hb4 _ _) ?_
          try simp only [Act.put, List.setIfInBounds_toArray, List.set_cons_zero, List.set_cons_succ]
          refine wpList_buildTo rfl 38 _ rfl (some 141) rfl #[.int .i64 0, .int .i64 9, .int .i64 0, .int .i64 0, .int .i64 0, .bool false, .int .u32 0] (by kernel_rfl) ?_
          try simp only [Act.put, List.setIfInBounds_toArray, List.set_cons_zero, List.set_cons_succ]
          refine wpList_buildTo rfl 42 _ rfl (some 142) rfl #[.int .u8 0, .int .i64 0, .int .i64 9, .int .i64 0, .int .i64 0, .int .i64 0, .bool false, .int .u32 0, .string ⟨#[]⟩, .slice none 0 0, .int .i64 0, .slice none 0 0] (by simp only [List.map_toArray, List.map_cons, List.map_nil]; exact hb1 _ _ _ _ _ _ _ _) ?_
          try simp only [Act.put, List.setIfInBounds_toArray, List.set_cons_zero, List.set_cons_succ]
          refine wpList_buildTo rfl 38 _ rfl (some 143) rfl #[.int .i64 0, .int .i64 0, .int .i64 0, .int .i64 0, .int .i64 0, .bool true, .int .u32 0] (by kernel_rfl) ?_
          try simp only [Act.put, List.setIfInBounds_toArray, List.set_cons_zero, List.set_cons_succ]
          refine wpList_buildTo rfl 42 _ rfl (some 144) rfl #[.int .u8 5, .int .i64 0, .int .i64 0, .int .i64 0, .int .i64 0, .int .i64 0, .bool true, .int .u32 0, .string ⟨#[]⟩, .slice none 0 0, .int .i64 1, .slice none 0 0] (by simp only [List.map_toArray, List.map_cons, List.map_nil]; exact hb41 _ _ _ _ _ _ _ _ _) ?_
          try simp only [Act.put, List.setIfInBounds_toArray, List.set_cons_zero, List.set_cons_succ]
          refine wpList_buildTo rfl 38 _ rfl (some 145) rfl #[.int .i64 0, .int .i64 0, .int .i64 0, .int .i64 0, .int .i64 0, .bool true, .int .u32 0] (by kernel_rfl) ?_
          try simp only [Act.put, List.setIfInBounds_toArray, List.set_cons_zero, List.set_cons_succ]
          refine wpList_buildTo rfl 42 _ rfl (some 146) rfl #[.int .u8 5, .int .i64 0, .int .i64 0, .int .i64 0, .int .i64 0, .int .i64 0, .bool true, .int .u32 0, .string ⟨#[]⟩, .slice none 0 0, .int .i64 0, .slice none 0 0] (by simp only [List.map_toArray, List.map_cons, List.map_nil]; exact hb41 _ _ _ _ _ _ _ _ _) ?_
          try simp only [Act.put, List.setIfInBounds_toArray, List.set_cons_zero, List.set_cons_succ]
          refine wpList_buildTo rfl 42 _ rfl (some 147) rfl #[.int .u8 5, .int .i64 0, .int .i64 0, .int .i64 0, .int .i64 0, .int .i64 0, .bool false, .int .u32 0, .string ⟨#[]⟩, .slice none 0 0, .int .i64 0, .slice none 0 0] (by simp only [List.map_toArray, List.map_cons, List.map_nil]; exact hb0 _) ?_
          try simp only [Act.put, List.setIfInBounds_toArray, List.set_cons_zero, List.set_cons_succ]
          refine wpList_buildTo rfl 42 _ rfl (some 148) rfl #[.int .u8 7, .int .i64 0, .int .i64 0, .int .i64 0, .int .i64 0, .int .i64 0, .bool false, .int .u32 0, .string ⟨#[109, 102, 46, 116, 109, 112]⟩, .slice none 0 0, .int .i64 0, .slice none 0 0] (by simp only [List.map_toArray, List.map_cons, List.map_nil]; exact hb2 _ _) ?_
          try simp only [Act.put, List.setIfInBounds_toArray, List.set_cons_zero, List.set_cons_succ]
          refine wpList_buildTo rfl 42 _ rfl (some 149) rfl #[.int .u8 6, .int .i64 0, .int .i64 0, .int .i64 0, .int .i64 0, .int .i64 0, .bool false, .int .u32 0, .string ⟨#[]⟩, .slice none 0 0, .int .i64 0, .slice none 0 0] (by simp only [List.map_toArray, List.map_cons, List.map_nil]; exact hb0 _) ?_
          try simp only [Act.put, List.setIfInBounds_toArray, List.set_cons_zero, List.set_cons_succ]
          refine wpList_buildTo rfl 38 _ rfl (some 150) rfl #[.int .i64 0, .int .i64 2, .int .i64 3, .int .i64 0, .int .i64 0, .bool true, .int .u32 0] (by kernel_rfl) ?_
          try simp only [Act.put, List.setIfInBounds_toArray, List.set_cons_zero, List.set_cons_succ]
          refine wpList_buildTo rfl 42 _ rfl (some 151) rfl #[.int .u8 0, .int .i64 0, .int .i64 2, .int .i64 3, .int .i64 0, .int .i64 0, .bool true, .int .u32 0, .string ⟨#[]⟩, .slice none 0 0, .int .i64 0, .slice none 0 0] (by simp only [List.map_toArray, List.map_cons, List.map_nil]; exact hb1 _ _ _ _ _ _ _ _) ?_
          try simp only [Act.put, List.setIfInBounds_toArray, List.set_cons_zero, List.set_cons_succ]
          refine Great.wpList_buildRows rfl 22 42 _ 12 ((knL T (.slice A 50 c) (.slice (some ⟨wr.heap.size, 0, none⟩) 2 2)).map fun x => Value.agg (cvCells x).toArray) rfl (fun i => ([120, 122, 124, 126, 128, 129, 131, 133, 134, 135, 137, 139, 140, 142, 144, 146, 147, 148, 149, 151] : List Nat).getD i 0) (wr.heap.size + 1) (by simp) (some 152) rfl Tryz.underlying22 infoCall (by kernel_rfl) (by decide) (by rw [List.length_map, knL_len]; decide) (by rw [List.length_map, knL_len]; decide) rfl (fun v hv => by obtain ⟨x, _, rfl⟩ := List.mem_map.1 hv; rfl) (fun i hi => by
            match i, hi with
            | 0, _ => rfl
            | 1, _ => rfl
            | 2, _ => rfl
            | 3, _ => rfl
            | 4, _ => rfl
            | 5, _ => rfl
            | 6, _ => rfl
            | 7, _ => rfl
            | 8, _ => rfl
            | 9, _ => rfl
            | 10, _ => rfl
            | 11, _ => rfl
            | 12, _ => rfl
            | 13, _ => rfl
            | 14, _ => rfl
            | 15, _ => rfl
            | 16, _ => rfl
            | 17, _ => rfl
            | 18, _ => rfl
            | 19, _ => rfl
            | n + 20, h => exact absurd h (by rw [List.length_map, knL_len]; omega)) ?_
          rw [flat12_map, show ((knL T (.slice A 50 c) (.slice (some ⟨wr.heap.size, 0, none⟩) 2 2)).map fun x => Value.agg (cvCells x).toArray).length = 20 from rfl]
          try simp only [Act.put, List.setIfInBounds_toArray, List.set_cons_zero, List.set_cons_succ]
          have hba : Below wr.heap.size wr (wr.alloc (.cells (([99, 99] : List Int).map (Value.int .i64)).toArray 3)) := (Below.refl _ _).alloc (Nat.le_refl _) _
          have hkI := Blk.new wr 3 (([99, 99] : List Int).map (Value.int .i64)).toArray
          obtain ⟨wi, hwi⟩ : ∃ wi, wr.alloc (.cells (([99, 99] : List Int).map (Value.int .i64)).toArray 3) = wi := ⟨_, rfl⟩
          have hwis : wi.heap.size = wr.heap.size + 1 := by rw [← hwi]; simp
          rw [hwi] at hba hkI ⊢
          obtain ⟨gk, hgk⟩ : ∃ gk, wr.heap.size = gk := ⟨_, rfl⟩
          rw [hgk] at hkI hwis ⊢
          have hbc : Below wi.heap.size wi (wi.alloc (.cells ((knL T (.slice A 50 c) (.slice (some ⟨gk, 0, none⟩) 2 2)).flatMap cvCells).toArray 42)) := (Below.refl _ _).alloc (Nat.le_refl _) _
          have hkC := Blk.new wi 42 ((knL T (.slice A 50 c) (.slice (some ⟨gk, 0, none⟩) 2 2)).flatMap cvCells).toArray
          have hkn4 := HKN.out.step (hba.trans (hbc.mono (by rw [hwis, ← hgk]; omega)))
          have hkI4 := hkI.below hbc hkI.lt
          obtain ⟨w4, hw4⟩ : ∃ w4, wi.alloc (.cells ((knL T (.slice A 50 c) (.slice (some ⟨gk, 0, none⟩) 2 2)).flatMap cvCells).toArray 42) = w4 := ⟨_, rfl⟩
          rw [hw4] at hkC hkn4 hkI4 ⊢
          rw [hwis] at hkC
          have hrdk : Rd w4 1 (some ⟨gk, 0, none⟩) 2 [.int .i64 99, .int .i64 99] := ⟨rfl, fun _ => ⟨_, rfl, hkI4.lt, fun j u hu => by rw [addr_add, Nat.zero_add, hkI4.cell]; simpa using hu⟩⟩
          have hbx : BtR w4 (.slice A T.size c) T := by rw [HTS.out]; exact hkn4.bt
          have hca := calls_at hkC (knL_ok ⟨A, c, by rw [HTS.out], hbx⟩ ⟨_, 2, rfl, hrdk⟩)
          obtain ⟨cl, hcl⟩ : ∃ cl, (knL T (.slice A 50 c) (.slice (some ⟨gk, 0, none⟩) 2 2)).map (·.1) = cl := ⟨_, rfl⟩
          have hcl20 : cl.length = 20 := by rw [← hcl, List.length_map]; rfl
          rw [hcl] at hca
          have hpl : ∀ (W : World) (q : Int), Below w4.heap.size w4 W → Calls Tryz.prog 3 #[.int .i64 q, .slice (some ⟨gk + 1, 0, none⟩) 20 20] W fun e w' => e = .returned (.bool true) ∧ Below W.heap.size W w' := fun W q hW => by
            have h := plays_any W q (some ⟨gk + 1, 0, none⟩) 20 cl (hca.below hW) (HT.out W (hkn4.step hW).below)
            rw [hcl20] at h
            exact h
          have hkp : ∀ (W : World) (A2 : Option Addr), Below w4.heap.size w4 W → Rd W 1 A2 9 (([-1, 0, 1, 2, 3, 0, 2, 3, 1] : List Int).map (Value.int .i64)) → Calls Tryz.prog 27 #[.slice (some ⟨gk + 1, 0, none⟩) 20 20, .slice A2 9 9] W fun e w' => e = .returned (.bool true) ∧ Below W.heap.size W w' := fun W A2 hW hI => by
            have h := keeps_any W (some ⟨gk + 1, 0, none⟩) 20 cl (hca.below hW) A2 9 [-1, 0, 1, 2, 3, 0, 2, 3, 1] hI kn_in (HT.out W (hkn4.step hW).below)
            rw [hcl20] at h
            exact h
          have HPL := Lib.hid hpl; have HKP := Lib.hid hkp; have HKN4 := Lib.hid hkn4
          clear hpl hkp hkn4 hca hcl hcl20 hrdk hbx hkC hkI4 hkI hba hbc hw4 hwi hwis hgk HKN
          go_wp2_with fail
          refine (HPL.out _ 1000 (Below.refl _ _)).mono ?_
          rintro e w5 ⟨rfl, hb5⟩
          have HB5 := Lib.hid hb5
          clear hb5
          go_wp2_with fail
          refine (HPL.out _ 110 HB5.out).mono ?_
          rintro e w6 ⟨rfl, hb6⟩
          have HB6 := Lib.hid (HB5.out.trans (hb6.mono HB5.out.size))
          clear hb6 HB5
          go_wp2_with fail
          refine (HPL.out _ 40 HB6.out).mono ?_
          rintro e w7 ⟨rfl, hb7⟩
          have HB7 := Lib.hid (HB6.out.trans (hb7.mono HB6.out.size))
          clear hb7 HB6
          go_wp2_with (refine wpList_buildFlatG (by kernel_rfl) 40 3 9 _ rfl .i64 [-1, 0, 1, 2, 3, 0, 2, 3, 1] w7.heap.size rfl (some 168) rfl Tryz.underlying40 (by kernel_rfl) (by kernel_rfl) rfl (by decide) (by decide) rfl ?_)
          have hbk : Below w7.heap.size w7 (w7.alloc (.cells (([-1, 0, 1, 2, 3, 0, 2, 3, 1] : List Int).map (Value.int .i64)).toArray 3)) := (Below.refl _ _).alloc (Nat.le_refl _) _
          have hk9 := Blk.new w7 3 (([-1, 0, 1, 2, 3, 0, 2, 3, 1] : List Int).map (Value.int .i64)).toArray
          have HB8 := Lib.hid (HB7.out.trans (hbk.mono HB7.out.size))
          refine (HKP.out _ _ HB8.out ⟨rfl, fun _ => ⟨_, rfl, hk9.lt, fun j u hu => by rw [addr_add, Nat.zero_add, hk9.cell]; simpa using hu⟩⟩).mono ?_
          rintro e w9 ⟨rfl, hb9⟩
          have HB9 := Lib.hid (HB8.out.trans (hb9.mono HB8.out.size))
          clear hb9 hbk hk9 HB8 HB7
          go_wp2_with fail
          refine (works_any w9 (HT.out _ (HKN4.out.step HB9.out).below)).mono ?_
          rintro e w10 ⟨rfl, hb10⟩
          have HB10 := Lib.hid ((HKN4.out.step (HB9.out.trans (hb10.mono HB9.out.size))).below)
          clear hb10
          go_wp2
          go_ret
          exact ⟨rfl, HB10.out⟩
        | succ gf =>
          have hi9 : i < 9 := by omega
          have hiI : (i : Int) < (9 : Int) := by omega
          obtain ⟨m, hm⟩ : ∃ m, knZ[i]? = some m := ⟨_, List.getElem?_eq_getElem (show i < knZ.length from hi9)⟩
          obtain ⟨bz, oz, hez, hltz, hcz⟩ := id hmz (by decide)
          injection hez with hez
          injection hez with h1 h2 _
          subst h1 h2
          obtain ⟨hok, hc⟩ := hcz i m hm
          have c0 := hc 0 (by decide); have c1 := hc 1 (by decide); have c2 := hc 2 (by decide); have c3 := hc 3 (by decide); have c4 := hc 4 (by decide); have c5 := hc 5 (by decide); have c6 := hc 6 (by decide)
          simp only [mCells, List.getElem?_toArray, List.getElem?_cons_zero, List.getElem?_cons_succ, Nat.add_zero, Nat.zero_add] at c0 c1 c2 c3 c4 c5 c6
          have h7 : mCells m = #[.int .i64 m.n, .int .i64 m.epoch, .int .i64 m.step, .int .i64 m.sum, .int .i64 m.most, .bool m.done, .int .u32 m.job] := rfl
          have hk5 := Blk.new wr 38 #[.int .i64 0, .int .i64 0, .int .i64 0, .int .i64 0, .int .i64 0, .bool false, .int .u32 0]
          have hk6 := hk5.setRow #[.int .i64 m.n, .int .i64 m.epoch, .int .i64 m.step, .int .i64 m.sum, .int .i64 m.most, .bool m.done, .int .u32 m.job]
          have hb6 := below_row ((Below.refl wr.heap.size wr).alloc (Nat.le_refl _) (.cells #[.int .i64 0, .int .i64 0, .int .i64 0, .int .i64 0, .int .i64 0, .bool false, .int .u32 0] 38)) (Nat.le_refl _) #[.int .i64 m.n, .int .i64 m.epoch, .int .i64 m.step, .int .i64 m.sum, .int .i64 m.most, .bool m.done, .int .u32 m.job]
          have hone := mCells_oneA m
          have hpn := fun W => plain_any m W
          have hrb := fun W => rfBytes_any m hok W
          rw [h7] at hone
          simp only [h7] at hpn hrb
          have HK5 := Lib.hid hk5; have HK6 := Lib.hid hk6; have HONE := Lib.hid hone; have HPN := Lib.hid hpn; have HRB := Lib.hid hrb; have HKN := Lib.hid (hkn.step hb6); have HMZ := Lib.hid (hmz.below hb6); have HOK := Lib.hid hok
          clear hk5 hk6 hone hpn hrb hkn hmz hb6 hcz hc hm hok h7
          go_upto_region 20 with (first | (refine wpList_store_row rfl 38 (.tmp 15) (.tmp 103) rfl wr.heap.size #[.int .i64 m.n, .int .i64 m.epoch, .int .i64 m.step, .int .i64 m.sum, .int .i64 m.most, .bool m.done, .int .u32 m.job] rfl rfl 38 _ HK5.out infoMf rfl HONE.out ?_))
          clear c0 c1 c2 c3 c4 c5 c6
          obtain ⟨w6, hw6⟩ : ∃ w6, (wr.alloc (.cells #[.int .i64 0, .int .i64 0, .int .i64 0, .int .i64 0, .int .i64 0, .bool false, .int .u32 0] 38)).setRow wr.heap.size #[.int .i64 m.n, .int .i64 m.epoch, .int .i64 m.step, .int .i64 m.sum, .int .i64 m.most, .bool m.done, .int .u32 m.job] = w6 := ⟨_, rfl⟩
          obtain ⟨g6, hg6⟩ : ∃ g6, wr.heap.size = g6 := ⟨_, rfl⟩
          rw [hw6] at HK6 HKN HMZ ⊢
          rw [hg6] at HK6 ⊢
          clear hw6 hg6 HK5 HONE
          have hcl : ∀ wx, Below w6.heap.size w6 wx → wx.cell? ⟨g6, 0, none⟩ = some (.int .i64 m.n) ∧ wx.cell? ⟨g6, 1, none⟩ = some (.int .i64 m.epoch) ∧ wx.cell? ⟨g6, 2, none⟩ = some (.int .i64 m.step) ∧ wx.cell? ⟨g6, 3, none⟩ = some (.int .i64 m.sum) ∧ wx.cell? ⟨g6, 4, none⟩ = some (.int .i64 m.most) ∧ wx.cell? ⟨g6, 5, none⟩ = some (.bool m.done) ∧ wx.cell? ⟨g6, 6, none⟩ = some (.int .u32 m.job) := fun wx hx => man7 (HK6.out.below hx HK6.out.lt)
          have hlb : ∀ (wx : World) (Ab : Option Addr) (cb : Nat), Below w6.heap.size w6 wx → Bt wx (.slice Ab m.bytes.size cb) m.bytes → Calls Tryz.prog 25 #[.agg #[.int .i64 m.n, .int .i64 m.epoch, .int .i64 m.step, .int .i64 m.sum, .int .i64 m.most, .bool m.done, .int .u32 m.job], .slice Ab m.bytes.size cb] wx fun e w' => e = .returned (.bool true) ∧ Below wx.heap.size wx w' := fun wx Ab cb hx hbt =>
            law_bytes wx m HOK.out Ab cb m.bytes hbt.btr (by rw [m.bytes_size]; decide) (HT.out wx (HKN.out.step hx).below)
          have hlk : ∀ (wx : World) (Ab : Option Addr) (cb : Nat), Below w6.heap.size w6 wx → Bt wx (.slice Ab m.bytes.size cb) m.bytes → Calls Tryz.prog 26 #[.agg #[.int .i64 m.n, .int .i64 m.epoch, .int .i64 m.step, .int .i64 m.sum, .int .i64 m.most, .bool m.done, .int .u32 m.job], .slice Ab m.bytes.size cb] wx fun e w' => e = .returned (.bool true) ∧ Below wx.heap.size wx w' := fun wx Ab cb hx hbt =>
            law_back wx m HOK.out Ab cb m.bytes hbt.btr (by rw [m.bytes_size]; decide) (HT.out wx (HKN.out.step hx).below)
          have HCL := Lib.hid hcl; have HLB := Lib.hid hlb; have HLK := Lib.hid hlk
          clear hcl hlb hlk
          refine wp_region_noPanic ?_
          refine wp_region_held_drew (S := (fun wx => wx.cell? ⟨g6, 0, none⟩ = some (.int .i64 m.n) ∧ wx.cell? ⟨g6, 1, none⟩ = some (.int .i64 m.epoch) ∧ wx.cell? ⟨g6, 2, none⟩ = some (.int .i64 m.step) ∧ wx.cell? ⟨g6, 3, none⟩ = some (.int .i64 m.sum) ∧ wx.cell? ⟨g6, 4, none⟩ = some (.int .i64 m.most) ∧ wx.cell? ⟨g6, 5, none⟩ = some (.bool m.done) ∧ wx.cell? ⟨g6, 6, none⟩ = some (.int .u32 m.job))) (by kernel_rfl) ?_ (fun hHeld => ?_)
          · exact HCL.out _ (below_drewN (Below.refl _ _) 1)
          refine wpT (i := 0) (v := ?v0g2_) rfl (Or.inl ⟨by rfl, ?y0g2_⟩) (by assumption) ?r0g2_
          case y0g2_ => (intro w hSw; (try dsimp only at hSw); go_simp; try with_reducible rfl)
          change wpAnyH _ _ _ _ _ _ _ (Act.put _ (some 104) _) _; simp only [Act.put, List.setIfInBounds_toArray, List.set_cons_zero, List.set_cons_succ]
          refine wpT (i := 1) (v := ?v1g2_) rfl (Or.inl ⟨by rfl, ?y1g2_⟩) (by assumption) ?r1g2_
          case y1g2_ => (intro w hSw; (try dsimp only at hSw); go_simp; try with_reducible rfl)
          change wpAnyH _ _ _ _ _ _ _ (Act.put _ (some 105) _) _; simp only [Act.put, List.setIfInBounds_toArray, List.set_cons_zero, List.set_cons_succ]
          refine wpAnyH_ready (rs := [2]) (by kernel_rfl) (by simp) ?_
          refine AllReadyH.cons rfl (fun K hK => ?_) AllReadyH.nil
          go_simp
          refine (HPN.out _).mono ?_
          rintro e w11 ⟨rfl, hb11⟩
          have HB11 := Lib.hid (show Below w6.heap.size w6 w11 from undrew hb11)
          clear hb11
          dsimp only
          refine hK.out _ _ ?_ (fun hHeld => ?_)
          · exact HCL.out _ HB11.out
          clear hK K
          try simp only [Act.put, List.setIfInBounds_toArray, List.set_cons_zero, List.set_cons_succ]
          refine wpAnyH_ready (rs := [3]) (by kernel_rfl) (by simp) ?_
          refine AllReadyH.cons rfl (fun K hK => ?_) AllReadyH.nil
          go_simp
          refine (HRB.out _).mono ?_
          rintro e w12 ⟨v12, rfl, hbt12, -, hb12⟩
          have HB12 := Lib.hid (HB11.out.trans (hb12.mono HB11.out.size)); have HBT12 := Lib.hid hbt12; obtain ⟨A12, c12, rfl, -, -⟩ := id hbt12
          clear hb12 hbt12
          dsimp only
          refine hK.out _ _ ?_ (fun hHeld => ?_)
          · exact HCL.out _ HB12.out
          clear hK K
          try simp only [Act.put, List.setIfInBounds_toArray, List.set_cons_zero, List.set_cons_succ]
          refine wpAnyH_ready (rs := [4]) (by kernel_rfl) (by simp) ?_
          refine AllReadyH.cons rfl (fun K hK => ?_) AllReadyH.nil
          go_simp
          refine (HLB.out _ _ _ HB12.out HBT12.out).mono ?_
          rintro e w13 ⟨rfl, hb13⟩
          have HB13 := Lib.hid (HB12.out.trans (hb13.mono HB12.out.size))
          clear hb13
          dsimp only
          refine hK.out _ _ ?_ (fun hHeld => ?_)
          · exact HCL.out _ HB13.out
          clear hK K
          try simp only [Act.put, List.setIfInBounds_toArray, List.set_cons_zero, List.set_cons_succ]
          refine wpT (i := 5) (v := ?v5g2_) rfl (Or.inl ⟨by rfl, ?y5g2_⟩) (by assumption) ?r5g2_
          case y5g2_ => (intro w hSw; (try dsimp only at hSw); go_simp; try with_reducible rfl)
          change wpAnyH _ _ _ _ _ _ _ (Act.put _ (some 109) _) _; simp only [Act.put, List.setIfInBounds_toArray, List.set_cons_zero, List.set_cons_succ]
          refine wpT (i := 6) (v := ?v6g2_) rfl (Or.inl ⟨by rfl, ?y6g2_⟩) (by assumption) ?r6g2_
          case y6g2_ => (intro w hSw; (try dsimp only at hSw); go_simp; try with_reducible rfl)
          change wpAnyH _ _ _ _ _ _ _ (Act.put _ (some 110) _) _; simp only [Act.put, List.setIfInBounds_toArray, List.set_cons_zero, List.set_cons_succ]
          refine wpT (i := 7) (v := ?v7g2_) rfl (Or.inl ⟨by rfl, ?y7g2_⟩) (by assumption) ?r7g2_
          case y7g2_ => (intro w hSw; (try dsimp only at hSw); go_simp; try with_reducible rfl)
          change wpAnyH _ _ _ _ _ _ _ (Act.put _ (some 111) _) _; simp only [Act.put, List.setIfInBounds_toArray, List.set_cons_zero, List.set_cons_succ]
          refine wpT (i := 8) (v := ?v8g2_) rfl (Or.inl ⟨by rfl, ?y8g2_⟩) (by assumption) ?r8g2_
          case y8g2_ => (intro w hSw; (try dsimp only at hSw); go_simp; try with_reducible rfl)
          change wpAnyH _ _ _ _ _ _ _ (Act.put _ (some 112) _) _; simp only [Act.put, List.setIfInBounds_toArray, List.set_cons_zero, List.set_cons_succ]
          refine wpAnyH_ready (rs := [9]) (by kernel_rfl) (by simp) ?_
          refine AllReadyH.cons rfl (fun K hK => ?_) AllReadyH.nil
          go_simp
          refine (HPN.out _).mono ?_
          rintro e w18 ⟨rfl, hb18⟩
          have HB18 := Lib.hid (HB13.out.trans (hb18.mono HB13.out.size))
          clear hb18
          dsimp only
          refine hK.out _ _ ?_ (fun hHeld => ?_)
          · exact HCL.out _ HB18.out
          clear hK K
          try simp only [Act.put, List.setIfInBounds_toArray, List.set_cons_zero, List.set_cons_succ]
          refine wpAnyH_ready (rs := [10]) (by kernel_rfl) (by simp) ?_
          refine AllReadyH.cons rfl (fun K hK => ?_) AllReadyH.nil
          go_simp
          refine (HRB.out _).mono ?_
          rintro e w19 ⟨v19, rfl, hbt19, -, hb19⟩
          have HB19 := Lib.hid (HB18.out.trans (hb19.mono HB18.out.size)); have HBT19 := Lib.hid hbt19; obtain ⟨A19, c19, rfl, -, -⟩ := id hbt19
          clear hb19 hbt19
          dsimp only
          refine hK.out _ _ ?_ (fun hHeld => ?_)
          · exact HCL.out _ HB19.out
          clear hK K
          try simp only [Act.put, List.setIfInBounds_toArray, List.set_cons_zero, List.set_cons_succ]
          refine wpAnyH_ready (rs := [11]) (by kernel_rfl) (by simp) ?_
          refine AllReadyH.cons rfl (fun K hK => ?_) AllReadyH.nil
          go_simp
          refine (HLK.out _ _ _ HB19.out HBT19.out).mono ?_
          rintro e w20 ⟨rfl, hb20⟩
          have HB20 := Lib.hid (HB19.out.trans (hb20.mono HB19.out.size))
          clear hb20
          dsimp only
          refine hK.out _ _ ?_ (fun hHeld => ?_)
          · exact HCL.out _ HB20.out
          clear hK K
          try simp only [Act.put, List.setIfInBounds_toArray, List.set_cons_zero, List.set_cons_succ]
          refine wpT (i := 12) (v := ?v12g2_) rfl (Or.inl ⟨by rfl, ?y12g2_⟩) (by assumption) ?r12g2_
          case y12g2_ => (intro w hSw; (try dsimp only at hSw); go_simp; try with_reducible rfl)
          change wpAnyH _ _ _ _ _ _ _ (Act.put _ (some 116) _) _; simp only [Act.put, List.setIfInBounds_toArray, List.set_cons_zero, List.set_cons_succ]
          refine wpT (i := 13) (v := ?v13g2_) rfl (Or.inl ⟨by rfl, ?y13g2_⟩) (by assumption) ?r13g2_
          case y13g2_ => (intro w hSw; (try dsimp only at hSw); go_simp; try with_reducible rfl)
          change wpAnyH _ _ _ _ _ _ _ (Act.put _ (some 117) _) _; simp only [Act.put, List.setIfInBounds_toArray, List.set_cons_zero, List.set_cons_succ]
          refine wpAnyH_done (by kernel_rfl) ?_ _
          refine NoPanic.normal ?_
          go_wp2
          go_roundg gf
          case measure => omega
          case rel => exact ⟨i + 1, by go_num, by omega, HKN.out.step HB20.out, HMZ.out.below HB20.out⟩
    | succ gf =>
      have hi50 : i < 50 := by omega
      have hiI : (i : Int) < (50 : Int) := by omega
      obtain ⟨C, cap, b, hcv, hcell, hfz, hput⟩ := put_bytes T i (by rw [HTS.out]; exact hi50) wr
      have hcx : (convert 39 9 (.slice A 50 c)).run Tryz.prog wr = .ok (.string T) wr := hkn.bt.conv
      obtain ⟨hx0, hx1⟩ := xor2 b
      obtain ⟨x, hx⟩ : ∃ x, bits .xor .u8 b 2 = x := ⟨_, rfl⟩
      have hput := hput (bits .xor .u8 b 2) hx0 hx1
      rw [HTS.out] at hcv hput
      have HPUT := Lib.hid hput; have HKN := Lib.hid hkn
      clear hput hkn hx hx0 hx1
      have hcap : 50 ≤ cap := by
        obtain ⟨R, hRs, hRb⟩ := HPUT.out _ (Below.refl _ _)
        obtain ⟨_, c2, e, hc2, _⟩ := hRb
        injection e with _ _ e
        omega
      have hsl : ∀ W : World, (Instr.sliceAt 39 (.slice A 50 c) none (some (.int .i64 (i : Int))) none).run Tryz.prog W = .ok (.slice A i c) W := fun W => by
        obtain ⟨i0, hi0, -, -, -⟩ := parts infoU
        exact run_upto Tryz.underlying39 hi0 A 50 c i (by omega) W
      go_upto_region 15 with (fail)
      obtain ⟨wy, hwy⟩ : ∃ wy, ((wr.alloc (.cells C 5 (C.size, C.size + 1))).setCell ⟨wr.heap.size, i, none⟩ (.int .u8 (bits .xor .u8 b 2))).drew = wy := ⟨_, rfl⟩
      have hby : Below wr.heap.size wr wy := by rw [← hwy]; exact (((Below.refl wr.heap.size wr).alloc (Nat.le_refl _) _).setCell (p := ⟨wr.heap.size, i, none⟩) (Nat.le_refl _) _).drew
      obtain ⟨R, hRs, hRb⟩ := HPUT.out wy (by rw [← hwy]; exact (Below.refl _ _).drew)
      rw [hwy]
      have HKY := Lib.hid (HKN.out.step hby)
      have hc1 : ∀ wx, Below wy.heap.size wy wx → Calls Tryz.prog 25 #[.agg #[.int .i64 7, .int .i64 3, .int .i64 5, .int .i64 (-9), .int .i64 1099511627776, .bool true, .int .u32 2147483648], .slice (some ⟨wr.heap.size, 0, none⟩) 50 cap] wx fun e w' => e = .returned (.bool true) ∧ Below wx.heap.size wx w' := fun wx hx => by
        have h := law_bytes wx m7 m7_ok _ cap R (hRb.below hx) (by rw [hRs]; decide) (HT.out wx (HKY.out.step hx).below)
        rw [hRs] at h
        exact h
      have hc2 : ∀ wx, Below wy.heap.size wy wx → Calls Tryz.prog 25 #[.agg #[.int .i64 7, .int .i64 3, .int .i64 5, .int .i64 (-9), .int .i64 1099511627776, .bool true, .int .u32 2147483648], .slice A i c] wx fun e w' => e = .returned (.bool true) ∧ Below wx.heap.size wx w' := fun wx hx => by
        have hp := btr_take (HKY.out.step hx).bt HTS.out i (by omega)
        have h := law_bytes wx m7 m7_ok A c (T.extract 0 i) hp.1 (by rw [hp.2]; omega) (HT.out wx (HKY.out.step hx).below)
        rw [hp.2] at h
        exact h
      have hc3 : ∀ wx, Below wy.heap.size wy wx → Calls Tryz.prog 26 #[.agg #[.int .i64 7, .int .i64 3, .int .i64 5, .int .i64 (-9), .int .i64 1099511627776, .bool true, .int .u32 2147483648], .slice (some ⟨wr.heap.size, 0, none⟩) 50 cap] wx fun e w' => e = .returned (.bool true) ∧ Below wx.heap.size wx w' := fun wx hx => by
        have h := law_back wx m7 m7_ok _ cap R (hRb.below hx) (by rw [hRs]; decide) (HT.out wx (HKY.out.step hx).below)
        rw [hRs] at h
        exact h
      have hcl : ∀ wx, Below wy.heap.size wy wx → wx.cell? ⟨g, 0, none⟩ = some (.int .i64 7) ∧ wx.cell? ⟨g, 1, none⟩ = some (.int .i64 3) ∧ wx.cell? ⟨g, 2, none⟩ = some (.int .i64 5) ∧ wx.cell? ⟨g, 3, none⟩ = some (.int .i64 (-9)) ∧ wx.cell? ⟨g, 4, none⟩ = some (.int .i64 1099511627776) ∧ wx.cell? ⟨g, 5, none⟩ = some (.bool true) ∧ wx.cell? ⟨g, 6, none⟩ = some (.int .u32 2147483648) := fun wx hx => (HKY.out.step hx).cells
      have HC1 := Lib.hid hc1; have HC2 := Lib.hid hc2; have HC3 := Lib.hid hc3; have HCL := Lib.hid hcl
      clear hc1 hc2 hc3 hcl hRb hRs hwy hby hcv hcell hfz hcx hcap HPUT HKN
      refine wp_region_noPanic ?_
      refine wp_region_held_drew (S := (fun wx => wx.cell? ⟨g, 0, none⟩ = some (.int .i64 7) ∧ wx.cell? ⟨g, 1, none⟩ = some (.int .i64 3) ∧ wx.cell? ⟨g, 2, none⟩ = some (.int .i64 5) ∧ wx.cell? ⟨g, 3, none⟩ = some (.int .i64 (-9)) ∧ wx.cell? ⟨g, 4, none⟩ = some (.int .i64 1099511627776) ∧ wx.cell? ⟨g, 5, none⟩ = some (.bool true) ∧ wx.cell? ⟨g, 6, none⟩ = some (.int .u32 2147483648))) (by kernel_rfl) ?_ (fun hHeld => ?_)
      · exact HCL.out _ (below_drewN (Below.refl _ _) 1)
      refine wpT (i := 0) (v := ?v0g1_) rfl (Or.inl ⟨by rfl, ?y0g1_⟩) (by assumption) ?r0g1_
      case y0g1_ => (intro w hSw; (try dsimp only at hSw); go_simp; try with_reducible rfl)
      change wpAnyH _ _ _ _ _ _ _ (Act.put _ (some 71) _) _; simp only [Act.put, List.setIfInBounds_toArray, List.set_cons_zero, List.set_cons_succ]
      refine wpT (i := 1) (v := ?v1g1_) rfl (Or.inl ⟨by rfl, ?y1g1_⟩) (by assumption) ?r1g1_
      case y1g1_ => (intro w hSw; (try dsimp only at hSw); go_simp; try with_reducible rfl)
      change wpAnyH _ _ _ _ _ _ _ (Act.put _ (some 72) _) _; simp only [Act.put, List.setIfInBounds_toArray, List.set_cons_zero, List.set_cons_succ]
      refine wpAnyH_ready (rs := [2]) (by kernel_rfl) (by simp) ?_
      refine AllReadyH.cons rfl (fun K hK => ?_) AllReadyH.nil
      go_simp
      refine (HC1.out _ (below_drewN (Below.refl _ _) 1)).mono ?_
      rintro e w13 ⟨rfl, hb13⟩
      have HB13 := Lib.hid (show Below wy.heap.size wy w13 from undrew hb13)
      clear hb13
      dsimp only
      refine hK.out _ _ ?_ (fun hHeld => ?_)
      · exact HCL.out _ HB13.out
      clear hK K
      try simp only [Act.put, List.setIfInBounds_toArray, List.set_cons_zero, List.set_cons_succ]
      refine wpT (i := 3) (v := ?v3g1_) rfl (Or.inl ⟨by rfl, ?y3g1_⟩) (by assumption) ?r3g1_
      case y3g1_ => (intro w hSw; (try dsimp only at hSw); go_simp; try with_reducible rfl)
      change wpAnyH _ _ _ _ _ _ _ (Act.put _ (some 74) _) _; simp only [Act.put, List.setIfInBounds_toArray, List.set_cons_zero, List.set_cons_succ]
      refine wpT (i := 4) (v := ?v4g1_) rfl (Or.inl ⟨by rfl, ?y4g1_⟩) (by assumption) ?r4g1_
      case y4g1_ => (intro w hSw; (try dsimp only at hSw); go_simp; try with_reducible rfl)
      change wpAnyH _ _ _ _ _ _ _ (Act.put _ (some 75) _) _; simp only [Act.put, List.setIfInBounds_toArray, List.set_cons_zero, List.set_cons_succ]
      refine wpT (i := 5) (v := ?v5g1_) rfl (Or.inl ⟨by rfl, ?y5g1_⟩) (by assumption) ?r5g1_
      case y5g1_ => (intro w hSw; (try dsimp only at hSw); go_simp; try with_reducible rfl)
      change wpAnyH _ _ _ _ _ _ _ (Act.put _ (some 76) _) _; simp only [Act.put, List.setIfInBounds_toArray, List.set_cons_zero, List.set_cons_succ]
      refine wpT (i := 6) (v := ?v6g1_) rfl (Or.inl ⟨by rfl, ?y6g1_⟩) (by assumption) ?r6g1_
      case y6g1_ => (intro w hSw; (try dsimp only at hSw); go_simp; try with_reducible rfl)
      change wpAnyH _ _ _ _ _ _ _ (Act.put _ (some 77) _) _; simp only [Act.put, List.setIfInBounds_toArray, List.set_cons_zero, List.set_cons_succ]
      refine wpT (i := 7) (v := ?v7g1_) rfl (Or.inl ⟨by rfl, ?y7g1_⟩) (by assumption) ?r7g1_
      case y7g1_ => (intro w hSw; (try dsimp only at hSw); go_simp; try with_reducible rfl)
      change wpAnyH _ _ _ _ _ _ _ (Act.put _ (some 78) _) _; simp only [Act.put, List.setIfInBounds_toArray, List.set_cons_zero, List.set_cons_succ]
      refine wpT (i := 8) (v := ?v8g1_) rfl (Or.inl ⟨by rfl, ?y8g1_⟩) (by assumption) ?r8g1_
      case y8g1_ => (intro w hSw; (try dsimp only at hSw); go_simp; try with_reducible rfl)
      change wpAnyH _ _ _ _ _ _ _ (Act.put _ (some 79) _) _; simp only [Act.put, List.setIfInBounds_toArray, List.set_cons_zero, List.set_cons_succ]
      refine wpAnyH_ready (rs := [9]) (by kernel_rfl) (by simp) ?_
      refine AllReadyH.cons rfl (fun K hK => ?_) AllReadyH.nil
      go_simp
      refine (HC2.out _ HB13.out).mono ?_
      rintro e w14 ⟨rfl, hb14⟩
      have HB14 := Lib.hid (HB13.out.trans (hb14.mono HB13.out.size))
      clear hb14
      dsimp only
      refine hK.out _ _ ?_ (fun hHeld => ?_)
      · exact HCL.out _ HB14.out
      clear hK K
      try simp only [Act.put, List.setIfInBounds_toArray, List.set_cons_zero, List.set_cons_succ]
      refine wpT (i := 10) (v := ?v10g1_) rfl (Or.inl ⟨by rfl, ?y10g1_⟩) (by assumption) ?r10g1_
      case y10g1_ => (intro w hSw; (try dsimp only at hSw); go_simp; try with_reducible rfl)
      change wpAnyH _ _ _ _ _ _ _ (Act.put _ (some 81) _) _; simp only [Act.put, List.setIfInBounds_toArray, List.set_cons_zero, List.set_cons_succ]
      refine wpT (i := 11) (v := ?v11g1_) rfl (Or.inl ⟨by rfl, ?y11g1_⟩) (by assumption) ?r11g1_
      case y11g1_ => (intro w hSw; (try dsimp only at hSw); go_simp; try with_reducible rfl)
      change wpAnyH _ _ _ _ _ _ _ (Act.put _ (some 82) _) _; simp only [Act.put, List.setIfInBounds_toArray, List.set_cons_zero, List.set_cons_succ]
      refine wpT (i := 12) (v := ?v12g1_) rfl (Or.inl ⟨by rfl, ?y12g1_⟩) (by assumption) ?r12g1_
      case y12g1_ => (intro w hSw; (try dsimp only at hSw); go_simp; try with_reducible rfl)
      change wpAnyH _ _ _ _ _ _ _ (Act.put _ (some 83) _) _; simp only [Act.put, List.setIfInBounds_toArray, List.set_cons_zero, List.set_cons_succ]
      refine wpT (i := 13) (v := ?v13g1_) rfl (Or.inl ⟨by rfl, ?y13g1_⟩) (by assumption) ?r13g1_
      case y13g1_ => (intro w hSw; (try dsimp only at hSw); go_simp; try with_reducible rfl)
      change wpAnyH _ _ _ _ _ _ _ (Act.put _ (some 84) _) _; simp only [Act.put, List.setIfInBounds_toArray, List.set_cons_zero, List.set_cons_succ]
      refine wpT (i := 14) (v := ?v14g1_) rfl (Or.inl ⟨by rfl, ?y14g1_⟩) (by assumption) ?r14g1_
      case y14g1_ => (intro w hSw; (try dsimp only at hSw); go_simp; try with_reducible rfl)
      change wpAnyH _ _ _ _ _ _ _ (Act.put _ (some 85) _) _; simp only [Act.put, List.setIfInBounds_toArray, List.set_cons_zero, List.set_cons_succ]
      refine wpAnyH_ready (rs := [15]) (by kernel_rfl) (by simp) ?_
      refine AllReadyH.cons rfl (fun K hK => ?_) AllReadyH.nil
      go_simp
      refine (HC3.out _ HB14.out).mono ?_
      rintro e w15 ⟨rfl, hb15⟩
      have HB15 := Lib.hid (HB14.out.trans (hb15.mono HB14.out.size))
      clear hb15
      dsimp only
      refine hK.out _ _ ?_ (fun hHeld => ?_)
      · exact HCL.out _ HB15.out
      clear hK K
      try simp only [Act.put, List.setIfInBounds_toArray, List.set_cons_zero, List.set_cons_succ]
      refine wpT (i := 16) (v := ?v16g1_) rfl (Or.inl ⟨by rfl, ?y16g1_⟩) (by assumption) ?r16g1_
      case y16g1_ => (intro w hSw; (try dsimp only at hSw); go_simp; try with_reducible rfl)
      change wpAnyH _ _ _ _ _ _ _ (Act.put _ (some 87) _) _; simp only [Act.put, List.setIfInBounds_toArray, List.set_cons_zero, List.set_cons_succ]
      refine wpT (i := 17) (v := ?v17g1_) rfl (Or.inl ⟨by rfl, ?y17g1_⟩) (by assumption) ?r17g1_
      case y17g1_ => (intro w hSw; (try dsimp only at hSw); go_simp; try with_reducible rfl)
      change wpAnyH _ _ _ _ _ _ _ (Act.put _ (some 88) _) _; simp only [Act.put, List.setIfInBounds_toArray, List.set_cons_zero, List.set_cons_succ]
      refine wpAnyH_done (by kernel_rfl) ?_ _
      refine NoPanic.normal ?_
      go_wp2
      go_roundg gf
      case measure => omega
      case rel => exact ⟨i + 1, by go_num, by omega, HKY.out.step HB15.out⟩
end Go.Proofs.YtlcgkcafelpglaaGreatDoor
