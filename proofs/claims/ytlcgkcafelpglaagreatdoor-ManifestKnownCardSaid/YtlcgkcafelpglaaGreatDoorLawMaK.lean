/- The law of manifests there and back: its walk. -/
import Derived.Test.YtlcgkcafelpglaaGreatDoorPk37
import Derived.Test.YtlcgkcafelpglaaGreatDoorPk41
import Derived.ArgAppend
namespace Go.Proofs.YtlcgkcafelpglaaGreatDoor
open Go.RowKit Go.Maps

theorem Tb.onK {w W : World} (h : Tb w.heap.size w) (hb : Below w.heap.size w W) : Tb W.heap.size W := fun w2 h2 => h w2 (hb.trans (h2.mono hb.size))
theorem below_of_grown {w w' : World} (h : w.grownBy w' none) : Below w.heap.size w w' := ⟨h.os, h.tape, h.output, h.size, fun i hi => h.block i hi (by simp)⟩
theorem ucells_snoc (s : ByteArray) : ucells (s ++ ⟨#[0]⟩) = ucells s ++ [.int .u8 0] := by
  unfold ucells
  rw [ByteArray.data_append, Array.toList_append, List.map_append]
  rfl
theorem man_struct : Tryz.prog.underlying 38 = some (.struct (Tryz.prog.fieldsOf 38)) := by kernel_rfl
theorem man_plain : Tryz.prog.stoodInHeld 38 = false := by kernel_rfl
set_option maxHeartbeats 2000000 in
theorem run_neq_man (m : ManM) (w : World) : (binOp .neq 38 (.agg #[.int .i64 m.n, .int .i64 m.epoch, .int .i64 m.step, .int .i64 m.sum, .int .i64 m.most, .bool m.done, .int .u32 m.job]) (.agg #[.int .i64 m.n, .int .i64 m.epoch, .int .i64 m.step, .int .i64 m.sum, .int .i64 m.most, .bool m.done, .int .u32 m.job])).run Tryz.prog w = .ok (.bool false) w := by
  rw [run_neq_struct, run_equalIn_agg _ _ _ _ _ man_struct man_plain]
  simp [go_sem]
set_option maxRecDepth 100000 in
set_option maxHeartbeats 16000000 in
theorem back_no (w : World) (m : ManM) (hm : m.Ok) (A : Option Addr) (c : Nat) (b : ByteArray) (h : BtR w (.slice A b.size c) b) (hb : b.size ≤ 500) (hT : Tb w.heap.size w) (hmay : m.may = false) :
    Calls Tryz.prog 26 #[.agg (mCells m), .slice A b.size c] w fun e w' => e = .returned (.bool true) ∧ Below w.heap.size w w' := by
  have hbI : ¬ (500 : Int) < (b.size : Int) := by omega
  have h7 : mCells m = #[.int .i64 m.n, .int .i64 m.epoch, .int .i64 m.step, .int .i64 m.sum, .int .i64 m.most, .bool m.done, .int .u32 m.job] := rfl
  have hb1 := (Below.refl w.heap.size w).alloc (Nat.le_refl _) (.cells (mCells m) 38)
  have hk1 := Blk.new w 38 (mCells m)
  have hput := mPut_no m hmay
  have hwk : ∀ W, Below w.heap.size w W → Calls Tryz.prog 6 #[] W fun e w' => e = .returned (.bool true) ∧ Below W.heap.size W w' := fun W hW => works_any W (hT.onK hW)
  have hgm : m.may = true → getM m.bytes = some m := fun hy => getM_bytes hm hy
  have h8 := mCells_oneA m
  rw [h7] at hb1 hk1 hput h8 ⊢
  have HB1 := Lib.hid hb1; have HK1 := Lib.hid hk1; have HPUT := Lib.hid hput; have HWK := Lib.hid hwk; have HA := Lib.hid h; have HGM := Lib.hid hgm; have HMAY := Lib.hid hmay; have H7 := Lib.hid h7; have H8 := Lib.hid h8
  have c0 := hk1.cell 0; have c1 := hk1.cell 1; have c2 := hk1.cell 2; have c3 := hk1.cell 3; have c4 := hk1.cell 4; have c5 := hk1.cell 5; have c6 := hk1.cell 6
  simp only [List.getElem?_toArray, List.getElem?_cons_zero, List.getElem?_cons_succ] at c0 c1 c2 c3 c4 c5 c6
  clear hb1 hk1 hput hwk h hT h7 hmay hgm h8
  go_enter Tryz.func26, Tryz.ntmps26
  go_wp2_with fail
  refine (HPUT.out _).mono ?_
  rintro e w2 ⟨rfl, hbx⟩
  have HBA := Lib.hid (HB1.out.trans (hbx.mono HB1.out.size))
  obtain ⟨wA, hwA⟩ : ∃ wA, wA = w2 := ⟨_, rfl⟩
  subst hwA
  clear hbx c0 c1 c2 c3 c4 c5 c6 HPUT HB1 HK1
  have har := HA.out.below HBA.out
  have hgt := mGet_any wA _ b har (by omega)
  have HGT := Lib.hid hgt
  clear hgt har
  go_wp2_with fail
  refine HGT.out.mono ?_
  rintro e wB ⟨rfl, hbB⟩
  have hkB := Blk.new wB 38 #[.int .i64 0, .int .i64 0, .int .i64 0, .int .i64 0, .int .i64 0, .bool false, .int .u32 0]
  have hbB2 := (Below.refl wB.heap.size wB).alloc (Nat.le_refl _) (.cells #[.int .i64 0, .int .i64 0, .int .i64 0, .int .i64 0, .int .i64 0, .bool false, .int .u32 0] 38)
  cases hg : getM b with
  | none =>
    have hbC := hbB.trans ((below_row hbB2 (Nat.le_refl _) #[.int .i64 0, .int .i64 0, .int .i64 0, .int .i64 0, .int .i64 0, .bool false, .int .u32 0]).mono hbB.size)
    have hone := mCells_oneA zeroM
    rw [show mCells zeroM = #[.int .i64 0, .int .i64 0, .int .i64 0, .int .i64 0, .int .i64 0, .bool false, .int .u32 0] from rfl] at hone
    have hbAC := HBA.out.trans (hbC.mono HBA.out.size)
    have HKB := Lib.hid hkB; have HONE := Lib.hid hone; have HBC := Lib.hid hbAC
    rw [show getV (none : Option ManM) = zeroM from rfl, show getE (none : Option ManM) = 200 from rfl, show mCells zeroM = #[.int .i64 0, .int .i64 0, .int .i64 0, .int .i64 0, .int .i64 0, .bool false, .int .u32 0] from rfl]
    clear hbC hone hbAC hkB hbB2 hbB hg HGT
    go_wp2_with (first | (refine wpList_store_row rfl 38 (.tmp 13) (.tmp 74) rfl wB.heap.size #[.int .i64 0, .int .i64 0, .int .i64 0, .int .i64 0, .int .i64 0, .bool false, .int .u32 0] rfl rfl 38 _ HKB.out infoMf rfl HONE.out ?_))
    refine (HWK.out _ HBC.out).mono ?_
    rintro e wD ⟨rfl, hbD⟩
    have HBD := Lib.hid (HBC.out.trans (hbD.mono HBC.out.size))
    clear hbD
    go_wp2
    go_ret
    exact ⟨rfl, HBD.out⟩
  | some mb =>
    have hgm := getM_some hg
    have hbC := hbB.trans ((below_row hbB2 (Nat.le_refl _) (mCells mb)).mono hbB.size)
    have hone := mCells_oneA mb
    have hkC := hkB.setRow (mCells mb)
    have hput := mPut_yes mb hgm.2.2.1 hgm.2.1
    rw [show mCells mb = #[.int .i64 mb.n, .int .i64 mb.epoch, .int .i64 mb.step, .int .i64 mb.sum, .int .i64 mb.most, .bool mb.done, .int .u32 mb.job] from rfl] at hone hbC hkC hput
    have hbAC := HBA.out.trans (hbC.mono HBA.out.size)
    have hmb := hgm.1
    have HKB := Lib.hid hkB; have HONE := Lib.hid hone; have HBC := Lib.hid hbAC; have HKC := Lib.hid hkC; have HPUTB := Lib.hid hput; have HMB := Lib.hid hmb
    rw [show getV (some mb) = mb from rfl, show getE (some mb) = 0 from rfl, show mCells mb = #[.int .i64 mb.n, .int .i64 mb.epoch, .int .i64 mb.step, .int .i64 mb.sum, .int .i64 mb.most, .bool mb.done, .int .u32 mb.job] from rfl]
    clear hbC hone hbAC hkB hbB2 hbB hg HGT hkC hgm hput hmb
    go_upto_region 13 with (first | (refine wpList_store_row rfl 38 (.tmp 13) (.tmp 74) rfl wB.heap.size #[.int .i64 mb.n, .int .i64 mb.epoch, .int .i64 mb.step, .int .i64 mb.sum, .int .i64 mb.most, .bool mb.done, .int .u32 mb.job] rfl rfl 38 _ HKB.out infoMf rfl HONE.out ?_))
    obtain ⟨wC, hwC⟩ : ∃ wC, (wB.alloc (.cells #[.int .i64 0, .int .i64 0, .int .i64 0, .int .i64 0, .int .i64 0, .bool false, .int .u32 0] 38)).setRow wB.heap.size #[.int .i64 mb.n, .int .i64 mb.epoch, .int .i64 mb.step, .int .i64 mb.sum, .int .i64 mb.most, .bool mb.done, .int .u32 mb.job] = wC := ⟨_, rfl⟩
    rw [hwC] at HBC HKC ⊢
    clear hwC
    have hkc := HKC.out
    have k0 := hkc.cell 0; have k1 := hkc.cell 1; have k2 := hkc.cell 2; have k3 := hkc.cell 3; have k4 := hkc.cell 4; have k5 := hkc.cell 5; have k6 := hkc.cell 6
    simp only [List.getElem?_toArray, List.getElem?_cons_zero, List.getElem?_cons_succ] at k0 k1 k2 k3 k4 k5 k6
    clear hkc
    go_wp2_with fail
    refine (HPUTB.out _).mono ?_
    rintro e wD ⟨gd, rfl, -, hgd, hbD⟩
    have hcx := (btr_raw hgd).conv
    rw [mb.bytes_size, HMB.out] at hcx
    have hbwD := HBC.out.trans (hbD.mono HBC.out.size)
    have hcy := (HA.out.below hbwD).conv
    have HBWD := Lib.hid hbwD; have HWK2 := Lib.hid (HWK.out _ hbwD)
    clear hbD hgd hbwD k0 k1 k2 k3 k4 k5 k6
    go_wp2_with fail
    refine HWK2.out.mono ?_
    rintro e wE ⟨rfl, hbE⟩
    have HBE := Lib.hid (HBWD.out.trans (hbE.mono HBWD.out.size))
    clear hbE hcx hcy
    go_wp2
    go_ret
    exact ⟨rfl, HBE.out⟩
set_option maxRecDepth 100000 in
set_option maxHeartbeats 16000000 in
theorem back_yes (w : World) (m : ManM) (hm : m.Ok) (A : Option Addr) (c : Nat) (b : ByteArray) (h : BtR w (.slice A b.size c) b) (hb : b.size ≤ 500) (hT : Tb w.heap.size w) (hmay : m.may = true) :
    Calls Tryz.prog 26 #[.agg (mCells m), .slice A b.size c] w fun e w' => e = .returned (.bool true) ∧ Below w.heap.size w w' := by
  have hbI : ¬ (500 : Int) < (b.size : Int) := by omega
  have h7 : mCells m = #[.int .i64 m.n, .int .i64 m.epoch, .int .i64 m.step, .int .i64 m.sum, .int .i64 m.most, .bool m.done, .int .u32 m.job] := rfl
  have hb1 := (Below.refl w.heap.size w).alloc (Nat.le_refl _) (.cells (mCells m) 38)
  have hk1 := Blk.new w 38 (mCells m)
  have hput := mPut_yes m hm hmay
  have hwk : ∀ W, Below w.heap.size w W → Calls Tryz.prog 6 #[] W fun e w' => e = .returned (.bool true) ∧ Below W.heap.size W w' := fun W hW => works_any W (hT.onK hW)
  have hgm : m.may = true → getM m.bytes = some m := fun hy => getM_bytes hm hy
  have h8 := mCells_oneA m
  rw [h7] at hb1 hk1 hput h8 ⊢
  have HB1 := Lib.hid hb1; have HK1 := Lib.hid hk1; have HPUT := Lib.hid hput; have HWK := Lib.hid hwk; have HA := Lib.hid h; have HGM := Lib.hid hgm; have HMAY := Lib.hid hmay; have H7 := Lib.hid h7; have H8 := Lib.hid h8
  have c0 := hk1.cell 0; have c1 := hk1.cell 1; have c2 := hk1.cell 2; have c3 := hk1.cell 3; have c4 := hk1.cell 4; have c5 := hk1.cell 5; have c6 := hk1.cell 6
  simp only [List.getElem?_toArray, List.getElem?_cons_zero, List.getElem?_cons_succ] at c0 c1 c2 c3 c4 c5 c6
  clear hb1 hk1 hput hwk h hT h7 hmay hgm h8
  go_enter Tryz.func26, Tryz.ntmps26
  go_wp2_with fail
  refine (HPUT.out _).mono ?_
  rintro e w2 ⟨g, rfl, hg0, hgr, hbx⟩
  obtain ⟨i0, hi0, hz0, hz1, hz2⟩ := parts infoU
  have hb2 := HB1.out.trans (hbx.mono HB1.out.size)
  have hk2 := HK1.out.below hbx HK1.out.lt
  have hbr : BtR w2 (.slice (some ⟨g, 0, none⟩) 50 50) m.bytes := by
    have := btr_raw hgr
    rwa [m.bytes_size] at this
  have hgt := mGet_any w2 _ _ hbr (by rw [m.bytes_size]; decide)
  rw [HGM.out HMAY.out, show getV (some m) = m from rfl, show getE (some m) = 0 from rfl, H7.out] at hgt
  have HGT := Lib.hid hgt; have HB2 := Lib.hid hb2; have HK2 := Lib.hid hk2; have HGR := Lib.hid hgr
  clear hgt hb2 hk2 hgr hbr hbx c0 c1 c2 c3 c4 c5 c6 HPUT HB1 HK1
  go_wp2_with fail
  refine HGT.out.mono ?_
  rintro e w3 ⟨rfl, hb3⟩
  have hk3 := Blk.new w3 38 #[.int .i64 0, .int .i64 0, .int .i64 0, .int .i64 0, .int .i64 0, .bool false, .int .u32 0]
  have hk4 := hk3.setRow #[.int .i64 m.n, .int .i64 m.epoch, .int .i64 m.step, .int .i64 m.sum, .int .i64 m.most, .bool m.done, .int .u32 m.job]
  have hb4 := hb3.trans ((below_row ((Below.refl w3.heap.size w3).alloc (Nat.le_refl _) (.cells #[.int .i64 0, .int .i64 0, .int .i64 0, .int .i64 0, .int .i64 0, .bool false, .int .u32 0] 38)) (Nat.le_refl _) #[.int .i64 m.n, .int .i64 m.epoch, .int .i64 m.step, .int .i64 m.sum, .int .i64 m.most, .bool m.done, .int .u32 m.job]).mono hb3.size)
  have HK3 := Lib.hid hk3; have HK4 := Lib.hid hk4; have HB4 := Lib.hid hb4
  clear hk3 hk4 hb4 hb3 HGT
  go_upto_region 8 with (first | (refine wpList_store_row rfl 38 (.tmp 7) (.tmp 38) rfl w3.heap.size #[.int .i64 m.n, .int .i64 m.epoch, .int .i64 m.step, .int .i64 m.sum, .int .i64 m.most, .bool m.done, .int .u32 m.job] rfl rfl 38 _ HK3.out infoMf rfl H8.out ?_))
  obtain ⟨w4, hw4⟩ : ∃ w4, (w3.alloc (.cells #[.int .i64 0, .int .i64 0, .int .i64 0, .int .i64 0, .int .i64 0, .bool false, .int .u32 0] 38)).setRow w3.heap.size #[.int .i64 m.n, .int .i64 m.epoch, .int .i64 m.step, .int .i64 m.sum, .int .i64 m.most, .bool m.done, .int .u32 m.job] = w4 := ⟨_, rfl⟩
  rw [hw4] at HK4 HB4 ⊢
  clear hw4
  have hgr4 := HGR.out.below HB4.out HGR.out.lt
  have hbr4 : BtR w4 (.slice (some ⟨g, 0, none⟩) m.bytes.size 50) m.bytes := by
    have := btr_raw hgr4
    rw [m.bytes_size] at this
    rw [m.bytes_size]
    exact this
  have hbc : BtR w4 (.slice (some ⟨g, 0, none⟩) 49 50) (m.bytes.extract 0 49) := hbr4.cut 49 (by rw [m.bytes_size]; decide) (by decide)
  have hsz49 : (m.bytes.extract 0 49).size = 49 := by rw [ByteArray.size_extract, m.bytes_size]; rfl
  have hgt := mGet_any w4 _ _ hbc (by rw [hsz49]; decide)
  have hn49 : getM (m.bytes.extract 0 49) = none := getM_size (by rw [hsz49]; decide)
  rw [hn49, show getV (none : Option ManM) = zeroM from rfl, show getE (none : Option ManM) = 200 from rfl, show mCells zeroM = #[.int .i64 0, .int .i64 0, .int .i64 0, .int .i64 0, .int .i64 0, .bool false, .int .u32 0] from rfl] at hgt
  have HGT4 := Lib.hid hgt
  clear hgt hbc hsz49 hn49 hbr4 hgr4
  go_wp2_with fail
  refine HGT4.out.mono ?_
  rintro e w5 ⟨rfl, hb5⟩
  have hk5 := Blk.new w5 38 #[.int .i64 0, .int .i64 0, .int .i64 0, .int .i64 0, .int .i64 0, .bool false, .int .u32 0]
  have hone := mCells_oneA zeroM
  rw [show mCells zeroM = #[.int .i64 0, .int .i64 0, .int .i64 0, .int .i64 0, .int .i64 0, .bool false, .int .u32 0] from rfl] at hone
  have hb6 := hb5.trans ((below_row ((Below.refl w5.heap.size w5).alloc (Nat.le_refl _) (.cells #[.int .i64 0, .int .i64 0, .int .i64 0, .int .i64 0, .int .i64 0, .bool false, .int .u32 0] 38)) (Nat.le_refl _) #[.int .i64 0, .int .i64 0, .int .i64 0, .int .i64 0, .int .i64 0, .bool false, .int .u32 0]).mono hb5.size)
  have HK5 := Lib.hid hk5; have HB46 := Lib.hid hb6; have HZ1 := Lib.hid hone
  clear hk5 hb6 hb5 HGT4 hone
  go_upto_region 9 with (first | (refine wpList_store_row rfl 38 (.tmp 9) (.tmp 47) rfl w5.heap.size #[.int .i64 0, .int .i64 0, .int .i64 0, .int .i64 0, .int .i64 0, .bool false, .int .u32 0] rfl rfl 38 _ HK5.out infoMf rfl HZ1.out ?_))
  obtain ⟨w6, hw6⟩ : ∃ w6, (w5.alloc (.cells #[.int .i64 0, .int .i64 0, .int .i64 0, .int .i64 0, .int .i64 0, .bool false, .int .u32 0] 38)).setRow w5.heap.size #[.int .i64 0, .int .i64 0, .int .i64 0, .int .i64 0, .int .i64 0, .bool false, .int .u32 0] = w6 := ⟨_, rfl⟩
  rw [hw6] at HB46 ⊢
  clear hw6 HK5
  have hgr6 := HGR.out.below (HB4.out.trans (HB46.out.mono HB4.out.size)) HGR.out.lt
  have hgr7 : Blk (w6.alloc (.cells #[.int .u8 0] 5)) g 111 (ucells m.bytes).toArray := hgr6.alloc _
  have hol : ∀ j u, (ucells m.bytes)[j]? = some u → (w6.alloc (.cells #[.int .u8 0] 5)).cell? ⟨g, 0 + j, none⟩ = some u := fun j u hu => by rw [Nat.zero_add, hgr7.cell, List.getElem?_toArray]; exact hu
  have hul : (ucells m.bytes).length = 50 * 1 := by rw [ucells_length, m.bytes_size]
  have HOL := Lib.hid hol; have HUL := Lib.hid hul
  clear hgr6 hgr7 hol hul
  go_wp2_with (at_builtin; refine wpList_append_arg _ rfl (.tmp 50) (.tmp 51) 39 rfl 5 i0 (.int .u8 0) 1 1 Tryz.underlying39 hi0 hz0 hz1 hz2 rfl (by decide) g 0 50 50 (ucells m.bytes) rfl HUL.out HOL.out ⟨w6.heap.size, 0, none⟩ 1 1 [.int .u8 0] rfl rfl (cells_new w6 [.int .u8 0] 5 w6.heap.size rfl) (by simp [Value.oneCell']) (fun hh => absurd hh (by decide)) (by unfold maxLen; decide) (by decide) (fun hh => absurd hh (by decide)) ?_; intro _ v7 w7 hown hgrow; have HOWN := Lib.hid hown; have HGROW := Lib.hid hgrow; clear hown hgrow)
  have hbw7 := (Below.refl w6.heap.size w6).alloc (Nat.le_refl _) (.cells #[.int .u8 0] 5)
  have hb67 := hbw7.trans ((below_of_grown HGROW.out).mono hbw7.size)
  have hown := HOWN.out
  have hs51 : (m.bytes ++ (⟨#[0]⟩ : ByteArray)).size = 50 + 1 := by rw [ByteArray.size_append, m.bytes_size]; rfl
  have hbt7 : Bt w7 v7 (m.bytes ++ ⟨#[0]⟩) := Bt.of_own (by rw [hs51, ucells_snoc]; exact hown)
  obtain ⟨A7, c7, rfl⟩ := own_shape hown
  have hgt := mGet_any w7 _ _ hbt7.btr (by rw [hs51]; decide)
  have hn51 : getM (m.bytes ++ (⟨#[0]⟩ : ByteArray)) = none := getM_size (by rw [hs51]; decide)
  rw [hn51, show getV (none : Option ManM) = zeroM from rfl, show getE (none : Option ManM) = 200 from rfl, show mCells zeroM = #[.int .i64 0, .int .i64 0, .int .i64 0, .int .i64 0, .int .i64 0, .bool false, .int .u32 0] from rfl] at hgt
  have HGT7 := Lib.hid hgt; have HB67 := Lib.hid hb67
  clear hgt hb67 hbw7 hown hs51 hbt7 hn51 HOWN HGROW HOL HUL
  go_wp2_with fail
  refine HGT7.out.mono ?_
  rintro e w8 ⟨rfl, hb8⟩
  have hk8 := Blk.new w8 38 #[.int .i64 0, .int .i64 0, .int .i64 0, .int .i64 0, .int .i64 0, .bool false, .int .u32 0]
  have hb9 := HB67.out.trans ((hb8.trans ((below_row ((Below.refl w8.heap.size w8).alloc (Nat.le_refl _) (.cells #[.int .i64 0, .int .i64 0, .int .i64 0, .int .i64 0, .int .i64 0, .bool false, .int .u32 0] 38)) (Nat.le_refl _) #[.int .i64 0, .int .i64 0, .int .i64 0, .int .i64 0, .int .i64 0, .bool false, .int .u32 0]).mono hb8.size)).mono HB67.out.size)
  have HK8 := Lib.hid hk8; have HB69 := Lib.hid hb9
  clear hk8 hb9 hb8 HGT7
  go_upto_region 10 with (first | (refine wpList_store_row rfl 38 (.tmp 11) (.tmp 54) rfl w8.heap.size #[.int .i64 0, .int .i64 0, .int .i64 0, .int .i64 0, .int .i64 0, .bool false, .int .u32 0] rfl rfl 38 _ HK8.out infoMf rfl HZ1.out ?_))
  obtain ⟨wA, hwA⟩ : ∃ wA, (w8.alloc (.cells #[.int .i64 0, .int .i64 0, .int .i64 0, .int .i64 0, .int .i64 0, .bool false, .int .u32 0] 38)).setRow w8.heap.size #[.int .i64 0, .int .i64 0, .int .i64 0, .int .i64 0, .int .i64 0, .bool false, .int .u32 0] = wA := ⟨_, rfl⟩
  rw [hwA] at HB69 ⊢
  clear hwA HK8 HZ1
  have hb4A := HB46.out.trans (HB69.out.mono HB46.out.size)
  have hb2A := HB4.out.trans (hb4A.mono HB4.out.size)
  have hkm := HK2.out.below hb2A HK2.out.lt
  have hky := HK4.out.below hb4A HK4.out.lt
  have c0 := hkm.cell 0; have c1 := hkm.cell 1; have c2 := hkm.cell 2; have c3 := hkm.cell 3; have c4 := hkm.cell 4; have c5 := hkm.cell 5; have c6 := hkm.cell 6
  simp only [List.getElem?_toArray, List.getElem?_cons_zero, List.getElem?_cons_succ] at c0 c1 c2 c3 c4 c5 c6
  have y0 := hky.cell 0; have y1 := hky.cell 1; have y2 := hky.cell 2; have y3 := hky.cell 3; have y4 := hky.cell 4; have y5 := hky.cell 5; have y6 := hky.cell 6
  simp only [List.getElem?_toArray, List.getElem?_cons_zero, List.getElem?_cons_succ] at y0 y1 y2 y3 y4 y5 y6
  have hnq := run_neq_man m
  have HBA := Lib.hid (HB2.out.trans (hb2A.mono HB2.out.size))
  clear hb4A hb2A hkm hky HB46 HB69 HB4 HB2 HK2 HK4 HGR hi0 hz0 hz1 hz2 HGM HMAY H7 H8
  go_upto_region 12 with (fail)
  clear c0 c1 c2 c3 c4 c5 c6 y0 y1 y2 y3 y4 y5 y6 hnq
  have har := HA.out.below HBA.out
  have hgt := mGet_any wA _ b har (by omega)
  have HGT := Lib.hid hgt
  clear hgt har
  go_wp2_with fail
  refine HGT.out.mono ?_
  rintro e wB ⟨rfl, hbB⟩
  have hkB := Blk.new wB 38 #[.int .i64 0, .int .i64 0, .int .i64 0, .int .i64 0, .int .i64 0, .bool false, .int .u32 0]
  have hbB2 := (Below.refl wB.heap.size wB).alloc (Nat.le_refl _) (.cells #[.int .i64 0, .int .i64 0, .int .i64 0, .int .i64 0, .int .i64 0, .bool false, .int .u32 0] 38)
  cases hg : getM b with
  | none =>
    have hbC := hbB.trans ((below_row hbB2 (Nat.le_refl _) #[.int .i64 0, .int .i64 0, .int .i64 0, .int .i64 0, .int .i64 0, .bool false, .int .u32 0]).mono hbB.size)
    have hone := mCells_oneA zeroM
    rw [show mCells zeroM = #[.int .i64 0, .int .i64 0, .int .i64 0, .int .i64 0, .int .i64 0, .bool false, .int .u32 0] from rfl] at hone
    have hbAC := HBA.out.trans (hbC.mono HBA.out.size)
    have HKB := Lib.hid hkB; have HONE := Lib.hid hone; have HBC := Lib.hid hbAC
    rw [show getV (none : Option ManM) = zeroM from rfl, show getE (none : Option ManM) = 200 from rfl, show mCells zeroM = #[.int .i64 0, .int .i64 0, .int .i64 0, .int .i64 0, .int .i64 0, .bool false, .int .u32 0] from rfl]
    clear hbC hone hbAC hkB hbB2 hbB hg HGT
    go_wp2_with (first | (refine wpList_store_row rfl 38 (.tmp 13) (.tmp 74) rfl wB.heap.size #[.int .i64 0, .int .i64 0, .int .i64 0, .int .i64 0, .int .i64 0, .bool false, .int .u32 0] rfl rfl 38 _ HKB.out infoMf rfl HONE.out ?_))
    refine (HWK.out _ HBC.out).mono ?_
    rintro e wD ⟨rfl, hbD⟩
    have HBD := Lib.hid (HBC.out.trans (hbD.mono HBC.out.size))
    clear hbD
    go_wp2
    go_ret
    exact ⟨rfl, HBD.out⟩
  | some mb =>
    have hgm := getM_some hg
    have hbC := hbB.trans ((below_row hbB2 (Nat.le_refl _) (mCells mb)).mono hbB.size)
    have hone := mCells_oneA mb
    have hkC := hkB.setRow (mCells mb)
    have hput := mPut_yes mb hgm.2.2.1 hgm.2.1
    rw [show mCells mb = #[.int .i64 mb.n, .int .i64 mb.epoch, .int .i64 mb.step, .int .i64 mb.sum, .int .i64 mb.most, .bool mb.done, .int .u32 mb.job] from rfl] at hone hbC hkC hput
    have hbAC := HBA.out.trans (hbC.mono HBA.out.size)
    have hmb := hgm.1
    have HKB := Lib.hid hkB; have HONE := Lib.hid hone; have HBC := Lib.hid hbAC; have HKC := Lib.hid hkC; have HPUTB := Lib.hid hput; have HMB := Lib.hid hmb
    rw [show getV (some mb) = mb from rfl, show getE (some mb) = 0 from rfl, show mCells mb = #[.int .i64 mb.n, .int .i64 mb.epoch, .int .i64 mb.step, .int .i64 mb.sum, .int .i64 mb.most, .bool mb.done, .int .u32 mb.job] from rfl]
    clear hbC hone hbAC hkB hbB2 hbB hg HGT hkC hgm hput hmb
    go_upto_region 13 with (first | (refine wpList_store_row rfl 38 (.tmp 13) (.tmp 74) rfl wB.heap.size #[.int .i64 mb.n, .int .i64 mb.epoch, .int .i64 mb.step, .int .i64 mb.sum, .int .i64 mb.most, .bool mb.done, .int .u32 mb.job] rfl rfl 38 _ HKB.out infoMf rfl HONE.out ?_))
    obtain ⟨wC, hwC⟩ : ∃ wC, (wB.alloc (.cells #[.int .i64 0, .int .i64 0, .int .i64 0, .int .i64 0, .int .i64 0, .bool false, .int .u32 0] 38)).setRow wB.heap.size #[.int .i64 mb.n, .int .i64 mb.epoch, .int .i64 mb.step, .int .i64 mb.sum, .int .i64 mb.most, .bool mb.done, .int .u32 mb.job] = wC := ⟨_, rfl⟩
    rw [hwC] at HBC HKC ⊢
    clear hwC
    have hkc := HKC.out
    have k0 := hkc.cell 0; have k1 := hkc.cell 1; have k2 := hkc.cell 2; have k3 := hkc.cell 3; have k4 := hkc.cell 4; have k5 := hkc.cell 5; have k6 := hkc.cell 6
    simp only [List.getElem?_toArray, List.getElem?_cons_zero, List.getElem?_cons_succ] at k0 k1 k2 k3 k4 k5 k6
    clear hkc
    go_wp2_with fail
    refine (HPUTB.out _).mono ?_
    rintro e wD ⟨gd, rfl, -, hgd, hbD⟩
    have hcx := (btr_raw hgd).conv
    rw [mb.bytes_size, HMB.out] at hcx
    have hbwD := HBC.out.trans (hbD.mono HBC.out.size)
    have hcy := (HA.out.below hbwD).conv
    have HBWD := Lib.hid hbwD; have HWK2 := Lib.hid (HWK.out _ hbwD)
    clear hbD hgd hbwD k0 k1 k2 k3 k4 k5 k6
    go_wp2_with fail
    refine HWK2.out.mono ?_
    rintro e wE ⟨rfl, hbE⟩
    have HBE := Lib.hid (HBWD.out.trans (hbE.mono HBWD.out.size))
    clear hbE hcx hcy
    go_wp2
    go_ret
    exact ⟨rfl, HBE.out⟩
set_option maxRecDepth 100000 in
set_option maxHeartbeats 4000000 in
theorem lawBack_any {w : World} (m : ManM) (hm : m.Ok) (A : Option Addr) (l : List UInt8) (c : Nat) (h : 0 < l.length → ∃ ad, A = some ad ∧ ad.block < w.heap.size ∧ ∀ j (hj : j < l.length), w.cell? (ad.add j) = some (.int .u8 (l[j].toNat : Int))) (hc : l.length ≤ c) (hT : Tb w.heap.size w) :
    Calls Tryz.prog 26 #[.agg (mCells m), .slice A l.length c] w fun e w' => e = .returned (.bool true) ∧ Below w.heap.size w w' := by
  by_cases hl : l.length ≤ 500
  · have hbr := btr_of_cells hc h
    have hs : (⟨l.toArray⟩ : ByteArray).size = l.length := by simp [ByteArray.size]
    rw [← hs] at hbr hl ⊢
    cases hmay : m.may with
    | true => exact back_yes w m hm A c _ hbr hl hT hmay
    | false => exact back_no w m hm A c _ hbr hl hT hmay
  · have hlI : (500 : Int) < (l.length : Int) := by omega
    have hb1 := (Below.refl w.heap.size w).alloc (Nat.le_refl _) (.cells (mCells m) 38)
    have hwk := works_any (w.alloc (.cells (mCells m) 38)) (hT.onK hb1)
    unfold mCells at hb1 hwk ⊢
    have HB1 := Lib.hid hb1; have HWK := Lib.hid hwk
    clear hb1 hwk h hl hT hc
    go_enter Tryz.func26, Tryz.ntmps26
    go_wp2_with fail
    refine HWK.out.mono ?_
    rintro e w2 ⟨rfl, hb2⟩
    have HB2 := Lib.hid (HB1.out.trans (hb2.mono HB1.out.size))
    clear hb2
    go_wp2
    go_ret
    exact ⟨rfl, HB2.out⟩
end Go.Proofs.YtlcgkcafelpglaaGreatDoor
