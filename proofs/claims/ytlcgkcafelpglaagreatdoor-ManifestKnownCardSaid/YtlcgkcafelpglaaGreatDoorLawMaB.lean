/- The law of a manifest's bytes: its walk. -/
import Derived.Test.YtlcgkcafelpglaaGreatDoorPk37
import Derived.Test.YtlcgkcafelpglaaGreatDoorRfN
import Derived.Test.YtlcgkcafelpglaaGreatDoorPk41
namespace Go.Proofs.YtlcgkcafelpglaaGreatDoor
open Go.RowKit Go.Maps

theorem Tb.on_ {w W : World} (h : Tb w.heap.size w) (hb : Below w.heap.size w W) : Tb W.heap.size W := fun w2 h2 => h w2 (hb.trans (h2.mono hb.size))
set_option maxRecDepth 100000 in
set_option maxHeartbeats 16000000 in
theorem bytes_yes (w : World) (m : ManM) (hm : m.Ok) (A : Option Addr) (c : Nat) (b : ByteArray) (h : BtR w (.slice A b.size c) b) (hb : b.size ≤ 500) (hT : Tb w.heap.size w) (hmay : m.may = true) :
    Calls Tryz.prog 25 #[.agg (mCells m), .slice A b.size c] w fun e w' => e = .returned (.bool true) ∧ Below w.heap.size w w' := by
  have hbI : ¬ (500 : Int) < (b.size : Int) := by omega
  have h7 : mCells m = #[.int .i64 m.n, .int .i64 m.epoch, .int .i64 m.step, .int .i64 m.sum, .int .i64 m.most, .bool m.done, .int .u32 m.job] := rfl
  have hb1 := (Below.refl w.heap.size w).alloc (Nat.le_refl _) (.cells (mCells m) 38)
  have hk1 := Blk.new w 38 (mCells m)
  have hpl : ∀ W, Calls Tryz.prog 13 #[.agg (mCells m)] W fun e w' => e = .returned (.agg (mCells m)) ∧ Below W.heap.size W w' := plain_any m
  have hmy := rfMay_any m
  rw [hmay] at hmy
  have hrb := rfBytes_any m hm
  have hput := mPut_yes m hm hmay
  have hwk : ∀ W, Below w.heap.size w W → Calls Tryz.prog 6 #[] W fun e w' => e = .returned (.bool true) ∧ Below W.heap.size W w' := fun W hW => works_any W (hT.on_ hW)
  rw [h7] at hb1 hk1 hpl hmy hrb hput ⊢
  have HB1 := Lib.hid hb1; have HK1 := Lib.hid hk1; have HPL := Lib.hid hpl; have HMY := Lib.hid hmy; have HRB := Lib.hid hrb; have HPUT := Lib.hid hput; have HWK := Lib.hid hwk; have HA := Lib.hid h
  have c0 := hk1.cell 0; have c1 := hk1.cell 1; have c2 := hk1.cell 2; have c3 := hk1.cell 3; have c4 := hk1.cell 4; have c5 := hk1.cell 5; have c6 := hk1.cell 6
  simp only [List.getElem?_toArray, List.getElem?_cons_zero, List.getElem?_cons_succ] at c0 c1 c2 c3 c4 c5 c6
  clear hb1 hk1 hpl hmy hrb hput hwk h hT h7 hmay
  go_enter Tryz.func25, Tryz.ntmps25
  go_wp2_with fail
  refine (HPUT.out _).mono ?_
  rintro e w2 ⟨g, rfl, hg, hgr, hbx⟩
  have hb2 := HB1.out.trans (hbx.mono HB1.out.size)
  have hk2 := HK1.out.below hbx HK1.out.lt
  have c0 := hk2.cell 0; have c1 := hk2.cell 1; have c2 := hk2.cell 2; have c3 := hk2.cell 3; have c4 := hk2.cell 4; have c5 := hk2.cell 5; have c6 := hk2.cell 6
  simp only [List.getElem?_toArray, List.getElem?_cons_zero, List.getElem?_cons_succ] at c0 c1 c2 c3 c4 c5 c6
  have hxc : ∀ wx, Below w2.heap.size w2 wx → (convert 39 9 (.slice (some ⟨g, 0, none⟩) 50 50)).run Tryz.prog wx = .ok (.string m.bytes) wx := fun wx hx => by
    have := (btr_raw (hgr.below hx hgr.lt)).conv
    rwa [m.bytes_size] at this
  have HB2 := Lib.hid hb2; have HK2 := Lib.hid hk2; have HXC := Lib.hid hxc
  clear hb2 hk2 hbx HB1 HK1 HPUT hxc
  go_wp2_with fail
  refine (HPL.out _).mono ?_
  rintro e w3 ⟨rfl, hb3⟩
  have HB23 := Lib.hid hb3
  clear hb3
  go_wp2_with fail
  refine (HMY.out _).mono ?_
  rintro e w4 ⟨rfl, hb4⟩
  have hb24 := HB23.out.trans (hb4.mono HB23.out.size)
  have hk4 := HK2.out.below hb24 HK2.out.lt
  have HB24 := Lib.hid hb24
  have c0 := hk4.cell 0; have c1 := hk4.cell 1; have c2 := hk4.cell 2; have c3 := hk4.cell 3; have c4 := hk4.cell 4; have c5 := hk4.cell 5; have c6 := hk4.cell 6
  simp only [List.getElem?_toArray, List.getElem?_cons_zero, List.getElem?_cons_succ] at c0 c1 c2 c3 c4 c5 c6
  go_wp2_with fail
  refine (HPL.out _).mono ?_
  rintro e w5 ⟨rfl, hb5⟩
  have HB25 := Lib.hid (HB24.out.trans (hb5.mono HB24.out.size))
  clear hb5
  go_wp2_with fail
  refine (HRB.out _).mono ?_
  rintro e w6 ⟨vb, rfl, hvb, -, hb6⟩
  have HB26 := Lib.hid (HB25.out.trans (hb6.mono HB25.out.size))
  have hcb := hvb.conv
  clear hb6 HB25 hvb
  clear hk4 hb24 hb4 HB23
  have har := (HA.out.below (HB2.out.trans (HB26.out.mono HB2.out.size)))
  have hcv := har.conv
  obtain ⟨vi, w7, hci, hbi, hb7⟩ := conv_in b w6
  obtain ⟨Ai, ci, rfl, -, -⟩ := id hbi
  have HCI := Lib.hid hbi
  have hgt := mGet_any w7 _ b hbi (by omega)
  have hb27 := HB26.out.trans (hb7.mono HB26.out.size)
  have har7 := har.below hb7
  obtain ⟨Y, hY⟩ : ∃ Y : ManM, getV (getM b) = Y := ⟨_, rfl⟩
  rw [hY] at hgt
  have HGT := Lib.hid hgt; have HB27 := Lib.hid hb27; have HAR7 := Lib.hid har7; have HYQ := Lib.hid hY
  clear hgt hb27 har7 har hbi HB24 HB26 hY hb7
  go_wp2_with fail
  refine HGT.out.mono ?_
  rintro e w8 ⟨rfl, hb8⟩
  obtain ⟨YC, hYC⟩ : ∃ YC, mCells Y = YC := ⟨_, rfl⟩
  have hiM : (Tryz.prog.info? 38).map (·.size) = some YC.size := by rw [← hYC]; exact infoMf
  have hiR : (Tryz.prog.info? 46).map (·.size) = some YC.size := by rw [← hYC]; exact infoRf
  have hsz : (#[.int .i64 0, .int .i64 0, .int .i64 0, .int .i64 0, .int .i64 0, .bool false, .int .u32 0] : Array Value).size = YC.size := by rw [← hYC]; rfl
  have HSZ := Lib.hid hsz
  clear hsz
  have hone : YC.all (·.oneCell') = true := by rw [← hYC]; exact mCells_oneA Y
  have hk8 := Blk.new w8 38 #[.int .i64 0, .int .i64 0, .int .i64 0, .int .i64 0, .int .i64 0, .bool false, .int .u32 0]
  have hk9 := hk8.setRow YC
  have hb9 := below_row ((Below.refl w8.heap.size w8).alloc (Nat.le_refl _) (.cells #[.int .i64 0, .int .i64 0, .int .i64 0, .int .i64 0, .int .i64 0, .bool false, .int .u32 0] 38)) (Nat.le_refl _) YC
  have hb29 := HB27.out.trans ((hb8.trans (hb9.mono hb8.size)).mono HB27.out.size)
  have HIM := Lib.hid hiM; have HIR := Lib.hid hiR; have HONE := Lib.hid hone; have HK8 := Lib.hid hk8; have HK9 := Lib.hid hk9; have HB29 := Lib.hid hb29; have HYC := Lib.hid hYC; have HB79 := Lib.hid (hb8.trans (hb9.mono hb8.size))
  rw [hYC]
  clear hiM hiR hone hk8 hk9 hb9 hb29 hYC hb8 HGT
  go_wp2_with (first | (refine wpList_store_row rfl 38 (.tmp 10) (.tmp 37) rfl w8.heap.size YC rfl rfl 38 _ HK8.out HIM.out HSZ.out HONE.out ?_))
  obtain ⟨w9, hw9⟩ : ∃ w9, (w8.alloc (.cells #[.int .i64 0, .int .i64 0, .int .i64 0, .int .i64 0, .int .i64 0, .bool false, .int .u32 0] 38)).setRow w8.heap.size YC = w9 := ⟨_, rfl⟩
  rw [hw9] at HK9 HB29 HB79 ⊢
  clear hw9
  have hrg := rfGet_any w9 _ b (HAR7.out.below HB79.out)
  rw [HYQ.out, HYC.out] at hrg
  have HRG := Lib.hid hrg
  clear hrg
  refine HRG.out.mono ?_
  rintro e w10 ⟨rfl, hb10⟩
  have hk10 := Blk.new w10 46 #[.int .i64 0, .int .i64 0, .int .i64 0, .int .i64 0, .int .i64 0, .bool false, .int .u32 0]
  have hk11 := hk10.setRow YC
  have hb11 := below_row ((Below.refl w10.heap.size w10).alloc (Nat.le_refl _) (.cells #[.int .i64 0, .int .i64 0, .int .i64 0, .int .i64 0, .int .i64 0, .bool false, .int .u32 0] 46)) (Nat.le_refl _) YC
  have hb911 := hb10.trans (hb11.mono hb10.size)
  have HK10 := Lib.hid hk10; have HK11 := Lib.hid hk11; have HB911 := Lib.hid hb911
  clear hk10 hk11 hb11 hb911 hb10 HRG
  go_upto_region 11 with (first | (refine wpList_store_row rfl 46 (.tmp 12) (.tmp 42) rfl w10.heap.size YC rfl rfl 46 _ HK10.out HIR.out HSZ.out HONE.out ?_))
  obtain ⟨w11, hw11⟩ : ∃ w11, (w10.alloc (.cells #[.int .i64 0, .int .i64 0, .int .i64 0, .int .i64 0, .int .i64 0, .bool false, .int .u32 0] 46)).setRow w10.heap.size YC = w11 := ⟨_, rfl⟩
  rw [hw11] at HK11 HB911 ⊢
  clear hw11
  have hb211 := HB29.out.trans (HB911.out.mono HB29.out.size)
  have hss : ∀ wx, Below w11.heap.size w11 wx → (convert 39 9 (.slice (some ⟨g, 0, none⟩) 50 50)).run Tryz.prog wx = .ok (.string m.bytes) wx ∧ (convert 39 9 (.slice Ai b.size ci)).run Tryz.prog wx = .ok (.string b) wx ∧ (convert 39 9 (.slice A b.size c)).run Tryz.prog wx = .ok (.string b) wx ∧ (Instr.loadAt 38 (.pointer (some ⟨w8.heap.size, 0, none⟩))).run Tryz.prog wx = .ok (.agg YC) wx ∧ (Instr.loadAt 46 (.pointer (some ⟨w10.heap.size, 0, none⟩))).run Tryz.prog wx = .ok (.agg YC) wx := fun wx hx => by
    have h911 := HB911.out.trans (hx.mono HB911.out.size)
    refine ⟨HXC.out wx (hb211.trans (hx.mono hb211.size)), ?_, ?_, ?_, ?_⟩
    · exact ((HCI.out.below HB79.out).below h911).conv
    · exact ((HAR7.out.below HB79.out).below h911).conv
    · have := HK9.out.below h911 HK9.out.lt
      rw [← HYC.out] at this ⊢
      exact run_load_M wx _ Y this
    · have := HK11.out.below hx HK11.out.lt
      rw [← HYC.out] at this ⊢
      exact run_load_rM wx _ Y this
  have hplY : ∀ W, Calls Tryz.prog 13 #[.agg YC] W fun e w' => e = .returned (.agg YC) ∧ Below W.heap.size W w' := by rw [← HYC.out]; exact plain_any Y
  have heq : ∀ W, (binOp .eql 46 (.agg YC) (.agg YC)).run Tryz.prog W = .ok (.bool true) W := by rw [← HYC.out]; exact run_eql_rf Y
  have hbw := HB2.out.trans (hb211.mono HB2.out.size)
  have HSS := Lib.hid hss; have HPLY := Lib.hid hplY; have HBW := Lib.hid hbw
  clear hss hplY hbw hb211 HB2 HK2 HXC HCI HAR7 HB27 HB29 HB79 HB911 HIM HIR HONE HK8 HK9 HK10 HK11 HYC HYQ HPL HMY HRB HA hci hcv
  cases hg : getM b with
  | none =>
    rw [show getE (none : Option ManM) = 200 from rfl, show getB (none : Option ManM) = false from rfl]
    clear hg
    refine wp_region_held_drew (S := (fun wq => (convert 39 9 (.slice (some ⟨g, 0, none⟩) 50 50)).run Tryz.prog wq = .ok (.string m.bytes) wq ∧ (convert 39 9 (.slice Ai b.size ci)).run Tryz.prog wq = .ok (.string b) wq ∧ (convert 39 9 (.slice A b.size c)).run Tryz.prog wq = .ok (.string b) wq ∧ (Instr.loadAt 38 (.pointer (some ⟨w8.heap.size, 0, none⟩))).run Tryz.prog wq = .ok (.agg YC) wq ∧ (Instr.loadAt 46 (.pointer (some ⟨w10.heap.size, 0, none⟩))).run Tryz.prog wq = .ok (.agg YC) wq)) (by kernel_rfl) ?_ (fun hHeld => ?_)
    · exact HSS.out _ (below_drewN (Below.refl _ _) 1)
    refine wpT (i := 0) (v := ?v0g1_) rfl (Or.inl ⟨by rfl, ?y0g1_⟩) (by assumption) ?r0g1_
    case y0g1_ => (intro w hSw; (try dsimp only at hSw); go_simp; try with_reducible rfl)
    change wpAnyH _ _ _ _ _ _ _ (Act.put _ (some 44) _) _; simp only [Act.put, List.setIfInBounds_toArray, List.set_cons_zero, List.set_cons_succ]
    refine wpT (i := 1) (v := ?v1g1_) rfl (Or.inl ⟨by rfl, ?y1g1_⟩) (by assumption) ?r1g1_
    case y1g1_ => (intro w hSw; exact run_execOp_conv (x := .tmp 44) rfl (by have hs := hSw.1; simpa [Act.eval] using hs))
    change wpAnyH _ _ _ _ _ _ _ (Act.put _ (some 45) _) _; simp only [Act.put, List.setIfInBounds_toArray, List.set_cons_zero, List.set_cons_succ]
    refine wpT (i := 2) (v := ?v2g1_) rfl (Or.inl ⟨by rfl, ?y2g1_⟩) (by assumption) ?r2g1_
    case y2g1_ => (intro w hSw; (try dsimp only at hSw); go_simp; try with_reducible rfl)
    change wpAnyH _ _ _ _ _ _ _ (Act.put _ (some 46) _) _; simp only [Act.put, List.setIfInBounds_toArray, List.set_cons_zero, List.set_cons_succ]
    refine wpT (i := 3) (v := ?v3g1_) rfl (Or.inl ⟨by rfl, ?y3g1_⟩) (by assumption) ?r3g1_
    case y3g1_ => (intro w hSw; (try dsimp only at hSw); go_simp; try with_reducible rfl)
    change wpAnyH _ _ _ _ _ _ _ (Act.put _ (some 47) _) _; simp only [Act.put, List.setIfInBounds_toArray, List.set_cons_zero, List.set_cons_succ]
    refine wpT (i := 4) (v := ?v4g1_) rfl (Or.inl ⟨by rfl, ?y4g1_⟩) (by assumption) ?r4g1_
    case y4g1_ => (intro w hSw; (try dsimp only at hSw); go_simp; try with_reducible rfl)
    change wpAnyH _ _ _ _ _ _ _ (Act.put _ (some 48) _) _; simp only [Act.put, List.setIfInBounds_toArray, List.set_cons_zero, List.set_cons_succ]
    refine wpT (i := 5) (v := ?v5g1_) rfl (Or.inl ⟨by rfl, ?y5g1_⟩) (by assumption) ?r5g1_
    case y5g1_ => (intro w hSw; (try dsimp only at hSw); go_simp; try with_reducible rfl)
    change wpAnyH _ _ _ _ _ _ _ (Act.put _ (some 49) _) _; simp only [Act.put, List.setIfInBounds_toArray, List.set_cons_zero, List.set_cons_succ]
    refine wpT (i := 6) (v := ?v6g1_) rfl (Or.inl ⟨by rfl, ?y6g1_⟩) (by assumption) ?r6g1_
    case y6g1_ => (intro w hSw; (try dsimp only at hSw); go_simp; try with_reducible rfl)
    change wpAnyH _ _ _ _ _ _ _ (Act.put _ (some 50) _) _; simp only [Act.put, List.setIfInBounds_toArray, List.set_cons_zero, List.set_cons_succ]
    refine wpT (i := 7) (v := ?v7g1_) rfl (Or.inl ⟨by rfl, ?y7g1_⟩) (by assumption) ?r7g1_
    case y7g1_ => (intro w hSw; (try dsimp only at hSw); go_simp; try with_reducible rfl)
    change wpAnyH _ _ _ _ _ _ _ (Act.put _ (some 51) _) _; simp only [Act.put, List.setIfInBounds_toArray, List.set_cons_zero, List.set_cons_succ]
    refine wpT (i := 8) (v := ?v8g1_) rfl (Or.inl ⟨by rfl, ?y8g1_⟩) (by assumption) ?r8g1_
    case y8g1_ => (intro w hSw; (try dsimp only at hSw); go_simp; try with_reducible rfl)
    change wpAnyH _ _ _ _ _ _ _ (Act.put _ (some 52) _) _; simp only [Act.put, List.setIfInBounds_toArray, List.set_cons_zero, List.set_cons_succ]
    refine wpT (i := 9) (v := ?v9g1_) rfl (Or.inl ⟨by rfl, ?y9g1_⟩) (by assumption) ?r9g1_
    case y9g1_ => (intro w hSw; (try dsimp only at hSw); go_simp; try with_reducible rfl)
    change wpAnyH _ _ _ _ _ _ _ (Act.put _ (some 53) _) _; simp only [Act.put, List.setIfInBounds_toArray, List.set_cons_zero, List.set_cons_succ]
    refine wpT (i := 10) (v := ?v10g1_) rfl (Or.inl ⟨by rfl, ?y10g1_⟩) (by assumption) ?r10g1_
    case y10g1_ => (intro w hSw; (try dsimp only at hSw); go_simp; try with_reducible rfl)
    change wpAnyH _ _ _ _ _ _ _ (Act.put _ (some 54) _) _; simp only [Act.put, List.setIfInBounds_toArray, List.set_cons_zero, List.set_cons_succ]
    refine wpT (i := 11) (v := ?v11g1_) rfl (Or.inl ⟨by rfl, ?y11g1_⟩) (by assumption) ?r11g1_
    case y11g1_ => (intro w hSw; (try dsimp only at hSw); go_simp; try with_reducible rfl)
    change wpAnyH _ _ _ _ _ _ _ (Act.put _ (some 55) _) _; simp only [Act.put, List.setIfInBounds_toArray, List.set_cons_zero, List.set_cons_succ]
    refine wpT (i := 12) (v := ?v12g1_) rfl (Or.inl ⟨by rfl, ?y12g1_⟩) (by assumption) ?r12g1_
    case y12g1_ => (intro w hSw; (try dsimp only at hSw); go_simp; try with_reducible rfl)
    change wpAnyH _ _ _ _ _ _ _ (Act.put _ (some 56) _) _; simp only [Act.put, List.setIfInBounds_toArray, List.set_cons_zero, List.set_cons_succ]
    refine wpT (i := 13) (v := undef) rfl (Or.inr ⟨by rfl, rfl⟩) (by assumption) ?_
    change wpAnyH _ _ _ _ _ _ _ (Act.put _ (some 57) _) _; simp only [Act.put, List.setIfInBounds_toArray, List.set_cons_zero, List.set_cons_succ]
    refine wpT (i := 14) (v := undef) rfl (Or.inr ⟨by rfl, rfl⟩) (by assumption) ?_
    change wpAnyH _ _ _ _ _ _ _ (Act.put _ (some 58) _) _; simp only [Act.put, List.setIfInBounds_toArray, List.set_cons_zero, List.set_cons_succ]
    refine wpT (i := 15) (v := ?v15g1_) rfl (Or.inl ⟨by rfl, ?y15g1_⟩) (by assumption) ?r15g1_
    case y15g1_ => (intro w hSw; (try dsimp only at hSw); go_simp; try with_reducible rfl)
    change wpAnyH _ _ _ _ _ _ _ (Act.put _ (some 59) _) _; simp only [Act.put, List.setIfInBounds_toArray, List.set_cons_zero, List.set_cons_succ]
    refine wpT (i := 16) (v := ?v16g1_) rfl (Or.inl ⟨by rfl, ?y16g1_⟩) (by assumption) ?r16g1_
    case y16g1_ => (intro w hSw; (try dsimp only at hSw); go_simp; try with_reducible rfl)
    change wpAnyH _ _ _ _ _ _ _ (Act.put _ (some 60) _) _; simp only [Act.put, List.setIfInBounds_toArray, List.set_cons_zero, List.set_cons_succ]
    refine wpT (i := 17) (v := ?v17g1_) rfl (Or.inl ⟨by rfl, ?y17g1_⟩) (by assumption) ?r17g1_
    case y17g1_ => (intro w hSw; (try dsimp only at hSw); go_simp; try with_reducible rfl)
    change wpAnyH _ _ _ _ _ _ _ (Act.put _ (some 61) _) _; simp only [Act.put, List.setIfInBounds_toArray, List.set_cons_zero, List.set_cons_succ]
    refine wpT (i := 18) (v := ?v18g1_) rfl (Or.inl ⟨by rfl, ?y18g1_⟩) (by assumption) ?r18g1_
    case y18g1_ => (intro w hSw; exact run_execOp_load (x := .tmp 10) rfl (by have hs := hSw.2.2.2.1; simpa [Act.eval] using hs))
    change wpAnyH _ _ _ _ _ _ _ (Act.put _ (some 62) _) _; simp only [Act.put, List.setIfInBounds_toArray, List.set_cons_zero, List.set_cons_succ]
    refine wpT (i := 20) (v := ?v20g1_) rfl (Or.inl ⟨by rfl, ?y20g1_⟩) (by assumption) ?r20g1_
    case y20g1_ => (intro w hSw; exact run_execOp_load (x := .tmp 12) rfl (by have hs := hSw.2.2.2.2; simpa [Act.eval] using hs))
    change wpAnyH _ _ _ _ _ _ _ (Act.put _ (some 64) _) _; simp only [Act.put, List.setIfInBounds_toArray, List.set_cons_zero, List.set_cons_succ]
    refine wpAnyH_ready (rs := [19]) (by kernel_rfl) (by simp) ?_
    refine AllReadyH.cons rfl (fun K hK => ?_) AllReadyH.nil
    go_simp
    refine (HPLY.out _).mono ?_
    rintro e w12 ⟨rfl, hb12⟩
    have HB12 := Lib.hid (show Below w11.heap.size w11 w12 from undrew hb12)
    clear hb12
    dsimp only
    refine hK.out _ _ ?_ (fun hHeld => ?_)
    · exact HSS.out _ HB12.out
    clear hK K
    try simp only [Act.put, List.setIfInBounds_toArray, List.set_cons_zero, List.set_cons_succ]
    refine wpT (i := 21) (v := ?v21g1_) rfl (Or.inl ⟨by rfl, ?y21g1_⟩) (by assumption) ?r21g1_
    case y21g1_ => (intro w hSw; (try dsimp only at hSw); go_simp; try with_reducible rfl)
    change wpAnyH _ _ _ _ _ _ _ (Act.put _ (some 65) _) _; simp only [Act.put, List.setIfInBounds_toArray, List.set_cons_zero, List.set_cons_succ]
    refine wpT (i := 22) (v := ?v22g1_) rfl (Or.inl ⟨by rfl, ?y22g1_⟩) (by assumption) ?r22g1_
    case y22g1_ => (intro w hSw; (try dsimp only at hSw); go_simp; try with_reducible rfl)
    change wpAnyH _ _ _ _ _ _ _ (Act.put _ (some 66) _) _; simp only [Act.put, List.setIfInBounds_toArray, List.set_cons_zero, List.set_cons_succ]
    refine wpT (i := 23) (v := ?v23g1_) rfl (Or.inl ⟨by rfl, ?y23g1_⟩) (by assumption) ?r23g1_
    case y23g1_ => (intro w hSw; (try dsimp only at hSw); go_simp; try with_reducible rfl)
    change wpAnyH _ _ _ _ _ _ _ (Act.put _ (some 67) _) _; simp only [Act.put, List.setIfInBounds_toArray, List.set_cons_zero, List.set_cons_succ]
    refine wpT (i := 24) (v := ?v24g1_) rfl (Or.inl ⟨by rfl, ?y24g1_⟩) (by assumption) ?r24g1_
    case y24g1_ => (intro w hSw; (try dsimp only at hSw); go_simp; try with_reducible rfl)
    change wpAnyH _ _ _ _ _ _ _ (Act.put _ (some 68) _) _; simp only [Act.put, List.setIfInBounds_toArray, List.set_cons_zero, List.set_cons_succ]
    refine wpT (i := 25) (v := ?v25g1_) rfl (Or.inl ⟨by rfl, ?y25g1_⟩) (by assumption) ?r25g1_
    case y25g1_ => (intro w hSw; (try dsimp only at hSw); go_simp; try with_reducible rfl)
    change wpAnyH _ _ _ _ _ _ _ (Act.put _ (some 69) _) _; simp only [Act.put, List.setIfInBounds_toArray, List.set_cons_zero, List.set_cons_succ]
    refine wpT (i := 26) (v := ?v26g1_) rfl (Or.inl ⟨by rfl, ?y26g1_⟩) (by assumption) ?r26g1_
    case y26g1_ => (intro w hSw; (try dsimp only at hSw); go_simp; try with_reducible rfl)
    change wpAnyH _ _ _ _ _ _ _ (Act.put _ (some 70) _) _; simp only [Act.put, List.setIfInBounds_toArray, List.set_cons_zero, List.set_cons_succ]
    refine wpT (i := 27) (v := ?v27g1_) rfl (Or.inl ⟨by rfl, ?y27g1_⟩) (by assumption) ?r27g1_
    case y27g1_ => (intro w hSw; (try dsimp only at hSw); go_simp; try with_reducible rfl)
    change wpAnyH _ _ _ _ _ _ _ (Act.put _ (some 71) _) _; simp only [Act.put, List.setIfInBounds_toArray, List.set_cons_zero, List.set_cons_succ]
    refine wpT (i := 28) (v := ?v28g1_) rfl (Or.inl ⟨by rfl, ?y28g1_⟩) (by assumption) ?r28g1_
    case y28g1_ => (intro w hSw; (try dsimp only at hSw); go_simp; try with_reducible rfl)
    change wpAnyH _ _ _ _ _ _ _ (Act.put _ (some 72) _) _; simp only [Act.put, List.setIfInBounds_toArray, List.set_cons_zero, List.set_cons_succ]
    refine wpT (i := 29) (v := ?v29g1_) rfl (Or.inl ⟨by rfl, ?y29g1_⟩) (by assumption) ?r29g1_
    case y29g1_ => (intro w hSw; (try dsimp only at hSw); go_simp; try with_reducible rfl)
    change wpAnyH _ _ _ _ _ _ _ (Act.put _ (some 73) _) _; simp only [Act.put, List.setIfInBounds_toArray, List.set_cons_zero, List.set_cons_succ]
    refine wpT (i := 30) (v := ?v30g1_) rfl (Or.inl ⟨by rfl, ?y30g1_⟩) (by assumption) ?r30g1_
    case y30g1_ => (intro w hSw; (try dsimp only at hSw); go_simp; try with_reducible rfl)
    change wpAnyH _ _ _ _ _ _ _ (Act.put _ (some 74) _) _; simp only [Act.put, List.setIfInBounds_toArray, List.set_cons_zero, List.set_cons_succ]
    refine wpT (i := 31) (v := ?v31g1_) rfl (Or.inl ⟨by rfl, ?y31g1_⟩) (by assumption) ?r31g1_
    case y31g1_ => (intro w hSw; (try dsimp only at hSw); go_simp; try with_reducible rfl)
    change wpAnyH _ _ _ _ _ _ _ (Act.put _ (some 75) _) _; simp only [Act.put, List.setIfInBounds_toArray, List.set_cons_zero, List.set_cons_succ]
    refine wpT (i := 32) (v := ?v32g1_) rfl (Or.inl ⟨by rfl, ?y32g1_⟩) (by assumption) ?r32g1_
    case y32g1_ => (intro w hSw; (try dsimp only at hSw); go_simp; try with_reducible rfl)
    change wpAnyH _ _ _ _ _ _ _ (Act.put _ (some 76) _) _; simp only [Act.put, List.setIfInBounds_toArray, List.set_cons_zero, List.set_cons_succ]
    refine wpT (i := 33) (v := ?v33g1_) rfl (Or.inl ⟨by rfl, ?y33g1_⟩) (by assumption) ?r33g1_
    case y33g1_ => (intro w hSw; (try dsimp only at hSw); go_simp; try with_reducible rfl)
    change wpAnyH _ _ _ _ _ _ _ (Act.put _ (some 77) _) _; simp only [Act.put, List.setIfInBounds_toArray, List.set_cons_zero, List.set_cons_succ]
    refine wpT (i := 34) (v := ?v34g1_) rfl (Or.inl ⟨by rfl, ?y34g1_⟩) (by assumption) ?r34g1_
    case y34g1_ => (intro w hSw; (try dsimp only at hSw); go_simp; try with_reducible rfl)
    change wpAnyH _ _ _ _ _ _ _ (Act.put _ (some 78) _) _; simp only [Act.put, List.setIfInBounds_toArray, List.set_cons_zero, List.set_cons_succ]
    refine wpT (i := 35) (v := ?v35g1_) rfl (Or.inl ⟨by rfl, ?y35g1_⟩) (by assumption) ?r35g1_
    case y35g1_ => (intro w hSw; (try dsimp only at hSw); go_simp; try with_reducible rfl)
    change wpAnyH _ _ _ _ _ _ _ (Act.put _ (some 79) _) _; simp only [Act.put, List.setIfInBounds_toArray, List.set_cons_zero, List.set_cons_succ]
    refine wpT (i := 36) (v := ?v36g1_) rfl (Or.inl ⟨by rfl, ?y36g1_⟩) (by assumption) ?r36g1_
    case y36g1_ => (intro w hSw; (try dsimp only at hSw); go_simp; try with_reducible rfl)
    change wpAnyH _ _ _ _ _ _ _ (Act.put _ (some 80) _) _; simp only [Act.put, List.setIfInBounds_toArray, List.set_cons_zero, List.set_cons_succ]
    refine wpT (i := 37) (v := ?v37g1_) rfl (Or.inl ⟨by rfl, ?y37g1_⟩) (by assumption) ?r37g1_
    case y37g1_ => (intro w hSw; (try dsimp only at hSw); go_simp; try with_reducible rfl)
    change wpAnyH _ _ _ _ _ _ _ (Act.put _ (some 81) _) _; simp only [Act.put, List.setIfInBounds_toArray, List.set_cons_zero, List.set_cons_succ]
    refine wpT (i := 38) (v := ?v38g1_) rfl (Or.inl ⟨by rfl, ?y38g1_⟩) (by assumption) ?r38g1_
    case y38g1_ => (intro w hSw; exact run_execOp_conv (x := .tmp 81) rfl (by have hs := hSw.2.1; simpa [Act.eval] using hs))
    change wpAnyH _ _ _ _ _ _ _ (Act.put _ (some 82) _) _; simp only [Act.put, List.setIfInBounds_toArray, List.set_cons_zero, List.set_cons_succ]
    refine wpT (i := 39) (v := ?v39g1_) rfl (Or.inl ⟨by rfl, ?y39g1_⟩) (by assumption) ?r39g1_
    case y39g1_ => (intro w hSw; (try dsimp only at hSw); go_simp; try with_reducible rfl)
    change wpAnyH _ _ _ _ _ _ _ (Act.put _ (some 83) _) _; simp only [Act.put, List.setIfInBounds_toArray, List.set_cons_zero, List.set_cons_succ]
    refine wpT (i := 40) (v := ?v40g1_) rfl (Or.inl ⟨by rfl, ?y40g1_⟩) (by assumption) ?r40g1_
    case y40g1_ => (intro w hSw; exact run_execOp_conv (x := .tmp 83) rfl (by have hs := hSw.2.2.1; simpa [Act.eval] using hs))
    change wpAnyH _ _ _ _ _ _ _ (Act.put _ (some 84) _) _; simp only [Act.put, List.setIfInBounds_toArray, List.set_cons_zero, List.set_cons_succ]
    refine wpT (i := 41) (v := ?v41g1_) rfl (Or.inl ⟨by rfl, ?y41g1_⟩) (by assumption) ?r41g1_
    case y41g1_ => (intro w hSw; (try dsimp only at hSw); go_simp; try with_reducible rfl)
    change wpAnyH _ _ _ _ _ _ _ (Act.put _ (some 85) _) _; simp only [Act.put, List.setIfInBounds_toArray, List.set_cons_zero, List.set_cons_succ]
    refine wpT (i := 42) (v := ?v42g1_) rfl (Or.inl ⟨by rfl, ?y42g1_⟩) (by assumption) ?r42g1_
    case y42g1_ => (intro w hSw; (try dsimp only at hSw); go_simp; try with_reducible rfl)
    change wpAnyH _ _ _ _ _ _ _ (Act.put _ (some 86) _) _; simp only [Act.put, List.setIfInBounds_toArray, List.set_cons_zero, List.set_cons_succ]
    refine wpT (i := 43) (v := ?v43g1_) rfl (Or.inl ⟨by rfl, ?y43g1_⟩) (by assumption) ?r43g1_
    case y43g1_ => (intro w hSw; (try dsimp only at hSw); go_simp; try with_reducible rfl)
    change wpAnyH _ _ _ _ _ _ _ (Act.put _ (some 87) _) _; simp only [Act.put, List.setIfInBounds_toArray, List.set_cons_zero, List.set_cons_succ]
    refine wpAnyH_ready (rs := [44]) (by kernel_rfl) (by simp) ?_
    refine AllReadyH.cons rfl (fun K hK => ?_) AllReadyH.nil
    go_simp
    refine (HWK.out _ (HBW.out.trans (HB12.out.mono HBW.out.size))).mono ?_
    rintro e w13 ⟨rfl, hb13⟩
    have HB13 := Lib.hid (HB12.out.trans (hb13.mono HB12.out.size))
    clear hb13
    dsimp only
    refine hK.out _ _ ?_ (fun hHeld => ?_)
    · exact HSS.out _ HB13.out
    clear hK K
    try simp only [Act.put, List.setIfInBounds_toArray, List.set_cons_zero, List.set_cons_succ]
    refine wpT (i := 45) (v := ?v45g1_) rfl (Or.inl ⟨by rfl, ?y45g1_⟩) (by assumption) ?r45g1_
    case y45g1_ => (intro w hSw; (try dsimp only at hSw); go_simp; try with_reducible rfl)
    change wpAnyH _ _ _ _ _ _ _ (Act.put _ (some 89) _) _; simp only [Act.put, List.setIfInBounds_toArray, List.set_cons_zero, List.set_cons_succ]
    refine wpT (i := 46) (v := ?v46g1_) rfl (Or.inl ⟨by rfl, ?y46g1_⟩) (by assumption) ?r46g1_
    case y46g1_ => (intro w hSw; (try dsimp only at hSw); go_simp; try with_reducible rfl)
    change wpAnyH _ _ _ _ _ _ _ (Act.put _ (some 4) _) _; simp only [Act.put, List.setIfInBounds_toArray, List.set_cons_zero, List.set_cons_succ]
    refine wpAnyH_done (by kernel_rfl) ?_ _
    go_wp2_with fail
    go_ret
    exact ⟨rfl, HBW.out.trans (HB13.out.mono HBW.out.size)⟩
  | some mb =>
    rw [show getE (some mb) = 0 from rfl, show getB (some mb) = true from rfl]
    clear hg
    refine wp_region_held_drew (S := (fun wq => (convert 39 9 (.slice (some ⟨g, 0, none⟩) 50 50)).run Tryz.prog wq = .ok (.string m.bytes) wq ∧ (convert 39 9 (.slice Ai b.size ci)).run Tryz.prog wq = .ok (.string b) wq ∧ (convert 39 9 (.slice A b.size c)).run Tryz.prog wq = .ok (.string b) wq ∧ (Instr.loadAt 38 (.pointer (some ⟨w8.heap.size, 0, none⟩))).run Tryz.prog wq = .ok (.agg YC) wq ∧ (Instr.loadAt 46 (.pointer (some ⟨w10.heap.size, 0, none⟩))).run Tryz.prog wq = .ok (.agg YC) wq)) (by kernel_rfl) ?_ (fun hHeld => ?_)
    · exact HSS.out _ (below_drewN (Below.refl _ _) 1)
    refine wpT (i := 0) (v := ?v0g2_) rfl (Or.inl ⟨by rfl, ?y0g2_⟩) (by assumption) ?r0g2_
    case y0g2_ => (intro w hSw; (try dsimp only at hSw); go_simp; try with_reducible rfl)
    change wpAnyH _ _ _ _ _ _ _ (Act.put _ (some 44) _) _; simp only [Act.put, List.setIfInBounds_toArray, List.set_cons_zero, List.set_cons_succ]
    refine wpT (i := 1) (v := ?v1g2_) rfl (Or.inl ⟨by rfl, ?y1g2_⟩) (by assumption) ?r1g2_
    case y1g2_ => (intro w hSw; exact run_execOp_conv (x := .tmp 44) rfl (by have hs := hSw.1; simpa [Act.eval] using hs))
    change wpAnyH _ _ _ _ _ _ _ (Act.put _ (some 45) _) _; simp only [Act.put, List.setIfInBounds_toArray, List.set_cons_zero, List.set_cons_succ]
    refine wpT (i := 2) (v := ?v2g2_) rfl (Or.inl ⟨by rfl, ?y2g2_⟩) (by assumption) ?r2g2_
    case y2g2_ => (intro w hSw; (try dsimp only at hSw); go_simp; try with_reducible rfl)
    change wpAnyH _ _ _ _ _ _ _ (Act.put _ (some 46) _) _; simp only [Act.put, List.setIfInBounds_toArray, List.set_cons_zero, List.set_cons_succ]
    refine wpT (i := 3) (v := ?v3g2_) rfl (Or.inl ⟨by rfl, ?y3g2_⟩) (by assumption) ?r3g2_
    case y3g2_ => (intro w hSw; (try dsimp only at hSw); go_simp; try with_reducible rfl)
    change wpAnyH _ _ _ _ _ _ _ (Act.put _ (some 47) _) _; simp only [Act.put, List.setIfInBounds_toArray, List.set_cons_zero, List.set_cons_succ]
    refine wpT (i := 4) (v := ?v4g2_) rfl (Or.inl ⟨by rfl, ?y4g2_⟩) (by assumption) ?r4g2_
    case y4g2_ => (intro w hSw; (try dsimp only at hSw); go_simp; try with_reducible rfl)
    change wpAnyH _ _ _ _ _ _ _ (Act.put _ (some 48) _) _; simp only [Act.put, List.setIfInBounds_toArray, List.set_cons_zero, List.set_cons_succ]
    refine wpT (i := 5) (v := ?v5g2_) rfl (Or.inl ⟨by rfl, ?y5g2_⟩) (by assumption) ?r5g2_
    case y5g2_ => (intro w hSw; (try dsimp only at hSw); go_simp; try with_reducible rfl)
    change wpAnyH _ _ _ _ _ _ _ (Act.put _ (some 49) _) _; simp only [Act.put, List.setIfInBounds_toArray, List.set_cons_zero, List.set_cons_succ]
    refine wpT (i := 6) (v := ?v6g2_) rfl (Or.inl ⟨by rfl, ?y6g2_⟩) (by assumption) ?r6g2_
    case y6g2_ => (intro w hSw; (try dsimp only at hSw); go_simp; try with_reducible rfl)
    change wpAnyH _ _ _ _ _ _ _ (Act.put _ (some 50) _) _; simp only [Act.put, List.setIfInBounds_toArray, List.set_cons_zero, List.set_cons_succ]
    refine wpT (i := 7) (v := ?v7g2_) rfl (Or.inl ⟨by rfl, ?y7g2_⟩) (by assumption) ?r7g2_
    case y7g2_ => (intro w hSw; (try dsimp only at hSw); go_simp; try with_reducible rfl)
    change wpAnyH _ _ _ _ _ _ _ (Act.put _ (some 51) _) _; simp only [Act.put, List.setIfInBounds_toArray, List.set_cons_zero, List.set_cons_succ]
    refine wpT (i := 8) (v := ?v8g2_) rfl (Or.inl ⟨by rfl, ?y8g2_⟩) (by assumption) ?r8g2_
    case y8g2_ => (intro w hSw; (try dsimp only at hSw); go_simp; try with_reducible rfl)
    change wpAnyH _ _ _ _ _ _ _ (Act.put _ (some 52) _) _; simp only [Act.put, List.setIfInBounds_toArray, List.set_cons_zero, List.set_cons_succ]
    refine wpT (i := 9) (v := ?v9g2_) rfl (Or.inl ⟨by rfl, ?y9g2_⟩) (by assumption) ?r9g2_
    case y9g2_ => (intro w hSw; (try dsimp only at hSw); go_simp; try with_reducible rfl)
    change wpAnyH _ _ _ _ _ _ _ (Act.put _ (some 53) _) _; simp only [Act.put, List.setIfInBounds_toArray, List.set_cons_zero, List.set_cons_succ]
    refine wpT (i := 10) (v := ?v10g2_) rfl (Or.inl ⟨by rfl, ?y10g2_⟩) (by assumption) ?r10g2_
    case y10g2_ => (intro w hSw; (try dsimp only at hSw); go_simp; try with_reducible rfl)
    change wpAnyH _ _ _ _ _ _ _ (Act.put _ (some 54) _) _; simp only [Act.put, List.setIfInBounds_toArray, List.set_cons_zero, List.set_cons_succ]
    refine wpT (i := 11) (v := ?v11g2_) rfl (Or.inl ⟨by rfl, ?y11g2_⟩) (by assumption) ?r11g2_
    case y11g2_ => (intro w hSw; (try dsimp only at hSw); go_simp; try with_reducible rfl)
    change wpAnyH _ _ _ _ _ _ _ (Act.put _ (some 55) _) _; simp only [Act.put, List.setIfInBounds_toArray, List.set_cons_zero, List.set_cons_succ]
    refine wpT (i := 12) (v := ?v12g2_) rfl (Or.inl ⟨by rfl, ?y12g2_⟩) (by assumption) ?r12g2_
    case y12g2_ => (intro w hSw; (try dsimp only at hSw); go_simp; try with_reducible rfl)
    change wpAnyH _ _ _ _ _ _ _ (Act.put _ (some 56) _) _; simp only [Act.put, List.setIfInBounds_toArray, List.set_cons_zero, List.set_cons_succ]
    refine wpT (i := 13) (v := undef) rfl (Or.inr ⟨by rfl, rfl⟩) (by assumption) ?_
    change wpAnyH _ _ _ _ _ _ _ (Act.put _ (some 57) _) _; simp only [Act.put, List.setIfInBounds_toArray, List.set_cons_zero, List.set_cons_succ]
    refine wpT (i := 14) (v := undef) rfl (Or.inr ⟨by rfl, rfl⟩) (by assumption) ?_
    change wpAnyH _ _ _ _ _ _ _ (Act.put _ (some 58) _) _; simp only [Act.put, List.setIfInBounds_toArray, List.set_cons_zero, List.set_cons_succ]
    refine wpT (i := 15) (v := ?v15g2_) rfl (Or.inl ⟨by rfl, ?y15g2_⟩) (by assumption) ?r15g2_
    case y15g2_ => (intro w hSw; (try dsimp only at hSw); go_simp; try with_reducible rfl)
    change wpAnyH _ _ _ _ _ _ _ (Act.put _ (some 59) _) _; simp only [Act.put, List.setIfInBounds_toArray, List.set_cons_zero, List.set_cons_succ]
    refine wpT (i := 16) (v := ?v16g2_) rfl (Or.inl ⟨by rfl, ?y16g2_⟩) (by assumption) ?r16g2_
    case y16g2_ => (intro w hSw; (try dsimp only at hSw); go_simp; try with_reducible rfl)
    change wpAnyH _ _ _ _ _ _ _ (Act.put _ (some 60) _) _; simp only [Act.put, List.setIfInBounds_toArray, List.set_cons_zero, List.set_cons_succ]
    refine wpT (i := 17) (v := ?v17g2_) rfl (Or.inl ⟨by rfl, ?y17g2_⟩) (by assumption) ?r17g2_
    case y17g2_ => (intro w hSw; (try dsimp only at hSw); go_simp; try with_reducible rfl)
    change wpAnyH _ _ _ _ _ _ _ (Act.put _ (some 61) _) _; simp only [Act.put, List.setIfInBounds_toArray, List.set_cons_zero, List.set_cons_succ]
    refine wpT (i := 18) (v := ?v18g2_) rfl (Or.inl ⟨by rfl, ?y18g2_⟩) (by assumption) ?r18g2_
    case y18g2_ => (intro w hSw; exact run_execOp_load (x := .tmp 10) rfl (by have hs := hSw.2.2.2.1; simpa [Act.eval] using hs))
    change wpAnyH _ _ _ _ _ _ _ (Act.put _ (some 62) _) _; simp only [Act.put, List.setIfInBounds_toArray, List.set_cons_zero, List.set_cons_succ]
    refine wpT (i := 20) (v := ?v20g2_) rfl (Or.inl ⟨by rfl, ?y20g2_⟩) (by assumption) ?r20g2_
    case y20g2_ => (intro w hSw; exact run_execOp_load (x := .tmp 12) rfl (by have hs := hSw.2.2.2.2; simpa [Act.eval] using hs))
    change wpAnyH _ _ _ _ _ _ _ (Act.put _ (some 64) _) _; simp only [Act.put, List.setIfInBounds_toArray, List.set_cons_zero, List.set_cons_succ]
    refine wpAnyH_ready (rs := [19]) (by kernel_rfl) (by simp) ?_
    refine AllReadyH.cons rfl (fun K hK => ?_) AllReadyH.nil
    go_simp
    refine (HPLY.out _).mono ?_
    rintro e w12 ⟨rfl, hb12⟩
    have HB12 := Lib.hid (show Below w11.heap.size w11 w12 from undrew hb12)
    clear hb12
    dsimp only
    refine hK.out _ _ ?_ (fun hHeld => ?_)
    · exact HSS.out _ HB12.out
    clear hK K
    try simp only [Act.put, List.setIfInBounds_toArray, List.set_cons_zero, List.set_cons_succ]
    refine wpT (i := 21) (v := ?v21g2_) rfl (Or.inl ⟨by rfl, ?y21g2_⟩) (by assumption) ?r21g2_
    case y21g2_ => (intro w hSw; (try dsimp only at hSw); go_simp; try with_reducible rfl)
    change wpAnyH _ _ _ _ _ _ _ (Act.put _ (some 65) _) _; simp only [Act.put, List.setIfInBounds_toArray, List.set_cons_zero, List.set_cons_succ]
    refine wpT (i := 22) (v := ?v22g2_) rfl (Or.inl ⟨by rfl, ?y22g2_⟩) (by assumption) ?r22g2_
    case y22g2_ => (intro w hSw; (try dsimp only at hSw); go_simp; try with_reducible rfl)
    change wpAnyH _ _ _ _ _ _ _ (Act.put _ (some 66) _) _; simp only [Act.put, List.setIfInBounds_toArray, List.set_cons_zero, List.set_cons_succ]
    refine wpT (i := 23) (v := ?v23g2_) rfl (Or.inl ⟨by rfl, ?y23g2_⟩) (by assumption) ?r23g2_
    case y23g2_ => (intro w hSw; (try dsimp only at hSw); go_simp; try with_reducible rfl)
    change wpAnyH _ _ _ _ _ _ _ (Act.put _ (some 67) _) _; simp only [Act.put, List.setIfInBounds_toArray, List.set_cons_zero, List.set_cons_succ]
    refine wpT (i := 24) (v := ?v24g2_) rfl (Or.inl ⟨by rfl, ?y24g2_⟩) (by assumption) ?r24g2_
    case y24g2_ => (intro w hSw; (try dsimp only at hSw); go_simp; try with_reducible rfl)
    change wpAnyH _ _ _ _ _ _ _ (Act.put _ (some 68) _) _; simp only [Act.put, List.setIfInBounds_toArray, List.set_cons_zero, List.set_cons_succ]
    refine wpT (i := 25) (v := ?v25g2_) rfl (Or.inl ⟨by rfl, ?y25g2_⟩) (by assumption) ?r25g2_
    case y25g2_ => (intro w hSw; (try dsimp only at hSw); go_simp; try with_reducible rfl)
    change wpAnyH _ _ _ _ _ _ _ (Act.put _ (some 69) _) _; simp only [Act.put, List.setIfInBounds_toArray, List.set_cons_zero, List.set_cons_succ]
    refine wpT (i := 26) (v := ?v26g2_) rfl (Or.inl ⟨by rfl, ?y26g2_⟩) (by assumption) ?r26g2_
    case y26g2_ => (intro w hSw; (try dsimp only at hSw); go_simp; try with_reducible rfl)
    change wpAnyH _ _ _ _ _ _ _ (Act.put _ (some 70) _) _; simp only [Act.put, List.setIfInBounds_toArray, List.set_cons_zero, List.set_cons_succ]
    refine wpT (i := 27) (v := ?v27g2_) rfl (Or.inl ⟨by rfl, ?y27g2_⟩) (by assumption) ?r27g2_
    case y27g2_ => (intro w hSw; (try dsimp only at hSw); go_simp; try with_reducible rfl)
    change wpAnyH _ _ _ _ _ _ _ (Act.put _ (some 71) _) _; simp only [Act.put, List.setIfInBounds_toArray, List.set_cons_zero, List.set_cons_succ]
    refine wpT (i := 28) (v := ?v28g2_) rfl (Or.inl ⟨by rfl, ?y28g2_⟩) (by assumption) ?r28g2_
    case y28g2_ => (intro w hSw; (try dsimp only at hSw); go_simp; try with_reducible rfl)
    change wpAnyH _ _ _ _ _ _ _ (Act.put _ (some 72) _) _; simp only [Act.put, List.setIfInBounds_toArray, List.set_cons_zero, List.set_cons_succ]
    refine wpT (i := 29) (v := ?v29g2_) rfl (Or.inl ⟨by rfl, ?y29g2_⟩) (by assumption) ?r29g2_
    case y29g2_ => (intro w hSw; (try dsimp only at hSw); go_simp; try with_reducible rfl)
    change wpAnyH _ _ _ _ _ _ _ (Act.put _ (some 73) _) _; simp only [Act.put, List.setIfInBounds_toArray, List.set_cons_zero, List.set_cons_succ]
    refine wpT (i := 30) (v := ?v30g2_) rfl (Or.inl ⟨by rfl, ?y30g2_⟩) (by assumption) ?r30g2_
    case y30g2_ => (intro w hSw; (try dsimp only at hSw); go_simp; try with_reducible rfl)
    change wpAnyH _ _ _ _ _ _ _ (Act.put _ (some 74) _) _; simp only [Act.put, List.setIfInBounds_toArray, List.set_cons_zero, List.set_cons_succ]
    refine wpT (i := 31) (v := ?v31g2_) rfl (Or.inl ⟨by rfl, ?y31g2_⟩) (by assumption) ?r31g2_
    case y31g2_ => (intro w hSw; (try dsimp only at hSw); go_simp; try with_reducible rfl)
    change wpAnyH _ _ _ _ _ _ _ (Act.put _ (some 75) _) _; simp only [Act.put, List.setIfInBounds_toArray, List.set_cons_zero, List.set_cons_succ]
    refine wpT (i := 32) (v := undef) rfl (Or.inr ⟨by rfl, rfl⟩) (by assumption) ?_
    change wpAnyH _ _ _ _ _ _ _ (Act.put _ (some 76) _) _; simp only [Act.put, List.setIfInBounds_toArray, List.set_cons_zero, List.set_cons_succ]
    refine wpT (i := 33) (v := undef) rfl (Or.inr ⟨by rfl, rfl⟩) (by assumption) ?_
    change wpAnyH _ _ _ _ _ _ _ (Act.put _ (some 77) _) _; simp only [Act.put, List.setIfInBounds_toArray, List.set_cons_zero, List.set_cons_succ]
    refine wpT (i := 34) (v := ?v34g2_) rfl (Or.inl ⟨by rfl, ?y34g2_⟩) (by assumption) ?r34g2_
    case y34g2_ => (intro w hSw; (try dsimp only at hSw); go_simp; try with_reducible rfl)
    change wpAnyH _ _ _ _ _ _ _ (Act.put _ (some 78) _) _; simp only [Act.put, List.setIfInBounds_toArray, List.set_cons_zero, List.set_cons_succ]
    refine wpT (i := 35) (v := ?v35g2_) rfl (Or.inl ⟨by rfl, ?y35g2_⟩) (by assumption) ?r35g2_
    case y35g2_ => (intro w hSw; (try dsimp only at hSw); go_simp; try with_reducible rfl)
    change wpAnyH _ _ _ _ _ _ _ (Act.put _ (some 79) _) _; simp only [Act.put, List.setIfInBounds_toArray, List.set_cons_zero, List.set_cons_succ]
    refine wpT (i := 36) (v := ?v36g2_) rfl (Or.inl ⟨by rfl, ?y36g2_⟩) (by assumption) ?r36g2_
    case y36g2_ => (intro w hSw; (try dsimp only at hSw); go_simp; try with_reducible rfl)
    change wpAnyH _ _ _ _ _ _ _ (Act.put _ (some 80) _) _; simp only [Act.put, List.setIfInBounds_toArray, List.set_cons_zero, List.set_cons_succ]
    refine wpT (i := 37) (v := ?v37g2_) rfl (Or.inl ⟨by rfl, ?y37g2_⟩) (by assumption) ?r37g2_
    case y37g2_ => (intro w hSw; (try dsimp only at hSw); go_simp; try with_reducible rfl)
    change wpAnyH _ _ _ _ _ _ _ (Act.put _ (some 81) _) _; simp only [Act.put, List.setIfInBounds_toArray, List.set_cons_zero, List.set_cons_succ]
    refine wpT (i := 38) (v := ?v38g2_) rfl (Or.inl ⟨by rfl, ?y38g2_⟩) (by assumption) ?r38g2_
    case y38g2_ => (intro w hSw; exact run_execOp_conv (x := .tmp 81) rfl (by have hs := hSw.2.1; simpa [Act.eval] using hs))
    change wpAnyH _ _ _ _ _ _ _ (Act.put _ (some 82) _) _; simp only [Act.put, List.setIfInBounds_toArray, List.set_cons_zero, List.set_cons_succ]
    refine wpT (i := 39) (v := ?v39g2_) rfl (Or.inl ⟨by rfl, ?y39g2_⟩) (by assumption) ?r39g2_
    case y39g2_ => (intro w hSw; (try dsimp only at hSw); go_simp; try with_reducible rfl)
    change wpAnyH _ _ _ _ _ _ _ (Act.put _ (some 83) _) _; simp only [Act.put, List.setIfInBounds_toArray, List.set_cons_zero, List.set_cons_succ]
    refine wpT (i := 40) (v := ?v40g2_) rfl (Or.inl ⟨by rfl, ?y40g2_⟩) (by assumption) ?r40g2_
    case y40g2_ => (intro w hSw; exact run_execOp_conv (x := .tmp 83) rfl (by have hs := hSw.2.2.1; simpa [Act.eval] using hs))
    change wpAnyH _ _ _ _ _ _ _ (Act.put _ (some 84) _) _; simp only [Act.put, List.setIfInBounds_toArray, List.set_cons_zero, List.set_cons_succ]
    refine wpT (i := 41) (v := ?v41g2_) rfl (Or.inl ⟨by rfl, ?y41g2_⟩) (by assumption) ?r41g2_
    case y41g2_ => (intro w hSw; (try dsimp only at hSw); go_simp; try with_reducible rfl)
    change wpAnyH _ _ _ _ _ _ _ (Act.put _ (some 85) _) _; simp only [Act.put, List.setIfInBounds_toArray, List.set_cons_zero, List.set_cons_succ]
    refine wpT (i := 42) (v := ?v42g2_) rfl (Or.inl ⟨by rfl, ?y42g2_⟩) (by assumption) ?r42g2_
    case y42g2_ => (intro w hSw; (try dsimp only at hSw); go_simp; try with_reducible rfl)
    change wpAnyH _ _ _ _ _ _ _ (Act.put _ (some 86) _) _; simp only [Act.put, List.setIfInBounds_toArray, List.set_cons_zero, List.set_cons_succ]
    refine wpT (i := 43) (v := ?v43g2_) rfl (Or.inl ⟨by rfl, ?y43g2_⟩) (by assumption) ?r43g2_
    case y43g2_ => (intro w hSw; (try dsimp only at hSw); go_simp; try with_reducible rfl)
    change wpAnyH _ _ _ _ _ _ _ (Act.put _ (some 87) _) _; simp only [Act.put, List.setIfInBounds_toArray, List.set_cons_zero, List.set_cons_succ]
    refine wpAnyH_ready (rs := [44]) (by kernel_rfl) (by simp) ?_
    refine AllReadyH.cons rfl (fun K hK => ?_) AllReadyH.nil
    go_simp
    refine (HWK.out _ (HBW.out.trans (HB12.out.mono HBW.out.size))).mono ?_
    rintro e w13 ⟨rfl, hb13⟩
    have HB13 := Lib.hid (HB12.out.trans (hb13.mono HB12.out.size))
    clear hb13
    dsimp only
    refine hK.out _ _ ?_ (fun hHeld => ?_)
    · exact HSS.out _ HB13.out
    clear hK K
    try simp only [Act.put, List.setIfInBounds_toArray, List.set_cons_zero, List.set_cons_succ]
    refine wpT (i := 45) (v := ?v45g2_) rfl (Or.inl ⟨by rfl, ?y45g2_⟩) (by assumption) ?r45g2_
    case y45g2_ => (intro w hSw; (try dsimp only at hSw); go_simp; try with_reducible rfl)
    change wpAnyH _ _ _ _ _ _ _ (Act.put _ (some 89) _) _; simp only [Act.put, List.setIfInBounds_toArray, List.set_cons_zero, List.set_cons_succ]
    refine wpT (i := 46) (v := ?v46g2_) rfl (Or.inl ⟨by rfl, ?y46g2_⟩) (by assumption) ?r46g2_
    case y46g2_ => (intro w hSw; (try dsimp only at hSw); go_simp; try with_reducible rfl)
    change wpAnyH _ _ _ _ _ _ _ (Act.put _ (some 4) _) _; simp only [Act.put, List.setIfInBounds_toArray, List.set_cons_zero, List.set_cons_succ]
    refine wpAnyH_done (by kernel_rfl) ?_ _
    go_wp2_with fail
    go_ret
    exact ⟨rfl, HBW.out.trans (HB13.out.mono HBW.out.size)⟩
set_option maxRecDepth 100000 in
set_option maxHeartbeats 16000000 in
theorem bytes_no (w : World) (m : ManM) (hm : m.Ok) (A : Option Addr) (c : Nat) (b : ByteArray) (h : BtR w (.slice A b.size c) b) (hb : b.size ≤ 500) (hT : Tb w.heap.size w) (hmay : m.may = false) :
    Calls Tryz.prog 25 #[.agg (mCells m), .slice A b.size c] w fun e w' => e = .returned (.bool true) ∧ Below w.heap.size w w' := by
  have hbI : ¬ (500 : Int) < (b.size : Int) := by omega
  have h7 : mCells m = #[.int .i64 m.n, .int .i64 m.epoch, .int .i64 m.step, .int .i64 m.sum, .int .i64 m.most, .bool m.done, .int .u32 m.job] := rfl
  have hb1 := (Below.refl w.heap.size w).alloc (Nat.le_refl _) (.cells (mCells m) 38)
  have hk1 := Blk.new w 38 (mCells m)
  have hpl : ∀ W, Calls Tryz.prog 13 #[.agg (mCells m)] W fun e w' => e = .returned (.agg (mCells m)) ∧ Below W.heap.size W w' := plain_any m
  have hmy := rfMay_any m
  rw [hmay] at hmy
  have hrb := rfBytes_any m hm
  have hput := mPut_no m hmay
  have hwk : ∀ W, Below w.heap.size w W → Calls Tryz.prog 6 #[] W fun e w' => e = .returned (.bool true) ∧ Below W.heap.size W w' := fun W hW => works_any W (hT.on_ hW)
  rw [h7] at hb1 hk1 hpl hmy hrb hput ⊢
  have HB1 := Lib.hid hb1; have HK1 := Lib.hid hk1; have HPL := Lib.hid hpl; have HMY := Lib.hid hmy; have HRB := Lib.hid hrb; have HPUT := Lib.hid hput; have HWK := Lib.hid hwk; have HA := Lib.hid h
  have c0 := hk1.cell 0; have c1 := hk1.cell 1; have c2 := hk1.cell 2; have c3 := hk1.cell 3; have c4 := hk1.cell 4; have c5 := hk1.cell 5; have c6 := hk1.cell 6
  simp only [List.getElem?_toArray, List.getElem?_cons_zero, List.getElem?_cons_succ] at c0 c1 c2 c3 c4 c5 c6
  clear hb1 hk1 hpl hmy hrb hput hwk h hT h7 hmay
  go_enter Tryz.func25, Tryz.ntmps25
  go_wp2_with fail
  refine (HPUT.out _).mono ?_
  rintro e w2 ⟨rfl, hbx⟩
  have hb2 := HB1.out.trans (hbx.mono HB1.out.size)
  have hk2 := HK1.out.below hbx HK1.out.lt
  have c0 := hk2.cell 0; have c1 := hk2.cell 1; have c2 := hk2.cell 2; have c3 := hk2.cell 3; have c4 := hk2.cell 4; have c5 := hk2.cell 5; have c6 := hk2.cell 6
  simp only [List.getElem?_toArray, List.getElem?_cons_zero, List.getElem?_cons_succ] at c0 c1 c2 c3 c4 c5 c6
  have hxc : ∀ wx, Below w2.heap.size w2 wx → (convert 39 9 (.slice none 0 0)).run Tryz.prog wx = .ok (.string ⟨#[]⟩) wx := fun wx hx => (bt_nil wx).conv
  have HB2 := Lib.hid hb2; have HK2 := Lib.hid hk2; have HXC := Lib.hid hxc
  clear hb2 hk2 hbx HB1 HK1 HPUT hxc
  go_wp2_with fail
  refine (HPL.out _).mono ?_
  rintro e w3 ⟨rfl, hb3⟩
  have HB23 := Lib.hid hb3
  clear hb3
  go_wp2_with fail
  refine (HMY.out _).mono ?_
  rintro e w4 ⟨rfl, hb4⟩
  have hb24 := HB23.out.trans (hb4.mono HB23.out.size)
  have hk4 := HK2.out.below hb24 HK2.out.lt
  have HB24 := Lib.hid hb24
  obtain ⟨w6, hw6⟩ : ∃ w6, w6 = w4 := ⟨_, rfl⟩
  subst hw6
  have HB26 := HB24
  clear hk4 hb24 hb4 HB23
  have har := (HA.out.below (HB2.out.trans (HB26.out.mono HB2.out.size)))
  have hcv := har.conv
  obtain ⟨vi, w7, hci, hbi, hb7⟩ := conv_in b w6
  obtain ⟨Ai, ci, rfl, -, -⟩ := id hbi
  have HCI := Lib.hid hbi
  have hgt := mGet_any w7 _ b hbi (by omega)
  have hb27 := HB26.out.trans (hb7.mono HB26.out.size)
  have har7 := har.below hb7
  obtain ⟨Y, hY⟩ : ∃ Y : ManM, getV (getM b) = Y := ⟨_, rfl⟩
  rw [hY] at hgt
  have HGT := Lib.hid hgt; have HB27 := Lib.hid hb27; have HAR7 := Lib.hid har7; have HYQ := Lib.hid hY
  clear hgt hb27 har7 har hbi HB24 HB26 hY hb7
  go_wp2_with fail
  refine HGT.out.mono ?_
  rintro e w8 ⟨rfl, hb8⟩
  obtain ⟨YC, hYC⟩ : ∃ YC, mCells Y = YC := ⟨_, rfl⟩
  have hiM : (Tryz.prog.info? 38).map (·.size) = some YC.size := by rw [← hYC]; exact infoMf
  have hiR : (Tryz.prog.info? 46).map (·.size) = some YC.size := by rw [← hYC]; exact infoRf
  have hsz : (#[.int .i64 0, .int .i64 0, .int .i64 0, .int .i64 0, .int .i64 0, .bool false, .int .u32 0] : Array Value).size = YC.size := by rw [← hYC]; rfl
  have HSZ := Lib.hid hsz
  clear hsz
  have hone : YC.all (·.oneCell') = true := by rw [← hYC]; exact mCells_oneA Y
  have hk8 := Blk.new w8 38 #[.int .i64 0, .int .i64 0, .int .i64 0, .int .i64 0, .int .i64 0, .bool false, .int .u32 0]
  have hk9 := hk8.setRow YC
  have hb9 := below_row ((Below.refl w8.heap.size w8).alloc (Nat.le_refl _) (.cells #[.int .i64 0, .int .i64 0, .int .i64 0, .int .i64 0, .int .i64 0, .bool false, .int .u32 0] 38)) (Nat.le_refl _) YC
  have hb29 := HB27.out.trans ((hb8.trans (hb9.mono hb8.size)).mono HB27.out.size)
  have HIM := Lib.hid hiM; have HIR := Lib.hid hiR; have HONE := Lib.hid hone; have HK8 := Lib.hid hk8; have HK9 := Lib.hid hk9; have HB29 := Lib.hid hb29; have HYC := Lib.hid hYC; have HB79 := Lib.hid (hb8.trans (hb9.mono hb8.size))
  rw [hYC]
  clear hiM hiR hone hk8 hk9 hb9 hb29 hYC hb8 HGT
  go_wp2_with (first | (refine wpList_store_row rfl 38 (.tmp 10) (.tmp 37) rfl w8.heap.size YC rfl rfl 38 _ HK8.out HIM.out HSZ.out HONE.out ?_))
  obtain ⟨w9, hw9⟩ : ∃ w9, (w8.alloc (.cells #[.int .i64 0, .int .i64 0, .int .i64 0, .int .i64 0, .int .i64 0, .bool false, .int .u32 0] 38)).setRow w8.heap.size YC = w9 := ⟨_, rfl⟩
  rw [hw9] at HK9 HB29 HB79 ⊢
  clear hw9
  have hrg := rfGet_any w9 _ b (HAR7.out.below HB79.out)
  rw [HYQ.out, HYC.out] at hrg
  have HRG := Lib.hid hrg
  clear hrg
  refine HRG.out.mono ?_
  rintro e w10 ⟨rfl, hb10⟩
  have hk10 := Blk.new w10 46 #[.int .i64 0, .int .i64 0, .int .i64 0, .int .i64 0, .int .i64 0, .bool false, .int .u32 0]
  have hk11 := hk10.setRow YC
  have hb11 := below_row ((Below.refl w10.heap.size w10).alloc (Nat.le_refl _) (.cells #[.int .i64 0, .int .i64 0, .int .i64 0, .int .i64 0, .int .i64 0, .bool false, .int .u32 0] 46)) (Nat.le_refl _) YC
  have hb911 := hb10.trans (hb11.mono hb10.size)
  have HK10 := Lib.hid hk10; have HK11 := Lib.hid hk11; have HB911 := Lib.hid hb911
  clear hk10 hk11 hb11 hb911 hb10 HRG
  go_upto_region 11 with (first | (refine wpList_store_row rfl 46 (.tmp 12) (.tmp 42) rfl w10.heap.size YC rfl rfl 46 _ HK10.out HIR.out HSZ.out HONE.out ?_))
  obtain ⟨w11, hw11⟩ : ∃ w11, (w10.alloc (.cells #[.int .i64 0, .int .i64 0, .int .i64 0, .int .i64 0, .int .i64 0, .bool false, .int .u32 0] 46)).setRow w10.heap.size YC = w11 := ⟨_, rfl⟩
  rw [hw11] at HK11 HB911 ⊢
  clear hw11
  have hb211 := HB29.out.trans (HB911.out.mono HB29.out.size)
  have hss : ∀ wx, Below w11.heap.size w11 wx → (convert 39 9 (.slice none 0 0)).run Tryz.prog wx = .ok (.string ⟨#[]⟩) wx ∧ (convert 39 9 (.slice Ai b.size ci)).run Tryz.prog wx = .ok (.string b) wx ∧ (convert 39 9 (.slice A b.size c)).run Tryz.prog wx = .ok (.string b) wx ∧ (Instr.loadAt 38 (.pointer (some ⟨w8.heap.size, 0, none⟩))).run Tryz.prog wx = .ok (.agg YC) wx ∧ (Instr.loadAt 46 (.pointer (some ⟨w10.heap.size, 0, none⟩))).run Tryz.prog wx = .ok (.agg YC) wx := fun wx hx => by
    have h911 := HB911.out.trans (hx.mono HB911.out.size)
    refine ⟨HXC.out wx (hb211.trans (hx.mono hb211.size)), ?_, ?_, ?_, ?_⟩
    · exact ((HCI.out.below HB79.out).below h911).conv
    · exact ((HAR7.out.below HB79.out).below h911).conv
    · have := HK9.out.below h911 HK9.out.lt
      rw [← HYC.out] at this ⊢
      exact run_load_M wx _ Y this
    · have := HK11.out.below hx HK11.out.lt
      rw [← HYC.out] at this ⊢
      exact run_load_rM wx _ Y this
  have hplY : ∀ W, Calls Tryz.prog 13 #[.agg YC] W fun e w' => e = .returned (.agg YC) ∧ Below W.heap.size W w' := by rw [← HYC.out]; exact plain_any Y
  have heq : ∀ W, (binOp .eql 46 (.agg YC) (.agg YC)).run Tryz.prog W = .ok (.bool true) W := by rw [← HYC.out]; exact run_eql_rf Y
  have hbw := HB2.out.trans (hb211.mono HB2.out.size)
  have HSS := Lib.hid hss; have HPLY := Lib.hid hplY; have HBW := Lib.hid hbw
  clear hss hplY hbw hb211 HB2 HK2 HXC HCI HAR7 HB27 HB29 HB79 HB911 HIM HIR HONE HK8 HK9 HK10 HK11 HYC HYQ HPL HMY HRB HA hci hcv
  cases hg : getM b with
  | none =>
    rw [show getE (none : Option ManM) = 200 from rfl, show getB (none : Option ManM) = false from rfl]
    clear hg
    refine wp_region_held_drew (S := (fun wq => (convert 39 9 (.slice none 0 0)).run Tryz.prog wq = .ok (.string ⟨#[]⟩) wq ∧ (convert 39 9 (.slice Ai b.size ci)).run Tryz.prog wq = .ok (.string b) wq ∧ (convert 39 9 (.slice A b.size c)).run Tryz.prog wq = .ok (.string b) wq ∧ (Instr.loadAt 38 (.pointer (some ⟨w8.heap.size, 0, none⟩))).run Tryz.prog wq = .ok (.agg YC) wq ∧ (Instr.loadAt 46 (.pointer (some ⟨w10.heap.size, 0, none⟩))).run Tryz.prog wq = .ok (.agg YC) wq)) (by kernel_rfl) ?_ (fun hHeld => ?_)
    · exact HSS.out _ (below_drewN (Below.refl _ _) 1)
    refine wpT (i := 0) (v := ?v0g3_) rfl (Or.inl ⟨by rfl, ?y0g3_⟩) (by assumption) ?r0g3_
    case y0g3_ => (intro w hSw; (try dsimp only at hSw); go_simp; try with_reducible rfl)
    change wpAnyH _ _ _ _ _ _ _ (Act.put _ (some 44) _) _; simp only [Act.put, List.setIfInBounds_toArray, List.set_cons_zero, List.set_cons_succ]
    refine wpT (i := 1) (v := ?v1g3_) rfl (Or.inl ⟨by rfl, ?y1g3_⟩) (by assumption) ?r1g3_
    case y1g3_ => (intro w hSw; exact run_execOp_conv (x := .tmp 44) rfl (by have hs := hSw.1; simpa [Act.eval] using hs))
    change wpAnyH _ _ _ _ _ _ _ (Act.put _ (some 45) _) _; simp only [Act.put, List.setIfInBounds_toArray, List.set_cons_zero, List.set_cons_succ]
    refine wpT (i := 2) (v := ?v2g3_) rfl (Or.inl ⟨by rfl, ?y2g3_⟩) (by assumption) ?r2g3_
    case y2g3_ => (intro w hSw; (try dsimp only at hSw); go_simp; try with_reducible rfl)
    change wpAnyH _ _ _ _ _ _ _ (Act.put _ (some 46) _) _; simp only [Act.put, List.setIfInBounds_toArray, List.set_cons_zero, List.set_cons_succ]
    refine wpT (i := 3) (v := ?v3g3_) rfl (Or.inl ⟨by rfl, ?y3g3_⟩) (by assumption) ?r3g3_
    case y3g3_ => (intro w hSw; (try dsimp only at hSw); go_simp; try with_reducible rfl)
    change wpAnyH _ _ _ _ _ _ _ (Act.put _ (some 47) _) _; simp only [Act.put, List.setIfInBounds_toArray, List.set_cons_zero, List.set_cons_succ]
    refine wpT (i := 4) (v := ?v4g3_) rfl (Or.inl ⟨by rfl, ?y4g3_⟩) (by assumption) ?r4g3_
    case y4g3_ => (intro w hSw; (try dsimp only at hSw); go_simp; try with_reducible rfl)
    change wpAnyH _ _ _ _ _ _ _ (Act.put _ (some 48) _) _; simp only [Act.put, List.setIfInBounds_toArray, List.set_cons_zero, List.set_cons_succ]
    refine wpT (i := 5) (v := ?v5g3_) rfl (Or.inl ⟨by rfl, ?y5g3_⟩) (by assumption) ?r5g3_
    case y5g3_ => (intro w hSw; (try dsimp only at hSw); go_simp; try with_reducible rfl)
    change wpAnyH _ _ _ _ _ _ _ (Act.put _ (some 49) _) _; simp only [Act.put, List.setIfInBounds_toArray, List.set_cons_zero, List.set_cons_succ]
    refine wpT (i := 6) (v := ?v6g3_) rfl (Or.inl ⟨by rfl, ?y6g3_⟩) (by assumption) ?r6g3_
    case y6g3_ => (intro w hSw; (try dsimp only at hSw); go_simp; try with_reducible rfl)
    change wpAnyH _ _ _ _ _ _ _ (Act.put _ (some 50) _) _; simp only [Act.put, List.setIfInBounds_toArray, List.set_cons_zero, List.set_cons_succ]
    refine wpT (i := 7) (v := ?v7g3_) rfl (Or.inl ⟨by rfl, ?y7g3_⟩) (by assumption) ?r7g3_
    case y7g3_ => (intro w hSw; (try dsimp only at hSw); go_simp; try with_reducible rfl)
    change wpAnyH _ _ _ _ _ _ _ (Act.put _ (some 51) _) _; simp only [Act.put, List.setIfInBounds_toArray, List.set_cons_zero, List.set_cons_succ]
    refine wpT (i := 8) (v := ?v8g3_) rfl (Or.inl ⟨by rfl, ?y8g3_⟩) (by assumption) ?r8g3_
    case y8g3_ => (intro w hSw; (try dsimp only at hSw); go_simp; try with_reducible rfl)
    change wpAnyH _ _ _ _ _ _ _ (Act.put _ (some 52) _) _; simp only [Act.put, List.setIfInBounds_toArray, List.set_cons_zero, List.set_cons_succ]
    refine wpT (i := 9) (v := ?v9g3_) rfl (Or.inl ⟨by rfl, ?y9g3_⟩) (by assumption) ?r9g3_
    case y9g3_ => (intro w hSw; (try dsimp only at hSw); go_simp; try with_reducible rfl)
    change wpAnyH _ _ _ _ _ _ _ (Act.put _ (some 53) _) _; simp only [Act.put, List.setIfInBounds_toArray, List.set_cons_zero, List.set_cons_succ]
    refine wpT (i := 10) (v := ?v10g3_) rfl (Or.inl ⟨by rfl, ?y10g3_⟩) (by assumption) ?r10g3_
    case y10g3_ => (intro w hSw; (try dsimp only at hSw); go_simp; try with_reducible rfl)
    change wpAnyH _ _ _ _ _ _ _ (Act.put _ (some 54) _) _; simp only [Act.put, List.setIfInBounds_toArray, List.set_cons_zero, List.set_cons_succ]
    refine wpT (i := 11) (v := ?v11g3_) rfl (Or.inl ⟨by rfl, ?y11g3_⟩) (by assumption) ?r11g3_
    case y11g3_ => (intro w hSw; (try dsimp only at hSw); go_simp; try with_reducible rfl)
    change wpAnyH _ _ _ _ _ _ _ (Act.put _ (some 55) _) _; simp only [Act.put, List.setIfInBounds_toArray, List.set_cons_zero, List.set_cons_succ]
    refine wpT (i := 12) (v := ?v12g3_) rfl (Or.inl ⟨by rfl, ?y12g3_⟩) (by assumption) ?r12g3_
    case y12g3_ => (intro w hSw; (try dsimp only at hSw); go_simp; try with_reducible rfl)
    change wpAnyH _ _ _ _ _ _ _ (Act.put _ (some 56) _) _; simp only [Act.put, List.setIfInBounds_toArray, List.set_cons_zero, List.set_cons_succ]
    refine wpT (i := 13) (v := ?v13g3_) rfl (Or.inl ⟨by rfl, ?y13g3_⟩) (by assumption) ?r13g3_
    case y13g3_ => (intro w hSw; (try dsimp only at hSw); go_simp; try with_reducible rfl)
    change wpAnyH _ _ _ _ _ _ _ (Act.put _ (some 57) _) _; simp only [Act.put, List.setIfInBounds_toArray, List.set_cons_zero, List.set_cons_succ]
    refine wpT (i := 14) (v := ?v14g3_) rfl (Or.inl ⟨by rfl, ?y14g3_⟩) (by assumption) ?r14g3_
    case y14g3_ => (intro w hSw; (try dsimp only at hSw); go_simp; try with_reducible rfl)
    change wpAnyH _ _ _ _ _ _ _ (Act.put _ (some 58) _) _; simp only [Act.put, List.setIfInBounds_toArray, List.set_cons_zero, List.set_cons_succ]
    refine wpT (i := 15) (v := ?v15g3_) rfl (Or.inl ⟨by rfl, ?y15g3_⟩) (by assumption) ?r15g3_
    case y15g3_ => (intro w hSw; (try dsimp only at hSw); go_simp; try with_reducible rfl)
    change wpAnyH _ _ _ _ _ _ _ (Act.put _ (some 59) _) _; simp only [Act.put, List.setIfInBounds_toArray, List.set_cons_zero, List.set_cons_succ]
    refine wpT (i := 16) (v := ?v16g3_) rfl (Or.inl ⟨by rfl, ?y16g3_⟩) (by assumption) ?r16g3_
    case y16g3_ => (intro w hSw; (try dsimp only at hSw); go_simp; try with_reducible rfl)
    change wpAnyH _ _ _ _ _ _ _ (Act.put _ (some 60) _) _; simp only [Act.put, List.setIfInBounds_toArray, List.set_cons_zero, List.set_cons_succ]
    refine wpT (i := 17) (v := ?v17g3_) rfl (Or.inl ⟨by rfl, ?y17g3_⟩) (by assumption) ?r17g3_
    case y17g3_ => (intro w hSw; (try dsimp only at hSw); go_simp; try with_reducible rfl)
    change wpAnyH _ _ _ _ _ _ _ (Act.put _ (some 61) _) _; simp only [Act.put, List.setIfInBounds_toArray, List.set_cons_zero, List.set_cons_succ]
    refine wpT (i := 18) (v := ?v18g3_) rfl (Or.inl ⟨by rfl, ?y18g3_⟩) (by assumption) ?r18g3_
    case y18g3_ => (intro w hSw; exact run_execOp_load (x := .tmp 10) rfl (by have hs := hSw.2.2.2.1; simpa [Act.eval] using hs))
    change wpAnyH _ _ _ _ _ _ _ (Act.put _ (some 62) _) _; simp only [Act.put, List.setIfInBounds_toArray, List.set_cons_zero, List.set_cons_succ]
    refine wpT (i := 20) (v := ?v20g3_) rfl (Or.inl ⟨by rfl, ?y20g3_⟩) (by assumption) ?r20g3_
    case y20g3_ => (intro w hSw; exact run_execOp_load (x := .tmp 12) rfl (by have hs := hSw.2.2.2.2; simpa [Act.eval] using hs))
    change wpAnyH _ _ _ _ _ _ _ (Act.put _ (some 64) _) _; simp only [Act.put, List.setIfInBounds_toArray, List.set_cons_zero, List.set_cons_succ]
    refine wpAnyH_ready (rs := [19]) (by kernel_rfl) (by simp) ?_
    refine AllReadyH.cons rfl (fun K hK => ?_) AllReadyH.nil
    go_simp
    refine (HPLY.out _).mono ?_
    rintro e w12 ⟨rfl, hb12⟩
    have HB12 := Lib.hid (show Below w11.heap.size w11 w12 from undrew hb12)
    clear hb12
    dsimp only
    refine hK.out _ _ ?_ (fun hHeld => ?_)
    · exact HSS.out _ HB12.out
    clear hK K
    try simp only [Act.put, List.setIfInBounds_toArray, List.set_cons_zero, List.set_cons_succ]
    refine wpT (i := 21) (v := ?v21g3_) rfl (Or.inl ⟨by rfl, ?y21g3_⟩) (by assumption) ?r21g3_
    case y21g3_ => (intro w hSw; (try dsimp only at hSw); go_simp; try with_reducible rfl)
    change wpAnyH _ _ _ _ _ _ _ (Act.put _ (some 65) _) _; simp only [Act.put, List.setIfInBounds_toArray, List.set_cons_zero, List.set_cons_succ]
    refine wpT (i := 22) (v := ?v22g3_) rfl (Or.inl ⟨by rfl, ?y22g3_⟩) (by assumption) ?r22g3_
    case y22g3_ => (intro w hSw; (try dsimp only at hSw); go_simp; try with_reducible rfl)
    change wpAnyH _ _ _ _ _ _ _ (Act.put _ (some 66) _) _; simp only [Act.put, List.setIfInBounds_toArray, List.set_cons_zero, List.set_cons_succ]
    refine wpT (i := 23) (v := ?v23g3_) rfl (Or.inl ⟨by rfl, ?y23g3_⟩) (by assumption) ?r23g3_
    case y23g3_ => (intro w hSw; (try dsimp only at hSw); go_simp; try with_reducible rfl)
    change wpAnyH _ _ _ _ _ _ _ (Act.put _ (some 67) _) _; simp only [Act.put, List.setIfInBounds_toArray, List.set_cons_zero, List.set_cons_succ]
    refine wpT (i := 24) (v := ?v24g3_) rfl (Or.inl ⟨by rfl, ?y24g3_⟩) (by assumption) ?r24g3_
    case y24g3_ => (intro w hSw; (try dsimp only at hSw); go_simp; try with_reducible rfl)
    change wpAnyH _ _ _ _ _ _ _ (Act.put _ (some 68) _) _; simp only [Act.put, List.setIfInBounds_toArray, List.set_cons_zero, List.set_cons_succ]
    refine wpT (i := 25) (v := ?v25g3_) rfl (Or.inl ⟨by rfl, ?y25g3_⟩) (by assumption) ?r25g3_
    case y25g3_ => (intro w hSw; (try dsimp only at hSw); go_simp; try with_reducible rfl)
    change wpAnyH _ _ _ _ _ _ _ (Act.put _ (some 69) _) _; simp only [Act.put, List.setIfInBounds_toArray, List.set_cons_zero, List.set_cons_succ]
    refine wpT (i := 26) (v := ?v26g3_) rfl (Or.inl ⟨by rfl, ?y26g3_⟩) (by assumption) ?r26g3_
    case y26g3_ => (intro w hSw; (try dsimp only at hSw); go_simp; try with_reducible rfl)
    change wpAnyH _ _ _ _ _ _ _ (Act.put _ (some 70) _) _; simp only [Act.put, List.setIfInBounds_toArray, List.set_cons_zero, List.set_cons_succ]
    refine wpT (i := 27) (v := ?v27g3_) rfl (Or.inl ⟨by rfl, ?y27g3_⟩) (by assumption) ?r27g3_
    case y27g3_ => (intro w hSw; (try dsimp only at hSw); go_simp; try with_reducible rfl)
    change wpAnyH _ _ _ _ _ _ _ (Act.put _ (some 71) _) _; simp only [Act.put, List.setIfInBounds_toArray, List.set_cons_zero, List.set_cons_succ]
    refine wpT (i := 28) (v := ?v28g3_) rfl (Or.inl ⟨by rfl, ?y28g3_⟩) (by assumption) ?r28g3_
    case y28g3_ => (intro w hSw; (try dsimp only at hSw); go_simp; try with_reducible rfl)
    change wpAnyH _ _ _ _ _ _ _ (Act.put _ (some 72) _) _; simp only [Act.put, List.setIfInBounds_toArray, List.set_cons_zero, List.set_cons_succ]
    refine wpT (i := 29) (v := ?v29g3_) rfl (Or.inl ⟨by rfl, ?y29g3_⟩) (by assumption) ?r29g3_
    case y29g3_ => (intro w hSw; (try dsimp only at hSw); go_simp; try with_reducible rfl)
    change wpAnyH _ _ _ _ _ _ _ (Act.put _ (some 73) _) _; simp only [Act.put, List.setIfInBounds_toArray, List.set_cons_zero, List.set_cons_succ]
    refine wpT (i := 30) (v := ?v30g3_) rfl (Or.inl ⟨by rfl, ?y30g3_⟩) (by assumption) ?r30g3_
    case y30g3_ => (intro w hSw; (try dsimp only at hSw); go_simp; try with_reducible rfl)
    change wpAnyH _ _ _ _ _ _ _ (Act.put _ (some 74) _) _; simp only [Act.put, List.setIfInBounds_toArray, List.set_cons_zero, List.set_cons_succ]
    refine wpT (i := 31) (v := ?v31g3_) rfl (Or.inl ⟨by rfl, ?y31g3_⟩) (by assumption) ?r31g3_
    case y31g3_ => (intro w hSw; (try dsimp only at hSw); go_simp; try with_reducible rfl)
    change wpAnyH _ _ _ _ _ _ _ (Act.put _ (some 75) _) _; simp only [Act.put, List.setIfInBounds_toArray, List.set_cons_zero, List.set_cons_succ]
    refine wpT (i := 32) (v := ?v32g3_) rfl (Or.inl ⟨by rfl, ?y32g3_⟩) (by assumption) ?r32g3_
    case y32g3_ => (intro w hSw; (try dsimp only at hSw); go_simp; try with_reducible rfl)
    change wpAnyH _ _ _ _ _ _ _ (Act.put _ (some 76) _) _; simp only [Act.put, List.setIfInBounds_toArray, List.set_cons_zero, List.set_cons_succ]
    refine wpT (i := 33) (v := ?v33g3_) rfl (Or.inl ⟨by rfl, ?y33g3_⟩) (by assumption) ?r33g3_
    case y33g3_ => (intro w hSw; (try dsimp only at hSw); go_simp; try with_reducible rfl)
    change wpAnyH _ _ _ _ _ _ _ (Act.put _ (some 77) _) _; simp only [Act.put, List.setIfInBounds_toArray, List.set_cons_zero, List.set_cons_succ]
    refine wpT (i := 34) (v := ?v34g3_) rfl (Or.inl ⟨by rfl, ?y34g3_⟩) (by assumption) ?r34g3_
    case y34g3_ => (intro w hSw; (try dsimp only at hSw); go_simp; try with_reducible rfl)
    change wpAnyH _ _ _ _ _ _ _ (Act.put _ (some 78) _) _; simp only [Act.put, List.setIfInBounds_toArray, List.set_cons_zero, List.set_cons_succ]
    refine wpT (i := 35) (v := ?v35g3_) rfl (Or.inl ⟨by rfl, ?y35g3_⟩) (by assumption) ?r35g3_
    case y35g3_ => (intro w hSw; (try dsimp only at hSw); go_simp; try with_reducible rfl)
    change wpAnyH _ _ _ _ _ _ _ (Act.put _ (some 79) _) _; simp only [Act.put, List.setIfInBounds_toArray, List.set_cons_zero, List.set_cons_succ]
    refine wpT (i := 36) (v := ?v36g3_) rfl (Or.inl ⟨by rfl, ?y36g3_⟩) (by assumption) ?r36g3_
    case y36g3_ => (intro w hSw; (try dsimp only at hSw); go_simp; try with_reducible rfl)
    change wpAnyH _ _ _ _ _ _ _ (Act.put _ (some 80) _) _; simp only [Act.put, List.setIfInBounds_toArray, List.set_cons_zero, List.set_cons_succ]
    refine wpT (i := 37) (v := ?v37g3_) rfl (Or.inl ⟨by rfl, ?y37g3_⟩) (by assumption) ?r37g3_
    case y37g3_ => (intro w hSw; (try dsimp only at hSw); go_simp; try with_reducible rfl)
    change wpAnyH _ _ _ _ _ _ _ (Act.put _ (some 81) _) _; simp only [Act.put, List.setIfInBounds_toArray, List.set_cons_zero, List.set_cons_succ]
    refine wpT (i := 38) (v := ?v38g3_) rfl (Or.inl ⟨by rfl, ?y38g3_⟩) (by assumption) ?r38g3_
    case y38g3_ => (intro w hSw; exact run_execOp_conv (x := .tmp 81) rfl (by have hs := hSw.2.1; simpa [Act.eval] using hs))
    change wpAnyH _ _ _ _ _ _ _ (Act.put _ (some 82) _) _; simp only [Act.put, List.setIfInBounds_toArray, List.set_cons_zero, List.set_cons_succ]
    refine wpT (i := 39) (v := ?v39g3_) rfl (Or.inl ⟨by rfl, ?y39g3_⟩) (by assumption) ?r39g3_
    case y39g3_ => (intro w hSw; (try dsimp only at hSw); go_simp; try with_reducible rfl)
    change wpAnyH _ _ _ _ _ _ _ (Act.put _ (some 83) _) _; simp only [Act.put, List.setIfInBounds_toArray, List.set_cons_zero, List.set_cons_succ]
    refine wpT (i := 40) (v := ?v40g3_) rfl (Or.inl ⟨by rfl, ?y40g3_⟩) (by assumption) ?r40g3_
    case y40g3_ => (intro w hSw; exact run_execOp_conv (x := .tmp 83) rfl (by have hs := hSw.2.2.1; simpa [Act.eval] using hs))
    change wpAnyH _ _ _ _ _ _ _ (Act.put _ (some 84) _) _; simp only [Act.put, List.setIfInBounds_toArray, List.set_cons_zero, List.set_cons_succ]
    refine wpT (i := 41) (v := ?v41g3_) rfl (Or.inl ⟨by rfl, ?y41g3_⟩) (by assumption) ?r41g3_
    case y41g3_ => (intro w hSw; (try dsimp only at hSw); go_simp; try with_reducible rfl)
    change wpAnyH _ _ _ _ _ _ _ (Act.put _ (some 85) _) _; simp only [Act.put, List.setIfInBounds_toArray, List.set_cons_zero, List.set_cons_succ]
    refine wpT (i := 42) (v := ?v42g3_) rfl (Or.inl ⟨by rfl, ?y42g3_⟩) (by assumption) ?r42g3_
    case y42g3_ => (intro w hSw; (try dsimp only at hSw); go_simp; try with_reducible rfl)
    change wpAnyH _ _ _ _ _ _ _ (Act.put _ (some 86) _) _; simp only [Act.put, List.setIfInBounds_toArray, List.set_cons_zero, List.set_cons_succ]
    refine wpT (i := 43) (v := ?v43g3_) rfl (Or.inl ⟨by rfl, ?y43g3_⟩) (by assumption) ?r43g3_
    case y43g3_ => (intro w hSw; (try dsimp only at hSw); go_simp; try with_reducible rfl)
    change wpAnyH _ _ _ _ _ _ _ (Act.put _ (some 87) _) _; simp only [Act.put, List.setIfInBounds_toArray, List.set_cons_zero, List.set_cons_succ]
    refine wpAnyH_ready (rs := [44]) (by kernel_rfl) (by simp) ?_
    refine AllReadyH.cons rfl (fun K hK => ?_) AllReadyH.nil
    go_simp
    refine (HWK.out _ (HBW.out.trans (HB12.out.mono HBW.out.size))).mono ?_
    rintro e w13 ⟨rfl, hb13⟩
    have HB13 := Lib.hid (HB12.out.trans (hb13.mono HB12.out.size))
    clear hb13
    dsimp only
    refine hK.out _ _ ?_ (fun hHeld => ?_)
    · exact HSS.out _ HB13.out
    clear hK K
    try simp only [Act.put, List.setIfInBounds_toArray, List.set_cons_zero, List.set_cons_succ]
    refine wpT (i := 45) (v := ?v45g3_) rfl (Or.inl ⟨by rfl, ?y45g3_⟩) (by assumption) ?r45g3_
    case y45g3_ => (intro w hSw; (try dsimp only at hSw); go_simp; try with_reducible rfl)
    change wpAnyH _ _ _ _ _ _ _ (Act.put _ (some 89) _) _; simp only [Act.put, List.setIfInBounds_toArray, List.set_cons_zero, List.set_cons_succ]
    refine wpT (i := 46) (v := ?v46g3_) rfl (Or.inl ⟨by rfl, ?y46g3_⟩) (by assumption) ?r46g3_
    case y46g3_ => (intro w hSw; (try dsimp only at hSw); go_simp; try with_reducible rfl)
    change wpAnyH _ _ _ _ _ _ _ (Act.put _ (some 4) _) _; simp only [Act.put, List.setIfInBounds_toArray, List.set_cons_zero, List.set_cons_succ]
    refine wpAnyH_done (by kernel_rfl) ?_ _
    go_wp2_with fail
    go_ret
    exact ⟨rfl, HBW.out.trans (HB13.out.mono HBW.out.size)⟩
  | some mb =>
    rw [show getE (some mb) = 0 from rfl, show getB (some mb) = true from rfl]
    clear hg
    refine wp_region_held_drew (S := (fun wq => (convert 39 9 (.slice none 0 0)).run Tryz.prog wq = .ok (.string ⟨#[]⟩) wq ∧ (convert 39 9 (.slice Ai b.size ci)).run Tryz.prog wq = .ok (.string b) wq ∧ (convert 39 9 (.slice A b.size c)).run Tryz.prog wq = .ok (.string b) wq ∧ (Instr.loadAt 38 (.pointer (some ⟨w8.heap.size, 0, none⟩))).run Tryz.prog wq = .ok (.agg YC) wq ∧ (Instr.loadAt 46 (.pointer (some ⟨w10.heap.size, 0, none⟩))).run Tryz.prog wq = .ok (.agg YC) wq)) (by kernel_rfl) ?_ (fun hHeld => ?_)
    · exact HSS.out _ (below_drewN (Below.refl _ _) 1)
    refine wpT (i := 0) (v := ?v0g4_) rfl (Or.inl ⟨by rfl, ?y0g4_⟩) (by assumption) ?r0g4_
    case y0g4_ => (intro w hSw; (try dsimp only at hSw); go_simp; try with_reducible rfl)
    change wpAnyH _ _ _ _ _ _ _ (Act.put _ (some 44) _) _; simp only [Act.put, List.setIfInBounds_toArray, List.set_cons_zero, List.set_cons_succ]
    refine wpT (i := 1) (v := ?v1g4_) rfl (Or.inl ⟨by rfl, ?y1g4_⟩) (by assumption) ?r1g4_
    case y1g4_ => (intro w hSw; exact run_execOp_conv (x := .tmp 44) rfl (by have hs := hSw.1; simpa [Act.eval] using hs))
    change wpAnyH _ _ _ _ _ _ _ (Act.put _ (some 45) _) _; simp only [Act.put, List.setIfInBounds_toArray, List.set_cons_zero, List.set_cons_succ]
    refine wpT (i := 2) (v := ?v2g4_) rfl (Or.inl ⟨by rfl, ?y2g4_⟩) (by assumption) ?r2g4_
    case y2g4_ => (intro w hSw; (try dsimp only at hSw); go_simp; try with_reducible rfl)
    change wpAnyH _ _ _ _ _ _ _ (Act.put _ (some 46) _) _; simp only [Act.put, List.setIfInBounds_toArray, List.set_cons_zero, List.set_cons_succ]
    refine wpT (i := 3) (v := ?v3g4_) rfl (Or.inl ⟨by rfl, ?y3g4_⟩) (by assumption) ?r3g4_
    case y3g4_ => (intro w hSw; (try dsimp only at hSw); go_simp; try with_reducible rfl)
    change wpAnyH _ _ _ _ _ _ _ (Act.put _ (some 47) _) _; simp only [Act.put, List.setIfInBounds_toArray, List.set_cons_zero, List.set_cons_succ]
    refine wpT (i := 4) (v := ?v4g4_) rfl (Or.inl ⟨by rfl, ?y4g4_⟩) (by assumption) ?r4g4_
    case y4g4_ => (intro w hSw; (try dsimp only at hSw); go_simp; try with_reducible rfl)
    change wpAnyH _ _ _ _ _ _ _ (Act.put _ (some 48) _) _; simp only [Act.put, List.setIfInBounds_toArray, List.set_cons_zero, List.set_cons_succ]
    refine wpT (i := 5) (v := ?v5g4_) rfl (Or.inl ⟨by rfl, ?y5g4_⟩) (by assumption) ?r5g4_
    case y5g4_ => (intro w hSw; (try dsimp only at hSw); go_simp; try with_reducible rfl)
    change wpAnyH _ _ _ _ _ _ _ (Act.put _ (some 49) _) _; simp only [Act.put, List.setIfInBounds_toArray, List.set_cons_zero, List.set_cons_succ]
    refine wpT (i := 6) (v := ?v6g4_) rfl (Or.inl ⟨by rfl, ?y6g4_⟩) (by assumption) ?r6g4_
    case y6g4_ => (intro w hSw; (try dsimp only at hSw); go_simp; try with_reducible rfl)
    change wpAnyH _ _ _ _ _ _ _ (Act.put _ (some 50) _) _; simp only [Act.put, List.setIfInBounds_toArray, List.set_cons_zero, List.set_cons_succ]
    refine wpT (i := 7) (v := ?v7g4_) rfl (Or.inl ⟨by rfl, ?y7g4_⟩) (by assumption) ?r7g4_
    case y7g4_ => (intro w hSw; (try dsimp only at hSw); go_simp; try with_reducible rfl)
    change wpAnyH _ _ _ _ _ _ _ (Act.put _ (some 51) _) _; simp only [Act.put, List.setIfInBounds_toArray, List.set_cons_zero, List.set_cons_succ]
    refine wpT (i := 8) (v := ?v8g4_) rfl (Or.inl ⟨by rfl, ?y8g4_⟩) (by assumption) ?r8g4_
    case y8g4_ => (intro w hSw; (try dsimp only at hSw); go_simp; try with_reducible rfl)
    change wpAnyH _ _ _ _ _ _ _ (Act.put _ (some 52) _) _; simp only [Act.put, List.setIfInBounds_toArray, List.set_cons_zero, List.set_cons_succ]
    refine wpT (i := 9) (v := ?v9g4_) rfl (Or.inl ⟨by rfl, ?y9g4_⟩) (by assumption) ?r9g4_
    case y9g4_ => (intro w hSw; (try dsimp only at hSw); go_simp; try with_reducible rfl)
    change wpAnyH _ _ _ _ _ _ _ (Act.put _ (some 53) _) _; simp only [Act.put, List.setIfInBounds_toArray, List.set_cons_zero, List.set_cons_succ]
    refine wpT (i := 10) (v := ?v10g4_) rfl (Or.inl ⟨by rfl, ?y10g4_⟩) (by assumption) ?r10g4_
    case y10g4_ => (intro w hSw; (try dsimp only at hSw); go_simp; try with_reducible rfl)
    change wpAnyH _ _ _ _ _ _ _ (Act.put _ (some 54) _) _; simp only [Act.put, List.setIfInBounds_toArray, List.set_cons_zero, List.set_cons_succ]
    refine wpT (i := 11) (v := ?v11g4_) rfl (Or.inl ⟨by rfl, ?y11g4_⟩) (by assumption) ?r11g4_
    case y11g4_ => (intro w hSw; (try dsimp only at hSw); go_simp; try with_reducible rfl)
    change wpAnyH _ _ _ _ _ _ _ (Act.put _ (some 55) _) _; simp only [Act.put, List.setIfInBounds_toArray, List.set_cons_zero, List.set_cons_succ]
    refine wpT (i := 12) (v := ?v12g4_) rfl (Or.inl ⟨by rfl, ?y12g4_⟩) (by assumption) ?r12g4_
    case y12g4_ => (intro w hSw; (try dsimp only at hSw); go_simp; try with_reducible rfl)
    change wpAnyH _ _ _ _ _ _ _ (Act.put _ (some 56) _) _; simp only [Act.put, List.setIfInBounds_toArray, List.set_cons_zero, List.set_cons_succ]
    refine wpT (i := 13) (v := ?v13g4_) rfl (Or.inl ⟨by rfl, ?y13g4_⟩) (by assumption) ?r13g4_
    case y13g4_ => (intro w hSw; (try dsimp only at hSw); go_simp; try with_reducible rfl)
    change wpAnyH _ _ _ _ _ _ _ (Act.put _ (some 57) _) _; simp only [Act.put, List.setIfInBounds_toArray, List.set_cons_zero, List.set_cons_succ]
    refine wpT (i := 14) (v := ?v14g4_) rfl (Or.inl ⟨by rfl, ?y14g4_⟩) (by assumption) ?r14g4_
    case y14g4_ => (intro w hSw; (try dsimp only at hSw); go_simp; try with_reducible rfl)
    change wpAnyH _ _ _ _ _ _ _ (Act.put _ (some 58) _) _; simp only [Act.put, List.setIfInBounds_toArray, List.set_cons_zero, List.set_cons_succ]
    refine wpT (i := 15) (v := ?v15g4_) rfl (Or.inl ⟨by rfl, ?y15g4_⟩) (by assumption) ?r15g4_
    case y15g4_ => (intro w hSw; (try dsimp only at hSw); go_simp; try with_reducible rfl)
    change wpAnyH _ _ _ _ _ _ _ (Act.put _ (some 59) _) _; simp only [Act.put, List.setIfInBounds_toArray, List.set_cons_zero, List.set_cons_succ]
    refine wpT (i := 16) (v := ?v16g4_) rfl (Or.inl ⟨by rfl, ?y16g4_⟩) (by assumption) ?r16g4_
    case y16g4_ => (intro w hSw; (try dsimp only at hSw); go_simp; try with_reducible rfl)
    change wpAnyH _ _ _ _ _ _ _ (Act.put _ (some 60) _) _; simp only [Act.put, List.setIfInBounds_toArray, List.set_cons_zero, List.set_cons_succ]
    refine wpT (i := 17) (v := ?v17g4_) rfl (Or.inl ⟨by rfl, ?y17g4_⟩) (by assumption) ?r17g4_
    case y17g4_ => (intro w hSw; (try dsimp only at hSw); go_simp; try with_reducible rfl)
    change wpAnyH _ _ _ _ _ _ _ (Act.put _ (some 61) _) _; simp only [Act.put, List.setIfInBounds_toArray, List.set_cons_zero, List.set_cons_succ]
    refine wpT (i := 18) (v := ?v18g4_) rfl (Or.inl ⟨by rfl, ?y18g4_⟩) (by assumption) ?r18g4_
    case y18g4_ => (intro w hSw; exact run_execOp_load (x := .tmp 10) rfl (by have hs := hSw.2.2.2.1; simpa [Act.eval] using hs))
    change wpAnyH _ _ _ _ _ _ _ (Act.put _ (some 62) _) _; simp only [Act.put, List.setIfInBounds_toArray, List.set_cons_zero, List.set_cons_succ]
    refine wpT (i := 20) (v := ?v20g4_) rfl (Or.inl ⟨by rfl, ?y20g4_⟩) (by assumption) ?r20g4_
    case y20g4_ => (intro w hSw; exact run_execOp_load (x := .tmp 12) rfl (by have hs := hSw.2.2.2.2; simpa [Act.eval] using hs))
    change wpAnyH _ _ _ _ _ _ _ (Act.put _ (some 64) _) _; simp only [Act.put, List.setIfInBounds_toArray, List.set_cons_zero, List.set_cons_succ]
    refine wpAnyH_ready (rs := [19]) (by kernel_rfl) (by simp) ?_
    refine AllReadyH.cons rfl (fun K hK => ?_) AllReadyH.nil
    go_simp
    refine (HPLY.out _).mono ?_
    rintro e w12 ⟨rfl, hb12⟩
    have HB12 := Lib.hid (show Below w11.heap.size w11 w12 from undrew hb12)
    clear hb12
    dsimp only
    refine hK.out _ _ ?_ (fun hHeld => ?_)
    · exact HSS.out _ HB12.out
    clear hK K
    try simp only [Act.put, List.setIfInBounds_toArray, List.set_cons_zero, List.set_cons_succ]
    refine wpT (i := 21) (v := ?v21g4_) rfl (Or.inl ⟨by rfl, ?y21g4_⟩) (by assumption) ?r21g4_
    case y21g4_ => (intro w hSw; (try dsimp only at hSw); go_simp; try with_reducible rfl)
    change wpAnyH _ _ _ _ _ _ _ (Act.put _ (some 65) _) _; simp only [Act.put, List.setIfInBounds_toArray, List.set_cons_zero, List.set_cons_succ]
    refine wpT (i := 22) (v := ?v22g4_) rfl (Or.inl ⟨by rfl, ?y22g4_⟩) (by assumption) ?r22g4_
    case y22g4_ => (intro w hSw; (try dsimp only at hSw); go_simp; try with_reducible rfl)
    change wpAnyH _ _ _ _ _ _ _ (Act.put _ (some 66) _) _; simp only [Act.put, List.setIfInBounds_toArray, List.set_cons_zero, List.set_cons_succ]
    refine wpT (i := 23) (v := ?v23g4_) rfl (Or.inl ⟨by rfl, ?y23g4_⟩) (by assumption) ?r23g4_
    case y23g4_ => (intro w hSw; (try dsimp only at hSw); go_simp; try with_reducible rfl)
    change wpAnyH _ _ _ _ _ _ _ (Act.put _ (some 67) _) _; simp only [Act.put, List.setIfInBounds_toArray, List.set_cons_zero, List.set_cons_succ]
    refine wpT (i := 24) (v := ?v24g4_) rfl (Or.inl ⟨by rfl, ?y24g4_⟩) (by assumption) ?r24g4_
    case y24g4_ => (intro w hSw; (try dsimp only at hSw); go_simp; try with_reducible rfl)
    change wpAnyH _ _ _ _ _ _ _ (Act.put _ (some 68) _) _; simp only [Act.put, List.setIfInBounds_toArray, List.set_cons_zero, List.set_cons_succ]
    refine wpT (i := 25) (v := ?v25g4_) rfl (Or.inl ⟨by rfl, ?y25g4_⟩) (by assumption) ?r25g4_
    case y25g4_ => (intro w hSw; (try dsimp only at hSw); go_simp; try with_reducible rfl)
    change wpAnyH _ _ _ _ _ _ _ (Act.put _ (some 69) _) _; simp only [Act.put, List.setIfInBounds_toArray, List.set_cons_zero, List.set_cons_succ]
    refine wpT (i := 26) (v := ?v26g4_) rfl (Or.inl ⟨by rfl, ?y26g4_⟩) (by assumption) ?r26g4_
    case y26g4_ => (intro w hSw; (try dsimp only at hSw); go_simp; try with_reducible rfl)
    change wpAnyH _ _ _ _ _ _ _ (Act.put _ (some 70) _) _; simp only [Act.put, List.setIfInBounds_toArray, List.set_cons_zero, List.set_cons_succ]
    refine wpT (i := 27) (v := ?v27g4_) rfl (Or.inl ⟨by rfl, ?y27g4_⟩) (by assumption) ?r27g4_
    case y27g4_ => (intro w hSw; (try dsimp only at hSw); go_simp; try with_reducible rfl)
    change wpAnyH _ _ _ _ _ _ _ (Act.put _ (some 71) _) _; simp only [Act.put, List.setIfInBounds_toArray, List.set_cons_zero, List.set_cons_succ]
    refine wpT (i := 28) (v := ?v28g4_) rfl (Or.inl ⟨by rfl, ?y28g4_⟩) (by assumption) ?r28g4_
    case y28g4_ => (intro w hSw; (try dsimp only at hSw); go_simp; try with_reducible rfl)
    change wpAnyH _ _ _ _ _ _ _ (Act.put _ (some 72) _) _; simp only [Act.put, List.setIfInBounds_toArray, List.set_cons_zero, List.set_cons_succ]
    refine wpT (i := 29) (v := ?v29g4_) rfl (Or.inl ⟨by rfl, ?y29g4_⟩) (by assumption) ?r29g4_
    case y29g4_ => (intro w hSw; (try dsimp only at hSw); go_simp; try with_reducible rfl)
    change wpAnyH _ _ _ _ _ _ _ (Act.put _ (some 73) _) _; simp only [Act.put, List.setIfInBounds_toArray, List.set_cons_zero, List.set_cons_succ]
    refine wpT (i := 30) (v := ?v30g4_) rfl (Or.inl ⟨by rfl, ?y30g4_⟩) (by assumption) ?r30g4_
    case y30g4_ => (intro w hSw; (try dsimp only at hSw); go_simp; try with_reducible rfl)
    change wpAnyH _ _ _ _ _ _ _ (Act.put _ (some 74) _) _; simp only [Act.put, List.setIfInBounds_toArray, List.set_cons_zero, List.set_cons_succ]
    refine wpT (i := 31) (v := ?v31g4_) rfl (Or.inl ⟨by rfl, ?y31g4_⟩) (by assumption) ?r31g4_
    case y31g4_ => (intro w hSw; (try dsimp only at hSw); go_simp; try with_reducible rfl)
    change wpAnyH _ _ _ _ _ _ _ (Act.put _ (some 75) _) _; simp only [Act.put, List.setIfInBounds_toArray, List.set_cons_zero, List.set_cons_succ]
    refine wpT (i := 32) (v := undef) rfl (Or.inr ⟨by rfl, rfl⟩) (by assumption) ?_
    change wpAnyH _ _ _ _ _ _ _ (Act.put _ (some 76) _) _; simp only [Act.put, List.setIfInBounds_toArray, List.set_cons_zero, List.set_cons_succ]
    refine wpT (i := 33) (v := undef) rfl (Or.inr ⟨by rfl, rfl⟩) (by assumption) ?_
    change wpAnyH _ _ _ _ _ _ _ (Act.put _ (some 77) _) _; simp only [Act.put, List.setIfInBounds_toArray, List.set_cons_zero, List.set_cons_succ]
    refine wpT (i := 34) (v := ?v34g4_) rfl (Or.inl ⟨by rfl, ?y34g4_⟩) (by assumption) ?r34g4_
    case y34g4_ => (intro w hSw; (try dsimp only at hSw); go_simp; try with_reducible rfl)
    change wpAnyH _ _ _ _ _ _ _ (Act.put _ (some 78) _) _; simp only [Act.put, List.setIfInBounds_toArray, List.set_cons_zero, List.set_cons_succ]
    refine wpT (i := 35) (v := ?v35g4_) rfl (Or.inl ⟨by rfl, ?y35g4_⟩) (by assumption) ?r35g4_
    case y35g4_ => (intro w hSw; (try dsimp only at hSw); go_simp; try with_reducible rfl)
    change wpAnyH _ _ _ _ _ _ _ (Act.put _ (some 79) _) _; simp only [Act.put, List.setIfInBounds_toArray, List.set_cons_zero, List.set_cons_succ]
    refine wpT (i := 36) (v := ?v36g4_) rfl (Or.inl ⟨by rfl, ?y36g4_⟩) (by assumption) ?r36g4_
    case y36g4_ => (intro w hSw; (try dsimp only at hSw); go_simp; try with_reducible rfl)
    change wpAnyH _ _ _ _ _ _ _ (Act.put _ (some 80) _) _; simp only [Act.put, List.setIfInBounds_toArray, List.set_cons_zero, List.set_cons_succ]
    refine wpT (i := 37) (v := ?v37g4_) rfl (Or.inl ⟨by rfl, ?y37g4_⟩) (by assumption) ?r37g4_
    case y37g4_ => (intro w hSw; (try dsimp only at hSw); go_simp; try with_reducible rfl)
    change wpAnyH _ _ _ _ _ _ _ (Act.put _ (some 81) _) _; simp only [Act.put, List.setIfInBounds_toArray, List.set_cons_zero, List.set_cons_succ]
    refine wpT (i := 38) (v := ?v38g4_) rfl (Or.inl ⟨by rfl, ?y38g4_⟩) (by assumption) ?r38g4_
    case y38g4_ => (intro w hSw; exact run_execOp_conv (x := .tmp 81) rfl (by have hs := hSw.2.1; simpa [Act.eval] using hs))
    change wpAnyH _ _ _ _ _ _ _ (Act.put _ (some 82) _) _; simp only [Act.put, List.setIfInBounds_toArray, List.set_cons_zero, List.set_cons_succ]
    refine wpT (i := 39) (v := ?v39g4_) rfl (Or.inl ⟨by rfl, ?y39g4_⟩) (by assumption) ?r39g4_
    case y39g4_ => (intro w hSw; (try dsimp only at hSw); go_simp; try with_reducible rfl)
    change wpAnyH _ _ _ _ _ _ _ (Act.put _ (some 83) _) _; simp only [Act.put, List.setIfInBounds_toArray, List.set_cons_zero, List.set_cons_succ]
    refine wpT (i := 40) (v := ?v40g4_) rfl (Or.inl ⟨by rfl, ?y40g4_⟩) (by assumption) ?r40g4_
    case y40g4_ => (intro w hSw; exact run_execOp_conv (x := .tmp 83) rfl (by have hs := hSw.2.2.1; simpa [Act.eval] using hs))
    change wpAnyH _ _ _ _ _ _ _ (Act.put _ (some 84) _) _; simp only [Act.put, List.setIfInBounds_toArray, List.set_cons_zero, List.set_cons_succ]
    refine wpT (i := 41) (v := ?v41g4_) rfl (Or.inl ⟨by rfl, ?y41g4_⟩) (by assumption) ?r41g4_
    case y41g4_ => (intro w hSw; (try dsimp only at hSw); go_simp; try with_reducible rfl)
    change wpAnyH _ _ _ _ _ _ _ (Act.put _ (some 85) _) _; simp only [Act.put, List.setIfInBounds_toArray, List.set_cons_zero, List.set_cons_succ]
    refine wpT (i := 42) (v := ?v42g4_) rfl (Or.inl ⟨by rfl, ?y42g4_⟩) (by assumption) ?r42g4_
    case y42g4_ => (intro w hSw; (try dsimp only at hSw); go_simp; try with_reducible rfl)
    change wpAnyH _ _ _ _ _ _ _ (Act.put _ (some 86) _) _; simp only [Act.put, List.setIfInBounds_toArray, List.set_cons_zero, List.set_cons_succ]
    refine wpT (i := 43) (v := ?v43g4_) rfl (Or.inl ⟨by rfl, ?y43g4_⟩) (by assumption) ?r43g4_
    case y43g4_ => (intro w hSw; (try dsimp only at hSw); go_simp; try with_reducible rfl)
    change wpAnyH _ _ _ _ _ _ _ (Act.put _ (some 87) _) _; simp only [Act.put, List.setIfInBounds_toArray, List.set_cons_zero, List.set_cons_succ]
    refine wpAnyH_ready (rs := [44]) (by kernel_rfl) (by simp) ?_
    refine AllReadyH.cons rfl (fun K hK => ?_) AllReadyH.nil
    go_simp
    refine (HWK.out _ (HBW.out.trans (HB12.out.mono HBW.out.size))).mono ?_
    rintro e w13 ⟨rfl, hb13⟩
    have HB13 := Lib.hid (HB12.out.trans (hb13.mono HB12.out.size))
    clear hb13
    dsimp only
    refine hK.out _ _ ?_ (fun hHeld => ?_)
    · exact HSS.out _ HB13.out
    clear hK K
    try simp only [Act.put, List.setIfInBounds_toArray, List.set_cons_zero, List.set_cons_succ]
    refine wpT (i := 45) (v := ?v45g4_) rfl (Or.inl ⟨by rfl, ?y45g4_⟩) (by assumption) ?r45g4_
    case y45g4_ => (intro w hSw; (try dsimp only at hSw); go_simp; try with_reducible rfl)
    change wpAnyH _ _ _ _ _ _ _ (Act.put _ (some 89) _) _; simp only [Act.put, List.setIfInBounds_toArray, List.set_cons_zero, List.set_cons_succ]
    refine wpT (i := 46) (v := ?v46g4_) rfl (Or.inl ⟨by rfl, ?y46g4_⟩) (by assumption) ?r46g4_
    case y46g4_ => (intro w hSw; (try dsimp only at hSw); go_simp; try with_reducible rfl)
    change wpAnyH _ _ _ _ _ _ _ (Act.put _ (some 4) _) _; simp only [Act.put, List.setIfInBounds_toArray, List.set_cons_zero, List.set_cons_succ]
    refine wpAnyH_done (by kernel_rfl) ?_ _
    go_wp2_with fail
    go_ret
    exact ⟨rfl, HBW.out.trans (HB13.out.mono HBW.out.size)⟩
set_option maxRecDepth 100000 in
set_option maxHeartbeats 4000000 in
theorem lawBytes_any {w : World} (m : ManM) (hm : m.Ok) (A : Option Addr) (l : List UInt8) (c : Nat) (h : 0 < l.length → ∃ ad, A = some ad ∧ ad.block < w.heap.size ∧ ∀ j (hj : j < l.length), w.cell? (ad.add j) = some (.int .u8 (l[j].toNat : Int))) (hc : l.length ≤ c) (hT : Tb w.heap.size w) :
    Calls Tryz.prog 25 #[.agg (mCells m), .slice A l.length c] w fun e w' => e = .returned (.bool true) ∧ Below w.heap.size w w' := by
  by_cases hl : l.length ≤ 500
  · have hbr := btr_of_cells hc h
    have hs : (⟨l.toArray⟩ : ByteArray).size = l.length := by simp [ByteArray.size]
    rw [← hs] at hbr hl ⊢
    cases hmay : m.may with
    | true => exact bytes_yes w m hm A c _ hbr hl hT hmay
    | false => exact bytes_no w m hm A c _ hbr hl hT hmay
  · have hlI : (500 : Int) < (l.length : Int) := by omega
    have hb1 := (Below.refl w.heap.size w).alloc (Nat.le_refl _) (.cells (mCells m) 38)
    have hwk := works_any (w.alloc (.cells (mCells m) 38)) (hT.on_ hb1)
    unfold mCells at hb1 hwk ⊢
    have HB1 := Lib.hid hb1; have HWK := Lib.hid hwk
    clear hb1 hwk h hl hT hc
    go_enter Tryz.func25, Tryz.ntmps25
    go_wp2_with fail
    refine HWK.out.mono ?_
    rintro e w2 ⟨rfl, hb2⟩
    have HB2 := Lib.hid (HB1.out.trans (hb2.mono HB1.out.size))
    clear hb2
    go_wp2
    go_ret
    exact ⟨rfl, HB2.out⟩
end Go.Proofs.YtlcgkcafelpglaaGreatDoor
