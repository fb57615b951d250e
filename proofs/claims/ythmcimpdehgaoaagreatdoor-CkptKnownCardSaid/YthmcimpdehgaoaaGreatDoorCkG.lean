/- A store of checkpoints: Read, of a step in range. -/
import Derived.Test.YthmcimpdehgaoaaGreatDoorPk15
import Derived.OrdersHeld
import Derived.Deep.RegionHeld3
import Derived.Deep.DeepCutAuto
namespace Go.Proofs.YthmcimpdehgaoaaGreatDoor
open Go.RowKit Go.Maps

theorem wrapI_nat {n : Nat} (h : n < 4294967296) : wrap64 (n : Int) = n := by unfold wrap64; omega
set_option maxRecDepth 100000 in
set_option maxHeartbeats 16000000 in
theorem cread_yes [Forb] (w : World) (B p gs : Nat) (v : Value) (D : DiskD) (h : DiskIs w B p v D) (hs : CkSt w gs p) (hf : Fit D) (n : Nat) (hn : n ≤ 1073741824) (hT : Tb w.heap.size w) :
    Calls Tryz.prog 15 #[.pointer (some ⟨gs, 0, none⟩), .int .i64 n] w (CReadP w (readC D n)) := by
  have hdr : Below w.heap.size w w.drew := (Below.refl _ _).drew
  have HNA := Lib.hid (cname_any w.drew (hT.at_ hdr) n (by omega))
  have HRD := Lib.hid (fun (w1 : World) (hb : Below w.heap.size w w1) => d_readO (h.below hb (Nat.le_refl _)) hf (name := nameC n) (E := (D.read (nameC n)).1) (b := (D.read (nameC n)).2) rfl)
  have HCS := Lib.hid (fun (w1 : World) (hb : Below w.heap.size w w1) => show w1.cell? ⟨gs, 0, none⟩ = some (.pointer (some ⟨p, 0, none⟩)) from Blk.cell (hs.below hb) 0)
  have hbs := readC_size hf (nameC n)
  have hq : readC D n = if (D.read (nameC n)).1 = 160 then ((160 : Int), ByteArray.empty) else if (D.read (nameC n)).1 ≠ 0 then ((190 : Int), ByteArray.empty) else readF n (D.read (nameC n)).2 := by
    unfold readC
    rw [if_neg (by omega)]
    rfl
  obtain ⟨Q, hQ⟩ : ∃ Q, readC D n = Q := ⟨_, rfl⟩
  rw [hQ] at hq ⊢
  obtain ⟨E, hE⟩ : ∃ E, (D.read (nameC n)).1 = E := ⟨_, rfl⟩
  obtain ⟨f, hff⟩ : ∃ f, (D.read (nameC n)).2 = f := ⟨_, rfl⟩
  obtain ⟨T, hTT⟩ : ∃ T, nameC n = T := ⟨_, rfl⟩
  rw [hE, hff] at HRD hq
  rw [hff] at hbs
  rw [hTT] at HNA HRD
  have HQ := Lib.hid hq
  have HDR := Lib.hid hdr
  have hc0 := HCS.out w (Below.refl _ _)
  have hnI : ¬ (1073741824 : Int) < (n : Int) := by omega
  clear h hs hf hT hdr hq hQ hE hff hTT
  go_enter Tryz.func15, Tryz.ntmps15
  go_upto_region 5 with (fail)
  refine wp_region_noPanic ?_
  refine wp_region_held_drew (S := (fun w' => w'.cell? ⟨gs, 0, none⟩ = some (.pointer (some ⟨p, 0, none⟩)))) (by kernel_rfl) ?_ (fun hHeld => ?_)
  · exact hc0
  refine wpT (i := 0) (v := ?v0g1_) rfl (Or.inl ⟨by rfl, ?y0g1_⟩) (by assumption) ?r0g1_
  case y0g1_ => (intro w hSw; (try dsimp only at hSw); have s1 := hSw; go_simp; try with_reducible rfl)
  change wpAnyH _ _ _ _ _ _ _ (Act.put _ (some 25) _) _; simp only [Act.put, List.setIfInBounds_toArray, List.set_cons_zero, List.set_cons_succ]
  refine wpT (i := 1) (v := ?v1g1_) rfl (Or.inl ⟨by rfl, ?y1g1_⟩) (by assumption) ?r1g1_
  case y1g1_ => (intro w hSw; (try dsimp only at hSw); have s1 := hSw; go_simp; try with_reducible rfl)
  change wpAnyH _ _ _ _ _ _ _ (Act.put _ (some 26) _) _; simp only [Act.put, List.setIfInBounds_toArray, List.set_cons_zero, List.set_cons_succ]
  refine wpT (i := 2) (v := ?v2g1_) rfl (Or.inl ⟨by rfl, ?y2g1_⟩) (by assumption) ?r2g1_
  case y2g1_ => (intro w hSw; (try dsimp only at hSw); have s1 := hSw; go_simp; try with_reducible rfl)
  change wpAnyH _ _ _ _ _ _ _ (Act.put _ (some 27) _) _; simp only [Act.put, List.setIfInBounds_toArray, List.set_cons_zero, List.set_cons_succ]
  refine wpT (i := 3) (v := ?v3g1_) rfl (Or.inl ⟨by rfl, ?y3g1_⟩) (by assumption) ?r3g1_
  case y3g1_ => (intro w hSw; (try dsimp only at hSw); have s1 := hSw; go_simp; try with_reducible rfl)
  change wpAnyH _ _ _ _ _ _ _ (Act.put _ (some 28) _) _; simp only [Act.put, List.setIfInBounds_toArray, List.set_cons_zero, List.set_cons_succ]
  refine wpT (i := 4) (v := ?v4g1_) rfl (Or.inl ⟨by rfl, ?y4g1_⟩) (by assumption) ?r4g1_
  case y4g1_ => (intro w hSw; (try dsimp only at hSw); have s1 := hSw; go_simp; try with_reducible rfl)
  change wpAnyH _ _ _ _ _ _ _ (Act.put _ (some 29) _) _; simp only [Act.put, List.setIfInBounds_toArray, List.set_cons_zero, List.set_cons_succ]
  refine wpAnyH_ready (rs := [5]) (by kernel_rfl) (by simp) ?_
  refine AllReadyH.cons rfl (fun K hK => ?_) AllReadyH.nil
  go_simp
  refine (HNA.out).mono ?_
  rintro e w1 ⟨rfl, hb1⟩
  have HB1 := Lib.hid (HDR.out.trans (hb1.mono HDR.out.size))
  clear hb1
  dsimp only
  refine hK.out _ _ ?_ (fun hHeld => ?_)
  · exact HCS.out _ HB1.out
  clear hK K
  try simp only [Act.put, List.setIfInBounds_toArray, List.set_cons_zero, List.set_cons_succ]
  refine wpAnyH_ready (rs := [6]) (by kernel_rfl) (by simp) ?_
  refine AllReadyH.cons rfl (fun K hK => ?_) AllReadyH.nil
  go_simp
  refine (HRD.out w1 HB1.out).mono ?_
  rintro e w2 ⟨bv, rfl, ho, hb2⟩
  have HB2 := Lib.hid (HB1.out.trans (hb2.mono HB1.out.size))
  have HBT := Lib.hid (Bt.of_own ho)
  obtain ⟨Af, cf, rfl⟩ := own_shape ho
  clear ho hb2
  dsimp only
  refine hK.out _ _ ?_ (fun hHeld => ?_)
  · exact HCS.out _ HB2.out
  clear hK K
  try simp only [Act.put, List.setIfInBounds_toArray, List.set_cons_zero, List.set_cons_succ]
  refine wpT (i := 7) (v := ?v7g1_) rfl (Or.inl ⟨by rfl, ?y7g1_⟩) (by assumption) ?r7g1_
  case y7g1_ => (intro w hSw; (try dsimp only at hSw); have s1 := hSw; go_simp; try with_reducible rfl)
  change wpAnyH _ _ _ _ _ _ _ (Act.put _ (some 24) _) _; simp only [Act.put, List.setIfInBounds_toArray, List.set_cons_zero, List.set_cons_succ]
  refine wpT (i := 8) (v := ?v8g1_) rfl (Or.inl ⟨by rfl, ?y8g1_⟩) (by assumption) ?r8g1_
  case y8g1_ => (intro w hSw; (try dsimp only at hSw); have s1 := hSw; go_simp; try with_reducible rfl)
  change wpAnyH _ _ _ _ _ _ _ (Act.put _ (some 32) _) _; simp only [Act.put, List.setIfInBounds_toArray, List.set_cons_zero, List.set_cons_succ]
  refine wpT (i := 9) (v := ?v9g1_) rfl (Or.inl ⟨by rfl, ?y9g1_⟩) (by assumption) ?r9g1_
  case y9g1_ => (intro w hSw; (try dsimp only at hSw); have s1 := hSw; go_simp; try with_reducible rfl)
  change wpAnyH _ _ _ _ _ _ _ (Act.put _ (some 33) _) _; simp only [Act.put, List.setIfInBounds_toArray, List.set_cons_zero, List.set_cons_succ]
  refine wpT (i := 10) (v := ?v10g1_) rfl (Or.inl ⟨by rfl, ?y10g1_⟩) (by assumption) ?r10g1_
  case y10g1_ => (intro w hSw; (try dsimp only at hSw); have s1 := hSw; go_simp; try with_reducible rfl)
  change wpAnyH _ _ _ _ _ _ _ (Act.put _ (some 6) _) _; simp only [Act.put, List.setIfInBounds_toArray, List.set_cons_zero, List.set_cons_succ]
  refine wpT (i := 11) (v := ?v11g1_) rfl (Or.inl ⟨by rfl, ?y11g1_⟩) (by assumption) ?r11g1_
  case y11g1_ => (intro w hSw; (try dsimp only at hSw); have s1 := hSw; go_simp; try with_reducible rfl)
  change wpAnyH _ _ _ _ _ _ _ (Act.put _ (some 7) _) _; simp only [Act.put, List.setIfInBounds_toArray, List.set_cons_zero, List.set_cons_succ]
  refine wpAnyH_done (by kernel_rfl) ?_ _
  refine NoPanic.normal ?_
  clear HNA HRD HB1 HCS HDR hc0 hHeld
  by_cases h160 : E = 160
  · obtain rfl := h160
    have HF := Lib.hid (show CReadP w Q (.returned (.tuple #[.slice none 0 0, .int .i64 160])) w2 by rw [HQ.out, if_pos rfl]; exact CReadP.none_ HB2.out)
    go_wp2
    go_ret2
    exact HF.out
  have hE160 : (E == 160) = false := by simpa using h160
  have hq2 := HQ.out
  rw [if_neg h160] at hq2
  have HQ2 := Lib.hid hq2
  clear HQ hq2
  have HO := Lib.hid (ropen_any w2 _ f HBT.out.btr hbs)
  go_wp2_with fail
  refine HO.out.mono ?_
  rintro e w3 ⟨g, rfl, hr, hb3, hg⟩
  have h0 : CrS w w3 g (rc0 f) (.slice Af f.size cf) f := ⟨hr, HBT.out.below hb3, HB2.out.trans (hb3.mono HB2.out.size), Nat.le_trans HB2.out.size hg⟩
  have HS := Lib.hid h0; have HC := Lib.hid (rByte_any w3 g (rc0 f) h0.rd)
  clear hr hb3 hg h0 HO HBT HB2
  obtain ⟨tg, htg⟩ : ∃ k, numB ((rc0 f).next 1).1 = k := ⟨_, rfl⟩
  rw [htg] at HC
  go_wp2_with fail
  refine HC.out.mono ?_
  rintro e w4 ⟨rfl, hr, hm⟩
  have h1 : CrS w w4 g (rc1 f) (.slice Af f.size cf) f := HS.out.moved hr hm
  clear HS HC hr hm
  have HS := Lib.hid h1; have HC := Lib.hid (rLong_any w4 g (rc1 f) h1.rd)
  clear h1
  obtain ⟨nf, hnf⟩ : ∃ k, numB ((rc1 f).next 8).1 = k := ⟨_, rfl⟩
  rw [hnf] at HC
  go_wp2_with fail
  refine HC.out.mono ?_
  rintro e w5 ⟨rfl, hr, hm⟩
  have h1 : CrS w w5 g (rc2 f) (.slice Af f.size cf) f := HS.out.moved hr hm
  clear HS HC hr hm
  have hszl : szC f < 4294967296 := by
    unfold szC
    rcases next_size (rc2 f) 4 with hz | hz
    · have := numB_lt ((rc2 f).next 4).1
      rw [show ((4 : Nat) : Int) = 4 from rfl] at hz
      rw [hz] at this
      omega
    · have := numB_lt ((rc2 f).next 4).1
      rw [show ((4 : Nat) : Int) = 4 from rfl] at hz
      rw [hz] at this
      omega
  have HS := Lib.hid h1; have HC := Lib.hid (rWord_any w5 g (rc2 f) h1.rd)
  clear h1
  have hsz0 : numB ((rc2 f).next 4).1 = szC f := rfl
  rw [hsz0] at HC
  obtain ⟨sz, hsz⟩ : ∃ k, szC f = k := ⟨_, rfl⟩
  rw [hsz] at HC hszl
  have hwz := wrapI_nat hszl
  clear hsz0
  go_wp2_with fail
  refine HC.out.mono ?_
  rintro e w6 ⟨rfl, hr, hm⟩
  have h1 : CrS w w6 g (rc3 f) (.slice Af f.size cf) f := HS.out.moved hr hm
  clear HS HC hr hm
  have HS := Lib.hid h1; have HC := Lib.hid (rRaw_any w6 g (rc3 f) (sz : Int) h1.rd (by omega))
  clear h1
  obtain ⟨da, hda⟩ : ∃ k, ((rc3 f).next (sz : Int)).1 = k := ⟨_, rfl⟩
  rw [hda] at HC
  go_wp2_with fail
  refine HC.out.mono ?_
  rintro e w7 ⟨dv, rfl, ho, hr, hm⟩
  obtain ⟨Ad, cd, rfl⟩ := own_shape ho
  have h1 : CrS w w7 g (rc4 f) (.slice Af f.size cf) f := HS.out.moved (by unfold rc4; rw [hsz]; exact hr) hm
  have HOD := Lib.hid (own_mono ho HS.out.below.size)
  clear HS HC hr hm ho
  have HS := Lib.hid h1; have HC := Lib.hid (rWord_any w7 g (rc4 f) h1.rd)
  clear h1
  obtain ⟨sm, hsm⟩ : ∃ k, numB ((rc4 f).next 4).1 = k := ⟨_, rfl⟩
  rw [hsm] at HC
  go_wp2_with fail
  refine HC.out.mono ?_
  rintro e w8 ⟨rfl, hr, hm⟩
  have h1 : CrS w w8 g (rc5 f) (.slice Af f.size cf) f := HS.out.moved hr hm
  have HO8 := Lib.hid (ownC_moved HOD.out HS.out.rd hm)
  clear HS HC hr hm HOD
  have HS := Lib.hid h1
  clear h1
  by_cases hE0 : E = 0
  case neg =>
    have hEn : (E != 0) = true := by simpa using hE0
    have HF := Lib.hid (show CReadP w Q (.returned (.tuple #[.slice none 0 0, .int .i64 190])) w8 by have := HQ2.out; rw [if_pos hE0] at this; rw [this]; exact CReadP.none_ HS.out.below)
    clear HS HO8 HQ2
    go_wp2
    go_ret2
    exact HF.out
  obtain rfl := hE0
  have hEn : ((0 : Int) != 0) = false := rfl
  have hq3 := HQ2.out
  rw [if_neg (by simp)] at hq3
  have HBAD := Lib.hid (fun (W : World) (hW : Below w.heap.size w W) (hng : ¬ GoodC n f) => show CReadP w Q (.returned (.tuple #[.slice none 0 0, .int .i64 190])) W by rw [hq3]; unfold readF; rw [dataC_bad hn hng]; exact CReadP.none_ hW)
  have HGOOD := Lib.hid (fun (W : World) (hW : Below w.heap.size w W) (hgd : GoodC n f) (ho : W.ownsRow w.heap.size 5 1 (.slice Ad da.size cd) da.size (ucells da)) => show CReadP w Q (.returned (.tuple #[.slice Ad da.size cd, .int .i64 0])) W by rw [hq3]; unfold readF; rw [dataC_good hgd, hsz, hda]; exact ⟨_, rfl, ho, hW⟩)
  have HCB := Lib.hid (rBad_any w8 g (rc5 f) HS.out.rd)
  clear hq3 HQ2
  by_cases hb : (rc5 f).bad = true
  case pos =>
    have HF := Lib.hid (HBAD.out w8 HS.out.below (fun hg => by rw [hg.bad] at hb; cases hb))
    rw [hb] at HCB
    clear HS HO8 HBAD HGOOD hb
    go_wp2_with fail
    refine HCB.out.mono ?_
    rintro e w9 ⟨rfl, rfl⟩
    clear HCB
    go_wp2
    go_ret2
    exact HF.out
  have hb' : (rc5 f).bad = false := by simpa using hb
  have hlen := good_len hb'
  rw [hb'] at HCB
  go_wp2_with fail
  refine HCB.out.mono ?_
  rintro e w9 ⟨rfl, rfl⟩
  clear HCB hb
  have HCL := Lib.hid (left_any w9 g (rc5 f) HS.out.rd)
  rw [(rc_b f).2.2.2.2.2] at HCL
  obtain ⟨L, hL⟩ : ∃ L, (f.size : Int) - ((rc5 f).at_ : Int) = L := ⟨_, rfl⟩
  rw [hL] at HCL
  go_wp2_with fail
  refine HCL.out.mono ?_
  rintro e w10 ⟨rfl, k, rfl⟩
  clear HCL
  have HB10 := Lib.hid (below_drewN HS.out.below k)
  have HO10 := Lib.hid (show (w9.drewN k).ownsRow w.heap.size 5 1 (.slice Ad da.size cd) da.size (ucells da) from HO8.out)
  have HT10 := Lib.hid (show Bt (w9.drewN k) (.slice Af f.size cf) f from HS.out.bt)
  clear HS HO8
  obtain ⟨wa, hwa⟩ : ∃ wa, w9.drewN k = wa := ⟨_, rfl⟩
  rw [hwa] at HB10 HO10 HT10 ⊢
  clear hwa
  by_cases hLp : 0 < L
  case pos =>
    have HF := Lib.hid (HBAD.out _ HB10.out (fun hg => by have := hg.left; omega))
    clear HBAD HGOOD HB10 HO10 HT10
    go_wp2
    go_ret2
    exact HF.out
  by_cases hT : tg = 67
  case neg =>
    have HF := Lib.hid (HBAD.out _ HB10.out (fun hg => hT (htg.symm.trans hg.tag)))
    have hTn : ((tg : Int) != 67) = true := by simp; omega
    clear HBAD HGOOD HB10 HO10 HT10
    go_wp2
    go_ret2
    exact HF.out
  have hTn : ((tg : Int) != 67) = false := by simp; omega
  by_cases hN : nf = n
  case neg =>
    have HF := Lib.hid (HBAD.out _ HB10.out (fun hg => hN (hnf.symm.trans hg.num)))
    have hNn : ((nf : Int) != (n : Int)) = true := by simp; omega
    clear HBAD HGOOD HB10 HO10 HT10
    go_wp2
    go_ret2
    exact HF.out
  have hNn : ((nf : Int) != (n : Int)) = false := by simp; omega
  by_cases hS : 4194304 < sz
  case pos =>
    have HF := Lib.hid (HBAD.out _ HB10.out (fun hg => by have := hg.size; omega))
    have hSn : (4194304 : Int) < (sz : Int) := by omega
    clear HBAD HGOOD HB10 HO10 HT10
    go_wp2
    go_ret2
    exact HF.out
  have hSn : ¬ (4194304 : Int) < (sz : Int) := by omega
  obtain ⟨m, hm4⟩ : ∃ m, f.size - 4 = m := ⟨_, rfl⟩
  have hmI : (f.size : Int) - 4 = (m : Int) := by omega
  obtain ⟨hsl, hbm⟩ := HT10.out.uptoC m (by omega)
  have hmcf : m ≤ cf := by have := HT10.out.cap; omega
  have HSM := Lib.hid (sum_any wa (.slice Af m cf) (f.extract 0 m) hbm (by rw [ByteArray.size_extract]; omega))
  have hcr0 : crcN (f.extract 0 (f.size - 4)) = crcN (f.extract 0 m) := by rw [hm4]
  obtain ⟨cr, hcr⟩ : ∃ cr, crcN (f.extract 0 m) = cr := ⟨_, rfl⟩
  rw [hcr] at HSM hcr0
  clear hbm HT10
  go_wp2_with fail
  refine HSM.out.mono ?_
  rintro e w11 ⟨rfl, hb11⟩
  have HB11 := Lib.hid (HB10.out.trans (hb11.mono HB10.out.size))
  have HO11 := Lib.hid (ownC_below HO10.out hb11)
  clear hb11 HSM HB10 HO10
  by_cases hC : sm = cr
  case neg =>
    have HF := Lib.hid (HBAD.out _ HB11.out (fun hg => hC (by have := hg.sum; rw [hcr0] at this; exact hsm.symm.trans this)))
    have hCn : ((sm : Int) != (cr : Int)) = true := by simp; omega
    clear HBAD HGOOD HB11 HO11
    go_wp2
    go_ret2
    exact HF.out
  have hCn : ((sm : Int) != (cr : Int)) = false := by simp; omega
  have HF := Lib.hid (HGOOD.out _ HB11.out ⟨hb', by rw [hL]; omega, htg.trans hT, hnf.trans hN, by omega, hsm.trans (hC.trans hcr0.symm)⟩ HO11.out)
  clear HBAD HGOOD HB11 HO11
  go_wp2
  go_ret2
  exact HF.out
/-- a read, whatever it is asked for -/
theorem cread_any [Forb] (w : World) (B p gs : Nat) (v : Value) (D : DiskD) (h : DiskIs w B p v D) (hs : CkSt w gs p) (hf : Fit D) (step : Int) (hT : Tb w.heap.size w) :
    Calls Tryz.prog 15 #[.pointer (some ⟨gs, 0, none⟩), .int .i64 step] w (CReadP w (readC D step)) := by
  by_cases h0 : step < 0
  · refine (cread_low w gs step h0).mono ?_
    rintro e w' ⟨rfl, rfl⟩
    unfold readC
    rw [if_pos (.inl h0)]
    exact CReadP.none_ (Below.refl _ _)
  by_cases h1 : 1073741824 < step
  · refine (cread_high w gs step h0 h1).mono ?_
    rintro e w' ⟨rfl, rfl⟩
    unfold readC
    rw [if_pos (.inr h1)]
    exact CReadP.none_ (Below.refl _ _)
  obtain ⟨n, rfl⟩ : ∃ n : Nat, step = (n : Int) := ⟨step.toNat, by omega⟩
  exact cread_yes w B p gs v D h hs hf n (by omega) hT
end Go.Proofs.YthmcimpdehgaoaaGreatDoor
