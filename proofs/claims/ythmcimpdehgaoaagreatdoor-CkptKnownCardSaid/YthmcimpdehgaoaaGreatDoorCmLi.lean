/- The law's own 'lies': the same lies on both disks. -/
import Derived.Test.YthmcimpdehgaoaaGreatDoorPk32
import Derived.Test.YthmcimpdehgaoaaGreatDoorPk17
namespace Go.Proofs.YthmcimpdehgaoaaGreatDoor
open Go.RowKit Go.Maps

theorem run_execOp_convC {P : Program} {ρ : Operand → Value} {o : Oper} {t t' : TypeId} {x : Operand} {v : Value} {w : World} (ho : o.op = .convert t t' x) (h : (convert t t' (ρ x)).run P w = .ok v w) : (execOp ρ o).run P w = .ok (.value v) w := by
  unfold execOp
  simp [ho, h, Result.andThen]
set_option maxHeartbeats 1000000 in
theorem steps_is (w : World) (base p : Nat) (v : Value) (D : DiskD) (h : DiskIs w base p v D) :
    Calls Tryz.prog 59 #[.pointer (some ⟨p, 0, none⟩)] w fun e w' => e = .returned (.int .i64 D.steps) ∧ w' = w := by
  have c2 := h.blk.cell 2
  simp only [List.getElem?_toArray, List.getElem?_cons_zero, List.getElem?_cons_succ] at c2
  go_enter Tryz.func59, Tryz.ntmps59
  go_wp2
  go_ret
  exact ⟨rfl, rfl⟩
section
variable (w : World) (B p q : Nat) (v : Value) (D : DiskD) (R : RDisk) (hd : DiskIs w B p v D) (hr : RkIs w B q R)
include hd hr
set_option maxRecDepth 100000 in
set_option maxHeartbeats 16000000 in
theorem lies_any (hsim : Sim D R) (hf : FitN D 1) : Calls Tryz.prog 23 #[.pointer (some ⟨p, 0, none⟩), .pointer (some ⟨q, 0, none⟩)] w fun e w' => e = .returned (.bool true) ∧ Below w.heap.size w w' := by
  obtain ⟨-, vf, vs, hb, ⟨rows, hrr, hre⟩, -⟩ := id hr
  have hlen : R.files.length = D.files.length := by rw [hsim.files]; unfold seenL; rw [List.length_map]
  have hrl : rows.length = D.files.length := by rw [← hlen, ← hre]; simp
  obtain ⟨Af, cf, rfl, -⟩ := id hrr
  have c0 := hb.cell 0; have c3 := hb.cell 3; have c5 := hb.cell 5
  simp only [List.getElem?_toArray, List.getElem?_cons_zero, List.getElem?_cons_succ] at c0 c3 c5
  rw [hsim.done] at c3
  rw [hsim.off] at c5
  rw [hrl] at c0 hrr
  have hnm := names_any w B p v D hd (by have := hf.files; omega)
  have hst := fun (w' : World) (hb : Below w.heap.size w w') => steps_is w' B p v D (hd.below hb (Nat.le_refl _))
  have hof := fun (w' : World) (hb : Below w.heap.size w w') => off_any w' B p v D (hd.below hb (Nat.le_refl _))
  have hrd := fun (w' : World) (hb : Below w.heap.size w w') (t : ByteArray) (E : Int) (b : ByteArray) (he : D.read t = (E, b)) => d_read (hd.below hb (Nat.le_refl _)) hf.fit (name := t) he
  have hread : ∀ (i : Nat) (f : FileD), D.files[i]? = some f → D.read f.name = (if D.off = true then 160 else 0, if D.off = true then ByteArray.empty else f.b) := fun i f hi => by
    have hmem := List.mem_of_getElem? hi
    rw [sim_read hsim]
    unfold RDisk.read RDisk.refused RDisk.got
    rw [hsim.off, hsim.good f hmem, hsim.files, getP_mem hsim.sorted hmem]
    cases D.off <;> simp
  have hfile : ∀ (i : Nat) (f : FileD), D.files[i]? = some f → R.files[i]? = some (f.name, f.b) := fun i f hi => by
    rw [hsim.files]; unfold seenL; rw [List.getElem?_map, hi]; rfl
  obtain ⟨N, hN⟩ : ∃ N, D.files.length = N := ⟨_, rfl⟩
  have hNl : N ≤ 100000000 := by rw [← hN]; have := hf.files; omega
  obtain ⟨off, hoff⟩ : ∃ off, D.off = off := ⟨_, rfl⟩
  obtain ⟨stp, hstp⟩ : ∃ stp, D.steps = stp := ⟨_, rfl⟩
  have hql := hr.lt
  rw [hN] at hnm c0 hrr hrl
  rw [hoff] at c5
  simp only [hoff, hstp] at hof hst hread
  rw [hstp] at c3
  have HNM := Lib.hid hnm; have HST := Lib.hid hst; have HOF := Lib.hid hof; have HRD := Lib.hid hrd; have HREAD := Lib.hid hread; have HFILE := Lib.hid hfile; have HN := Lib.hid hN; have HRR := Lib.hid hrr; have HRE := Lib.hid hre; have HRL := Lib.hid hrl; have HC0 := Lib.hid c0; have HC3 := Lib.hid c3; have HC5 := Lib.hid c5
  clear hnm hst hof hrd hread hfile hN hoff hstp hd hr hsim hf hb hrr hre hrl hlen c0 c3 c5
  go_enter Tryz.func23, Tryz.ntmps23
  go_wp2_with fail
  refine HNM.out.mono ?_
  rintro e w1 ⟨A, c, rfl, hrd1, hb1⟩
  have HRD1 := Lib.hid hrd1; have HB1 := Lib.hid hb1
  clear hrd1 hb1 HNM
  have hcl : ∀ wx, Below w1.heap.size w1 wx → wx.cell? ⟨q, 0, none⟩ = some (.slice Af N cf) ∧ wx.cell? ⟨q, 3, none⟩ = some (.int .i64 stp) ∧ wx.cell? ⟨q, 5, none⟩ = some (.bool off) := fun wx hx => by
    have h1 := HB1.out.trans (hx.mono HB1.out.size)
    exact ⟨(h1.cell (p := ⟨q, 0, none⟩) hql).trans HC0.out, (h1.cell (p := ⟨q, 3, none⟩) hql).trans HC3.out, (h1.cell (p := ⟨q, 5, none⟩) hql).trans HC5.out⟩
  have hst := fun (w' : World) (hb : Below w1.heap.size w1 w') => HST.out w' (HB1.out.trans (hb.mono HB1.out.size))
  have hof := fun (w' : World) (hb : Below w1.heap.size w1 w') => HOF.out w' (HB1.out.trans (hb.mono HB1.out.size))
  have HCL := Lib.hid hcl; have HST1 := Lib.hid hst; have HOF1 := Lib.hid hof
  clear hcl hst hof HST HOF
  go_upto_region 2 with (fail)
  go_cut [36] (fun s36 wx => s36 = .bool false ∧ Below w1.heap.size w1 wx)
  case first =>
    refine wp_region_noPanic ?_
    refine wp_region_held_drew (S := (fun wq => wq.cell? ⟨q, 0, none⟩ = some (.slice Af N cf) ∧ wq.cell? ⟨q, 3, none⟩ = some (.int .i64 stp) ∧ wq.cell? ⟨q, 5, none⟩ = some (.bool off))) (by kernel_rfl) ?_ (fun hHeld => ?_)
    · exact HCL.out _ (below_drewN (Below.refl _ _) 1)
    refine wpT (i := 0) (v := ?v0g1_) rfl (Or.inl ⟨by rfl, ?y0g1_⟩) (by assumption) ?r0g1_
    case y0g1_ => (intro w hSw; (try dsimp only at hSw); go_simp; try with_reducible rfl)
    change wpAnyH _ _ _ _ _ _ _ (Act.put _ (some 11) _) _; simp only [Act.put, List.setIfInBounds_toArray, List.set_cons_zero, List.set_cons_succ]
    refine wpT (i := 1) (v := ?v1g1_) rfl (Or.inl ⟨by rfl, ?y1g1_⟩) (by assumption) ?r1g1_
    case y1g1_ => (intro w hSw; (try dsimp only at hSw); go_simp; try with_reducible rfl)
    change wpAnyH _ _ _ _ _ _ _ (Act.put _ (some 12) _) _; simp only [Act.put, List.setIfInBounds_toArray, List.set_cons_zero, List.set_cons_succ]
    refine wpT (i := 2) (v := ?v2g1_) rfl (Or.inl ⟨by rfl, ?y2g1_⟩) (by assumption) ?r2g1_
    case y2g1_ => (intro w hSw; (try dsimp only at hSw); go_simp; try with_reducible rfl)
    change wpAnyH _ _ _ _ _ _ _ (Act.put _ (some 13) _) _; simp only [Act.put, List.setIfInBounds_toArray, List.set_cons_zero, List.set_cons_succ]
    refine wpT (i := 3) (v := ?v3g1_) rfl (Or.inl ⟨by rfl, ?y3g1_⟩) (by assumption) ?r3g1_
    case y3g1_ => (intro w hSw; (try dsimp only at hSw); go_simp; try with_reducible rfl)
    change wpAnyH _ _ _ _ _ _ _ (Act.put _ (some 14) _) _; simp only [Act.put, List.setIfInBounds_toArray, List.set_cons_zero, List.set_cons_succ]
    refine wpT (i := 4) (v := ?v4g1_) rfl (Or.inl ⟨by rfl, ?y4g1_⟩) (by assumption) ?r4g1_
    case y4g1_ => (intro w hSw; (try dsimp only at hSw); go_simp; try with_reducible rfl)
    change wpAnyH _ _ _ _ _ _ _ (Act.put _ (some 15) _) _; simp only [Act.put, List.setIfInBounds_toArray, List.set_cons_zero, List.set_cons_succ]
    refine wpT (i := 5) (v := ?v5g1_) rfl (Or.inl ⟨by rfl, ?y5g1_⟩) (by assumption) ?r5g1_
    case y5g1_ => (intro w hSw; (try dsimp only at hSw); go_simp; try with_reducible rfl)
    change wpAnyH _ _ _ _ _ _ _ (Act.put _ (some 16) _) _; simp only [Act.put, List.setIfInBounds_toArray, List.set_cons_zero, List.set_cons_succ]
    refine wpT (i := 6) (v := ?v6g1_) rfl (Or.inl ⟨by rfl, ?y6g1_⟩) (by assumption) ?r6g1_
    case y6g1_ => (intro w hSw; (try dsimp only at hSw); go_simp; try with_reducible rfl)
    change wpAnyH _ _ _ _ _ _ _ (Act.put _ (some 17) _) _; simp only [Act.put, List.setIfInBounds_toArray, List.set_cons_zero, List.set_cons_succ]
    refine wpT (i := 7) (v := ?v7g1_) rfl (Or.inl ⟨by rfl, ?y7g1_⟩) (by assumption) ?r7g1_
    case y7g1_ => (intro w hSw; (try dsimp only at hSw); go_simp; try with_reducible rfl)
    change wpAnyH _ _ _ _ _ _ _ (Act.put _ (some 18) _) _; simp only [Act.put, List.setIfInBounds_toArray, List.set_cons_zero, List.set_cons_succ]
    refine wpT (i := 8) (v := ?v8g1_) rfl (Or.inl ⟨by rfl, ?y8g1_⟩) (by assumption) ?r8g1_
    case y8g1_ => (intro w hSw; (try dsimp only at hSw); go_simp; try with_reducible rfl)
    change wpAnyH _ _ _ _ _ _ _ (Act.put _ (some 19) _) _; simp only [Act.put, List.setIfInBounds_toArray, List.set_cons_zero, List.set_cons_succ]
    refine wpT (i := 9) (v := ?v9g1_) rfl (Or.inl ⟨by rfl, ?y9g1_⟩) (by assumption) ?r9g1_
    case y9g1_ => (intro w hSw; (try dsimp only at hSw); go_simp; try with_reducible rfl)
    change wpAnyH _ _ _ _ _ _ _ (Act.put _ (some 20) _) _; simp only [Act.put, List.setIfInBounds_toArray, List.set_cons_zero, List.set_cons_succ]
    refine wpT (i := 11) (v := ?v11g1_) rfl (Or.inl ⟨by rfl, ?y11g1_⟩) (by assumption) ?r11g1_
    case y11g1_ => (intro w hSw; (try dsimp only at hSw); go_simp; try with_reducible rfl)
    change wpAnyH _ _ _ _ _ _ _ (Act.put _ (some 22) _) _; simp only [Act.put, List.setIfInBounds_toArray, List.set_cons_zero, List.set_cons_succ]
    refine wpT (i := 12) (v := ?v12g1_) rfl (Or.inl ⟨by rfl, ?y12g1_⟩) (by assumption) ?r12g1_
    case y12g1_ => (intro w hSw; (try dsimp only at hSw); go_simp; try with_reducible rfl)
    change wpAnyH _ _ _ _ _ _ _ (Act.put _ (some 23) _) _; simp only [Act.put, List.setIfInBounds_toArray, List.set_cons_zero, List.set_cons_succ]
    refine wpT (i := 13) (v := ?v13g1_) rfl (Or.inl ⟨by rfl, ?y13g1_⟩) (by assumption) ?r13g1_
    case y13g1_ => (intro w hSw; (try dsimp only at hSw); go_simp; try with_reducible rfl)
    change wpAnyH _ _ _ _ _ _ _ (Act.put _ (some 24) _) _; simp only [Act.put, List.setIfInBounds_toArray, List.set_cons_zero, List.set_cons_succ]
    refine wpT (i := 14) (v := ?v14g1_) rfl (Or.inl ⟨by rfl, ?y14g1_⟩) (by assumption) ?r14g1_
    case y14g1_ => (intro w hSw; (try dsimp only at hSw); go_simp; try with_reducible rfl)
    change wpAnyH _ _ _ _ _ _ _ (Act.put _ (some 25) _) _; simp only [Act.put, List.setIfInBounds_toArray, List.set_cons_zero, List.set_cons_succ]
    refine wpAnyH_ready (rs := [10]) (by kernel_rfl) (by simp) ?_
    refine AllReadyH.cons rfl (fun K hK => ?_) AllReadyH.nil
    go_simp
    refine (HST1.out _ (below_drewN (Below.refl _ _) 1)).mono ?_
    rintro e w7 ⟨rfl, rfl⟩
    dsimp only
    refine hK.out _ _ ?_ (fun hHeld => ?_)
    · exact HCL.out _ (below_drewN (Below.refl _ _) 1)
    clear hK K
    try simp only [Act.put, List.setIfInBounds_toArray, List.set_cons_zero, List.set_cons_succ]
    refine wpT (i := 15) (v := ?v15g1_) rfl (Or.inl ⟨by rfl, ?y15g1_⟩) (by assumption) ?r15g1_
    case y15g1_ => (intro w hSw; (try dsimp only at hSw); go_simp; try with_reducible rfl)
    change wpAnyH _ _ _ _ _ _ _ (Act.put _ (some 26) _) _; simp only [Act.put, List.setIfInBounds_toArray, List.set_cons_zero, List.set_cons_succ]
    refine wpT (i := 16) (v := ?v16g1_) rfl (Or.inl ⟨by rfl, ?y16g1_⟩) (by assumption) ?r16g1_
    case y16g1_ => (intro w hSw; (try dsimp only at hSw); go_simp; try with_reducible rfl)
    change wpAnyH _ _ _ _ _ _ _ (Act.put _ (some 27) _) _; simp only [Act.put, List.setIfInBounds_toArray, List.set_cons_zero, List.set_cons_succ]
    refine wpT (i := 17) (v := ?v17g1_) rfl (Or.inl ⟨by rfl, ?y17g1_⟩) (by assumption) ?r17g1_
    case y17g1_ => (intro w hSw; (try dsimp only at hSw); go_simp; try with_reducible rfl)
    change wpAnyH _ _ _ _ _ _ _ (Act.put _ (some 28) _) _; simp only [Act.put, List.setIfInBounds_toArray, List.set_cons_zero, List.set_cons_succ]
    refine wpT (i := 18) (v := ?v18g1_) rfl (Or.inl ⟨by rfl, ?y18g1_⟩) (by assumption) ?r18g1_
    case y18g1_ => (intro w hSw; (try dsimp only at hSw); go_simp; try with_reducible rfl)
    change wpAnyH _ _ _ _ _ _ _ (Act.put _ (some 29) _) _; simp only [Act.put, List.setIfInBounds_toArray, List.set_cons_zero, List.set_cons_succ]
    refine wpT (i := 20) (v := ?v20g1_) rfl (Or.inl ⟨by rfl, ?y20g1_⟩) (by assumption) ?r20g1_
    case y20g1_ => (intro w hSw; (try dsimp only at hSw); go_simp; try with_reducible rfl)
    change wpAnyH _ _ _ _ _ _ _ (Act.put _ (some 31) _) _; simp only [Act.put, List.setIfInBounds_toArray, List.set_cons_zero, List.set_cons_succ]
    refine wpT (i := 21) (v := ?v21g1_) rfl (Or.inl ⟨by rfl, ?y21g1_⟩) (by assumption) ?r21g1_
    case y21g1_ => (intro w hSw; (try dsimp only at hSw); go_simp; try with_reducible rfl)
    change wpAnyH _ _ _ _ _ _ _ (Act.put _ (some 32) _) _; simp only [Act.put, List.setIfInBounds_toArray, List.set_cons_zero, List.set_cons_succ]
    refine wpT (i := 22) (v := ?v22g1_) rfl (Or.inl ⟨by rfl, ?y22g1_⟩) (by assumption) ?r22g1_
    case y22g1_ => (intro w hSw; (try dsimp only at hSw); go_simp; try with_reducible rfl)
    change wpAnyH _ _ _ _ _ _ _ (Act.put _ (some 33) _) _; simp only [Act.put, List.setIfInBounds_toArray, List.set_cons_zero, List.set_cons_succ]
    refine wpT (i := 23) (v := ?v23g1_) rfl (Or.inl ⟨by rfl, ?y23g1_⟩) (by assumption) ?r23g1_
    case y23g1_ => (intro w hSw; (try dsimp only at hSw); go_simp; try with_reducible rfl)
    change wpAnyH _ _ _ _ _ _ _ (Act.put _ (some 34) _) _; simp only [Act.put, List.setIfInBounds_toArray, List.set_cons_zero, List.set_cons_succ]
    refine wpAnyH_ready (rs := [19]) (by kernel_rfl) (by simp) ?_
    refine AllReadyH.cons rfl (fun K hK => ?_) AllReadyH.nil
    go_simp
    refine (HOF1.out _ (below_drewN (Below.refl _ _) 1)).mono ?_
    rintro e w7 ⟨rfl, rfl⟩
    dsimp only
    refine hK.out _ _ ?_ (fun hHeld => ?_)
    · exact HCL.out _ (below_drewN (Below.refl _ _) 1)
    clear hK K
    try simp only [Act.put, List.setIfInBounds_toArray, List.set_cons_zero, List.set_cons_succ]
    refine wpT (i := 24) (v := ?v24g1_) rfl (Or.inl ⟨by rfl, ?y24g1_⟩) (by assumption) ?r24g1_
    case y24g1_ => (intro w hSw; (try dsimp only at hSw); go_simp; try with_reducible rfl)
    change wpAnyH _ _ _ _ _ _ _ (Act.put _ (some 35) _) _; simp only [Act.put, List.setIfInBounds_toArray, List.set_cons_zero, List.set_cons_succ]
    refine wpT (i := 25) (v := ?v25g1_) rfl (Or.inl ⟨by rfl, ?y25g1_⟩) (by assumption) ?r25g1_
    case y25g1_ => (intro w hSw; (try dsimp only at hSw); go_simp; try with_reducible rfl)
    change wpAnyH _ _ _ _ _ _ _ (Act.put _ (some 36) _) _; simp only [Act.put, List.setIfInBounds_toArray, List.set_cons_zero, List.set_cons_succ]
    refine wpAnyH_done (by kernel_rfl) ?_ _
    refine NoPanic.normal ?_
    go_wp2_with fail
    go_meet
    exact ⟨rfl, below_drewN (Below.refl _ _) 1⟩
  case rest =>
  obtain ⟨rfl, hbx⟩ := hcut
  obtain ⟨w2, hw2⟩ : ∃ w2, w2 = wc := ⟨_, rfl⟩
  subst hw2
  have HRD2 := Lib.hid (HRD1.out.below hbx)
  have HCL2 := Lib.hid (fun (wx : World) (hx : Below w2.heap.size w2 wx) => HCL.out wx (hbx.trans (hx.mono hbx.size)))
  have HB2 := Lib.hid (HB1.out.trans (hbx.mono HB1.out.size))
  clear hbx HRD1 HCL HST1 HOF1 HB1
  go_wp2
  go_loopg [6] N (fun gf vi wr => ∃ i : Nat, vi = .int .i64 i ∧ i + gf = N ∧ Below w2.heap.size w2 wr)
  case atStart => exact ⟨0, rfl, by omega, Below.refl _ _⟩
  case round =>
    obtain ⟨i, rfl, hi, hbr⟩ := hrel
    cases gk with
    | zero =>
      obtain rfl : i = N := by omega
      have HBR := Lib.hid (HB2.out.trans (hbr.mono HB2.out.size))
      clear hbr
      go_wp2
      go_ret
      exact ⟨rfl, HBR.out⟩
    | succ gf =>
      have hiN : i < N := by omega
      have hiI : (i : Int) < (N : Int) := by omega
      obtain ⟨f, hfi⟩ : ∃ f, D.files[i]? = some f := ⟨_, List.getElem?_eq_getElem (by rw [HN.out]; omega)⟩
      obtain ⟨ad, u, rfl, hu, hcu⟩ := (HRD2.out.below hbr).at_ (k := i) hiN
      rw [List.getElem?_map, hfi, Option.map_some] at hu
      injection hu with hu
      subst hu
      have hrr := HRR.out
      rw [← HRL.out] at hrr
      obtain ⟨b, oo, rfl, hltb, nm, A', c', bb, hx, x0, x1, hbt⟩ := hrr.at_ (i := i) (by rw [HRL.out]; exact hiN)
      have hfi2 : R.files[i]? = some (nm, bb) := by rw [← HRE.out, List.getElem?_map, hx]; rfl
      have hff := HFILE.out i f hfi
      rw [hfi2] at hff
      injection hff with hff
      injection hff with hn1 hn2
      have hre := HREAD.out i f hfi
      rw [← hn1] at hcu hre
      rw [← hn2] at hre
      have hbw := HB2.out.trans (hbr.mono HB2.out.size)
      have hrd := HRD.out wr hbw nm _ _ hre
      have HRDX := Lib.hid hrd
      have hxs : ∀ wx, Below wr.heap.size wr wx → wx.cell? ⟨q, 0, none⟩ = some (.slice (some ⟨b, oo, none⟩) N cf) ∧ wx.cell? ⟨q, 5, none⟩ = some (.bool off) ∧ wx.cell? (ad.add i) = some (.string nm) ∧ wx.cell? ⟨b, oo + i * 2, none⟩ = some (.string nm) ∧ wx.cell? ⟨b, oo + i * 2 + 1, none⟩ = some (.slice A' bb.size c') ∧ Bt wx (.slice A' bb.size c') bb := fun wx hx => by
        have h2 := hbr.trans (hx.mono hbr.size)
        have h3 := HB2.out.trans (h2.mono HB2.out.size)
        obtain ⟨y0, -, y5⟩ := HCL2.out wx h2
        have hcx : wx.cell? (ad.add i) = some (.string nm) := by
          obtain ⟨ad2, u2, e2, hu2, hc2⟩ := (HRD2.out.below h2).at_ (k := i) hiN
          injection e2 with e2
          subst e2
          rw [List.getElem?_map, hfi, Option.map_some] at hu2
          injection hu2 with hu2
          subst hu2
          rw [hc2, hn1]
        exact ⟨y0, y5, hcx, (h3.cell (p := ⟨b, oo + i * 2, none⟩) hltb).trans x0, (h3.cell (p := ⟨b, oo + i * 2 + 1, none⟩) hltb).trans x1, hbt.below h3⟩
      have HXS := Lib.hid hxs; have HBR := Lib.hid hbr
      clear hxs hfi hrr hx x0 x1 hbt hfi2 hn1 hn2 hre hbw hrd hbr
      go_wp2_with fail
      refine HRDX.out.mono ?_
      rintro e w3 ⟨bv, rfl, hbv, hb3⟩
      have HB3 := Lib.hid hb3
      obtain ⟨Ab, cb, rfl, -, -⟩ := id hbv
      clear hb3 HRDX hcu
      cases off with
      | true =>
        clear hbv
        have hss : ∀ wx, Below w3.heap.size w3 wx → wx.cell? ⟨q, 0, none⟩ = some (.slice (some ⟨b, oo, none⟩) N cf) ∧ wx.cell? ⟨q, 5, none⟩ = some (.bool true) ∧ wx.cell? (ad.add i) = some (.string nm) ∧ wx.cell? ⟨b, oo + i * 2, none⟩ = some (.string nm) := fun wx hx => by
          obtain ⟨y0, y1, y2, y3, -, -⟩ := HXS.out wx (HB3.out.trans (hx.mono HB3.out.size))
          exact ⟨y0, y1, y2, y3⟩
        have HSS := Lib.hid hss
        clear hss
        go_upto_region 8 with (fail)
        go_cut [89] (fun s89 wx => s89 = .bool false ∧ Below w3.heap.size w3 wx)
        case first =>
          refine wp_region_noPanic ?_
          refine wp_region_held_drew (S := (fun wq => wq.cell? ⟨q, 0, none⟩ = some (.slice (some ⟨b, oo, none⟩) N cf) ∧ wq.cell? ⟨q, 5, none⟩ = some (.bool true) ∧ wq.cell? (ad.add i) = some (.string nm) ∧ wq.cell? ⟨b, oo + i * 2, none⟩ = some (.string nm))) (by kernel_rfl) ?_ (fun hHeld => ?_)
          · exact HSS.out _ (below_drewN (Below.refl _ _) 1)
          refine wpT (i := 0) (v := ?v0g2_) rfl (Or.inl ⟨by rfl, ?y0g2_⟩) (by assumption) ?r0g2_
          case y0g2_ => (intro w hSw; (try dsimp only at hSw); go_simp; try with_reducible rfl)
          change wpAnyH _ _ _ _ _ _ _ (Act.put _ (some 52) _) _; simp only [Act.put, List.setIfInBounds_toArray, List.set_cons_zero, List.set_cons_succ]
          refine wpT (i := 1) (v := ?v1g2_) rfl (Or.inl ⟨by rfl, ?y1g2_⟩) (by assumption) ?r1g2_
          case y1g2_ => (intro w hSw; (try dsimp only at hSw); go_simp; try with_reducible rfl)
          change wpAnyH _ _ _ _ _ _ _ (Act.put _ (some 53) _) _; simp only [Act.put, List.setIfInBounds_toArray, List.set_cons_zero, List.set_cons_succ]
          refine wpT (i := 2) (v := ?v2g2_) rfl (Or.inl ⟨by rfl, ?y2g2_⟩) (by assumption) ?r2g2_
          case y2g2_ => (intro w hSw; (try dsimp only at hSw); go_simp; try with_reducible rfl)
          change wpAnyH _ _ _ _ _ _ _ (Act.put _ (some 54) _) _; simp only [Act.put, List.setIfInBounds_toArray, List.set_cons_zero, List.set_cons_succ]
          refine wpT (i := 3) (v := ?v3g2_) rfl (Or.inl ⟨by rfl, ?y3g2_⟩) (by assumption) ?r3g2_
          case y3g2_ => (intro w hSw; (try dsimp only at hSw); go_simp; try with_reducible rfl)
          change wpAnyH _ _ _ _ _ _ _ (Act.put _ (some 55) _) _; simp only [Act.put, List.setIfInBounds_toArray, List.set_cons_zero, List.set_cons_succ]
          refine wpT (i := 4) (v := ?v4g2_) rfl (Or.inl ⟨by rfl, ?y4g2_⟩) (by assumption) ?r4g2_
          case y4g2_ => (intro w hSw; (try dsimp only at hSw); go_simp; try with_reducible rfl)
          change wpAnyH _ _ _ _ _ _ _ (Act.put _ (some 56) _) _; simp only [Act.put, List.setIfInBounds_toArray, List.set_cons_zero, List.set_cons_succ]
          refine wpT (i := 5) (v := ?v5g2_) rfl (Or.inl ⟨by rfl, ?y5g2_⟩) (by assumption) ?r5g2_
          case y5g2_ => (intro w hSw; (try dsimp only at hSw); go_simp; try with_reducible rfl)
          change wpAnyH _ _ _ _ _ _ _ (Act.put _ (some 57) _) _; simp only [Act.put, List.setIfInBounds_toArray, List.set_cons_zero, List.set_cons_succ]
          refine wpT (i := 6) (v := ?v6g2_) rfl (Or.inl ⟨by rfl, ?y6g2_⟩) (by assumption) ?r6g2_
          case y6g2_ => (intro w hSw; (try dsimp only at hSw); go_simp; try with_reducible rfl)
          change wpAnyH _ _ _ _ _ _ _ (Act.put _ (some 58) _) _; simp only [Act.put, List.setIfInBounds_toArray, List.set_cons_zero, List.set_cons_succ]
          refine wpT (i := 7) (v := ?v7g2_) rfl (Or.inl ⟨by rfl, ?y7g2_⟩) (by assumption) ?r7g2_
          case y7g2_ => (intro w hSw; (try dsimp only at hSw); go_simp; try with_reducible rfl)
          change wpAnyH _ _ _ _ _ _ _ (Act.put _ (some 59) _) _; simp only [Act.put, List.setIfInBounds_toArray, List.set_cons_zero, List.set_cons_succ]
          refine wpT (i := 8) (v := ?v8g2_) rfl (Or.inl ⟨by rfl, ?y8g2_⟩) (by assumption) ?r8g2_
          case y8g2_ => (intro w hSw; (try dsimp only at hSw); go_simp; try with_reducible rfl)
          change wpAnyH _ _ _ _ _ _ _ (Act.put _ (some 60) _) _; simp only [Act.put, List.setIfInBounds_toArray, List.set_cons_zero, List.set_cons_succ]
          refine wpT (i := 9) (v := ?v9g2_) rfl (Or.inl ⟨by rfl, ?y9g2_⟩) (by assumption) ?r9g2_
          case y9g2_ => (intro w hSw; (try dsimp only at hSw); go_simp; try with_reducible rfl)
          change wpAnyH _ _ _ _ _ _ _ (Act.put _ (some 61) _) _; simp only [Act.put, List.setIfInBounds_toArray, List.set_cons_zero, List.set_cons_succ]
          refine wpT (i := 10) (v := ?v10g2_) rfl (Or.inl ⟨by rfl, ?y10g2_⟩) (by assumption) ?r10g2_
          case y10g2_ => (intro w hSw; (try dsimp only at hSw); go_simp; try with_reducible rfl)
          change wpAnyH _ _ _ _ _ _ _ (Act.put _ (some 62) _) _; simp only [Act.put, List.setIfInBounds_toArray, List.set_cons_zero, List.set_cons_succ]
          refine wpT (i := 11) (v := ?v11g2_) rfl (Or.inl ⟨by rfl, ?y11g2_⟩) (by assumption) ?r11g2_
          case y11g2_ => (intro w hSw; (try dsimp only at hSw); go_simp; try with_reducible rfl)
          change wpAnyH _ _ _ _ _ _ _ (Act.put _ (some 63) _) _; simp only [Act.put, List.setIfInBounds_toArray, List.set_cons_zero, List.set_cons_succ]
          refine wpT (i := 12) (v := ?v12g2_) rfl (Or.inl ⟨by rfl, ?y12g2_⟩) (by assumption) ?r12g2_
          case y12g2_ => (intro w hSw; (try dsimp only at hSw); go_simp; try with_reducible rfl)
          change wpAnyH _ _ _ _ _ _ _ (Act.put _ (some 64) _) _; simp only [Act.put, List.setIfInBounds_toArray, List.set_cons_zero, List.set_cons_succ]
          refine wpT (i := 13) (v := ?v13g2_) rfl (Or.inl ⟨by rfl, ?y13g2_⟩) (by assumption) ?r13g2_
          case y13g2_ => (intro w hSw; (try dsimp only at hSw); go_simp; try with_reducible rfl)
          change wpAnyH _ _ _ _ _ _ _ (Act.put _ (some 65) _) _; simp only [Act.put, List.setIfInBounds_toArray, List.set_cons_zero, List.set_cons_succ]
          refine wpT (i := 14) (v := ?v14g2_) rfl (Or.inl ⟨by rfl, ?y14g2_⟩) (by assumption) ?r14g2_
          case y14g2_ => (intro w hSw; (try dsimp only at hSw); go_simp; try with_reducible rfl)
          change wpAnyH _ _ _ _ _ _ _ (Act.put _ (some 66) _) _; simp only [Act.put, List.setIfInBounds_toArray, List.set_cons_zero, List.set_cons_succ]
          refine wpT (i := 15) (v := ?v15g2_) rfl (Or.inl ⟨by rfl, ?y15g2_⟩) (by assumption) ?r15g2_
          case y15g2_ => (intro w hSw; (try dsimp only at hSw); go_simp; try with_reducible rfl)
          change wpAnyH _ _ _ _ _ _ _ (Act.put _ (some 67) _) _; simp only [Act.put, List.setIfInBounds_toArray, List.set_cons_zero, List.set_cons_succ]
          refine wpT (i := 16) (v := ?v16g2_) rfl (Or.inl ⟨by rfl, ?y16g2_⟩) (by assumption) ?r16g2_
          case y16g2_ => (intro w hSw; (try dsimp only at hSw); go_simp; try with_reducible rfl)
          change wpAnyH _ _ _ _ _ _ _ (Act.put _ (some 68) _) _; simp only [Act.put, List.setIfInBounds_toArray, List.set_cons_zero, List.set_cons_succ]
          refine wpT (i := 17) (v := ?v17g2_) rfl (Or.inl ⟨by rfl, ?y17g2_⟩) (by assumption) ?r17g2_
          case y17g2_ => (intro w hSw; (try dsimp only at hSw); go_simp; try with_reducible rfl)
          change wpAnyH _ _ _ _ _ _ _ (Act.put _ (some 69) _) _; simp only [Act.put, List.setIfInBounds_toArray, List.set_cons_zero, List.set_cons_succ]
          refine wpT (i := 18) (v := ?v18g2_) rfl (Or.inl ⟨by rfl, ?y18g2_⟩) (by assumption) ?r18g2_
          case y18g2_ => (intro w hSw; (try dsimp only at hSw); go_simp; try with_reducible rfl)
          change wpAnyH _ _ _ _ _ _ _ (Act.put _ (some 70) _) _; simp only [Act.put, List.setIfInBounds_toArray, List.set_cons_zero, List.set_cons_succ]
          refine wpT (i := 19) (v := ?v19g2_) rfl (Or.inl ⟨by rfl, ?y19g2_⟩) (by assumption) ?r19g2_
          case y19g2_ => (intro w hSw; (try dsimp only at hSw); go_simp; try with_reducible rfl)
          change wpAnyH _ _ _ _ _ _ _ (Act.put _ (some 71) _) _; simp only [Act.put, List.setIfInBounds_toArray, List.set_cons_zero, List.set_cons_succ]
          refine wpT (i := 20) (v := undef) rfl (Or.inr ⟨by rfl, rfl⟩) (by assumption) ?_
          change wpAnyH _ _ _ _ _ _ _ (Act.put _ (some 72) _) _; simp only [Act.put, List.setIfInBounds_toArray, List.set_cons_zero, List.set_cons_succ]
          refine wpT (i := 21) (v := undef) rfl (Or.inr ⟨by rfl, rfl⟩) (by assumption) ?_
          change wpAnyH _ _ _ _ _ _ _ (Act.put _ (some 73) _) _; simp only [Act.put, List.setIfInBounds_toArray, List.set_cons_zero, List.set_cons_succ]
          refine wpT (i := 22) (v := undef) rfl (Or.inr ⟨by rfl, rfl⟩) (by assumption) ?_
          change wpAnyH _ _ _ _ _ _ _ (Act.put _ (some 74) _) _; simp only [Act.put, List.setIfInBounds_toArray, List.set_cons_zero, List.set_cons_succ]
          refine wpT (i := 23) (v := undef) rfl (Or.inr ⟨by rfl, rfl⟩) (by assumption) ?_
          change wpAnyH _ _ _ _ _ _ _ (Act.put _ (some 75) _) _; simp only [Act.put, List.setIfInBounds_toArray, List.set_cons_zero, List.set_cons_succ]
          refine wpT (i := 24) (v := undef) rfl (Or.inr ⟨by rfl, rfl⟩) (by assumption) ?_
          change wpAnyH _ _ _ _ _ _ _ (Act.put _ (some 76) _) _; simp only [Act.put, List.setIfInBounds_toArray, List.set_cons_zero, List.set_cons_succ]
          refine wpT (i := 25) (v := undef) rfl (Or.inr ⟨by rfl, rfl⟩) (by assumption) ?_
          change wpAnyH _ _ _ _ _ _ _ (Act.put _ (some 77) _) _; simp only [Act.put, List.setIfInBounds_toArray, List.set_cons_zero, List.set_cons_succ]
          refine wpT (i := 26) (v := undef) rfl (Or.inr ⟨by rfl, rfl⟩) (by assumption) ?_
          change wpAnyH _ _ _ _ _ _ _ (Act.put _ (some 78) _) _; simp only [Act.put, List.setIfInBounds_toArray, List.set_cons_zero, List.set_cons_succ]
          refine wpT (i := 27) (v := undef) rfl (Or.inr ⟨by rfl, rfl⟩) (by assumption) ?_
          change wpAnyH _ _ _ _ _ _ _ (Act.put _ (some 79) _) _; simp only [Act.put, List.setIfInBounds_toArray, List.set_cons_zero, List.set_cons_succ]
          refine wpT (i := 28) (v := undef) rfl (Or.inr ⟨by rfl, rfl⟩) (by assumption) ?_
          change wpAnyH _ _ _ _ _ _ _ (Act.put _ (some 80) _) _; simp only [Act.put, List.setIfInBounds_toArray, List.set_cons_zero, List.set_cons_succ]
          refine wpT (i := 29) (v := undef) rfl (Or.inr ⟨by rfl, rfl⟩) (by assumption) ?_
          change wpAnyH _ _ _ _ _ _ _ (Act.put _ (some 81) _) _; simp only [Act.put, List.setIfInBounds_toArray, List.set_cons_zero, List.set_cons_succ]
          refine wpT (i := 30) (v := undef) rfl (Or.inr ⟨by rfl, rfl⟩) (by assumption) ?_
          change wpAnyH _ _ _ _ _ _ _ (Act.put _ (some 82) _) _; simp only [Act.put, List.setIfInBounds_toArray, List.set_cons_zero, List.set_cons_succ]
          refine wpT (i := 31) (v := undef) rfl (Or.inr ⟨by rfl, rfl⟩) (by assumption) ?_
          change wpAnyH _ _ _ _ _ _ _ (Act.put _ (some 83) _) _; simp only [Act.put, List.setIfInBounds_toArray, List.set_cons_zero, List.set_cons_succ]
          refine wpT (i := 32) (v := undef) rfl (Or.inr ⟨by rfl, rfl⟩) (by assumption) ?_
          change wpAnyH _ _ _ _ _ _ _ (Act.put _ (some 84) _) _; simp only [Act.put, List.setIfInBounds_toArray, List.set_cons_zero, List.set_cons_succ]
          refine wpT (i := 33) (v := undef) rfl (Or.inr ⟨by rfl, rfl⟩) (by assumption) ?_
          change wpAnyH _ _ _ _ _ _ _ (Act.put _ (some 85) _) _; simp only [Act.put, List.setIfInBounds_toArray, List.set_cons_zero, List.set_cons_succ]
          refine wpT (i := 34) (v := undef) rfl (Or.inr ⟨by rfl, rfl⟩) (by assumption) ?_
          change wpAnyH _ _ _ _ _ _ _ (Act.put _ (some 86) _) _; simp only [Act.put, List.setIfInBounds_toArray, List.set_cons_zero, List.set_cons_succ]
          refine wpT (i := 35) (v := undef) rfl (Or.inr ⟨by rfl, rfl⟩) (by assumption) ?_
          change wpAnyH _ _ _ _ _ _ _ (Act.put _ (some 87) _) _; simp only [Act.put, List.setIfInBounds_toArray, List.set_cons_zero, List.set_cons_succ]
          refine wpT (i := 36) (v := ?v36g2_) rfl (Or.inl ⟨by rfl, ?y36g2_⟩) (by assumption) ?r36g2_
          case y36g2_ => (intro w hSw; (try dsimp only at hSw); go_simp; try with_reducible rfl)
          change wpAnyH _ _ _ _ _ _ _ (Act.put _ (some 88) _) _; simp only [Act.put, List.setIfInBounds_toArray, List.set_cons_zero, List.set_cons_succ]
          refine wpT (i := 37) (v := ?v37g2_) rfl (Or.inl ⟨by rfl, ?y37g2_⟩) (by assumption) ?r37g2_
          case y37g2_ => (intro w hSw; (try dsimp only at hSw); go_simp; try with_reducible rfl)
          change wpAnyH _ _ _ _ _ _ _ (Act.put _ (some 89) _) _; simp only [Act.put, List.setIfInBounds_toArray, List.set_cons_zero, List.set_cons_succ]
          refine wpAnyH_done (by kernel_rfl) ?_ _
          refine NoPanic.normal ?_
          go_wp2_with fail
          go_meet
          exact ⟨rfl, below_drewN (Below.refl _ _) 1⟩
        case rest =>
        obtain ⟨rfl, hbx⟩ := hcut
        have HBX := Lib.hid (HBR.out.trans ((HB3.out.trans (hbx.mono HB3.out.size)).mono HBR.out.size))
        clear hbx
        go_wp2
        go_roundg gf
        case measure => omega
        case rel => exact ⟨i + 1, by go_num, by omega, HBX.out⟩
      | false =>
        have hcb := hbv.conv
        have hss : ∀ wx, Below w3.heap.size w3 wx → wx.cell? ⟨q, 0, none⟩ = some (.slice (some ⟨b, oo, none⟩) N cf) ∧ wx.cell? ⟨q, 5, none⟩ = some (.bool false) ∧ wx.cell? (ad.add i) = some (.string nm) ∧ wx.cell? ⟨b, oo + i * 2, none⟩ = some (.string nm) ∧ wx.cell? ⟨b, oo + i * 2 + 1, none⟩ = some (.slice A' bb.size c') ∧ (convert 33 9 (.slice A' bb.size c')).run Tryz.prog wx = .ok (.string bb) wx ∧ (convert 33 9 (.slice Ab bb.size cb)).run Tryz.prog wx = .ok (.string bb) wx := fun wx hx => by
          obtain ⟨y0, y1, y2, y3, y4, y5⟩ := HXS.out wx (HB3.out.trans (hx.mono HB3.out.size))
          exact ⟨y0, y1, y2, y3, y4, y5.conv, (hbv.below hx).conv⟩
        have HSS := Lib.hid hss
        clear hss hbv hcb
        simp only [Bool.false_eq_true, if_false]
        go_upto_region 8 with (fail)
        go_cut [89] (fun s89 wx => s89 = .bool false ∧ Below w3.heap.size w3 wx)
        case first =>
          refine wp_region_noPanic ?_
          refine wp_region_held_drew (S := (fun wq => wq.cell? ⟨q, 0, none⟩ = some (.slice (some ⟨b, oo, none⟩) N cf) ∧ wq.cell? ⟨q, 5, none⟩ = some (.bool false) ∧ wq.cell? (ad.add i) = some (.string nm) ∧ wq.cell? ⟨b, oo + i * 2, none⟩ = some (.string nm) ∧ wq.cell? ⟨b, oo + i * 2 + 1, none⟩ = some (.slice A' bb.size c') ∧ (convert 33 9 (.slice A' bb.size c')).run Tryz.prog wq = .ok (.string bb) wq ∧ (convert 33 9 (.slice Ab bb.size cb)).run Tryz.prog wq = .ok (.string bb) wq)) (by kernel_rfl) ?_ (fun hHeld => ?_)
          · exact HSS.out _ (below_drewN (Below.refl _ _) 1)
          refine wpT (i := 0) (v := ?v0g3_) rfl (Or.inl ⟨by rfl, ?y0g3_⟩) (by assumption) ?r0g3_
          case y0g3_ => (intro w hSw; (try dsimp only at hSw); go_simp; try with_reducible rfl)
          change wpAnyH _ _ _ _ _ _ _ (Act.put _ (some 52) _) _; simp only [Act.put, List.setIfInBounds_toArray, List.set_cons_zero, List.set_cons_succ]
          refine wpT (i := 1) (v := ?v1g3_) rfl (Or.inl ⟨by rfl, ?y1g3_⟩) (by assumption) ?r1g3_
          case y1g3_ => (intro w hSw; (try dsimp only at hSw); go_simp; try with_reducible rfl)
          change wpAnyH _ _ _ _ _ _ _ (Act.put _ (some 53) _) _; simp only [Act.put, List.setIfInBounds_toArray, List.set_cons_zero, List.set_cons_succ]
          refine wpT (i := 2) (v := ?v2g3_) rfl (Or.inl ⟨by rfl, ?y2g3_⟩) (by assumption) ?r2g3_
          case y2g3_ => (intro w hSw; (try dsimp only at hSw); go_simp; try with_reducible rfl)
          change wpAnyH _ _ _ _ _ _ _ (Act.put _ (some 54) _) _; simp only [Act.put, List.setIfInBounds_toArray, List.set_cons_zero, List.set_cons_succ]
          refine wpT (i := 3) (v := ?v3g3_) rfl (Or.inl ⟨by rfl, ?y3g3_⟩) (by assumption) ?r3g3_
          case y3g3_ => (intro w hSw; (try dsimp only at hSw); go_simp; try with_reducible rfl)
          change wpAnyH _ _ _ _ _ _ _ (Act.put _ (some 55) _) _; simp only [Act.put, List.setIfInBounds_toArray, List.set_cons_zero, List.set_cons_succ]
          refine wpT (i := 4) (v := ?v4g3_) rfl (Or.inl ⟨by rfl, ?y4g3_⟩) (by assumption) ?r4g3_
          case y4g3_ => (intro w hSw; (try dsimp only at hSw); go_simp; try with_reducible rfl)
          change wpAnyH _ _ _ _ _ _ _ (Act.put _ (some 56) _) _; simp only [Act.put, List.setIfInBounds_toArray, List.set_cons_zero, List.set_cons_succ]
          refine wpT (i := 5) (v := ?v5g3_) rfl (Or.inl ⟨by rfl, ?y5g3_⟩) (by assumption) ?r5g3_
          case y5g3_ => (intro w hSw; (try dsimp only at hSw); go_simp; try with_reducible rfl)
          change wpAnyH _ _ _ _ _ _ _ (Act.put _ (some 57) _) _; simp only [Act.put, List.setIfInBounds_toArray, List.set_cons_zero, List.set_cons_succ]
          refine wpT (i := 6) (v := ?v6g3_) rfl (Or.inl ⟨by rfl, ?y6g3_⟩) (by assumption) ?r6g3_
          case y6g3_ => (intro w hSw; (try dsimp only at hSw); go_simp; try with_reducible rfl)
          change wpAnyH _ _ _ _ _ _ _ (Act.put _ (some 58) _) _; simp only [Act.put, List.setIfInBounds_toArray, List.set_cons_zero, List.set_cons_succ]
          refine wpT (i := 7) (v := ?v7g3_) rfl (Or.inl ⟨by rfl, ?y7g3_⟩) (by assumption) ?r7g3_
          case y7g3_ => (intro w hSw; (try dsimp only at hSw); go_simp; try with_reducible rfl)
          change wpAnyH _ _ _ _ _ _ _ (Act.put _ (some 59) _) _; simp only [Act.put, List.setIfInBounds_toArray, List.set_cons_zero, List.set_cons_succ]
          refine wpT (i := 8) (v := ?v8g3_) rfl (Or.inl ⟨by rfl, ?y8g3_⟩) (by assumption) ?r8g3_
          case y8g3_ => (intro w hSw; (try dsimp only at hSw); go_simp; try with_reducible rfl)
          change wpAnyH _ _ _ _ _ _ _ (Act.put _ (some 60) _) _; simp only [Act.put, List.setIfInBounds_toArray, List.set_cons_zero, List.set_cons_succ]
          refine wpT (i := 9) (v := ?v9g3_) rfl (Or.inl ⟨by rfl, ?y9g3_⟩) (by assumption) ?r9g3_
          case y9g3_ => (intro w hSw; (try dsimp only at hSw); go_simp; try with_reducible rfl)
          change wpAnyH _ _ _ _ _ _ _ (Act.put _ (some 61) _) _; simp only [Act.put, List.setIfInBounds_toArray, List.set_cons_zero, List.set_cons_succ]
          refine wpT (i := 10) (v := ?v10g3_) rfl (Or.inl ⟨by rfl, ?y10g3_⟩) (by assumption) ?r10g3_
          case y10g3_ => (intro w hSw; (try dsimp only at hSw); go_simp; try with_reducible rfl)
          change wpAnyH _ _ _ _ _ _ _ (Act.put _ (some 62) _) _; simp only [Act.put, List.setIfInBounds_toArray, List.set_cons_zero, List.set_cons_succ]
          refine wpT (i := 11) (v := ?v11g3_) rfl (Or.inl ⟨by rfl, ?y11g3_⟩) (by assumption) ?r11g3_
          case y11g3_ => (intro w hSw; (try dsimp only at hSw); go_simp; try with_reducible rfl)
          change wpAnyH _ _ _ _ _ _ _ (Act.put _ (some 63) _) _; simp only [Act.put, List.setIfInBounds_toArray, List.set_cons_zero, List.set_cons_succ]
          refine wpT (i := 12) (v := ?v12g3_) rfl (Or.inl ⟨by rfl, ?y12g3_⟩) (by assumption) ?r12g3_
          case y12g3_ => (intro w hSw; (try dsimp only at hSw); go_simp; try with_reducible rfl)
          change wpAnyH _ _ _ _ _ _ _ (Act.put _ (some 64) _) _; simp only [Act.put, List.setIfInBounds_toArray, List.set_cons_zero, List.set_cons_succ]
          refine wpT (i := 13) (v := ?v13g3_) rfl (Or.inl ⟨by rfl, ?y13g3_⟩) (by assumption) ?r13g3_
          case y13g3_ => (intro w hSw; (try dsimp only at hSw); go_simp; try with_reducible rfl)
          change wpAnyH _ _ _ _ _ _ _ (Act.put _ (some 65) _) _; simp only [Act.put, List.setIfInBounds_toArray, List.set_cons_zero, List.set_cons_succ]
          refine wpT (i := 14) (v := ?v14g3_) rfl (Or.inl ⟨by rfl, ?y14g3_⟩) (by assumption) ?r14g3_
          case y14g3_ => (intro w hSw; (try dsimp only at hSw); go_simp; try with_reducible rfl)
          change wpAnyH _ _ _ _ _ _ _ (Act.put _ (some 66) _) _; simp only [Act.put, List.setIfInBounds_toArray, List.set_cons_zero, List.set_cons_succ]
          refine wpT (i := 15) (v := ?v15g3_) rfl (Or.inl ⟨by rfl, ?y15g3_⟩) (by assumption) ?r15g3_
          case y15g3_ => (intro w hSw; (try dsimp only at hSw); go_simp; try with_reducible rfl)
          change wpAnyH _ _ _ _ _ _ _ (Act.put _ (some 67) _) _; simp only [Act.put, List.setIfInBounds_toArray, List.set_cons_zero, List.set_cons_succ]
          refine wpT (i := 16) (v := ?v16g3_) rfl (Or.inl ⟨by rfl, ?y16g3_⟩) (by assumption) ?r16g3_
          case y16g3_ => (intro w hSw; (try dsimp only at hSw); go_simp; try with_reducible rfl)
          change wpAnyH _ _ _ _ _ _ _ (Act.put _ (some 68) _) _; simp only [Act.put, List.setIfInBounds_toArray, List.set_cons_zero, List.set_cons_succ]
          refine wpT (i := 17) (v := ?v17g3_) rfl (Or.inl ⟨by rfl, ?y17g3_⟩) (by assumption) ?r17g3_
          case y17g3_ => (intro w hSw; (try dsimp only at hSw); go_simp; try with_reducible rfl)
          change wpAnyH _ _ _ _ _ _ _ (Act.put _ (some 69) _) _; simp only [Act.put, List.setIfInBounds_toArray, List.set_cons_zero, List.set_cons_succ]
          refine wpT (i := 18) (v := ?v18g3_) rfl (Or.inl ⟨by rfl, ?y18g3_⟩) (by assumption) ?r18g3_
          case y18g3_ => (intro w hSw; (try dsimp only at hSw); go_simp; try with_reducible rfl)
          change wpAnyH _ _ _ _ _ _ _ (Act.put _ (some 70) _) _; simp only [Act.put, List.setIfInBounds_toArray, List.set_cons_zero, List.set_cons_succ]
          refine wpT (i := 19) (v := ?v19g3_) rfl (Or.inl ⟨by rfl, ?y19g3_⟩) (by assumption) ?r19g3_
          case y19g3_ => (intro w hSw; (try dsimp only at hSw); go_simp; try with_reducible rfl)
          change wpAnyH _ _ _ _ _ _ _ (Act.put _ (some 71) _) _; simp only [Act.put, List.setIfInBounds_toArray, List.set_cons_zero, List.set_cons_succ]
          refine wpT (i := 20) (v := ?v20g3_) rfl (Or.inl ⟨by rfl, ?y20g3_⟩) (by assumption) ?r20g3_
          case y20g3_ => (intro w hSw; (try dsimp only at hSw); go_simp; try with_reducible rfl)
          change wpAnyH _ _ _ _ _ _ _ (Act.put _ (some 72) _) _; simp only [Act.put, List.setIfInBounds_toArray, List.set_cons_zero, List.set_cons_succ]
          refine wpT (i := 21) (v := ?v21g3_) rfl (Or.inl ⟨by rfl, ?y21g3_⟩) (by assumption) ?r21g3_
          case y21g3_ => (intro w hSw; (try dsimp only at hSw); go_simp; try with_reducible rfl)
          change wpAnyH _ _ _ _ _ _ _ (Act.put _ (some 73) _) _; simp only [Act.put, List.setIfInBounds_toArray, List.set_cons_zero, List.set_cons_succ]
          refine wpT (i := 22) (v := ?v22g3_) rfl (Or.inl ⟨by rfl, ?y22g3_⟩) (by assumption) ?r22g3_
          case y22g3_ => (intro w hSw; (try dsimp only at hSw); go_simp; try with_reducible rfl)
          change wpAnyH _ _ _ _ _ _ _ (Act.put _ (some 74) _) _; simp only [Act.put, List.setIfInBounds_toArray, List.set_cons_zero, List.set_cons_succ]
          refine wpT (i := 23) (v := ?v23g3_) rfl (Or.inl ⟨by rfl, ?y23g3_⟩) (by assumption) ?r23g3_
          case y23g3_ => (intro w hSw; (try dsimp only at hSw); go_simp; try with_reducible rfl)
          change wpAnyH _ _ _ _ _ _ _ (Act.put _ (some 75) _) _; simp only [Act.put, List.setIfInBounds_toArray, List.set_cons_zero, List.set_cons_succ]
          refine wpT (i := 24) (v := ?v24g3_) rfl (Or.inl ⟨by rfl, ?y24g3_⟩) (by assumption) ?r24g3_
          case y24g3_ => (intro w hSw; exact run_execOp_convC (x := .tmp 75) rfl (by have hs := hSw.2.2.2.2.2.2; simpa [Act.eval] using hs))
          change wpAnyH _ _ _ _ _ _ _ (Act.put _ (some 76) _) _; simp only [Act.put, List.setIfInBounds_toArray, List.set_cons_zero, List.set_cons_succ]
          refine wpT (i := 25) (v := ?v25g3_) rfl (Or.inl ⟨by rfl, ?y25g3_⟩) (by assumption) ?r25g3_
          case y25g3_ => (intro w hSw; (try dsimp only at hSw); go_simp; try with_reducible rfl)
          change wpAnyH _ _ _ _ _ _ _ (Act.put _ (some 77) _) _; simp only [Act.put, List.setIfInBounds_toArray, List.set_cons_zero, List.set_cons_succ]
          refine wpT (i := 26) (v := ?v26g3_) rfl (Or.inl ⟨by rfl, ?y26g3_⟩) (by assumption) ?r26g3_
          case y26g3_ => (intro w hSw; (try dsimp only at hSw); go_simp; try with_reducible rfl)
          change wpAnyH _ _ _ _ _ _ _ (Act.put _ (some 78) _) _; simp only [Act.put, List.setIfInBounds_toArray, List.set_cons_zero, List.set_cons_succ]
          refine wpT (i := 27) (v := ?v27g3_) rfl (Or.inl ⟨by rfl, ?y27g3_⟩) (by assumption) ?r27g3_
          case y27g3_ => (intro w hSw; (try dsimp only at hSw); go_simp; try with_reducible rfl)
          change wpAnyH _ _ _ _ _ _ _ (Act.put _ (some 79) _) _; simp only [Act.put, List.setIfInBounds_toArray, List.set_cons_zero, List.set_cons_succ]
          refine wpT (i := 28) (v := ?v28g3_) rfl (Or.inl ⟨by rfl, ?y28g3_⟩) (by assumption) ?r28g3_
          case y28g3_ => (intro w hSw; (try dsimp only at hSw); go_simp; try with_reducible rfl)
          change wpAnyH _ _ _ _ _ _ _ (Act.put _ (some 80) _) _; simp only [Act.put, List.setIfInBounds_toArray, List.set_cons_zero, List.set_cons_succ]
          refine wpT (i := 29) (v := ?v29g3_) rfl (Or.inl ⟨by rfl, ?y29g3_⟩) (by assumption) ?r29g3_
          case y29g3_ => (intro w hSw; (try dsimp only at hSw); go_simp; try with_reducible rfl)
          change wpAnyH _ _ _ _ _ _ _ (Act.put _ (some 81) _) _; simp only [Act.put, List.setIfInBounds_toArray, List.set_cons_zero, List.set_cons_succ]
          refine wpT (i := 30) (v := ?v30g3_) rfl (Or.inl ⟨by rfl, ?y30g3_⟩) (by assumption) ?r30g3_
          case y30g3_ => (intro w hSw; (try dsimp only at hSw); go_simp; try with_reducible rfl)
          change wpAnyH _ _ _ _ _ _ _ (Act.put _ (some 82) _) _; simp only [Act.put, List.setIfInBounds_toArray, List.set_cons_zero, List.set_cons_succ]
          refine wpT (i := 31) (v := ?v31g3_) rfl (Or.inl ⟨by rfl, ?y31g3_⟩) (by assumption) ?r31g3_
          case y31g3_ => (intro w hSw; (try dsimp only at hSw); go_simp; try with_reducible rfl)
          change wpAnyH _ _ _ _ _ _ _ (Act.put _ (some 83) _) _; simp only [Act.put, List.setIfInBounds_toArray, List.set_cons_zero, List.set_cons_succ]
          refine wpT (i := 32) (v := ?v32g3_) rfl (Or.inl ⟨by rfl, ?y32g3_⟩) (by assumption) ?r32g3_
          case y32g3_ => (intro w hSw; (try dsimp only at hSw); go_simp; try with_reducible rfl)
          change wpAnyH _ _ _ _ _ _ _ (Act.put _ (some 84) _) _; simp only [Act.put, List.setIfInBounds_toArray, List.set_cons_zero, List.set_cons_succ]
          refine wpT (i := 33) (v := ?v33g3_) rfl (Or.inl ⟨by rfl, ?y33g3_⟩) (by assumption) ?r33g3_
          case y33g3_ => (intro w hSw; exact run_execOp_convC (x := .tmp 84) rfl (by have hs := hSw.2.2.2.2.2.1; simpa [Act.eval] using hs))
          change wpAnyH _ _ _ _ _ _ _ (Act.put _ (some 85) _) _; simp only [Act.put, List.setIfInBounds_toArray, List.set_cons_zero, List.set_cons_succ]
          refine wpT (i := 34) (v := ?v34g3_) rfl (Or.inl ⟨by rfl, ?y34g3_⟩) (by assumption) ?r34g3_
          case y34g3_ => (intro w hSw; (try dsimp only at hSw); go_simp; try with_reducible rfl)
          change wpAnyH _ _ _ _ _ _ _ (Act.put _ (some 86) _) _; simp only [Act.put, List.setIfInBounds_toArray, List.set_cons_zero, List.set_cons_succ]
          refine wpT (i := 35) (v := ?v35g3_) rfl (Or.inl ⟨by rfl, ?y35g3_⟩) (by assumption) ?r35g3_
          case y35g3_ => (intro w hSw; (try dsimp only at hSw); go_simp; try with_reducible rfl)
          change wpAnyH _ _ _ _ _ _ _ (Act.put _ (some 87) _) _; simp only [Act.put, List.setIfInBounds_toArray, List.set_cons_zero, List.set_cons_succ]
          refine wpT (i := 36) (v := ?v36g3_) rfl (Or.inl ⟨by rfl, ?y36g3_⟩) (by assumption) ?r36g3_
          case y36g3_ => (intro w hSw; (try dsimp only at hSw); go_simp; try with_reducible rfl)
          change wpAnyH _ _ _ _ _ _ _ (Act.put _ (some 88) _) _; simp only [Act.put, List.setIfInBounds_toArray, List.set_cons_zero, List.set_cons_succ]
          refine wpT (i := 37) (v := ?v37g3_) rfl (Or.inl ⟨by rfl, ?y37g3_⟩) (by assumption) ?r37g3_
          case y37g3_ => (intro w hSw; (try dsimp only at hSw); go_simp; try with_reducible rfl)
          change wpAnyH _ _ _ _ _ _ _ (Act.put _ (some 89) _) _; simp only [Act.put, List.setIfInBounds_toArray, List.set_cons_zero, List.set_cons_succ]
          refine wpAnyH_done (by kernel_rfl) ?_ _
          refine NoPanic.normal ?_
          go_wp2_with fail
          go_meet
          exact ⟨rfl, below_drewN (Below.refl _ _) 1⟩
        case rest =>
        obtain ⟨rfl, hbx⟩ := hcut
        have HBX := Lib.hid (HBR.out.trans ((HB3.out.trans (hbx.mono HB3.out.size)).mono HBR.out.size))
        clear hbx
        go_wp2
        go_roundg gf
        case measure => omega
        case rel => exact ⟨i + 1, by go_num, by omega, HBX.out⟩
end
end Go.Proofs.YthmcimpdehgaoaaGreatDoor
