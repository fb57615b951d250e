/- The reference's store of checkpoints: Write. -/
import Derived.Test.YthmcimpdehgaoaaGreatDoorPk28
import Derived.Test.YthmcimpdehgaoaaGreatDoorRkE
import Derived.Test.YthmcimpdehgaoaaGreatDoorCkD
import Derived.Test.YthmcimpdehgaoaaGreatDoorPk29
import Derived.OrdersHeld
import Derived.Deep.RegionHeld3
import Derived.Deep.DeepCutAuto
namespace Go.Proofs.YthmcimpdehgaoaaGreatDoor
open Go.RowKit Go.Maps

/-- amid a write -/
def RcW [Forb] (B : Nat) (w wx : World) (p gs : Nat) (x : Int × RDisk) (s7 : Value) : Prop := s7 = .int .i64 x.1 ∧ RkOut B w wx p x.2 ∧ RcSt wx gs p
theorem stepRC_yes {x : Int × RDisk} (f : RDisk → Int × RDisk) (h : x.1 = 0) : stepRC x f = f x.2 := by unfold stepRC; rw [if_pos h]
theorem stepRC_no {x : Int × RDisk} (f : RDisk → Int × RDisk) (h : x.1 ≠ 0) : stepRC x f = x := by unfold stepRC; rw [if_neg h]
/-- the program's disk beside each stage of the reference's write -/
def FitSim (R : RDisk) : Prop := ∃ D, Sim D R ∧ FitN D 5
theorem FitSim.fit {R : RDisk} (h : FitSim R) : RFit R := let ⟨_, h1, h2⟩ := h; sim_fit h1 h2
theorem wc_stages {D : DiskD} {R : RDisk} (hsim : Sim D R) (hf : FitN D 200) (n : Nat) (b : ByteArray) (hb : b.size ≤ 9900) : FitSim R ∧ FitSim (clearRC R).2 ∧ FitSim (w2C R n b).2 ∧ FitSim (w3C R n b).2 ∧ FitSim (w4C R n b).2 := by
  have hfs := fileC_size n b
  have c1 := cst_clearC (D := D) hf.left
  have s1 := (sim_clearC hsim).2
  have f1 : FitN (clearC D).2 150 := hf.cst c1 (by decide) (by decide) (by decide)
  have key : ∀ (x : Int × RDisk) (f : RDisk → Int × RDisk) (D' : DiskD) (k m : Nat), Sim D' x.2 → FitN D' k → m ≤ k → (∃ D'', Sim D'' (f x.2).2 ∧ FitN D'' m) → ∃ D'', Sim D'' (stepRC x f).2 ∧ FitN D'' m := by
    intro x f D' k m h1 h2 hm h3
    unfold stepRC
    split
    · exact h3
    · exact ⟨D', h1, h2.less hm⟩
  obtain ⟨D2, s2, f2⟩ := key (clearRC R) (fun R => R.append tmpC (fileC n b)) _ 150 30 s1 f1 (by decide) ⟨_, (sim_append s1 tmpC (fileC n b)).2, f1.cst (cst_append f1.left tmpC (fileC n b)) (by decide) (by decide) (by omega)⟩
  obtain ⟨D3, s3, f3⟩ := key (w2C R n b) (fun R => R.sync tmpC) D2 30 20 s2 f2 (by decide) ⟨_, (sim_sync s2 tmpC).2, f2.cst (cst_step f2.left 0 tmpC tmpC 0 true) (by decide) (by decide) (by decide)⟩
  obtain ⟨D4, s4, f4⟩ := key (w3C R n b) (fun R => R.rename tmpC (nameC n)) D3 20 10 s3 f3 (by decide) ⟨_, (sim_rename s3 tmpC (nameC n)).2, f3.cst (cst_step f3.left 2 tmpC (nameC n) 0 true) (by decide) (by decide) (by decide)⟩
  exact ⟨⟨D, hsim, hf.less (by decide)⟩, ⟨_, s1, f1.less (by decide)⟩, ⟨D2, s2, f2.less (by decide)⟩, ⟨D3, s3, f3.less (by decide)⟩, ⟨D4, s4, f4.less (by decide)⟩⟩
theorem undrewC {w w' : World} (h : Below w.drew.heap.size w.drew w') : Below w.heap.size w w' := ⟨h.os, h.tape, h.output, h.size, h.block⟩
/-- what a write leaves -/
def RWriteC [Forb] (B : Nat) (w : World) (p gs : Nat) (q : Int × RDisk) (e : Ending) (w' : World) : Prop := e = .returned (.int .i64 q.1) ∧ RkOut B w w' p q.2 ∧ RcSt w' gs p
section
variable [Forb] (w : World) (B p gs : Nat) (D : DiskD) (R : RDisk) (h : RkIs w B p R) (hs : RcSt w gs p) (hsim : Sim D R) (hf : FitN D 200)
include h hs hsim hf
set_option maxRecDepth 100000 in
set_option maxHeartbeats 16000000 in
theorem rcwrite_yes (ht : Forb.top ≤ w.heap.size) (n : Nat) (hn : n ≤ 1073741824) (b : ByteArray) (hb : b.size ≤ 9900) (hg : R.gone = false) :
    Calls Tryz.prog 77 #[.pointer (some ⟨gs, 0, none⟩), .int .i64 n, .string b] w (RWriteC B w p gs ((w4C R n b).1, w5C (w4C R n b))) := by
  have HTP := Lib.hid ht
  clear ht
  obtain ⟨F0, F1, F2, F3, F4⟩ := wc_stages hsim hf n b hb
  have HF0 := Lib.hid F0; have HF1 := Lib.hid F1; have HF2 := Lib.hid F2; have HF3 := Lib.hid F3; have HF4 := Lib.hid F4
  have HM := Lib.hid (rcmay_any w n)
  rw [decide_eq_true ⟨by omega, by omega⟩] at HM
  obtain ⟨vf, vs, hblk⟩ := h.blk
  have c5 := hblk.cell 5
  simp only [List.getElem?_toArray, List.getElem?_cons_zero, List.getElem?_cons_succ] at c5
  rw [hg] at c5
  have c0 : w.cell? ⟨gs, 0, none⟩ = some (.pointer (some ⟨p, 0, none⟩)) := Blk.cell hs 0
  have hbI : ¬ (4194304 : Int) < (b.size : Int) := by omega
  have HTH := Lib.hid (rcthere_any w B p gs R h F0.fit hs ⟨#[99, 107, 46, 116, 109, 112]⟩)
  have hrm := rremove_any w B p R h F0.fit ⟨#[99, 107, 46, 116, 109, 112]⟩
  have hcl : clearRC R = if decide ((R.read ⟨#[99, 107, 46, 116, 109, 112]⟩).1 = 0) = true then R.remove ⟨#[99, 107, 46, 116, 109, 112]⟩ else (0, R) := by unfold clearRC; simp only [decide_eq_true_eq]; rfl
  obtain ⟨b1, hb1⟩ : ∃ b1, decide ((R.read ⟨#[99, 107, 46, 116, 109, 112]⟩).1 = 0) = b1 := ⟨_, rfl⟩
  rw [hb1] at HTH hcl
  obtain ⟨x1, hx1⟩ : ∃ x1, R.remove ⟨#[99, 107, 46, 116, 109, 112]⟩ = x1 := ⟨_, rfl⟩
  rw [hx1] at hrm hcl
  have HRM := Lib.hid hrm; have HCL := Lib.hid hcl; have H := Lib.hid h; have HS := Lib.hid hs
  clear h hs hsim hf hrm hcl hb1 hx1 F0 F1 F2 F3 F4 hblk hg
  go_enter Tryz.func77, Tryz.ntmps77
  go_wp2_with fail
  refine HM.out.mono ?_
  rintro e w1 ⟨rfl, rfl⟩
  clear HM
  go_upto_if 25 with (refine HTH.out.mono ?_; rintro e w3 ⟨rfl, rfl⟩)
  go_cut [7] (fun s7 wx => RcW B w wx p gs (clearRC R) s7)
  case first =>
    cases b1 with
    | false =>
      have hcl := HCL.out
      rw [if_neg (by simp)] at hcl
      have HCL2 := Lib.hid hcl
      clear hcl
      go_wp2
      go_meet
      exact ⟨by rw [HCL2.out], by rw [HCL2.out]; exact RkOut.same H.out, HS.out⟩
    | true =>
      have hcl := HCL.out
      rw [if_pos rfl] at hcl
      have HCL2 := Lib.hid hcl
      clear hcl
      go_wp2_with fail
      refine HRM.out.mono ?_
      rintro e w3 ⟨rfl, o3⟩
      have HO3 := Lib.hid o3
      clear o3
      go_wp2
      go_meet
      exact ⟨by rw [HCL2.out], by rw [HCL2.out]; exact HO3.out, HS.out.out HO3.out H.out⟩
  case rest =>
  as_aux_lemma =>
  obtain ⟨rfl, o1, s1⟩ := hcut
  have hx2 : w2C R n b = stepRC (clearRC R) (fun R => R.append tmpC (fileC n b)) := rfl
  have hf1 := HF1.out.fit
  obtain ⟨x1', hx1⟩ : ∃ x, clearRC R = x := ⟨_, rfl⟩
  rw [hx1] at o1 hx2 hf1 ⊢
  obtain ⟨E1, R1⟩ := x1'
  have HO1 := Lib.hid o1; have HS1 := Lib.hid s1; have HX2 := Lib.hid hx2; have HF1' := Lib.hid hf1
  clear o1 s1 hx2 hf1 hx1 HF1 HTH HRM HCL c0 c5 x1 b1 HF0
  dsimp only
  obtain ⟨w3, hw3⟩ : ∃ w3, w3 = wc := ⟨_, rfl⟩
  subst hw3
  go_upto_if 32 with (fail)
  go_cut [7] (fun s7 wx => RcW B w wx p gs (w2C R n b) s7)
  case first =>
    by_cases hE : E1 = 0
    case neg =>
      have hEb : (E1 == 0) = false := by simpa using hE
      have hx : w2C R n b = (E1, R1) := by rw [HX2.out, stepRC_no _ hE]
      have HX := Lib.hid hx
      clear hE hx
      go_wp2
      go_meet
      exact ⟨by rw [HX.out], by rw [HX.out]; exact HO1.out, HS1.out⟩
    subst hE
    have hx : w2C R n b = R1.append tmpC (fileC n b) := by rw [HX2.out, stepRC_yes _ rfl]
    have HBY := Lib.hid (rcbytes_any w3.drew n hn b hb)
    have ka : w3.drew.cell? ⟨gs, 0, none⟩ = some (.pointer (some ⟨p, 0, none⟩)) := Blk.cell HS1.out 0
    have hap : ∀ w4 bv, Below w3.heap.size w3 w4 → Bt w4 bv (fileC n b) → Calls Tryz.prog 29 #[.pointer (some ⟨p, 0, none⟩), .string tmpC, bv] w4 fun e w' => e = .returned (.int .i64 (R1.append tmpC (fileC n b)).1) ∧ RkOut B w w' p (R1.append tmpC (fileC n b)).2 ∧ RcSt w' gs p := fun w4 bv hb4 hbt => by
      have ha4 := HO1.out.below hb4
      exact (rappend_anyF w4 B p R1 ha4.is HF1'.out (Nat.le_trans HTP.out (Nat.le_trans HO1.out.moved.size hb4.size)) tmpC bv _ hbt.btr (by rw [fileC_size]; omega)).mono fun e w' ⟨he, o⟩ => ⟨he, ha4.trans o, (HS1.out.below hb4).out o ha4.is⟩
    obtain ⟨x2, hx2⟩ : ∃ x2, R1.append tmpC (fileC n b) = x2 := ⟨_, rfl⟩
    rw [hx2] at hap hx
    rw [show tmpC = ⟨#[99, 107, 46, 116, 109, 112]⟩ from rfl] at hap
    have HX := Lib.hid hx; have HKA := Lib.hid ka; have HAP := Lib.hid hap
    clear hx ka hap hx2
    go_wp2_with fail
    go_region_held3 (fun w' => w'.cell? ⟨gs, 0, none⟩ = some (.pointer (some ⟨p, 0, none⟩))) (first | exact HKC.out | exact HKB.out | exact HKA.out) (first | (go_at_call 34; (with_reducible refine HBY.out.mono ?_); rintro e w4 ⟨bv, rfl, hbt, hb4⟩; have hb4 : Below w3.heap.size w3 w4 := undrewC hb4; have HKB := Lib.hid (show w4.cell? ⟨gs, 0, none⟩ = some (.pointer (some ⟨p, 0, none⟩)) from Blk.cell (HS1.out.below hb4) 0); have HB4 := Lib.hid hb4; have HBT := Lib.hid (Bt.of_own hbt); clear hb4 hbt) | (go_at_call 29; (with_reducible refine (HAP.out _ _ HB4.out HBT.out).mono ?_); rintro e w5 ⟨rfl, ha5, hs5⟩; have HKC := Lib.hid (show w5.cell? ⟨gs, 0, none⟩ = some (.pointer (some ⟨p, 0, none⟩)) from Blk.cell hs5 0); have HA5 := Lib.hid ha5; have HS5 := Lib.hid hs5; clear ha5 hs5))
    go_wp2_with fail
    go_meet
    exact ⟨by rw [HX.out], by rw [HX.out]; exact HA5.out, HS5.out⟩
  case rest =>
  as_aux_lemma =>
  obtain ⟨rfl, o1, s1⟩ := hcut
  have hx3 : w3C R n b = stepRC (w2C R n b) (fun R => R.sync tmpC) := rfl
  have hf2 := HF2.out.fit
  obtain ⟨x2, hx2⟩ : ∃ x, w2C R n b = x := ⟨_, rfl⟩
  rw [hx2] at o1 hx3 hf2 ⊢
  obtain ⟨E2, R2⟩ := x2
  have HO2 := Lib.hid o1; have HS2 := Lib.hid s1; have HX3 := Lib.hid hx3; have HF2' := Lib.hid hf2
  clear o1 s1 hx3 hf2 hx2 HF2 HX2 HO1 HS1 HF1'
  dsimp only
  obtain ⟨w4, hw4⟩ : ∃ w4, w4 = wc := ⟨_, rfl⟩
  subst hw4
  go_upto_if 42 with (fail)
  go_cut [7] (fun s7 wx => RcW B w wx p gs (w3C R n b) s7)
  case first =>
    by_cases hE : E2 = 0
    case neg =>
      have hEb : (E2 == 0) = false := by simpa using hE
      have hx : w3C R n b = (E2, R2) := by rw [HX3.out, stepRC_no _ hE]
      have HX := Lib.hid hx
      clear hE hx
      go_wp2
      go_meet
      exact ⟨by rw [HX.out], by rw [HX.out]; exact HO2.out, HS2.out⟩
    subst hE
    have hx : w3C R n b = R2.sync tmpC := by rw [HX3.out, stepRC_yes _ rfl]
    have hsy := rsync_any w4 B p R2 HO2.out.is HF2'.out tmpC
    obtain ⟨x3, hx3⟩ : ∃ x3, R2.sync tmpC = x3 := ⟨_, rfl⟩
    rw [hx3] at hsy hx
    rw [show tmpC = ⟨#[99, 107, 46, 116, 109, 112]⟩ from rfl] at hsy
    have c0 : w4.cell? ⟨gs, 0, none⟩ = some (.pointer (some ⟨p, 0, none⟩)) := Blk.cell HS2.out 0
    have HX := Lib.hid hx; have HSY := Lib.hid hsy
    clear hx hsy hx3
    go_wp2_with fail
    refine HSY.out.mono ?_
    rintro e w5 ⟨rfl, o5⟩
    have HO5 := Lib.hid o5
    clear o5 c0
    go_wp2
    go_meet
    exact ⟨by rw [HX.out], by rw [HX.out]; exact HO2.out.trans HO5.out, HS2.out.out HO5.out HO2.out.is⟩
  case rest =>
  as_aux_lemma =>
  obtain ⟨rfl, o1, s1⟩ := hcut
  have hx4 : w4C R n b = stepRC (w3C R n b) (fun R => R.rename tmpC (nameC n)) := rfl
  have hf3 := HF3.out.fit
  obtain ⟨x3, hx3⟩ : ∃ x, w3C R n b = x := ⟨_, rfl⟩
  rw [hx3] at o1 hx4 hf3 ⊢
  obtain ⟨E3, R3⟩ := x3
  have HO3 := Lib.hid o1; have HS3 := Lib.hid s1; have HX4 := Lib.hid hx4; have HF3' := Lib.hid hf3
  clear o1 s1 hx4 hf3 hx3 HF3 HX3 HO2 HS2 HF2'
  dsimp only
  obtain ⟨w5, hw5⟩ : ∃ w5, w5 = wc := ⟨_, rfl⟩
  subst hw5
  go_upto_if 49 with (fail)
  go_cut [7] (fun s7 wx => RcW B w wx p gs (w4C R n b) s7)
  case first =>
    by_cases hE : E3 = 0
    case neg =>
      have hEb : (E3 == 0) = false := by simpa using hE
      have hx : w4C R n b = (E3, R3) := by rw [HX4.out, stepRC_no _ hE]
      have HX := Lib.hid hx
      clear hE hx
      go_wp2
      go_meet
      exact ⟨by rw [HX.out], by rw [HX.out]; exact HO3.out, HS3.out⟩
    subst hE
    have hx : w4C R n b = R3.rename tmpC (nameC n) := by rw [HX4.out, stepRC_yes _ rfl]
    have hnm := fun W : World => rcname_any W n (by omega)
    have ka : w5.drew.cell? ⟨gs, 0, none⟩ = some (.pointer (some ⟨p, 0, none⟩)) := Blk.cell HS3.out 0
    have hod := HO3.out.below ((Below.refl w5.heap.size w5).drew)
    have hrn := (rrename_any w5.drew B p R3 hod.is HF3'.out tmpC (nameC n)).mono (R' := fun e w' => e = .returned (.int .i64 (R3.rename tmpC (nameC n)).1) ∧ RkOut B w w' p (R3.rename tmpC (nameC n)).2 ∧ RcSt w' gs p) fun e w' ⟨he, o⟩ => ⟨he, hod.trans o, (HS3.out.below ((Below.refl w5.heap.size w5).drew)).out o hod.is⟩
    obtain ⟨x4, hx4⟩ : ∃ x4, R3.rename tmpC (nameC n) = x4 := ⟨_, rfl⟩
    rw [hx4] at hrn hx
    rw [show tmpC = ⟨#[99, 107, 46, 116, 109, 112]⟩ from rfl] at hrn
    obtain ⟨nm, hnme⟩ : ∃ nm, nameC n = nm := ⟨_, rfl⟩
    rw [hnme] at hnm hrn
    have HX := Lib.hid hx; have HNM := Lib.hid hnm; have HKA := Lib.hid ka; have HRN := Lib.hid hrn
    clear hx hnm ka hrn hx4 hnme hod
    go_wp2_with fail
    go_region_held3 (fun w' => w'.cell? ⟨gs, 0, none⟩ = some (.pointer (some ⟨p, 0, none⟩))) (first | exact HKC.out | exact HKA.out) (first | (go_at_call 110; (with_reducible refine (HNM.out _).mono ?_); rintro e w6 ⟨rfl, rfl⟩) | (go_at_call 113; (with_reducible refine HRN.out.mono ?_); rintro e w6 ⟨rfl, ha6, hs6⟩; have HKC := Lib.hid (show w6.cell? ⟨gs, 0, none⟩ = some (.pointer (some ⟨p, 0, none⟩)) from Blk.cell hs6 0); have HA6 := Lib.hid ha6; have HS6 := Lib.hid hs6; clear ha6 hs6))
    go_wp2_with fail
    go_meet
    exact ⟨by rw [HX.out], by rw [HX.out]; exact HA6.out, HS6.out⟩
  case rest =>
  as_aux_lemma =>
  obtain ⟨rfl, o1, s1⟩ := hcut
  have hf4 := HF4.out.fit
  obtain ⟨x4, hx4⟩ : ∃ x, w4C R n b = x := ⟨_, rfl⟩
  rw [hx4] at o1 hf4 ⊢
  obtain ⟨E4, R4⟩ := x4
  have HO4 := Lib.hid o1; have HS4 := Lib.hid s1; have HF4' := Lib.hid hf4; have HW4 := Lib.hid hx4
  clear o1 s1 hf4 hx4 HF4 HX4 HO3 HS3 HF3'
  dsimp only
  obtain ⟨w6, hw6⟩ : ∃ w6, w6 = wc := ⟨_, rfl⟩
  subst hw6
  by_cases hE : E4 = 161 ∨ E4 = 3
  case neg =>
    have h1 : (E4 == 161) = false := by simp; omega
    have h2 : (E4 == 3) = false := by simp; omega
    have h5 : w5C (w4C R n b) = R4 := by rw [HW4.out]; unfold w5C; rw [if_neg hE]
    have H5 := Lib.hid h5
    clear hE h5
    go_wp2
    go_ret
    exact ⟨by rw [HW4.out]; rfl, by show RkOut _ _ _ _ (w5C (w4C R n b)); rw [H5.out]; exact HO4.out, HS4.out⟩
  have h5 : w5C (w4C R n b) = (clearRC R4).2 := by rw [HW4.out]; unfold w5C; rw [if_pos hE]
  have hth := rcthere_any w6 B p gs R4 HO4.out.is HF4'.out HS4.out tmpC
  have hrm := rremove_any w6 B p R4 HO4.out.is HF4'.out tmpC
  have hcl : clearRC R4 = if decide ((R4.read tmpC).1 = 0) = true then R4.remove tmpC else (0, R4) := by unfold clearRC; simp only [decide_eq_true_eq]
  obtain ⟨b1, hb1⟩ : ∃ b1, decide ((R4.read tmpC).1 = 0) = b1 := ⟨_, rfl⟩
  rw [hb1] at hth hcl
  obtain ⟨x1, hx1⟩ : ∃ x1, R4.remove tmpC = x1 := ⟨_, rfl⟩
  rw [hx1] at hrm hcl
  rw [show tmpC = ⟨#[99, 107, 46, 116, 109, 112]⟩ from rfl] at hth hrm
  have c0 : w6.cell? ⟨gs, 0, none⟩ = some (.pointer (some ⟨p, 0, none⟩)) := Blk.cell HS4.out 0
  have H5 := Lib.hid h5; have HTH := Lib.hid hth; have HRM := Lib.hid hrm; have HCL := Lib.hid hcl
  clear h5 hth hrm hcl hb1 hx1
  have hor : ((E4 == 161) = true) ∨ ((E4 == 161) = false ∧ (E4 == 3) = true) := by
    rcases hE with rfl | rfl
    · exact .inl rfl
    · exact .inr ⟨rfl, rfl⟩
  clear hE
  rcases hor with h1 | ⟨h1, h2⟩
  all_goals
    cases b1 with
    | false =>
      have hcl := HCL.out
      rw [if_neg (by simp)] at hcl
      have HCL2 := Lib.hid hcl
      clear hcl
      go_wp2_with fail
      refine HTH.out.mono ?_
      rintro e w7 ⟨rfl, rfl⟩
      go_wp2
      go_ret
      exact ⟨by rw [HW4.out]; rfl, by show RkOut _ _ _ _ (w5C (w4C R n b)); rw [H5.out, HCL2.out]; exact HO4.out, HS4.out⟩
    | true =>
      have hcl := HCL.out
      rw [if_pos rfl] at hcl
      have HCL2 := Lib.hid hcl
      clear hcl
      go_wp2_with fail
      refine HTH.out.mono ?_
      rintro e w7 ⟨rfl, rfl⟩
      go_wp2_with fail
      refine HRM.out.mono ?_
      rintro e w8 ⟨rfl, o8⟩
      have HO8 := Lib.hid o8
      clear o8 c0
      go_wp2
      go_ret
      exact ⟨by rw [HW4.out]; rfl, by show RkOut _ _ _ _ (w5C (w4C R n b)); rw [H5.out, HCL2.out]; exact HO4.out.trans HO8.out, HS4.out.out HO8.out HO4.out.is⟩
end
end Go.Proofs.YthmcimpdehgaoaaGreatDoor
