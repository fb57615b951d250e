/- The reference's store of checkpoints: Steps, Drop, Write whole. The reference's store of checkpoints: Drop; Write whole. The reference's store of checkpoints: Open. The reference's disk: Cut, Used; the two disks stay alike behind a Cut. -/
import Derived.Test.YthmcimpdehgaoaaGreatDoorPk29
import Derived.Test.YthmcimpdehgaoaaGreatDoorCmG
import Derived.Test.YthmcimpdehgaoaaGreatDoorPk28
import Derived.Test.YthmcimpdehgaoaaGreatDoorRkE
import Derived.Deep.DeepCutAuto
import Derived.Test.YthmcimpdehgaoaaGreatDoorRkP
namespace Go.Proofs.YthmcimpdehgaoaaGreatDoor
open Go.RowKit Go.Maps

set_option maxRecDepth 100000 in
set_option maxHeartbeats 16000000 in
theorem rcsteps_any (w : World) (B p gs : Nat) (R : RDisk) (h : RkIs w B p R) (hf : RFit R) (hs : RcSt w gs p) (hb : ∀ t, (R.read t).2.size ≤ 9900) :
    Calls Tryz.prog 60 #[.pointer (some ⟨gs, 0, none⟩)] w fun e w' => ∃ A c, e = .returned (.slice A (stepsRC R).length c) ∧ w'.ownsRow w.heap.size 3 1 (.slice A (stepsRC R).length c) (stepsRC R).length (intsN (stepsRC R)) ∧ Below w.heap.size w w' := by
  obtain ⟨i0, hi0, hz0, hz1, hz2⟩ := parts infoInt
  have hal := rcall_any w B p gs R h hf.len hs
  have hall : stepsRC R = (allRC R).filter fun n : Nat => decide ((readRC R (n : Int)).1 = 0) := rfl
  have hln : (allRC R).length ≤ 100000000 := by
    have h1 := hf.len
    unfold allRC
    rw [List.length_mergeSort]
    refine Nat.le_trans (List.length_filterMap_le _ _) ?_
    rw [List.length_map]
    exact h1
  obtain ⟨Q, hQ⟩ : ∃ Q, stepsRC R = Q := ⟨_, rfl⟩
  obtain ⟨l, hl⟩ : ∃ l, allRC R = l := ⟨_, rfl⟩
  rw [hQ, hl] at hall
  rw [hl] at hal hln
  rw [hQ]
  have hrd : ∀ W, Below w.heap.size w W → ∀ n : Nat, Calls Tryz.prog 76 #[.pointer (some ⟨gs, 0, none⟩), .int .i64 n] W (RReadC W (readRC R n)) := fun W hW n => rcread_any W B p gs R (h.below hW) hf (hs.below hW) n hb
  have HAL := Lib.hid hal; have HALL := Lib.hid hall; have HRD := Lib.hid hrd; have HI0 := Lib.hid hi0; have HZ0 := Lib.hid hz0
  clear h hf hs hb hal hall hQ hl hrd hi0 hz0
  go_enter Tryz.func60, Tryz.ntmps60
  go_wp2_with fail
  refine HAL.out.mono ?_
  rintro e w1 ⟨A, c, rfl, ho1, hb1⟩
  have HSL := Lib.hid (Sl.of_own ho1); have HB1 := Lib.hid hb1
  have hq1 := hb1.size
  clear ho1 hb1 HAL
  go_wp2
  go_loopg [3, 5] l.length (fun gf vo vi wr => ∃ (i : Nat) (Ao : Option Addr) (co : Nat) (m : List Nat), vo = .slice Ao m.length co ∧ vi = .int .i64 i ∧ i + gf = l.length ∧ m = (l.take i).filter (fun n : Nat => decide ((readRC R (n : Int)).1 = 0)) ∧ m.length ≤ i ∧ wr.ownsRow w1.heap.size 3 1 (.slice Ao m.length co) m.length (intsN m) ∧ Below w1.heap.size w1 wr)
  case atStart => exact ⟨0, none, 0, [], rfl, rfl, by omega, rfl, by simp, World.ownsRow_nil _ _ _ _, Below.refl _ _⟩
  case round =>
    obtain ⟨i, Ao, co, m, rfl, rfl, hi, hm, hmi, hown, hB⟩ := hrel
    cases gk with
    | zero =>
      obtain rfl : i = l.length := by omega
      rw [List.take_length, ← HALL.out] at hm
      subst hm
      have HO := Lib.hid (own_mono hown hq1); have HB := Lib.hid (HB1.out.trans (hB.mono hq1))
      clear hown hB
      go_wp2
      go_ret
      exact ⟨Ao, co, rfl, HO.out, HB.out⟩
    | succ gf =>
      have hir : i < l.length := by omega
      have hiI : (i : Int) < (l.length : Int) := by omega
      have hib : decide ((i : Int) < (l.length : Int)) = true := decide_eq_true hiI
      obtain ⟨n, hn⟩ : ∃ n, l[i]? = some n := ⟨_, List.getElem?_eq_getElem hir⟩
      obtain ⟨b, o, rfl, y0⟩ := (HSL.out.below hB).atI hn
      have hr := HRD.out wr (HB1.out.trans (hB.mono hq1)) n
      have hstep : (l.take (i + 1)).filter (fun n : Nat => decide ((readRC R (n : Int)).1 = 0)) = m ++ if (readRC R (n : Int)).1 = 0 then [n] else [] := by
        rw [List.take_add_one, hn, List.filter_append, ← hm]
        congr 1
        by_cases h0 : (readRC R (n : Int)).1 = 0
        · rw [if_pos h0]; simp [h0]
        · rw [if_neg h0]; simp [h0]
      obtain ⟨E, hE⟩ : ∃ E, (readRC R (n : Int)).1 = E := ⟨_, rfl⟩
      obtain ⟨s, hs⟩ : ∃ s, (readRC R (n : Int)).2 = s := ⟨_, rfl⟩
      unfold RReadC at hr
      rw [hE, hs] at hr
      rw [hE] at hstep
      have HR := Lib.hid hr; have HO := Lib.hid hown; have HB := Lib.hid hB; have HST := Lib.hid hstep; have HN := Lib.hid hn
      clear hr hown hB hstep hn hm hE hs
      go_wp2_with fail
      refine HR.out.mono ?_
      rintro e w3 ⟨rfl, hb3⟩
      have HO3 := Lib.hid (ownC_below HO.out hb3); have HB3 := Lib.hid (HB.out.trans (hb3.mono HB.out.size))
      clear hb3 HR HO HB y0
      by_cases h0 : E = 0
      case neg =>
        have h0b : (E == 0) = false := by simpa using h0
        have hst := HST.out
        rw [if_neg h0, List.append_nil] at hst
        have HST2 := Lib.hid hst.symm
        clear h0 hst
        go_wp2
        go_roundg gf
        case measure => omega
        case rel => exact ⟨i + 1, Ao, co, m, rfl, by go_num, by omega, HST2.out, by omega, HO3.out, HB3.out⟩
      subst h0
      have hst := HST.out
      rw [if_pos rfl] at hst
      have HST2 := Lib.hid hst.symm
      obtain ⟨b', o', e', y1⟩ := (HSL.out.below HB3.out).atI HN.out
      injection e' with e'
      injection e' with e1 e2
      subst e1
      subst e2
      have hbs3 := HB3.out.size
      clear hst
      go_upto_region 8 with (fail)
      go_wp2_with (at_builtin; refine wpList_app _ w3 rfl (.tmp 27) (.tmp 32) 34 rfl w1.heap.size 3 i0 (.int .i64 0) 1 8 Tryz.underlying34 HI0.out HZ0.out hz1 hz2 rfl (by decide) (by decide) _ m.length _ rfl HO3 [.int .i64 (n : Int)] rfl rfl rfl _ rfl rfl (by omega) (by omega) ?_; intro v4 w4 h2 h3 h4; have HO4 := Lib.hid h2.out; have HB4 := Lib.hid h4.out; clear h2 h3 h4)
      have hown4 := HO4.out
      rw [show intsN m ++ [.int .i64 (n : Int)] = intsN (m ++ [n]) from (intsN_append m [n]).symm, show m.length + 1 = (m ++ [n]).length from by rw [List.length_append]; rfl] at hown4
      obtain ⟨A4, c4, rfl, -⟩ := own_parts hown4
      have HO5 := Lib.hid hown4
      have hml : (m ++ [n]).length ≤ i + 1 := by rw [List.length_append, List.length_singleton]; omega
      clear hown4 HO4
      go_wp2
      go_roundg gf
      case measure => omega
      case rel => exact ⟨i + 1, A4, c4, m ++ [n], rfl, by go_num, by omega, HST2.out, hml, HO5.out, HB3.out.trans HB4.out⟩
end Go.Proofs.YthmcimpdehgaoaaGreatDoor
namespace Go.Proofs.YthmcimpdehgaoaaGreatDoor
open Go.RowKit Go.Maps

theorem allRC_le {R : RDisk} {n : Nat} (h : n ∈ allRC R) : n ≤ 1073741824 := by
  unfold allRC at h
  rw [List.mem_mergeSort, List.mem_filterMap] at h
  obtain ⟨t, -, h⟩ := h
  exact (stepOf_some.1 h).1
theorem RkOut.own {wa wb : World} {B p : Nat} {R R' : RDisk} (o : RkOut B wa wb p R') (h0 : RkIs wa B p R) {b n : Nat} {v : Value} {xs : List Value} (ho : wa.ownsRow b 3 1 v n xs) : wb.ownsRow b 3 1 v n xs := by
  obtain ⟨vf, vs, hb⟩ := h0.blk
  refine ownC_keep ho fun g cs fz hh => ?_
  exact o.moved.block g (Array.getElem?_eq_some_iff.1 hh).1 (fun e => by subst e; exact blk_type hb hh (by decide)) (by simp)
set_option maxRecDepth 100000 in
set_option maxHeartbeats 16000000 in
theorem rcdrop_any (w : World) (B p gs : Nat) (D : DiskD) (R : RDisk) (h : RkIs w B p R) (hs : RcSt w gs p) (hsim : Sim D R) (hf : FitN D ((allRC R).length + 5)) (below : Int) :
    Calls Tryz.prog 75 #[.pointer (some ⟨gs, 0, none⟩), .int .i64 below] w (RWriteC B w p gs (dropRC R below)) := by
  have hal := rcall_any w B p gs R h (sim_fit hsim hf).len hs
  obtain ⟨vf, vs, hblk⟩ := h.blk
  have c5 := hblk.cell 5
  simp only [List.getElem?_toArray, List.getElem?_cons_zero, List.getElem?_cons_succ] at c5
  have c0 : w.cell? ⟨gs, 0, none⟩ = some (.pointer (some ⟨p, 0, none⟩)) := Blk.cell hs 0
  cases hg : R.gone with
  | true =>
    rw [hg] at c5
    have hq : dropRC R below = (160, R) := by unfold dropRC; rw [if_pos hg]
    rw [hq]
    have H := Lib.hid h; have HS := Lib.hid hs
    clear hal hsim hf h hs hblk hq
    go_enter Tryz.func75, Tryz.ntmps75
    go_wp2
    go_ret
    exact ⟨rfl, RkOut.same H.out, HS.out⟩
  | false =>
  rw [hg] at c5
  have hq : dropRC R below = dropGoR below R (allRC R) := by unfold dropRC; rw [if_neg (by simp [hg])]
  have h30 : ∀ n ∈ allRC R, n ≤ 1073741824 := fun n hn => allRC_le hn
  obtain ⟨l, hl⟩ : ∃ l, allRC R = l := ⟨_, rfl⟩
  rw [hl] at hal hf hq h30
  obtain ⟨Q, hQ⟩ : ∃ Q, dropRC R below = Q := ⟨_, rfl⟩
  rw [hQ] at hq ⊢
  have hfit := hf.files
  have hll : l.length ≤ 10000000 := by omega
  have H := Lib.hid h; have HS := Lib.hid hs; have HAL := Lib.hid hal; have HSIM := Lib.hid hsim; have HF := Lib.hid hf; have HQ := Lib.hid hq; have H30 := Lib.hid h30
  clear hal hsim hf h hs hblk hq hl hQ hg h30 hfit
  go_enter Tryz.func75, Tryz.ntmps75
  go_wp2_with fail
  refine HAL.out.mono ?_
  rintro e w1 ⟨A, c, rfl, ho1, hb1⟩
  have HO1 := Lib.hid ho1; have HK1 := Lib.hid ((RkOut.same H.out).below hb1); have HS1 := Lib.hid (HS.out.below hb1)
  clear ho1 hb1 HAL c0 c5
  go_wp2
  go_loopg [6] l.length (fun gf vi wr => ∃ (i : Nat) (Rc : RDisk) (Dc : DiskD), vi = .int .i64 i ∧ i + gf = l.length ∧ Q = dropGoR below Rc (l.drop i) ∧ RkOut B w wr p Rc ∧ RcSt wr gs p ∧ Sim Dc Rc ∧ FitN Dc (gf + 5) ∧ wr.ownsRow w.heap.size 3 1 (.slice A l.length c) l.length (intsN l))
  case atStart => exact ⟨0, R, D, rfl, by omega, HQ.out, HK1.out, HS1.out, HSIM.out, HF.out, HO1.out⟩
  case round =>
    obtain ⟨i, Rc, Dc, rfl, hi, hq, hk, hs, hsim, hf, hown⟩ := hrel
    cases gk with
    | zero =>
      obtain rfl : i = l.length := by omega
      rw [List.drop_length] at hq
      have HF2 := Lib.hid (show RWriteC B w p gs Q (.returned (.int .i64 0)) wr by rw [hq]; exact ⟨rfl, hk, hs⟩)
      clear hq hk hs hsim hf hown
      go_wp2
      go_ret
      exact HF2.out
    | succ gf =>
      have hir : i < l.length := by omega
      have hiI : (i : Int) < (l.length : Int) := by omega
      have hib : decide ((i : Int) < (l.length : Int)) = true := decide_eq_true hiI
      obtain ⟨n, hn⟩ : ∃ n, l[i]? = some n := ⟨_, List.getElem?_eq_getElem hir⟩
      have hn30 := H30.out n (List.mem_of_getElem? hn)
      obtain ⟨b, o, hA, y0⟩ := (Sl.of_own hown).atI hn
      have hdr : l.drop i = n :: l.drop (i + 1) := by
        rw [List.drop_eq_getElem_cons hir]
        congr 1
        have := List.getElem?_eq_getElem hir
        rw [hn] at this
        injection this with this
        exact this.symm
      rw [hdr, dropGoR] at hq
      subst hA
      by_cases hlt : (n : Int) < below
      case neg =>
        have hltb : decide ((n : Int) < below) = false := decide_eq_false hlt
        rw [if_pos (by omega)] at hq
        have HF2 := Lib.hid (show RWriteC B w p gs Q (.returned (.int .i64 0)) wr by rw [hq]; exact ⟨rfl, hk, hs⟩)
        clear hq hk hs hsim hf hown hdr hn
        go_wp2
        go_ret
        exact HF2.out
      have hltb : decide ((n : Int) < below) = true := decide_eq_true hlt
      rw [if_neg (by omega)] at hq
      have hsr := sim_remove hsim (nameC n)
      have hcst : FitN (Dc.step 3 (nameC n) (nameC n) 0 true).2 (gf + 5) := hf.cst (cst_step hf.left 3 (nameC n) (nameC n) 0 true) (by omega) (by omega) (by omega)
      have hbd := (Below.refl wr.heap.size wr).drew
      have hod := hk.below hbd
      have hsS : ∀ W (st : RcSt W gs p) (ho : W.ownsRow w.heap.size 3 1 (.slice (some ⟨b, o, none⟩) l.length c) l.length (intsN l)), W.cell? ⟨gs, 0, none⟩ = some (.pointer (some ⟨p, 0, none⟩)) ∧ W.cell? ⟨b, o + i, none⟩ = some (.int .i64 (n : Int)) := fun W st ho => ⟨Blk.cell st 0, by
        obtain ⟨b', o', e', y1⟩ := (Sl.of_own ho).atI hn
        injection e' with e'
        injection e' with e1 e2
        subst e1; subst e2
        exact y1⟩
      have hrm := (rremove_any wr.drew B p Rc hod.is (sim_fit hsim hf) (nameC n)).mono (R' := fun e w' => e = .returned (.int .i64 (Rc.remove (nameC n)).1) ∧ RkOut B w w' p (Rc.remove (nameC n)).2 ∧ RcSt w' gs p ∧ w'.ownsRow w.heap.size 3 1 (.slice (some ⟨b, o, none⟩) l.length c) l.length (intsN l)) fun e w' ⟨he, oo⟩ => ⟨he, hod.trans oo, (hs.below hbd).out oo hod.is, RkOut.own oo hod.is (ownC_below hown hbd)⟩
      have hnm := fun W : World => rcname_any W n (by omega)
      obtain ⟨x1, hx1⟩ : ∃ x1, Rc.remove (nameC n) = x1 := ⟨_, rfl⟩
      rw [hx1] at hq hsr hrm
      obtain ⟨E, R2⟩ := x1
      obtain ⟨nm, hnme⟩ : ∃ nm, nameC n = nm := ⟨_, rfl⟩
      rw [hnme] at hnm hrm hsr hcst
      have HKA := Lib.hid (hsS wr.drew (hs.below hbd) (ownC_below hown hbd)); have HSS := Lib.hid hsS
      have HQ2 := Lib.hid hq; have HRM := Lib.hid hrm; have HNM := Lib.hid hnm; have HSR := Lib.hid hsr; have HC2 := Lib.hid hcst
      clear hq hk hs hsim hf hown hdr hn hsr hcst hbd hod hsS hrm hnm hx1 hnme
      go_upto_region 7 with (fail)
      go_region_held3 (fun w' => w'.cell? ⟨gs, 0, none⟩ = some (.pointer (some ⟨p, 0, none⟩)) ∧ w'.cell? ⟨b, o + i, none⟩ = some (.int .i64 (n : Int))) (first | exact HKC.out | exact HKA.out) (first | (go_at_call 110; (with_reducible refine (HNM.out _).mono ?_); rintro e w6 ⟨rfl, rfl⟩) | (go_at_call 58; (with_reducible refine HRM.out.mono ?_); rintro e w6 ⟨rfl, ha6, hs6, ho6⟩; have HKC := Lib.hid (HSS.out w6 hs6 ho6); have HA6 := Lib.hid ha6; have HS6 := Lib.hid hs6; have HO6 := Lib.hid ho6; clear ha6 hs6 ho6))
      by_cases hE : E = 0
      case neg =>
        have hEb : (E != 0) = true := by simpa using hE
        have hq2 := HQ2.out
        rw [if_pos hE] at hq2
        have HF2 := Lib.hid (show RWriteC B w p gs Q (.returned (.int .i64 E)) w6 by rw [hq2]; exact ⟨rfl, HA6.out, HS6.out⟩)
        clear hE hq2 y0
        go_wp2
        go_ret
        exact HF2.out
      subst hE
      have hq2 := HQ2.out
      rw [if_neg (by simp)] at hq2
      have HQ3 := Lib.hid hq2
      clear hq2 y0
      go_wp2
      go_roundg gf
      case measure => omega
      case rel => exact ⟨i + 1, R2, _, by go_num, by omega, HQ3.out, HA6.out, HS6.out, HSR.out.2, HC2.out, HO6.out⟩
set_option maxRecDepth 100000 in
set_option maxHeartbeats 4000000 in
theorem rcwrite_any [Forb] (w : World) (B p gs : Nat) (D : DiskD) (R : RDisk) (h : RkIs w B p R) (hs : RcSt w gs p) (hsim : Sim D R) (hf : FitN D 200) (ht : Forb.top ≤ w.heap.size) (step : Int) (b : ByteArray) (hb : b.size ≤ 9900) :
    Calls Tryz.prog 77 #[.pointer (some ⟨gs, 0, none⟩), .int .i64 step, .string b] w (RWriteC B w p gs (writeRC R step b)) := by
  have HM := Lib.hid (rcmay_any w step)
  by_cases hr : step < 0 ∨ 1073741824 < step
  · have hq : writeRC R step b = (2, R) := by unfold writeRC; rw [if_pos hr]
    rw [hq]
    rw [decide_eq_false (by omega)] at HM
    have H := Lib.hid h; have HS := Lib.hid hs
    clear h hs hsim hf hq hr
    go_enter Tryz.func77, Tryz.ntmps77
    go_wp2_with fail
    refine HM.out.mono ?_
    rintro e w1 ⟨rfl, rfl⟩
    go_wp2
    go_ret
    exact ⟨rfl, RkOut.same H.out, HS.out⟩
  obtain ⟨n, rfl⟩ : ∃ n : Nat, step = (n : Int) := ⟨step.toNat, by omega⟩
  have hq : writeRC R n b = if R.gone = true then (160, R) else ((w4C R n b).1, w5C (w4C R n b)) := by
    unfold writeRC
    rw [if_neg hr, if_neg (by omega)]
    rfl
  rw [hq]
  cases hg : R.gone with
  | false =>
    rw [if_neg (by simp)]
    exact rcwrite_yes w B p gs D R h hs hsim hf ht n (by omega) b hb hg
  | true =>
    rw [if_pos rfl]
    rw [decide_eq_true ⟨by omega, by omega⟩] at HM
    obtain ⟨vf, vs, hblk⟩ := h.blk
    have c5 := hblk.cell 5
    simp only [List.getElem?_toArray, List.getElem?_cons_zero, List.getElem?_cons_succ] at c5
    rw [hg] at c5
    have c0 : w.cell? ⟨gs, 0, none⟩ = some (.pointer (some ⟨p, 0, none⟩)) := Blk.cell hs 0
    have hbI : ¬ (4194304 : Int) < (b.size : Int) := by omega
    have H := Lib.hid h; have HS := Lib.hid hs
    clear h hs hsim hf hq hr hblk hg
    go_enter Tryz.func77, Tryz.ntmps77
    go_wp2_with fail
    refine HM.out.mono ?_
    rintro e w1 ⟨rfl, rfl⟩
    go_wp2
    go_ret
    exact ⟨rfl, RkOut.same H.out, HS.out⟩
end Go.Proofs.YthmcimpdehgaoaaGreatDoor
namespace Go.Proofs.YthmcimpdehgaoaaGreatDoor
open Go.RowKit Go.Maps

/-- what an opening leaves -/
def ROpenC (B : Nat) (w : World) (p : Nat) (R : RDisk) (e : Ending) (w' : World) : Prop :=
  RkOut B w w' p (openRC R).2 ∧ (((openRC R).1 ≠ 0 ∧ e = .returned (.tuple #[.pointer none, .int .i64 (openRC R).1])) ∨
    ((openRC R).1 = 0 ∧ ∃ gs, e = .returned (.tuple #[.pointer (some ⟨gs, 0, none⟩), .int .i64 0]) ∧ w.heap.size ≤ gs ∧ RcSt w' gs p))
set_option maxHeartbeats 2000000 in
theorem rcopen_any (w : World) (B p : Nat) (R : RDisk) (h : RkIs w B p R) (hf : RFit R) :
    Calls Tryz.prog 22 #[.pointer (some ⟨p, 0, none⟩)] w (ROpenC B w p R) := by
  have hb1 := (Below.refl w.heap.size w).alloc (Nat.le_refl _) (.cells #[.pointer (some ⟨p, 0, none⟩)] 96)
  have ho1 : RkOut B w (w.alloc (.cells #[.pointer (some ⟨p, 0, none⟩)] 96)) p R := (RkOut.same h).below hb1
  have hst : RcSt (w.alloc (.cells #[.pointer (some ⟨p, 0, none⟩)] 96)) w.heap.size p := Blk.new w _ _
  obtain ⟨vf, vs, hblk⟩ := ho1.is.blk
  have c5 := hblk.cell 5
  simp only [List.getElem?_toArray, List.getElem?_cons_zero, List.getElem?_cons_succ] at c5
  clear hblk
  cases hg : R.gone with
  | true =>
    have hcl : openRC R = (160, R) := by unfold openRC; rw [if_pos hg]
    have HFIN := Lib.hid (show ROpenC B w p R (.returned (.tuple #[.pointer none, .int .i64 160])) (w.alloc (.cells #[.pointer (some ⟨p, 0, none⟩)] 96)) from ⟨by rw [hcl]; exact ho1, .inl ⟨by rw [hcl]; show (160 : Int) ≠ 0; decide, by rw [hcl]⟩⟩)
    rw [hg] at c5
    clear h hb1 ho1 hst hcl hg hf
    go_enter Tryz.func22, Tryz.ntmps22
    go_wp2
    go_ret2
    exact HFIN.out
  | false =>
    have hcl : openRC R = clearRC R := by unfold openRC; rw [if_neg (by simp [hg])]
    have HTH := Lib.hid (rcthere_any _ B p w.heap.size R ho1.is hf hst ⟨#[99, 107, 46, 116, 109, 112]⟩)
    have HRM := Lib.hid (rremove_any _ B p R ho1.is hf ⟨#[99, 107, 46, 116, 109, 112]⟩)
    have hcr : clearRC R = if (R.read ⟨#[99, 107, 46, 116, 109, 112]⟩).1 = 0 then R.remove ⟨#[99, 107, 46, 116, 109, 112]⟩ else (0, R) := rfl
    rw [hg] at c5
    by_cases hr : (R.read ⟨#[99, 107, 46, 116, 109, 112]⟩).1 = 0
    case neg =>
      rw [if_neg hr] at hcr
      rw [decide_eq_false hr] at HTH
      have HFIN := Lib.hid (show ROpenC B w p R (.returned (.tuple #[.pointer (some ⟨w.heap.size, 0, none⟩), .int .i64 0])) (w.alloc (.cells #[.pointer (some ⟨p, 0, none⟩)] 96)) from ⟨by rw [hcl, hcr]; exact ho1, .inr ⟨by rw [hcl, hcr], w.heap.size, rfl, Nat.le_refl _, hst⟩⟩)
      clear h hb1 ho1 hst hcl hg hcr hr hf
      go_enter Tryz.func22, Tryz.ntmps22
      go_wp2_with fail
      refine HTH.out.mono ?_
      rintro e w2 ⟨rfl, rfl⟩
      clear HTH HRM
      go_wp2
      go_ret2
      exact HFIN.out
    case pos =>
      rw [if_pos hr] at hcr
      rw [decide_eq_true hr] at HTH
      obtain ⟨x, hx⟩ : ∃ x, R.remove ⟨#[99, 107, 46, 116, 109, 112]⟩ = x := ⟨_, rfl⟩
      rw [hx] at HRM hcr
      obtain ⟨E, R2⟩ := x
      have HFIN := Lib.hid (fun (w2 : World) (o2 : RkOut B (w.alloc (.cells #[.pointer (some ⟨p, 0, none⟩)] 96)) w2 p R2) =>
        show (E ≠ 0 → ROpenC B w p R (.returned (.tuple #[.pointer none, .int .i64 E])) w2) ∧ (E = 0 → ROpenC B w p R (.returned (.tuple #[.pointer (some ⟨w.heap.size, 0, none⟩), .int .i64 0])) w2) from
        ⟨fun h0 => ⟨by rw [hcl, hcr]; exact ho1.trans o2, .inl ⟨by rw [hcl, hcr]; exact h0, by rw [hcl, hcr]⟩⟩, fun h0 => ⟨by rw [hcl, hcr]; exact ho1.trans o2, .inr ⟨by rw [hcl, hcr]; exact h0, w.heap.size, rfl, Nat.le_refl _, hst.out o2 ho1.is⟩⟩⟩)
      clear h hb1 ho1 hst hcl hg hcr hr hx hf
      dsimp only at HRM
      go_enter Tryz.func22, Tryz.ntmps22
      go_wp2_with fail
      refine HTH.out.mono ?_
      rintro e w2 ⟨rfl, rfl⟩
      clear HTH
      go_wp2_with fail
      refine HRM.out.mono ?_
      rintro e w2 ⟨rfl, o2⟩
      have HF2 := Lib.hid (HFIN.out w2 o2)
      clear o2 HRM HFIN c5
      by_cases h0 : E = 0
      · have HG := Lib.hid (HF2.out.2 h0)
        have hb : (E != 0) = false := by simp [h0]
        clear h0 HF2
        go_wp2
        go_ret2
        exact HG.out
      · have HG := Lib.hid (HF2.out.1 h0)
        have hb : (E != 0) = true := by simp [h0]
        clear h0 HF2
        go_wp2
        go_ret2
        exact HG.out
end Go.Proofs.YthmcimpdehgaoaaGreatDoor
namespace Go.Proofs.YthmcimpdehgaoaaGreatDoor
open Go.RowKit

def RDisk.cut (R : RDisk) (name : ByteArray) (n : Int) : Int × RDisk :=
  if R.refused name name true ≠ 0 then (R.refused name name true, R)
  else if n < 0 ∨ ((R.got name).size : Int) < n then (2, R) else R.both name ((R.got name).extract 0 n.toNat)
theorem sim_cut {D : DiskD} {R : RDisk} (h : Sim D R) (t : ByteArray) (n : Int) : (D.step 1 t t n false).1 = (R.cut t n).1 ∧ Sim (D.step 1 t t n false).2 (R.cut t n).2 := by
  unfold DiskD.step RDisk.cut RDisk.refused RDisk.both RDisk.got
  rw [asked2, h.off]
  cases hoff : D.off with
  | true => simp; exact h
  | false =>
    cases hb : badN t with
    | true => simp; exact h
    | false =>
      rcases sim_there h t with ⟨i, f, h1, h2, h3, h4, h5, h6⟩ | ⟨h1, _, h3, _⟩
      · rw [h1, h6]
        obtain ⟨hs, hp, hp2⟩ := sim_power h hoff
        simp only [Bool.false_eq_true, if_false, ne_eq, not_true_eq_false, Option.isSome_some, Option.getD_some]
        by_cases hn : n < 0 ∨ (f.b.size : Int) < n
        · simp [hn]
          exact h
        · obtain ⟨m, rfl⟩ : ∃ m : Nat, n = (m : Int) := ⟨n.toNat, by omega⟩
          have hm : m ≤ f.b.size := by omega
          rw [if_neg hn, if_neg hn, hp, Int.toNat_natCast]
          rcases hp2 with hp2 | hp2
          · rw [hp2]
            simp only [decide_true, if_true]
            refine ⟨by simp, ?_⟩
            have hd := (does_safe h.sorted h2 m t (.inr (rfl : (1 : Int) = 1))).1
            rw [hd]
            have hz : ((f.b.extract 0 m).size : Int) = (m : Int) := by rw [ByteArray.size_extract]; omega
            have := sim_both h (g := ⟨f.name, f.b.extract 0 m, m⟩) hz.symm (h.good f h4) hs
            rw [← h3]
            simpa using this
          · rw [hp2]
            simp only [show ¬ (160 : Int) = 0 by decide, decide_false, if_false, Bool.false_eq_true]
            refine ⟨by simp, ?_⟩
            simpa using hs
      · rw [h1, h3]
        simp
        exact h
section
variable (w : World) (B p : Nat) (R : RDisk) (h : RkIs w B p R) (hf : RFit R)
include h hf
set_option maxRecDepth 100000 in
set_option maxHeartbeats 4000000 in
theorem rcut_any (name : ByteArray) (n : Int) : Calls Tryz.prog 31 #[.pointer (some ⟨p, 0, none⟩), .string name, .int .i64 n] w fun e w' => e = .returned (.int .i64 (R.cut name n).1) ∧ RkOut B w w' p (R.cut name n).2 := by
  have hrf := rrefused_any w B p R h hf name name true
  obtain ⟨-, vf, vs, hb, hfl, -⟩ := id h
  have c0 := hb.cell 0
  simp only [List.getElem?_toArray, List.getElem?_cons_zero] at c0
  have hg := rget_any w vf R.files hfl hf.len name
  obtain ⟨q, hq⟩ : ∃ q, R.cut name n = q := ⟨_, rfl⟩
  rw [hq]
  unfold RDisk.cut RDisk.got at hq
  obtain ⟨E, hE⟩ : ∃ E, R.refused name name true = E := ⟨_, rfl⟩
  obtain ⟨gs, hgs⟩ : ∃ gs, (getP R.files name).isSome = gs := ⟨_, rfl⟩
  obtain ⟨gd, hgd⟩ : ∃ gd, (getP R.files name).getD ByteArray.empty = gd := ⟨_, rfl⟩
  have hbo := rboth_any w B p R h hf name
  rw [hE] at hrf hq
  rw [hgs, hgd] at hg
  rw [hgd] at hq
  have HRF := Lib.hid hrf; have HG := Lib.hid hg; have HQ := Lib.hid hq; have H := Lib.hid h; have HBO := Lib.hid hbo
  clear hrf hg hq h hf hE hgs hgd hb hfl hbo
  go_enter Tryz.func31, Tryz.ntmps31
  go_wp2_with fail
  refine HRF.out.mono ?_
  rintro e w' ⟨rfl, rfl⟩
  by_cases hE : E = 0
  case neg =>
    have hEb : (E != 0) = true := by simpa using hE
    have hq := HQ.out
    rw [if_pos hE] at hq
    have HQ := Lib.hid hq
    clear hq hE
    go_wp2
    go_ret
    exact ⟨by rw [← HQ.out]; rfl, by rw [← HQ.out]; exact RkOut.same H.out⟩
  subst hE
  have hq := HQ.out
  rw [if_neg (by simp)] at hq
  have HQ := Lib.hid hq
  clear hq
  go_wp2_with fail
  refine HG.out.mono ?_
  rintro e w' ⟨gv, rfl, hgv, rfl⟩
  obtain ⟨A, c, rfl, hgc, hgb⟩ := id hgv.1
  have HBT := Lib.hid hgv.1
  clear hgv hgb
  by_cases hn0 : n < 0
  · have hd0 : decide (n < 0) = true := decide_eq_true hn0
    have hq := HQ.out
    rw [if_pos (.inl hn0)] at hq
    have HQ := Lib.hid hq
    clear hq
    go_wp2
    go_ret
    exact ⟨by rw [← HQ.out]; rfl, by rw [← HQ.out]; exact RkOut.same H.out⟩
  have hd0 : decide (n < 0) = false := decide_eq_false hn0
  by_cases hn1 : (gd.size : Int) < n
  · have hd1 : decide ((gd.size : Int) < n) = true := decide_eq_true hn1
    have hq := HQ.out
    rw [if_pos (.inr hn1)] at hq
    have HQ := Lib.hid hq
    clear hq
    go_wp2
    go_ret
    exact ⟨by rw [← HQ.out]; rfl, by rw [← HQ.out]; exact RkOut.same H.out⟩
  have hq := HQ.out
  rw [if_neg (by omega)] at hq
  obtain ⟨m, rfl⟩ : ∃ m : Nat, n = (m : Int) := ⟨n.toNat, by omega⟩
  rw [Int.toNat_natCast] at hq
  have hm : m ≤ gd.size := by omega
  have hmc : m ≤ c := by omega
  have hmI : (m : Int) ≤ (c : Int) := by omega
  have hd1 : decide ((gd.size : Int) < (m : Int)) = false := decide_eq_false hn1
  have hcut := (HBT.out.cut m hm)
  have hsz : (gd.extract 0 m).size = m := by rw [ByteArray.size_extract]; omega
  have hcut2 : Bt w (.slice A m c) (gd.extract 0 m) := by
    obtain ⟨A2, c2, e2, h2, h3⟩ := hcut
    injection e2 with e2 e3 e4
    subst e2
    exact ⟨A, c, by rw [hsz], by omega, h3⟩
  have HQ := Lib.hid hq
  have HB2 := Lib.hid (HBO.out _ _ hcut2.o)
  clear hq hcut hcut2 hsz
  go_wp2_with fail
  refine HB2.out.mono ?_
  rintro e w1 ⟨rfl, ho1⟩
  have HO := Lib.hid ho1
  clear ho1
  go_wp2
  go_ret
  exact ⟨by rw [← HQ.out]; rfl, by rw [← HQ.out]; exact HO.out⟩
end
end Go.Proofs.YthmcimpdehgaoaaGreatDoor
