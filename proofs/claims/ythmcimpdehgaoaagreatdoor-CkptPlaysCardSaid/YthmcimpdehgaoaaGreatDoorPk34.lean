/- The reference's store of checkpoints: Open. The reference's disk: Cut, Used; the two disks stay alike behind a Cut. -/
import Derived.Test.YthmcimpdehgaoaaGreatDoorPk19
import Derived.Test.YthmcimpdehgaoaaGreatDoorRkE
import Derived.Deep.DeepCutAuto
import Derived.Test.YthmcimpdehgaoaaGreatDoorRkP
namespace Go.Proofs.YthmcimpdehgaoaaGreatDoor
open Go.RowKit Go.Maps

/-- what an opening leaves -/
def ROpenC (B : Nat) (w : World) (p : Nat) (R : RDisk) (e : Ending) (w' : World) : Prop :=
  RkOut B w w' p (openRC R).2 ∧ (((openRC R).1 ≠ 0 ∧ e = .returned (.tuple #[.pointer none, .int .i64 (openRC R).1])) ∨
    ((openRC R).1 = 0 ∧ ∃ gs, e = .returned (.tuple #[.pointer (some ⟨gs, 0, none⟩), .int .i64 0]) ∧ w.heap.size ≤ gs ∧ RcSt w' gs p))
set_option maxHeartbeats 2000000 in
theorem rcopen_any (w : World) (B p : Nat) (R : RDisk) (h : RkIs w B p R) (hf : RFit R) :
    Calls Tryz.prog 22 #[.pointer (some ⟨p, 0, none⟩)] w (ROpenC B w p R) := by
  have hb1 := (Below.refl w.heap.size w).alloc (Nat.le_refl _) (.cells #[.pointer (some ⟨p, 0, none⟩)] 96)
  have ho1 : RkOut B w (w.alloc (.cells #[.pointer (some ⟨p, 0, none⟩)] 96)) p R := (RkOut.same h).below hb1
  have hst : RcSt (w.alloc (.cells #[.pointer (some ⟨p, 0, none⟩)] 96)) w.heap.size p := Blk.new w _ _
  obtain ⟨vf, vs, hblk⟩ := ho1.is.blk
  have c5 := hblk.cell 5
  simp only [List.getElem?_toArray, List.getElem?_cons_zero, List.getElem?_cons_succ] at c5
  clear hblk
  cases hg : R.gone with
  | true =>
    have hcl : openRC R = (160, R) := by unfold openRC; rw [if_pos hg]
    have HFIN := Lib.hid (show ROpenC B w p R (.returned (.tuple #[.pointer none, .int .i64 160])) (w.alloc (.cells #[.pointer (some ⟨p, 0, none⟩)] 96)) from ⟨by rw [hcl]; exact ho1, .inl ⟨by rw [hcl]; show (160 : Int) ≠ 0; decide, by rw [hcl]⟩⟩)
    rw [hg] at c5
    clear h hb1 ho1 hst hcl hg hf
    go_enter Tryz.func22, Tryz.ntmps22
    go_wp2
    go_ret2
    exact HFIN.out
  | false =>
    have hcl : openRC R = clearRC R := by unfold openRC; rw [if_neg (by simp [hg])]
    have HTH := Lib.hid (rcthere_any _ B p w.heap.size R ho1.is hf hst ⟨#[99, 107, 46, 116, 109, 112]⟩)
    have HRM := Lib.hid (rremove_any _ B p R ho1.is hf ⟨#[99, 107, 46, 116, 109, 112]⟩)
    have hcr : clearRC R = if (R.read ⟨#[99, 107, 46, 116, 109, 112]⟩).1 = 0 then R.remove ⟨#[99, 107, 46, 116, 109, 112]⟩ else (0, R) := rfl
    rw [hg] at c5
    by_cases hr : (R.read ⟨#[99, 107, 46, 116, 109, 112]⟩).1 = 0
    case neg =>
      rw [if_neg hr] at hcr
      rw [decide_eq_false hr] at HTH
      have HFIN := Lib.hid (show ROpenC B w p R (.returned (.tuple #[.pointer (some ⟨w.heap.size, 0, none⟩), .int .i64 0])) (w.alloc (.cells #[.pointer (some ⟨p, 0, none⟩)] 96)) from ⟨by rw [hcl, hcr]; exact ho1, .inr ⟨by rw [hcl, hcr], w.heap.size, rfl, Nat.le_refl _, hst⟩⟩)
      clear h hb1 ho1 hst hcl hg hcr hr hf
      go_enter Tryz.func22, Tryz.ntmps22
      go_wp2_with fail
      refine HTH.out.mono ?_
      rintro e w2 ⟨rfl, rfl⟩
      clear HTH HRM
      go_wp2
      go_ret2
      exact HFIN.out
    case pos =>
      rw [if_pos hr] at hcr
      rw [decide_eq_true hr] at HTH
      obtain ⟨x, hx⟩ : ∃ x, R.remove ⟨#[99, 107, 46, 116, 109, 112]⟩ = x := ⟨_, rfl⟩
      rw [hx] at HRM hcr
      obtain ⟨E, R2⟩ := x
      have HFIN := Lib.hid (fun (w2 : World) (o2 : RkOut B (w.alloc (.cells #[.pointer (some ⟨p, 0, none⟩)] 96)) w2 p R2) =>
        show (E ≠ 0 → ROpenC B w p R (.returned (.tuple #[.pointer none, .int .i64 E])) w2) ∧ (E = 0 → ROpenC B w p R (.returned (.tuple #[.pointer (some ⟨w.heap.size, 0, none⟩), .int .i64 0])) w2) from
        ⟨fun h0 => ⟨by rw [hcl, hcr]; exact ho1.trans o2, .inl ⟨by rw [hcl, hcr]; exact h0, by rw [hcl, hcr]⟩⟩, fun h0 => ⟨by rw [hcl, hcr]; exact ho1.trans o2, .inr ⟨by rw [hcl, hcr]; exact h0, w.heap.size, rfl, Nat.le_refl _, hst.out o2 ho1.is⟩⟩⟩)
      clear h hb1 ho1 hst hcl hg hcr hr hx hf
      dsimp only at HRM
      go_enter Tryz.func22, Tryz.ntmps22
      go_wp2_with fail
      refine HTH.out.mono ?_
      rintro e w2 ⟨rfl, rfl⟩
      clear HTH
      go_wp2_with fail
      refine HRM.out.mono ?_
      rintro e w2 ⟨rfl, o2⟩
      have HF2 := Lib.hid (HFIN.out w2 o2)
      clear o2 HRM HFIN c5
      by_cases h0 : E = 0
      · have HG := Lib.hid (HF2.out.2 h0)
        have hb : (E != 0) = false := by simp [h0]
        clear h0 HF2
        go_wp2
        go_ret2
        exact HG.out
      · have HG := Lib.hid (HF2.out.1 h0)
        have hb : (E != 0) = true := by simp [h0]
        clear h0 HF2
        go_wp2
        go_ret2
        exact HG.out
end Go.Proofs.YthmcimpdehgaoaaGreatDoor
namespace Go.Proofs.YthmcimpdehgaoaaGreatDoor
open Go.RowKit

def RDisk.cut (R : RDisk) (name : ByteArray) (n : Int) : Int × RDisk :=
  if R.refused name name true ≠ 0 then (R.refused name name true, R)
  else if n < 0 ∨ ((R.got name).size : Int) < n then (2, R) else R.both name ((R.got name).extract 0 n.toNat)
theorem sim_cut {D : DiskD} {R : RDisk} (h : Sim D R) (t : ByteArray) (n : Int) : (D.step 1 t t n false).1 = (R.cut t n).1 ∧ Sim (D.step 1 t t n false).2 (R.cut t n).2 := by
  unfold DiskD.step RDisk.cut RDisk.refused RDisk.both RDisk.got
  rw [asked2, h.off]
  cases hoff : D.off with
  | true => simp; exact h
  | false =>
    cases hb : badN t with
    | true => simp; exact h
    | false =>
      rcases sim_there h t with ⟨i, f, h1, h2, h3, h4, h5, h6⟩ | ⟨h1, _, h3, _⟩
      · rw [h1, h6]
        obtain ⟨hs, hp, hp2⟩ := sim_power h hoff
        simp only [Bool.false_eq_true, if_false, ne_eq, not_true_eq_false, Option.isSome_some, Option.getD_some]
        by_cases hn : n < 0 ∨ (f.b.size : Int) < n
        · simp [hn]
          exact h
        · obtain ⟨m, rfl⟩ : ∃ m : Nat, n = (m : Int) := ⟨n.toNat, by omega⟩
          have hm : m ≤ f.b.size := by omega
          rw [if_neg hn, if_neg hn, hp, Int.toNat_natCast]
          rcases hp2 with hp2 | hp2
          · rw [hp2]
            simp only [decide_true, if_true]
            refine ⟨by simp, ?_⟩
            have hd := (does_safe h.sorted h2 m t (.inr (rfl : (1 : Int) = 1))).1
            rw [hd]
            have hz : ((f.b.extract 0 m).size : Int) = (m : Int) := by rw [ByteArray.size_extract]; omega
            have := sim_both h (g := ⟨f.name, f.b.extract 0 m, m⟩) hz.symm (h.good f h4) hs
            rw [← h3]
            simpa using this
          · rw [hp2]
            simp only [show ¬ (160 : Int) = 0 by decide, decide_false, if_false, Bool.false_eq_true]
            refine ⟨by simp, ?_⟩
            simpa using hs
      · rw [h1, h3]
        simp
        exact h
section
variable (w : World) (B p : Nat) (R : RDisk) (h : RkIs w B p R) (hf : RFit R)
include h hf
set_option maxRecDepth 100000 in
set_option maxHeartbeats 4000000 in
theorem rcut_any (name : ByteArray) (n : Int) : Calls Tryz.prog 31 #[.pointer (some ⟨p, 0, none⟩), .string name, .int .i64 n] w fun e w' => e = .returned (.int .i64 (R.cut name n).1) ∧ RkOut B w w' p (R.cut name n).2 := by
  have hrf := rrefused_any w B p R h hf name name true
  obtain ⟨-, vf, vs, hb, hfl, -⟩ := id h
  have c0 := hb.cell 0
  simp only [List.getElem?_toArray, List.getElem?_cons_zero] at c0
  have hg := rget_any w vf R.files hfl hf.len name
  obtain ⟨q, hq⟩ : ∃ q, R.cut name n = q := ⟨_, rfl⟩
  rw [hq]
  unfold RDisk.cut RDisk.got at hq
  obtain ⟨E, hE⟩ : ∃ E, R.refused name name true = E := ⟨_, rfl⟩
  obtain ⟨gs, hgs⟩ : ∃ gs, (getP R.files name).isSome = gs := ⟨_, rfl⟩
  obtain ⟨gd, hgd⟩ : ∃ gd, (getP R.files name).getD ByteArray.empty = gd := ⟨_, rfl⟩
  have hbo := rboth_any w B p R h hf name
  rw [hE] at hrf hq
  rw [hgs, hgd] at hg
  rw [hgd] at hq
  have HRF := Lib.hid hrf; have HG := Lib.hid hg; have HQ := Lib.hid hq; have H := Lib.hid h; have HBO := Lib.hid hbo
  clear hrf hg hq h hf hE hgs hgd hb hfl hbo
  go_enter Tryz.func31, Tryz.ntmps31
  go_wp2_with fail
  refine HRF.out.mono ?_
  rintro e w' ⟨rfl, rfl⟩
  by_cases hE : E = 0
  case neg =>
    have hEb : (E != 0) = true := by simpa using hE
    have hq := HQ.out
    rw [if_pos hE] at hq
    have HQ := Lib.hid hq
    clear hq hE
    go_wp2
    go_ret
    exact ⟨by rw [← HQ.out]; rfl, by rw [← HQ.out]; exact RkOut.same H.out⟩
  subst hE
  have hq := HQ.out
  rw [if_neg (by simp)] at hq
  have HQ := Lib.hid hq
  clear hq
  go_wp2_with fail
  refine HG.out.mono ?_
  rintro e w' ⟨gv, rfl, hgv, rfl⟩
  obtain ⟨A, c, rfl, hgc, hgb⟩ := id hgv.1
  have HBT := Lib.hid hgv.1
  clear hgv hgb
  by_cases hn0 : n < 0
  · have hd0 : decide (n < 0) = true := decide_eq_true hn0
    have hq := HQ.out
    rw [if_pos (.inl hn0)] at hq
    have HQ := Lib.hid hq
    clear hq
    go_wp2
    go_ret
    exact ⟨by rw [← HQ.out]; rfl, by rw [← HQ.out]; exact RkOut.same H.out⟩
  have hd0 : decide (n < 0) = false := decide_eq_false hn0
  by_cases hn1 : (gd.size : Int) < n
  · have hd1 : decide ((gd.size : Int) < n) = true := decide_eq_true hn1
    have hq := HQ.out
    rw [if_pos (.inr hn1)] at hq
    have HQ := Lib.hid hq
    clear hq
    go_wp2
    go_ret
    exact ⟨by rw [← HQ.out]; rfl, by rw [← HQ.out]; exact RkOut.same H.out⟩
  have hq := HQ.out
  rw [if_neg (by omega)] at hq
  obtain ⟨m, rfl⟩ : ∃ m : Nat, n = (m : Int) := ⟨n.toNat, by omega⟩
  rw [Int.toNat_natCast] at hq
  have hm : m ≤ gd.size := by omega
  have hmc : m ≤ c := by omega
  have hmI : (m : Int) ≤ (c : Int) := by omega
  have hd1 : decide ((gd.size : Int) < (m : Int)) = false := decide_eq_false hn1
  have hcut := (HBT.out.cut m hm)
  have hsz : (gd.extract 0 m).size = m := by rw [ByteArray.size_extract]; omega
  have hcut2 : Bt w (.slice A m c) (gd.extract 0 m) := by
    obtain ⟨A2, c2, e2, h2, h3⟩ := hcut
    injection e2 with e2 e3 e4
    subst e2
    exact ⟨A, c, by rw [hsz], by omega, h3⟩
  have HQ := Lib.hid hq
  have HB2 := Lib.hid (HBO.out _ _ hcut2.o)
  clear hq hcut hcut2 hsz
  go_wp2_with fail
  refine HB2.out.mono ?_
  rintro e w1 ⟨rfl, ho1⟩
  have HO := Lib.hid ho1
  clear ho1
  go_wp2
  go_ret
  exact ⟨by rw [← HQ.out]; rfl, by rw [← HQ.out]; exact HO.out⟩
end
end Go.Proofs.YthmcimpdehgaoaaGreatDoor
