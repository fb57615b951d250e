/- The law's own 'tells': both stores tell the same of themselves. -/
import Derived.Test.YthmcimpdehgaoaaGreatDoorPk32
import Derived.Test.YthmcimpdehgaoaaGreatDoorPk21
import Derived.Deep.DeepCutAuto
namespace Go.Proofs.YthmcimpdehgaoaaGreatDoor
open Go.RowKit Go.Maps

set_option maxRecDepth 100000 in
set_option maxHeartbeats 16000000 in
theorem ctells_any (w : World) (B p q gs gr : Nat) (v : Value) (D : DiskD) (R : RDisk) (hd : DiskIs w B p v D) (hr : RkIs w B q R) (hs : CkSt w gs p) (ht : RcSt w gr q) (hsim : Sim D R) (hf : FitN D 1) (hnm : ∀ f ∈ D.files, f.name.size ≤ 1000) (hb : ∀ t, (R.read t).2.size ≤ 9900) (hT : Tb w.heap.size w) (hV : Ev w.heap.size w) :
    Calls Tryz.prog 24 #[.pointer (some ⟨gs, 0, none⟩), .pointer (some ⟨gr, 0, none⟩)] w fun e w' => e = .returned (.bool true) ∧ Below w.heap.size w w' := by
  have h1 := csteps_any w B p gs v D hd hs hf.fit hnm hT hV
  have h2 := fun W (hW : Below w.heap.size w W) => rcsteps_any W B q gr R (hr.below hW) (sim_fit hsim hf) (ht.below hW) hb
  have h3 := fun W (hW : Below w.heap.size w W) => cnewest_any W B p gs v D (hd.below hW (Nat.le_refl _)) (hs.below hW) hf.fit hnm (hT.at_ hW) (hV.at_ hW)
  rw [← sim_stepsC hsim] at h2
  simp only [newestC_eq] at h3
  have hll : (stepsC D).length ≤ 100000000 := by
    have h0 := (sim_fit hsim hf).len
    rw [sim_stepsC hsim]
    unfold stepsRC allRC
    refine Nat.le_trans (List.length_filter_le _ _) ?_
    rw [List.length_mergeSort]
    refine Nat.le_trans (List.length_filterMap_le _ _) ?_
    rw [List.length_map]
    exact h0
  obtain ⟨l, hl⟩ : ∃ l, stepsC D = l := ⟨_, rfl⟩
  rw [hl] at hll
  rw [hl] at h1
  simp only [hl] at h2 h3
  have HS1 := Lib.hid h1; have HS2 := Lib.hid h2; have HS3 := Lib.hid h3
  clear h1 h2 h3 hd hr hs ht hsim hf hnm hb hT hV hl
  go_enter Tryz.func24, Tryz.ntmps24
  go_wp2_with fail
  refine HS1.out.mono ?_
  rintro e w1 ⟨v5, rfl, ho5, hb1⟩
  obtain ⟨A5, c5, rfl⟩ := own_shape ho5
  have HO5 := Lib.hid ho5; have HB1 := Lib.hid hb1; have HSX := Lib.hid (HS2.out w1 hb1)
  clear ho5 hb1 HS1 HS2
  go_wp2_with fail
  refine HSX.out.mono ?_
  rintro e w2 ⟨A6, c6, rfl, ho6, hb2⟩
  have HO5b := Lib.hid (ownC_below HO5.out hb2); have HO6 := Lib.hid ho6; have HB2 := Lib.hid (HB1.out.trans (hb2.mono HB1.out.size)); have HSY := Lib.hid (HS3.out w2 (HB1.out.trans (hb2.mono HB1.out.size)))
  clear ho6 hb2 HO5 HB1 HSX HS3
  go_wp2_with fail
  refine HSY.out.mono ?_
  rintro e w3 ⟨rfl, hb3⟩
  have HR5 := Lib.hid (Sl.of_own (ownC_below HO5b.out hb3)); have HR6 := Lib.hid (Sl.of_own (ownC_below HO6.out hb3)); have HB3 := Lib.hid (HB2.out.trans (hb3.mono HB2.out.size))
  clear hb3 HO5b HO6 HB2 HSY
  obtain ⟨N, hN⟩ : ∃ N, (newL l).1 = N := ⟨_, rfl⟩
  obtain ⟨O, hO⟩ : ∃ O, (newL l).2 = O := ⟨_, rfl⟩
  rw [hN, hO]
  have HN := Lib.hid hN; have HO := Lib.hid hO
  clear hN hO
  go_upto_region 3 with (fail)
  go_cut [51] (fun s51 wx => s51 = .bool false ∧ w3 = wx)
  case first =>
    as_aux_lemma =>
    cases hlx : l.getLast? with
    | none =>
      obtain rfl : l = [] := List.getLast?_eq_none_iff.1 hlx
      have h0 : ([] : List Nat).length = 0 := rfl
      obtain rfl : N = 0 := by rw [← HN.out]; rfl
      obtain rfl : O = false := by rw [← HO.out]; rfl
      clear hlx HR5 HR6 HN HO
      go_wp2
      go_meet
      exact ⟨rfl, rfl⟩
    | some x =>
      have hlen : 0 < l.length := by
        cases l with
        | nil => cases hlx
        | cons a l => simp
      have hx : l[l.length - 1]? = some x := by rw [← hlx, List.getLast?_eq_getElem?]
      obtain ⟨b, o, rfl, y1⟩ := HR6.out.atI hx
      obtain rfl : N = (x : Int) := by rw [← HN.out]; unfold newL; rw [hlx]
      obtain rfl : O = true := by rw [← HO.out]; unfold newL; rw [hlx]
      have hk1 : ((l.length - 1 : Nat) : Int) = (l.length : Int) - 1 := by omega
      have hlI : (0 : Int) < (l.length : Int) := by omega
      have hlb : decide ((0 : Int) < (l.length : Int)) = true := decide_eq_true hlI
      clear hx hlx HR5 HR6 HN HO
      go_wp2
      go_meet
      exact ⟨rfl, rfl⟩
  case rest =>
  as_aux_lemma =>
  obtain ⟨rfl, rfl⟩ := hcut
  go_wp2
  go_loopg [9] l.length (fun gf vi wr => ∃ i : Nat, vi = .int .i64 i ∧ i + gf = l.length ∧ Below w3.heap.size w3 wr)
  case atStart => exact ⟨0, rfl, by omega, Below.refl _ _⟩
  case round =>
    obtain ⟨i, rfl, hi, hB⟩ := hrel
    cases gk with
    | zero =>
      obtain rfl : i = l.length := by omega
      have HB := Lib.hid (HB3.out.trans (hB.mono HB3.out.size))
      clear hB
      go_wp2
      go_ret
      exact ⟨rfl, HB.out⟩
    | succ gf =>
      have hir : i < l.length := by omega
      have hiI : (i : Int) < (l.length : Int) := by omega
      have hib : decide ((i : Int) < (l.length : Int)) = true := decide_eq_true hiI
      obtain ⟨n, hn⟩ : ∃ n, l[i]? = some n := ⟨_, List.getElem?_eq_getElem hir⟩
      obtain ⟨b5, o5, rfl, y5⟩ := (HR5.out.below hB).atI hn
      obtain ⟨b6, o6, rfl, y6⟩ := (HR6.out.below hB).atI hn
      have HB := Lib.hid hB
      clear hB hn
      go_upto_region 8 with (fail)
      go_quiet (fail)
      go_wp2
      go_roundg gf
      case measure => omega
      case rel => exact ⟨i + 1, by go_num, by omega, below_drewN HB.out _⟩
end Go.Proofs.YthmcimpdehgaoaaGreatDoor
