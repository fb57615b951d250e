/- Chapter 16's alike: two disks of the same files show the same. -/
import Derived.Test.YtcfcfpphhaknnaaTkE
namespace Go.Proofs.Ytcfcfpphhaknnaa
open Go.RowKit Go.Maps

set_option maxRecDepth 100000 in
set_option maxHeartbeats 8000000 in
theorem alike_true (w : World) (B p B2 q : Nat) (v v2 : Value) (D M : DiskD) (h : DiskIs w B p v D) (h2 : DiskIs w B2 q v2 M) (hf : Fit D) (hf2 : Fit M) (he : M.files = D.files) (ho : M.off = D.off) (hu : usedL D.files ≤ 1000000000000) :
    Calls Try.prog 37 #[.pointer (some ⟨p, 0, none⟩), .pointer (some ⟨q, 0, none⟩)] w fun e w' => e = .returned (.bool true) ∧ Below w.heap.size w w' := by
  have hN := names_any w B p v D h hf.len
  have hN2 := fun (W : World) (hW : Below w.heap.size w W) => names_any W B2 q v2 M (h2.below hW (Nat.le_refl _)) hf2.len
  have hU := fun (W : World) (hW : Below w.heap.size w W) => used_any W B p v D (h.below hW (Nat.le_refl _)) (by have := hf.len; omega) hu
  have hU2 := fun (W : World) (hW : Below w.heap.size w W) => used_any W B2 q v2 M (h2.below hW (Nat.le_refl _)) (by have := hf2.len; omega) (by show usedL M.files ≤ _; rw [he]; exact hu)
  have hO := fun (W : World) (hW : Below w.heap.size w W) => offD_any W B p v D (h.below hW (Nat.le_refl _))
  have hO2 := fun (W : World) (hW : Below w.heap.size w W) => offD_any W B2 q v2 M (h2.below hW (Nat.le_refl _))
  have hR := fun (W : World) (hW : Below w.heap.size w W) (n : ByteArray) => d_read (h := h.below hW (Nat.le_refl _)) hf (name := n) (E := (D.read n).1) (b := (D.read n).2) rfl
  have hR2 := fun (W : World) (hW : Below w.heap.size w W) (n : ByteArray) => d_read (h := h2.below hW (Nat.le_refl _)) hf2 (name := n) (E := (M.read n).1) (b := (M.read n).2) rfl
  have hrd : ∀ n, M.read n = D.read n := fun n => by
    unfold DiskD.read DiskD.asked
    rw [he, ho]
  have hus : M.used = D.used := by unfold DiskD.used; rw [he]
  have hlen : D.files.length ≤ 100000000 := hf.len
  simp only [hrd] at hR2
  rw [he] at hN2
  rw [hus] at hU2
  rw [ho] at hO2
  obtain ⟨U, hUU⟩ : ∃ U, D.used = U := ⟨_, rfl⟩
  obtain ⟨off, hoff⟩ : ∃ off, D.off = off := ⟨_, rfl⟩
  obtain ⟨L, hL⟩ : ∃ L, D.files = L := ⟨_, rfl⟩
  obtain ⟨N, hNN⟩ : ∃ N, L.length = N := ⟨_, rfl⟩
  rw [hUU] at hU hU2
  rw [hoff] at hO hO2
  rw [hL, hNN] at hN hN2
  rw [hL, hNN] at hlen
  have hba : ∀ b : ByteArray, (b.toList == b.toList) = true := fun b => by simp
  have HN := Lib.hid hN; have HN2 := Lib.hid hN2; have HU := Lib.hid hU; have HU2 := Lib.hid hU2; have HO := Lib.hid hO; have HO2 := Lib.hid hO2; have HR := Lib.hid hR; have HR2 := Lib.hid hR2; have HNN := Lib.hid hNN
  clear h h2 hf hf2 he ho hu hN hN2 hU hU2 hO hO2 hR hR2 hrd hus hUU hoff hL hNN
  go_enter Try.func37, Try.ntmps37
  go_wp2_with fail
  (with_reducible refine HN.out.mono ?_)
  rintro e w1 ⟨An, cn, rfl, hrn, hb1⟩
  have HC := Lib.hid (HN2.out w1 hb1)
  have HRN := Lib.hid hrn; have HB1 := Lib.hid hb1
  clear hrn hb1 HN HN2
  go_wp2_with fail
  (with_reducible refine HC.out.mono ?_)
  rintro e w2 ⟨Am, cm, rfl, hrm, hb2⟩
  have HB2 := Lib.hid (HB1.out.trans (hb2.mono HB1.out.size)); have HRM := Lib.hid hrm; have HRN2 := Lib.hid (HRN.out.below hb2)
  have HC1 := Lib.hid (HU.out w2 HB2.out)
  clear hrm hb2 HRN HC HB1
  go_wp2_with fail
  (with_reducible refine HC1.out.mono ?_)
  rintro e w3 ⟨rfl, hb3⟩
  have HB3 := Lib.hid (HB2.out.trans (hb3.mono HB2.out.size))
  have HC2 := Lib.hid (HU2.out w3 HB3.out)
  have HB23 := Lib.hid hb3
  clear hb3 HC1
  go_wp2_with fail
  (with_reducible refine HC2.out.mono ?_)
  rintro e w4 ⟨rfl, hb4⟩
  have HB4 := Lib.hid (HB3.out.trans (hb4.mono HB3.out.size))
  have HB24 := Lib.hid (HB23.out.trans (hb4.mono HB23.out.size))
  have HC3 := Lib.hid (HO.out w4 HB4.out)
  have HC4 := Lib.hid (HO2.out w4 HB4.out)
  clear hb4 HC2
  go_wp2_with fail
  (with_reducible refine HC3.out.mono ?_)
  rintro e w5 ⟨rfl, rfl⟩
  go_wp2_with fail
  (with_reducible refine HC4.out.mono ?_)
  rintro e w5 ⟨rfl, rfl⟩
  clear HC3 HC4 HU HU2 HO HO2
  go_wp2
  go_loopg [7] N (fun gf vi wr => ∃ i : Nat, vi = .int .i64 i ∧ i + gf = N ∧ Below w2.heap.size w2 wr)
  case atStart => exact ⟨0, rfl, by omega, HB24.out⟩
  case round =>
    obtain ⟨i, rfl, hi, hb⟩ := hrel
    have HBW := Lib.hid (HB2.out.trans (hb.mono HB2.out.size))
    cases gk with
    | zero =>
      obtain rfl : i = N := by omega
      clear hb hi
      go_wp2
      go_ret
      exact ⟨rfl, HBW.out⟩
    | succ gf =>
      obtain ⟨f, hfi⟩ : ∃ f, L[i]? = some f := ⟨_, List.getElem?_eq_getElem (by rw [HNN.out]; omega)⟩
      obtain ⟨ad, u, rfl, hu, hcn⟩ := (HRN2.out.below hb).at_ (k := i) (by omega)
      obtain ⟨ad2, u2, rfl, hu2, hcm⟩ := (HRM.out.below hb).at_ (k := i) (by omega)
      rw [List.getElem?_map, hfi] at hu hu2
      injection hu with hu
      injection hu2 with hu2
      subst hu hu2
      obtain ⟨nm, hnm⟩ : ∃ nm, f.name = nm := ⟨_, rfl⟩
      dsimp only at hcn hcm
      rw [hnm] at hcn hcm
      have HC := Lib.hid (HR.out wr HBW.out nm)
      have HC2 := Lib.hid (fun W hW => HR2.out W hW nm)
      obtain ⟨E, hE⟩ : ∃ E, (D.read nm).1 = E := ⟨_, rfl⟩
      obtain ⟨T, hT⟩ : ∃ T, (D.read nm).2 = T := ⟨_, rfl⟩
      rw [hE, hT] at HC HC2
      have hadl : ad.block < wr.heap.size := by
        obtain ⟨ad9, hA9, hlt9, _⟩ := (HRN2.out.below hb).2 (by omega)
        injection hA9 with hA9
        rw [hA9]; exact hlt9
      have hadl2 : ad2.block < wr.heap.size := by
        obtain ⟨ad9, hA9, hlt9, _⟩ := (HRM.out.below hb).2 (by omega)
        injection hA9 with hA9
        rw [hA9]; exact hlt9
      have hiI : (i : Int) < (N : Int) := by omega
      have HCN := Lib.hid hcn; have HCM := Lib.hid hcm; have HAL := Lib.hid hadl; have HAL2 := Lib.hid hadl2; have HB := Lib.hid hb
      clear hfi hnm hE hT hb hadl hadl2 hcm
      go_wp2_with fail
      (with_reducible refine HC.out.mono ?_)
      rintro e w5 ⟨bv, rfl, hbt, hb5⟩
      have HD := Lib.hid (HC2.out w5 (HBW.out.trans (hb5.mono HBW.out.size)))
      have hcm := (hb5.cell (p := ad2.add i) (by rw [block_of_add]; exact HAL2.out)).trans HCM.out
      have HBT := Lib.hid hbt; have HB5 := Lib.hid hb5
      clear hbt hb5 hcn HC HC2
      go_wp2_with fail
      (with_reducible refine HD.out.mono ?_)
      rintro e w6 ⟨bv2, rfl, hbt2, hb6⟩
      have hb56 := HB5.out.trans (hb6.mono HB5.out.size)
      have yn := (hb56.cell (p := ad.add i) (by rw [block_of_add]; exact HAL.out)).trans HCN.out
      have ym := (hb56.cell (p := ad2.add i) (by rw [block_of_add]; exact HAL2.out)).trans HCM.out
      have hcv1 := fun k => (show Bt (w6.drewN k) bv T from HBT.out.below (hb6.trans ((drewN_below w6 k).mono hb6.size))).conv
      have hcv2 := fun k => (show Bt (w6.drewN k) bv2 T from hbt2).conv
      have HB6 := Lib.hid (fun k => (HB.out.trans (hb56.mono HB.out.size)).trans ((drewN_below w6 k).mono (Nat.le_trans HB.out.size hb56.size)))
      clear hcm hbt2 hb6 hb56 HD
      go_wp2_with fail
      go_quiet (fail)
      go_wp2
      go_roundg gf
      case measure => omega
      case rel => exact ⟨i + 1, by go_num, by omega, HB6.out _⟩
end Go.Proofs.Ytcfcfpphhaknnaa
