/- Chapter 16's shows: a disk shows just the files that the other one has. -/
import Derived.Test.YtcfcfpphhaknnaaTkB
import Derived.BigQuiet
namespace Go.Proofs.Ytcfcfpphhaknnaa
open Go.RowKit Go.Maps

theorem read_at {D : DiskD} {R : RDisk} (h : Sim D R) {i : Nat} {f : FileD} (hi : D.files[i]? = some f) : D.read f.name = if D.off = true then (160, ByteArray.empty) else (0, f.b) := by
  have hf := List.mem_of_getElem? hi
  unfold DiskD.read
  rw [asked1, h.good f hf]
  cases hoff : D.off with
  | true => simp
  | false =>
    rcases sim_there h f.name with ⟨j, f', h1, h2, h3, h4, h5, h6⟩ | ⟨_, _, _, h4⟩
    · rw [h5]
      have h7 := getP_mem h.sorted hf
      rw [← h.files, h6] at h7
      injection h7 with h7
      simp [List.getD_eq_getElem?_getD, h2, h7]
    · exact absurd rfl (h4 f hf)
theorem drewN_below (w : World) (n : Nat) : Below w.heap.size w (w.drewN n) := ⟨rfl, rfl, rfl, Nat.le_refl _, fun _ _ => rfl⟩
set_option maxRecDepth 100000 in
set_option maxHeartbeats 8000000 in
theorem shows_true (w : World) (B p : Nat) (v : Value) (D : DiskD) (R : RDisk) (h : DiskIs w B p v D) (hf : Fit D) (hs : Sim D R) (hu : usedL D.files ≤ 1000000000000) (vl : Value) (hl : RFs w vl (seenL D.files)) :
    Calls Try.prog 40 #[.pointer (some ⟨p, 0, none⟩), vl] w fun e w' => e = .returned (.bool true) ∧ Below w.heap.size w w' := by
  obtain ⟨rows, hr, he⟩ := hl
  have hlen : rows.length = D.files.length := by have := congrArg List.length he; simpa [seenL] using this
  obtain ⟨A, c, rfl, -⟩ := id hr
  have hrow : ∀ (i : Nat) (f : FileD), D.files[i]? = some f → ∀ x, rows[i]? = some x → x.1 = f.name ∧ x.2.2 = f.b := fun i f hi x hx => by
    have h9 : (rows.map rpr)[i]? = (seenL D.files)[i]? := by rw [he]
    unfold seenL at h9
    rw [List.getElem?_map, List.getElem?_map, hx, hi] at h9
    injection h9 with h9
    injection h9 with h9 h8
    exact ⟨h9, h8⟩
  have hN := names_any w B p v D h hf.len
  have hUS := fun (W : World) (hW : Below w.heap.size w W) => used_any W B p v D (h.below hW (Nat.le_refl _)) (by have := hf.len; omega) hu
  have hRDD := fun (W : World) (hW : Below w.heap.size w W) (i : Nat) (f : FileD) (hi : D.files[i]? = some f) => d_read (h := h.below hW (Nat.le_refl _)) hf (name := f.name) (E := (if D.off = true then (160, ByteArray.empty) else ((0 : Int), f.b)).1) (b := (if D.off = true then (160, ByteArray.empty) else ((0 : Int), f.b)).2) (read_at hs hi)
  have hOFF := fun (W : World) (hW : Below w.heap.size w W) (n : Nat) => offD_any (W.drewN n) B p v D ((h.below hW (Nat.le_refl _)).below (drewN_below W n) (Nat.le_refl _))
  have hDN : D.files.length ≤ 100000000 := hf.len
  have hsz : ∀ f ∈ D.files, f.b.size ≤ 1000000000 := hf.size
  have hut : ∀ i, usedL (D.files.take i) ≤ 1000000000000 := fun i => by
    have h8 : usedL D.files = usedL (D.files.take i) + usedL (D.files.drop i) := by
      unfold usedL
      rw [← List.sum_append, ← List.map_append, List.take_append_drop]
    omega
  have hus : D.used = usedL D.files := rfl
  obtain ⟨L, hL⟩ : ∃ L, D.files = L := ⟨_, rfl⟩
  obtain ⟨off, hoff⟩ : ∃ off, D.off = off := ⟨_, rfl⟩
  rw [hL] at hN hlen hrow hDN hsz hut hus
  rw [hus] at hUS
  rw [hL, hoff] at hRDD
  rw [hoff] at hOFF
  obtain ⟨N, hNN⟩ : ∃ N, L.length = N := ⟨_, rfl⟩
  rw [hNN] at hN hlen hDN
  rw [hlen]
  have HR := Lib.hid hr; have HRW := Lib.hid hrow; have HUS := Lib.hid hUS; have HRD := Lib.hid hRDD; have HOFF := Lib.hid hOFF; have HN := Lib.hid hN; have HUT := Lib.hid hut; have HSZ := Lib.hid hsz; have HNN := Lib.hid hNN
  have HLEN := Lib.hid hlen
  rw [hlen] at HR
  have hba : ∀ b : ByteArray, (b.toList == b.toList) = true := fun b => by simp
  clear h hf hs hu hr he hrow hUS hRDD hOFF hN hut hsz hus hL hoff hNN hlen
  go_enter Try.func40, Try.ntmps40
  go_wp2_with fail
  (with_reducible refine HN.out.mono ?_)
  rintro e w1 ⟨An, cn, rfl, hrn, hb1⟩
  have HRN := Lib.hid hrn; have HB1 := Lib.hid hb1
  clear hrn hb1 HN
  go_wp2
  go_loopg [6, 7] N (fun gf v6 v7 wr => ∃ (i M : Nat), v6 = .int .i64 M ∧ v7 = .int .i64 i ∧ M = usedL (L.take i) ∧ i + gf = N ∧ Below w1.heap.size w1 wr)
  case atStart => exact ⟨0, 0, rfl, rfl, rfl, by omega, Below.refl _ _⟩
  case round =>
    obtain ⟨i, M, rfl, rfl, hM, hi, hb⟩ := hrel
    have HBW := Lib.hid (HB1.out.trans (hb.mono HB1.out.size))
    cases gk with
    | zero =>
      obtain rfl : i = N := by omega
      rw [← HNN.out, List.take_length] at hM
      rw [hM]
      have HU := Lib.hid (HUS.out wr HBW.out)
      clear hb hM hi
      go_wp2_with fail
      (with_reducible refine HU.out.mono ?_)
      rintro e w2 ⟨rfl, hb2⟩
      have HB2 := Lib.hid (HBW.out.trans (hb2.mono HBW.out.size))
      clear hb2
      go_wp2
      go_ret
      exact ⟨by simp, HB2.out⟩
    | succ gf =>
      obtain ⟨f, hfi⟩ : ∃ f, L[i]? = some f := ⟨_, List.getElem?_eq_getElem (by rw [HNN.out]; omega)⟩
      obtain ⟨b, oo, rfl, hlt, nm, A', c', bb, hx, x0, x1, hbt⟩ := (HR.out.keep (KeepF.of_below HBW.out)).at_ (i := i) (by rw [HLEN.out]; omega)
      obtain ⟨e1, e2⟩ := HRW.out i f hfi _ hx
      dsimp only at e1 e2
      subst e1 e2
      obtain ⟨ad, u, rfl, hu, hcn⟩ := (HRN.out.below hb).at_ (k := i) (by omega)
      rw [List.getElem?_map, hfi] at hu
      injection hu with hu
      subst hu
      have hM1 : usedL (L.take (i + 1)) = M + f.b.size := by rw [usedL_take L i f hfi, hM]
      have hut := HUT.out (i + 1)
      rw [hM1] at hut
      have HM1 := Lib.hid hM1; have HX0 := Lib.hid x0; have HX1 := Lib.hid x1; have HBT := Lib.hid hbt; have HCN := Lib.hid hcn; have HLT := Lib.hid hlt
      have HC := Lib.hid (HRD.out wr HBW.out i f hfi)
      have hiI : (i : Int) < (N : Int) := by omega
      have hMI : (M : Int) + (f.b.size : Int) ≤ 1000000000000 := by omega
      have HB := Lib.hid hb
      have hadl : ad.block < wr.heap.size := by
        obtain ⟨ad2, hA2, hlt2, _⟩ := (HRN.out.below hb).2 (by omega)
        injection hA2 with hA2
        rw [hA2]; exact hlt2
      have HAL := Lib.hid hadl
      clear hx hbt hlt hM hM1 hfi hb hadl
      go_wp2_with fail
      (with_reducible refine HC.out.mono ?_)
      rintro e w2 ⟨bv2, rfl, hbt2, hb2⟩
      have y0 := (hb2.cell (p := ⟨b, oo + i * 2, none⟩) HLT.out).trans HX0.out
      have y1 := (hb2.cell (p := ⟨b, oo + i * 2 + 1, none⟩) HLT.out).trans HX1.out
      have yn := (hb2.cell (p := ad.add i) (by rw [block_of_add]; exact HAL.out)).trans HCN.out
      have hcv2 := fun k => (show Bt (w2.drewN k) (.slice A' f.b.size c') f.b from HBT.out.below (hb2.trans ((drewN_below w2 k).mono hb2.size))).conv
      have HO := Lib.hid (HOFF.out w2 (HBW.out.trans (hb2.mono HBW.out.size)))
      have HB3 := Lib.hid (fun k => (HB.out.trans (hb2.mono HB.out.size)).trans ((drewN_below w2 k).mono (Nat.le_trans HB.out.size hb2.size)))
      cases off with
      | true =>
        clear x0 x1 hcn hb2 hbt2
        simp only [if_true]
        go_wp2_with fail
        go_quiet ((go_at_call 22; exact Calls.quiet_of_same (HO.out _)))
        go_wp2
        go_roundg gf
        case measure => omega
        case rel => exact ⟨i + 1, M + f.b.size, by go_num, by go_num, HM1.out.symm, by omega, HB3.out _⟩
      | false =>
        simp only [Bool.false_eq_true, if_false] at hbt2 ⊢
        have hcv1 := fun k => (show Bt (w2.drewN k) bv2 f.b from hbt2).conv
        clear x0 x1 hcn hb2 hbt2
        go_wp2_with fail
        go_quiet ((go_at_call 22; exact Calls.quiet_of_same (HO.out _)))
        go_wp2
        go_roundg gf
        case measure => omega
        case rel => exact ⟨i + 1, M + f.b.size, by go_num, by go_num, HM1.out.symm, by omega, HB3.out _⟩
end Go.Proofs.Ytcfcfpphhaknnaa
