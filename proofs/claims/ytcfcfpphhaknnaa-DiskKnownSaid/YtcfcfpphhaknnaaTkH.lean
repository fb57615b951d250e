/- Chapter 16's law DiskFails: its walk. -/
import Derived.Test.YtcfcfpphhaknnaaTkG
namespace Go.Proofs.Ytcfcfpphhaknnaa
open Go.RowKit Go.Maps

set_option maxRecDepth 100000 in
set_option maxHeartbeats 16000000 in
theorem fails_true (w0 : World) (quota : Int) (A : Option Addr) (c : Nat) (l : List CallD) (hA0 : CallsT w0 A l) (hF0 : FewT 40 l) (a : Nat) (ha : a ≤ 255) (AK : Option Addr) (ck : Nat) (keep : List Int) (hK0 : Rd w0 1 AK keep.length (keep.map (Value.int .i64))) (hkl : keep.length ≤ 40) :
    Calls Try.prog 24 #[.int .i64 quota, .slice A l.length c, .int .u8 a, .slice AK keep.length ck] w0 fun e w' => e = .returned (.bool true) ∧ Below w0.heap.size w0 w' := by
  have hl := few_true w0 A c l 40 hA0 hF0 (by decide)
  simp only [Int.cast_ofNat_Int] at hl
  have HL := Lib.hid hl; have HA0 := Lib.hid hA0; have HF := Lib.hid hF0; have HK0 := Lib.hid hK0
  have hkI : ¬ (40 : Int) < (keep.length : Int) := by omega
  obtain ⟨a5, ha5⟩ : ∃ a5, a % 50 = a5 := ⟨_, rfl⟩
  have hat : ((a : Int).tmod 50) = (a5 : Int) := by rw [← ha5]; rw [Int.tmod_eq_emod_of_nonneg (by omega)]; omega
  have ha50 : a5 ≤ 49 := by omega
  clear hl hA0 hF0 hK0 ha5
  go_enter Try.func24, Try.ntmps24
  go_wp2_with fail
  refine HL.out.mono ?_
  rintro e w ⟨rfl, hb0⟩
  have HB0 := Lib.hid hb0; have HA := Lib.hid (HA0.out.below hb0); have HK := Lib.hid (HK0.out.below hb0)
  clear hb0 HL HA0 HK0
  go_wp2_with fail
  refine (new_any quota _).mono ?_
  rintro e w1 ⟨rfl, hd1, hb1⟩
  have HD1 := Lib.hid hd1; have HB1 := Lib.hid hb1
  clear hd1 hb1
  go_wp2_with fail
  refine (new_any quota _).mono ?_
  rintro e w2 ⟨rfl, hd2, hb2⟩
  have h2 : FlS w w2 w.heap.size w1.heap.size (.slice none 0 0) (.slice none 0 0) ⟨[], max 0 quota, 0, -1, false⟩ ⟨[], max 0 quota, 0, -1, false⟩ := ⟨HD1.out.below hb2 (Nat.le_refl _), hd2.mono HB1.out.size, apart_new HD1.out hd2, HB1.out.trans (hb2.mono HB1.out.size)⟩
  obtain ⟨p, hp⟩ : ∃ p, w.heap.size = p := ⟨_, rfl⟩
  obtain ⟨q, hq⟩ : ∃ q, w1.heap.size = q := ⟨_, rfl⟩
  rw [hp, hq] at h2
  rw [hp, hq]
  have HC := Lib.hid (failD_c h2.is h2.below.size (a5 : Int) rfl)
  have H2 := Lib.hid h2
  clear h2 hd2 hb2 HD1 HB1 hp hq
  have hmx : max (-1) (a5 : Int) = a5 := by omega
  have hwr : IntKind.i64.wrap (a5 : Int) = a5 := IntWalk.i64_in _ (by omega)
  go_wp2_with fail
  refine HC.out.mono ?_
  rintro e w3 ⟨rfl, v3, o3⟩
  rw [hmx] at o3
  have H3 := Lib.hid (H2.out.outD o3)
  clear o3 HC H2
  go_wp2
  go_loopg [10, 11, 12] l.length (fun gf v10 v11 vi wr => ∃ (i u q : Nat) (v vq : Value) (D M : DiskD) (gone : Bool), v10 = .pointer (some ⟨q, 0, none⟩) ∧ v11 = .bool gone ∧ vi = .int .i64 i ∧ i + gf = l.length ∧ FlS w wr p q v vq D M ∧ (∃ R, Sim D R) ∧ (∃ R, Sim M R) ∧ StG a5 gone D M ∧ BudT D i u ∧ BudT M i u ∧ u = sumT (l.take i))
  case atStart => exact ⟨0, 0, q, _, _, _, _, false, rfl, rfl, rfl, by omega, H3.out, ⟨_, (by have h := sim_fail (sim_new quota) (a5 : Int); rw [hmx] at h; exact h)⟩, ⟨_, sim_new quota⟩, ⟨[], max 0 quota, 0, rfl, .inl ⟨rfl, by show (⟨_, _, _, _, _⟩ : DiskD) = _; rw [Int.sub_zero], by omega⟩⟩, ⟨by show (0 : Int) ≤ 0; decide, by show (0 : Int) ≤ _; decide, Nat.le_refl _, Nat.le_refl _, by show (-1 : Int) ≤ (a5 : Int); omega, by show (a5 : Int) ≤ _; omega⟩, bud_newT quota, rfl⟩
  case round =>
    clear H3
    obtain ⟨i, u, q, v, vq, D, M, gone, rfl, rfl, rfl, hi, hfl, ⟨RD, hsd⟩, ⟨RM, hsm⟩, hst, hbd, hbm, hu⟩ := hrel
    have hu4 : u ≤ 4000 := by rw [hu]; exact Nat.le_trans (sumT_le l i) HF.out.sum
    have hl50 := HF.out.len
    cases gk with
    | zero =>
      obtain rfl : i = l.length := by omega
      as_aux_lemma =>
      have hof := offD_any wr _ p v D hfl.is
      rw [hst.off] at hof
      have HO := Lib.hid hof
      have hfd := hbd.fit (by omega) (by omega); have hfm := hbm.fit (by omega) (by omega)
      have HFL := Lib.hid hfl; have HSD := Lib.hid hsd; have HSM := Lib.hid hsm; have HST := Lib.hid hst; have HFD := Lib.hid hfd; have HFM := Lib.hid hfm
      clear hof hfl hsd hsm hst hbd hbm hu hi hfd hfm
      go_wp2_with fail
      refine HO.out.mono ?_
      rintro e w4 ⟨rfl, rfl⟩
      have HC := Lib.hid (d_crash HFL.out.is HFL.out.below.size rfl)
      clear HO
      go_wp2_with fail
      refine HC.out.mono ?_
      rintro e w5 ⟨rfl, v5, o5⟩
      have h5 := HFL.out.outD o5
      have HC5 := Lib.hid (d_crash h5.im h5.below.size rfl); have H5 := Lib.hid h5
      clear o5 h5 HC HFL
      go_wp2_with fail
      refine HC5.out.mono ?_
      rintro e w6 ⟨rfl, v6, o6⟩
      have h6 := H5.out.outM o6
      have HC6 := Lib.hid (d_on0 (c := ck) h6.is h6.below.size HFD.out.crash.fit (sim_crash HSD.out).ok (HK.out.below h6.below) (rd_blockT HK.out h6.is.1) (by omega) rfl); have H6 := Lib.hid h6
      clear o6 h6 HC5 H5
      go_wp2_with fail
      refine HC6.out.mono ?_
      rintro e w7 ⟨rfl, v7, o7⟩
      have h7 := H6.out.outD o7
      have HC7 := Lib.hid (d_on0 (c := ck) h7.im h7.below.size HFM.out.crash.fit (sim_crash HSM.out).ok (HK.out.below h7.below) (rd_blockT HK.out h7.im.1) (by omega) rfl); have H7 := Lib.hid h7
      clear o7 h7 HC6 H6
      go_wp2_with fail
      refine HC7.out.mono ?_
      rintro e w8 ⟨rfl, v8, o8⟩
      have h8 := H7.out.outM o8
      have hon := HST.out.on keep
      have hf1 := HFD.out.crash.onT keep; have hf2 := HFM.out.crash.onT keep
      have HC8 := Lib.hid (alike_true _ _ _ _ _ _ _ _ _ h8.is h8.im hf1.fit hf2.fit hon.1 hon.2 (by have := hf1.used; unfold DiskD.used at this; omega)); have HB8 := Lib.hid h8.below
      clear o8 h8 HC7 H7 hon hf1 hf2
      go_wp2_with fail
      refine HC8.out.mono ?_
      rintro e w9 ⟨rfl, hb9⟩
      have HB9 := Lib.hid (HB8.out.trans (hb9.mono HB8.out.size))
      clear hb9 HC8
      go_wp2_with fail
      refine (works_any _).mono ?_
      rintro e w10 ⟨rfl, hb10⟩
      have HB10 := Lib.hid (HB0.out.trans ((HB9.out.trans (hb10.mono HB9.out.size)).mono HB0.out.size))
      clear hb10
      go_wp2
      go_ret
      exact ⟨rfl, HB10.out⟩
    | succ gf =>
      obtain ⟨x, hx⟩ : ∃ x, l[i]? = some x := ⟨_, List.getElem?_eq_getElem (by omega)⟩
      obtain ⟨bb, oo, rfl, hlt, hcl⟩ := HA.out (by omega)
      have hcx := hcl i x hx
      obtain ⟨A1, cc1, hb1, hbt⟩ := hcx.bs
      obtain ⟨A2, cc2, hk1, hrd⟩ := hcx.keep
      have hiI : (i : Int) < (l.length : Int) := by omega
      have tr := fun j => hfl.below.cell (p := ⟨bb, j, none⟩) hlt
      have x0 : wr.cell? ⟨bb, oo + i * 6, none⟩ = some (.int .u8 x.kind) := (tr _).trans hcx.k
      have x1 : wr.cell? ⟨bb, oo + i * 6 + 1, none⟩ = some (.string x.name) := (tr _).trans hcx.name
      have x2 : wr.cell? ⟨bb, oo + i * 6 + 2, none⟩ = some (.string x.dst) := (tr _).trans hcx.dst
      have x3 : wr.cell? ⟨bb, oo + i * 6 + 3, none⟩ = some (.slice A1 x.b.size cc1) := (tr _).trans hb1
      have x4 : wr.cell? ⟨bb, oo + i * 6 + 4, none⟩ = some (.int .i64 x.n) := (tr _).trans hcx.n
      have x5 : wr.cell? ⟨bb, oo + i * 6 + 5, none⟩ = some (.slice A2 x.keep.length cc2) := (tr _).trans hk1
      have hkb := hcx.kb; have hnb := hcx.nb
      have hxm := List.mem_of_getElem? hx
      have hu1 : u + x.b.size = sumT (l.take (i + 1)) := by rw [sumT_take l i x hx, hu]
      have hxs := HF.out.size x hxm; have hxk := HF.out.keep x hxm
      have HU1 := Lib.hid hu1; have HBT := Lib.hid hbt; have HRD := Lib.hid hrd
      have hkz := Blk.new wr 50 #[.int .u8 0, .string ⟨#[]⟩, .string ⟨#[]⟩, .slice none 0 0, .int .i64 0, .slice none 0 0]
      have hkc := hkz.setRowR #[.int .u8 x.kind, .string x.name, .string x.dst, .slice A1 x.b.size cc1, .int .i64 x.n, .slice A2 x.keep.length cc2]
      have hone : (#[.int .u8 x.kind, .string x.name, .string x.dst, .slice A1 x.b.size cc1, .int .i64 x.n, .slice A2 x.keep.length cc2] : Array Value).all (·.oneCell') = true := by simp [Value.oneCell']
      have hbc := below_rowR ((Below.refl wr.heap.size wr).alloc (Nat.le_refl _) (.cells #[.int .u8 0, .string ⟨#[]⟩, .string ⟨#[]⟩, .slice none 0 0, .int .i64 0, .slice none 0 0] 50)) (Nat.le_refl _) #[.int .u8 x.kind, .string x.name, .string x.dst, .slice A1 x.b.size cc1, .int .i64 x.n, .slice A2 x.keep.length cc2]
      have hfl4 := hfl.below_ hbc
      have HKZ := Lib.hid hkz; have HKC := Lib.hid hkc; have HONE := Lib.hid hone; have HFL := Lib.hid hfl4; have HSD := Lib.hid hsd; have HSM := Lib.hid hsm; have HST := Lib.hid hst; have HBD := Lib.hid hbd; have HBM := Lib.hid hbm
      clear hx hcl hcx hb1 hk1 hbt hrd tr hkz hkc hone hbc hfl hfl4 hsd hsm hst hbd hbm hu hu1 hxm
      go_upto_region 10 with (first | (refine wpList_store_row rfl 50 (.tmp 13) (.tmp 47) rfl wr.heap.size #[.int .u8 x.kind, .string x.name, .string x.dst, .slice A1 x.b.size cc1, .int .i64 x.n, .slice A2 x.keep.length cc2] rfl rfl 50 _ HKZ.out infoCallT rfl HONE.out ?_))
      clear x0 x1 x2 x3 x4 x5 HKZ HONE
      obtain ⟨w4, hw4⟩ : ∃ w4, (wr.alloc (.cells #[.int .u8 0, .string ⟨#[]⟩, .string ⟨#[]⟩, .slice none 0 0, .int .i64 0, .slice none 0 0] 50)).setRow wr.heap.size #[.int .u8 x.kind, .string x.name, .string x.dst, .slice A1 x.b.size cc1, .int .i64 x.n, .slice A2 x.keep.length cc2] = w4 := ⟨_, rfl⟩
      obtain ⟨g, hg⟩ : ∃ g, wr.heap.size = g := ⟨_, rfl⟩
      rw [hw4] at HKC HFL ⊢
      rw [hg] at HKC ⊢
      clear hw4 hg
      dsimp only [Act.put]
      have k0 := HKC.out.cell 0
      simp only [List.getElem?_toArray, List.getElem?_cons_zero] at k0
      by_cases hk68 : 6 ≤ x.kind ∧ x.kind ≤ 8
      · obtain ⟨hk6, hk8⟩ := hk68
        as_aux_lemma =>
        go_wp2
        go_roundg gf
        case measure => omega
        case rel => exact ⟨i + 1, u + x.b.size, q, v, vq, D, M, gone, rfl, rfl, by go_num, by omega, HFL.out, ⟨_, HSD.out⟩, ⟨_, HSM.out⟩, HST.out, HBD.out.more x.b.size, HBM.out.more x.b.size, HU1.out⟩
      · go_cut [10, 11, 12, 13, 55] (fun s10 s11 s12 s13 s55 wx => s10 = .pointer (some ⟨q, 0, none⟩) ∧ s11 = .bool gone ∧ s12 = .int .i64 (i : Int) ∧ s13 = .pointer (some ⟨g, 0, none⟩) ∧ s55 = .bool false ∧ wx = w4)
        case first =>
          by_cases hk6 : 6 ≤ x.kind
          · have hk8 : ¬ x.kind ≤ 8 := fun h => hk68 ⟨hk6, h⟩
            go_wp2
            go_meet
            exact ⟨rfl, rfl, rfl, rfl, rfl, rfl⟩
          · go_wp2
            go_meet
            exact ⟨rfl, rfl, rfl, rfl, rfl, rfl⟩
        case rest =>
        as_aux_lemma =>
        obtain ⟨rfl, rfl, rfl, rfl, rfl, rfl⟩ := hcut
        clear k0
        have HS := Lib.hid (steps_any _ _ q vq M HFL.out.im)
        have HC := Lib.hid (fl_copy HFL.out (HBM.out.fit (by omega) (by omega)).fit)
        have HRND := Lib.hid (HST.out.round x hk68)
        go_wp2_with fail
        refine HS.out.mono ?_
        rintro e w5 ⟨rfl, rfl⟩
        clear HS
        go_wp2_with fail
        refine HC.out.mono ?_
        rintro e w5 ⟨r, vr, rfl, hc5, hb5⟩
        have hk5 := HKC.out.below hb5 HKC.out.lt
        have k0 := hk5.cell 0; have k1 := hk5.cell 1; have k2 := hk5.cell 2; have k3 := hk5.cell 3; have k4 := hk5.cell 4; have k5 := hk5.cell 5
        simp only [List.getElem?_toArray, List.getElem?_cons_zero, List.getElem?_cons_succ] at k0 k1 k2 k3 k4 k5
        have HD := Lib.hid (fl_doesD (c := cc2) hc5 (HBD.out.fit (by omega) (by omega)) HSD.out.ok hkb HBT.out hxs HRD.out hxk hk5)
        clear hc5 hb5 hk5 HC HKC
        go_wp2_with fail
        refine HD.out.mono ?_
        rintro e w6 ⟨rfl, v6, hc6, hk6⟩
        have HE := Lib.hid (fl_doesC (c := cc2) hc6 (HBM.out.fit (by omega) (by omega)) HSM.out.ok hkb HBT.out hxs HRD.out hxk hk6)
        clear k0 k1 k2 k3 k4 k5
        have k0 := hk6.cell 0; have k1 := hk6.cell 1; have k2 := hk6.cell 2; have k3 := hk6.cell 3; have k4 := hk6.cell 4; have k5 := hk6.cell 5
        simp only [List.getElem?_toArray, List.getElem?_cons_zero, List.getElem?_cons_succ] at k0 k1 k2 k3 k4 k5
        clear hc6 hk6 HD
        go_wp2_with fail
        refine HE.out.mono ?_
        rintro e w7 ⟨rfl, v7, hc7, hk7⟩
        clear k0 k1 k2 k3 k4 k5 HE
        have k0 := hk7.cell 0
        simp only [List.getElem?_toArray, List.getElem?_cons_zero] at k0
        have hbd7 := cst_doesT HBD.out x hnb.2; have hbm7 := cst_doesT HBM.out x hnb.2
        have hsd7 := (sim_does HSD.out x).2.2; have hsm7 := (sim_does HSM.out x).2.2
        have hsr := steps_any _ _ r v7 _ hc7.ic
        have hoff := offD_any _ _ p v6 _ hc7.is
        have hrnd := HRND.out
        obtain ⟨sM, hsM⟩ : ∃ sM, M.steps = sM := ⟨_, rfl⟩
        obtain ⟨E, hE⟩ : ∃ E, (D.doesC x).1 = E := ⟨_, rfl⟩
        obtain ⟨F, hFF⟩ : ∃ F, (M.doesC x).1 = F := ⟨_, rfl⟩
        obtain ⟨TD, hTD⟩ : ∃ TD, (D.doesC x).2.1 = TD := ⟨_, rfl⟩
        obtain ⟨TM, hTM⟩ : ∃ TM, (M.doesC x).2.1 = TM := ⟨_, rfl⟩
        obtain ⟨D7, hD7⟩ : ∃ D7, (D.doesC x).2.2 = D7 := ⟨_, rfl⟩
        obtain ⟨M7, hM7⟩ : ∃ M7, (M.doesC x).2.2 = M7 := ⟨_, rfl⟩
        rw [hD7] at hc7 hbd7 hsd7 hrnd hoff
        rw [hM7] at hc7 hbm7 hsm7 hrnd hsr
        rw [hE, hFF, hsM] at hrnd
        rw [hE, hFF, hTD, hTM, hsM]
        obtain ⟨s7, hs7⟩ : ∃ s7, M7.steps = s7 := ⟨_, rfl⟩
        obtain ⟨o7, ho7⟩ : ∃ o7, D7.off = o7 := ⟨_, rfl⟩
        rw [hs7] at hsr hrnd
        rw [ho7] at hoff hrnd
        have HC7 := Lib.hid hc7; have HBD7 := Lib.hid hbd7; have HBM7 := Lib.hid hbm7; have HSD7 := Lib.hid hsd7; have HSM7 := Lib.hid hsm7; have HSR := Lib.hid hsr; have HOFF := Lib.hid hoff
        clear hc7 hk7 hbd7 hbm7 hsd7 hsm7 hsr hoff hsM hE hFF hTD hTM hD7 hM7 hs7 ho7 HRND
        rcases hrnd with ⟨rfl, rfl, hD⟩ | ⟨rfl, rfl, hs, hst⟩ | ⟨rfl, rfl, rfl, hne, hlt2, rfl, hst⟩
        · have HDD := Lib.hid hD
          clear hD
          go_wp2
          go_roundg gf
          case measure => omega
          case rel => exact ⟨i + 1, u + x.b.size, q, v6, vq, D7, M, true, rfl, rfl, by go_num, by omega, HC7.out.toM, ⟨_, HSD7.out⟩, ⟨_, HSM.out⟩, by rw [HDD.out]; exact HST.out, HBD7.out, HBM.out.more x.b.size, HU1.out⟩
        · have HST7 := Lib.hid hst
          clear hst
          go_wp2_with fail
          refine HSR.out.mono ?_
          rintro e w8 ⟨rfl, rfl⟩
          by_cases hss : s7 = sM
          · have hsb : (s7 == sM) = true := by simp [hss]
            clear hss hs
            go_wp2
            go_roundg gf
            case measure => omega
            case rel => exact ⟨i + 1, u + x.b.size, r, v6, v7, D7, M7, false, rfl, rfl, by go_num, by omega, HC7.out.toC, ⟨_, HSD7.out⟩, ⟨_, HSM7.out⟩, HST7.out, HBD7.out, HBM7.out, HU1.out⟩
          · have hsb : (s7 == sM) = false := by simp [hss]
            have hsl : sM < (a5 : Int) := hs.resolve_left hss
            clear hss hs
            go_wp2
            go_roundg gf
            case measure => omega
            case rel => exact ⟨i + 1, u + x.b.size, r, v6, v7, D7, M7, false, rfl, rfl, by go_num, by omega, HC7.out.toC, ⟨_, HSD7.out⟩, ⟨_, HSM7.out⟩, HST7.out, HBD7.out, HBM7.out, HU1.out⟩
        · have HST7 := Lib.hid hst
          clear hst
          go_wp2_with fail
          refine HSR.out.mono ?_
          rintro e w8 ⟨rfl, rfl⟩
          have hsb : (s7 == sM) = false := by simp [hne]
          clear hne HSR
          by_cases hk2 : x.kind < 2
          · have hk01 : x.kind = 0 ∨ x.kind = 1 := by omega
            have hst9 := HST7.out
            rw [if_pos hk01] at hst9
            have HST9 := Lib.hid hst9
            clear hst9 hk01 HST7
            go_wp2_with fail
            refine HOFF.out.mono ?_
            rintro e w8 ⟨rfl, rfl⟩
            go_wp2
            go_roundg gf
            case measure => omega
            case rel => exact ⟨i + 1, u + x.b.size, r, v6, v7, D7, M7, true, rfl, rfl, by go_num, by omega, HC7.out.toC, ⟨_, HSD7.out⟩, ⟨_, HSM7.out⟩, HST9.out, HBD7.out, HBM7.out, HU1.out⟩
          · have hst9 := HST7.out
            rw [if_neg (by omega)] at hst9
            have HST9 := Lib.hid hst9
            clear hst9 HST7
            go_wp2_with fail
            refine HOFF.out.mono ?_
            rintro e w8 ⟨rfl, rfl⟩
            go_wp2
            go_roundg gf
            case measure => omega
            case rel => exact ⟨i + 1, u + x.b.size, q, v6, vq, D7, M, true, rfl, rfl, by go_num, by omega, HC7.out.toM, ⟨_, HSD7.out⟩, ⟨_, HSM.out⟩, HST9.out, HBD7.out, HBM.out.more x.b.size, HU1.out⟩
end Go.Proofs.Ytcfcfpphhaknnaa
