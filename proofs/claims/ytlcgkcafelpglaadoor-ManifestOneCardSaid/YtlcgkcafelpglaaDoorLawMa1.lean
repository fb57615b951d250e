/- The law of one file at a time: its walk. -/
import Derived.Test.YtlcgkcafelpglaaDoorMaZ
import Derived.Test.YtlcgkcafelpglaaDoorOpenMb
import Derived.Test.YtlcgkcafelpglaaDoorMaPn
import Derived.Lib.SlBytesConst
namespace Go.Proofs.YtlcgkcafelpglaaDoor
open Go.RowKit Go.Maps

theorem man_struct1 : Tryd.prog.underlying 24 = some (.struct (Tryd.prog.fieldsOf 24)) := by kernel_rfl
theorem man_plain1 : Tryd.prog.stoodInHeld 24 = false := by kernel_rfl
set_option maxHeartbeats 2000000 in
theorem run_neq_man1 (m : ManM) (w : World) : (binOp .neq 24 (.agg #[.int .i64 m.n, .int .i64 m.epoch, .int .i64 m.step, .int .i64 m.sum, .int .i64 m.most, .bool m.done, .int .u32 m.job]) (.agg #[.int .i64 m.n, .int .i64 m.epoch, .int .i64 m.step, .int .i64 m.sum, .int .i64 m.most, .bool m.done, .int .u32 m.job])).run Tryd.prog w = .ok (.bool false) w := by
  rw [run_neq_struct, run_equalIn_agg _ _ _ _ _ man_struct1 man_plain1]
  simp [go_sem]
theorem bt_x (W : World) : Bt (W.alloc (.cells #[.int .u8 120] 5 (1, 2))) (.slice (some ⟨W.heap.size, 0, none⟩) 1 1) ⟨#[120]⟩ :=
  ⟨_, _, rfl, Nat.le_refl _, fun _ => ⟨W.heap.size, 0, _, _, rfl, heap_alloc_new W _, fun j hj => by
    have hj' : j < 1 := hj
    obtain rfl : j = 0 := by omega
    rfl⟩⟩
def othN : ByteArray := ⟨#[111, 116, 104, 101, 114]⟩
def othX : List FileD := [⟨othN, ⟨#[120]⟩, -1⟩]
theorem othX_oth : Oth othX := by
  intro f hf
  rw [List.mem_singleton.1 hf]
  rfl
theorem othX_has : Has [⟨othN, ⟨#[120]⟩, -1⟩] ([] ++ (keptF ⟨zeroM, false⟩ ++ othX)) := Has.self (List.pairwise_singleton _ _)
theorem Tb.on1 {w W : World} (h : Tb w.heap.size w) (hb : Below w.heap.size w W) : Tb W.heap.size W := fun w2 h2 => h w2 (hb.trans (h2.mono hb.size))
set_option maxRecDepth 100000 in
set_option maxHeartbeats 16000000 in
theorem one_main (w : World) (A : Option Addr) (c : Nat) (l : List ManM) (hM : Mans w A l) (hl : l.length ≤ 20) (hT : Tb w.heap.size w) :
    Calls Tryd.prog 6 #[.slice A l.length c] w fun e w' => e = .returned (.bool true) ∧ Below w.heap.size w w' := by
  have hlI : ¬ (20 : Int) < (l.length : Int) := by omega
  have e1 : (⟨[], 10000, 0, -1, false⟩ : DiskD).append ⟨#[111, 116, 104, 101, 114]⟩ ⟨#[120]⟩ = (0, ⟨[⟨⟨#[111, 116, 104, 101, 114]⟩, ⟨#[120]⟩, -1⟩], 10000, 1, -1, false⟩) := nil_append rfl (by decide) (by decide)
  have hwk : ∀ W, Below w.heap.size w W → Calls Tryd.prog 8 #[] W fun e w' => e = .returned (.bool true) ∧ Below W.heap.size W w' := fun W hW => works_any W (hT.on1 hW)
  have E1 := Lib.hid e1; have HM := Lib.hid hM; have HT := Lib.hid hT; have HWK := Lib.hid hwk
  clear e1 hM hT hwk
  go_enter Tryd.func6, Tryd.ntmps6
  go_wp2_with fail
  refine (new_any 10000 _).mono ?_
  rintro e w1 ⟨rfl, hd1, hb1⟩
  have hd2 := hd1.below ((Below.refl w1.heap.size w1).alloc (Nat.le_refl _) (.cells #[.int .u8 120] 5 (1, 2))) (Nat.le_refl _)
  have hb2 := hb1.alloc hb1.size (.cells #[.int .u8 120] 5 (1, 2))
  have hc := d_append hd2 hb2.size (fit_small (by simp) (by simp <;> decide) (by decide) (by decide) (by decide) (by decide)) (by simp [DiskD.used, usedL] <;> decide) (bt_x w1).btr (by decide) E1.out
  have hcs : (convert 25 25 (.slice (some ⟨w1.heap.size, 0, none⟩) 1 1)).run Tryd.prog (w1.alloc (.cells #[.int .u8 120] 5)) = .ok (.slice (some ⟨w1.heap.size, 0, none⟩) 1 1) (w1.alloc (.cells #[.int .u8 120] 5 (1, 2))) := Lib.run_convert_bytes_const w1 25 5 #[.int .u8 120] 1 1 Tryd.underlying25 Tryd.underlying5
  have HC := Lib.hid hc; have HB2 := Lib.hid hb2
  clear hc hd1 hd2 hb1 hb2
  go_wp2_with fail
  clear hcs
  refine HC.out.mono ?_
  rintro e w3 ⟨rfl, v3, o3⟩
  have hb3 := HB2.out.trans (o3.below.mono (Nat.le_refl _))
  have hc := open_c (G := []) (S := ⟨zeroM, false⟩) (X := othX) (q := 10000) (n := 1) o3.is (HT.out.on hb3) othX_oth zeroS_ok hb3.size (fitN_of (by decide) (by decide) (by decide) (by decide)) (.inl (.inl rfl)) othX_has
  have HC3 := Lib.hid hc; have HB3 := Lib.hid hb3
  clear hc hb3 o3 HC HB2
  go_wp2_with fail
  refine HC3.out.mono ?_
  rintro e w4 ⟨gs, L4, n4, v4, rfl, ho, hst, hgs, hh, hn1, hn2⟩
  have h0 : StSt w w4 w.heap.size gs v4 10000 othX L4 n4 ⟨zeroM, false⟩ := ⟨ho.is, hst, Nat.le_trans HB3.out.size hgs, HB3.out.trans ho.below, zeroS_ok, hh, by omega⟩
  have H0 := Lib.hid h0
  clear h0 ho hst hgs hh HC3 HB3 E1
  go_wp2
  go_loopg [6, 7] l.length (fun gf vn vi wr => ∃ (i : Nat) (L : List FileD) (n : Int) (v : Value) (S : StD), vi = .int .i64 i ∧ vn = .int .i64 S.m.n ∧ i + gf = l.length ∧ n ≤ 2 + 10 * i ∧ StSt w wr w.heap.size gs v 10000 othX L n S)
  case atStart => exact ⟨0, L4, n4, v4, ⟨zeroM, false⟩, rfl, rfl, by omega, by omega, H0.out⟩
  case round =>
    clear H0
    obtain ⟨i, L, n, v, S, rfl, rfl, hi, hn, hst⟩ := hrel
    cases gk with
    | zero =>
      obtain rfl : i = l.length := by omega
      have HW := Lib.hid (HWK.out _ hst.below); have HB := Lib.hid hst.below
      clear hst hn hi
      go_wp2_with fail
      refine HW.out.mono ?_
      rintro e w5 ⟨rfl, hb5⟩
      have HB5 := Lib.hid (HB.out.trans (hb5.mono HB.out.size))
      clear hb5
      go_wp2
      go_ret
      exact ⟨rfl, HB5.out⟩
    | succ gf =>
      obtain ⟨m, hm⟩ : ∃ m, l[i]? = some m := ⟨_, List.getElem?_eq_getElem (by omega)⟩
      have hMr := HM.out.below hst.below
      obtain ⟨bb, oo, rfl, hlt, hcell⟩ := hMr (by omega)
      obtain ⟨hok, hc⟩ := hcell i m hm
      have c0 := hc 0 (by decide); have c1 := hc 1 (by decide); have c2 := hc 2 (by decide); have c3 := hc 3 (by decide); have c4 := hc 4 (by decide); have c5 := hc 5 (by decide); have c6 := hc 6 (by decide)
      simp only [mCells, List.getElem?_toArray, List.getElem?_cons_zero, List.getElem?_cons_succ, Nat.add_zero] at c0 c1 c2 c3 c4 c5 c6
      have hiI : (i : Int) < (l.length : Int) := by omega
      have hS := hst.ok.nn
      obtain ⟨hS0, hS1⟩ := hS
      have HST := Lib.hid hst; have HOK := Lib.hid hok; have HMI := Lib.hid hm
      have h7 : mCells m = #[.int .i64 m.n, .int .i64 m.epoch, .int .i64 m.step, .int .i64 m.sum, .int .i64 m.most, .bool m.done, .int .u32 m.job] := rfl
      cases hy : (nextM S m).may with
      | false =>
        have hw := st_write_no hst HT.out (by omega) (by decide) hok hy
        rw [h7] at hw
        have HW := Lib.hid hw
        clear hw hst hMr hcell hc hm hok h7
        go_wp2_with fail
        refine HW.out.mono ?_
        rintro e w5 ⟨rfl, v5, h5, -⟩
        have HST5 := Lib.hid h5; have HN := Lib.hid (newest_any w5 gs w.heap.size _ h5.st)
        clear h5 HW HST c0 c1 c2 c3 c4 c5 c6
        go_wp2_with fail
        refine HN.out.mono ?_
        rintro e w6 ⟨rfl, hb6⟩
        have h8 : mCells S.m = #[.int .i64 S.m.n, .int .i64 S.m.epoch, .int .i64 S.m.step, .int .i64 S.m.sum, .int .i64 S.m.most, .bool S.m.done, .int .u32 S.m.job] := rfl
        have hk6 := Blk.new w6 24 #[.int .i64 0, .int .i64 0, .int .i64 0, .int .i64 0, .int .i64 0, .bool false, .int .u32 0]
        have hk7 := hk6.setRow #[.int .i64 S.m.n, .int .i64 S.m.epoch, .int .i64 S.m.step, .int .i64 S.m.sum, .int .i64 S.m.most, .bool S.m.done, .int .u32 S.m.job]
        have hone := mCells_oneA S.m
        have hb7 := hb6.trans ((below_row ((Below.refl w6.heap.size w6).alloc (Nat.le_refl _) (.cells #[.int .i64 0, .int .i64 0, .int .i64 0, .int .i64 0, .int .i64 0, .bool false, .int .u32 0] 24)) (Nat.le_refl _) #[.int .i64 S.m.n, .int .i64 S.m.epoch, .int .i64 S.m.step, .int .i64 S.m.sum, .int .i64 S.m.most, .bool S.m.done, .int .u32 S.m.job]).mono hb6.size)
        rw [h8] at hone
        have HK6 := Lib.hid hk6; have HK7 := Lib.hid hk7; have HONE := Lib.hid hone; have HST7 := Lib.hid (HST5.out.below_ hb7)
        rw [h8]
        clear hk6 hk7 hone hb7 hb6 HN HST5 h8
        go_upto_region 19 with (first | (refine wpList_store_row rfl 24 (.tmp 9) (.tmp 59) rfl w6.heap.size #[.int .i64 S.m.n, .int .i64 S.m.epoch, .int .i64 S.m.step, .int .i64 S.m.sum, .int .i64 S.m.most, .bool S.m.done, .int .u32 S.m.job] rfl rfl 24 _ HK6.out infoMf rfl HONE.out ?_))
        obtain ⟨w7, hw7⟩ : ∃ w7, (w6.alloc (.cells #[.int .i64 0, .int .i64 0, .int .i64 0, .int .i64 0, .int .i64 0, .bool false, .int .u32 0] 24)).setRow w6.heap.size #[.int .i64 S.m.n, .int .i64 S.m.epoch, .int .i64 S.m.step, .int .i64 S.m.sum, .int .i64 S.m.most, .bool S.m.done, .int .u32 S.m.job] = w7 := ⟨_, rfl⟩
        rw [hw7] at HK7 HST7 ⊢
        clear hw7 HK6 HONE
        have hMr := HM.out.below HST7.out.below
        obtain ⟨bb2, oo2, he2, hlt2, hcell⟩ := hMr (by omega)
        injection he2 with he2
        injection he2 with he3 he4 _
        subst he3 he4
        obtain ⟨hok, hc⟩ := hcell i m HMI.out
        have c0 := hc 0 (by decide); have c1 := hc 1 (by decide); have c2 := hc 2 (by decide); have c3 := hc 3 (by decide); have c4 := hc 4 (by decide); have c5 := hc 5 (by decide); have c6 := hc 6 (by decide)
        simp only [mCells, List.getElem?_toArray, List.getElem?_cons_zero, List.getElem?_cons_succ, Nat.add_zero] at c0 c1 c2 c3 c4 c5 c6
        have hk8 := Blk.new w7 24 #[.int .i64 0, .int .i64 0, .int .i64 0, .int .i64 0, .int .i64 0, .bool false, .int .u32 0]
        have hone := mCells_oneA m
        rw [show mCells m = #[.int .i64 m.n, .int .i64 m.epoch, .int .i64 m.step, .int .i64 m.sum, .int .i64 m.most, .bool m.done, .int .u32 m.job] from rfl] at hone
        have HK8 := Lib.hid hk8; have HONE := Lib.hid hone
        clear hMr hcell hok hc hk8 hone
        go_upto_region 20 with (first | (refine wpList_store_row rfl 24 (.tmp 11) (.tmp 64) rfl w7.heap.size #[.int .i64 m.n, .int .i64 m.epoch, .int .i64 m.step, .int .i64 m.sum, .int .i64 m.most, .bool m.done, .int .u32 m.job] rfl rfl 24 _ HK8.out infoMf rfl HONE.out ?_))
        have hk9 := HK8.out.setRow #[.int .i64 m.n, .int .i64 m.epoch, .int .i64 m.step, .int .i64 m.sum, .int .i64 m.most, .bool m.done, .int .u32 m.job]
        have hb8 := below_row ((Below.refl w7.heap.size w7).alloc (Nat.le_refl _) (.cells #[.int .i64 0, .int .i64 0, .int .i64 0, .int .i64 0, .int .i64 0, .bool false, .int .u32 0] 24)) (Nat.le_refl _) #[.int .i64 m.n, .int .i64 m.epoch, .int .i64 m.step, .int .i64 m.sum, .int .i64 m.most, .bool m.done, .int .u32 m.job]
        obtain ⟨w8, hw8⟩ : ∃ w8, (w7.alloc (.cells #[.int .i64 0, .int .i64 0, .int .i64 0, .int .i64 0, .int .i64 0, .bool false, .int .u32 0] 24)).setRow w7.heap.size #[.int .i64 m.n, .int .i64 m.epoch, .int .i64 m.step, .int .i64 m.sum, .int .i64 m.most, .bool m.done, .int .u32 m.job] = w8 := ⟨_, rfl⟩
        rw [hw8] at hk9 hb8 ⊢
        have x0 := hk9.cell 0; have f0 := hk9.frozen 0
        simp only [List.getElem?_toArray, List.getElem?_cons_zero] at x0
        have hkx := hk9.set_ 0 (.int .i64 S.m.n)
        have hb9 := hb8.setCell (p := ⟨w7.heap.size, 0, none⟩) (Nat.le_refl _) (.int .i64 S.m.n)
        obtain ⟨w9, hw9⟩ : ∃ w9, w8.setCell ⟨w7.heap.size, 0, none⟩ (.int .i64 S.m.n) = w9 := ⟨_, rfl⟩
        rw [hw9] at hkx hb9
        have HKX := Lib.hid hkx; have HST9 := Lib.hid (HST7.out.below_ hb9); have HK9 := Lib.hid (HK7.out.below hb9 HK7.out.lt); have HW9 := Lib.hid hw9
        clear hk9 hb8 hkx hb9 hw8 hw9 HST7 HK7 HK8 HONE c0 c1 c2 c3 c4 c5 c6
        go_upto_region 21 with (fail)
        rw [HW9.out]
        clear x0 f0 HW9
        have y0 := HK9.out.cell 0
        simp only [List.getElem?_toArray, List.getElem?_cons_zero] at y0
        have hse := HST9.out.ok.some_eq
        have hnm := names_any w9 _ _ _ _ HST9.out.is (by have := (kept_used HST9.out.has).2; show L.length ≤ _; have hx : othX.length = 1 := rfl; omega)
        have HNM := Lib.hid hnm
        clear hnm
        cases hsm : S.some with
        | false =>
          rw [hsm] at hse
          have hz : S.m.n ≤ 0 := by have := of_decide_eq_false hse.symm; omega
          have hzb : decide ((0 : Int) < S.m.n) = false := hse.symm
          clear hse
          have hlen : (⟨L, 10000, n, -1, false⟩ : DiskD).files.length = 1 := by
            show L.length = 1
            rw [HST9.out.has.length, List.length_append, kept_no hsm]
            rfl
          have hnm := HNM.out
          rw [hlen] at hnm
          have HNM2 := Lib.hid hnm
          have hmn : min S.m.n 1 = 0 := by omega
          clear hnm hlen HNM
          go_wp2_with fail
          refine HNM2.out.mono ?_
          rintro e w10 ⟨An, cn, rfl, -, hb10⟩
          have HST10 := Lib.hid (HST9.out.below_ hb10); have HK10 := Lib.hid (HK9.out.below hb10 HK9.out.lt)
          clear hb10 HNM2 HST9 HK9
          have hcp := copy_any w10 _ _ _ _ HST10.out.is (by have := (kept_used HST10.out.has).2; show L.length ≤ _; have hx : othX.length = 1 := rfl; omega)
          have HCP := Lib.hid hcp
          clear hcp
          go_wp2_with fail
          refine HCP.out.mono ?_
          rintro e w11 ⟨v11, rfl, hd11, hb11⟩
          have HBS := Lib.hid HST10.out.below.size
          have hST11 := HST10.out.below_ hb11
          have hK11 := HK10.out.below hb11 HK10.out.lt
          have hT11 : Tb w10.heap.size w11 := (HT.out.on1 HST10.out.below).on hb11
          have hop := open_c (G := []) hd11 hT11 othX_oth HST10.out.ok hb11.size ((HST10.out.fit (by omega) (by decide)).less (by omega)) (.inl (.inl rfl)) HST10.out.has
          have hap := (apart_new HST10.out.is hd11).symm
          have HOP := Lib.hid hop; have HST11 := Lib.hid hST11; have HK11 := Lib.hid hK11; have HAP := Lib.hid hap
          clear hop hST11 hK11 hap hT11 hd11 hb11 HCP HST10 HK10
          go_wp2_with fail
          refine HOP.out.mono ?_
          rintro e w12 ⟨g12, L12, n12, v12, rfl, ho, hst12, -, -, -, -⟩
          obtain ⟨hd12, -⟩ := ho.other _ _ _ _ HST11.out.is HAP.out
          have hST12 : StSt w w12 w.heap.size gs v5 10000 othX L n S := ⟨hd12, ho.keep_blk HST11.out.st (by decide) (by decide), HST11.out.gl, HST11.out.below.trans (ho.below.mono HBS.out), HST11.out.ok, HST11.out.has, HST11.out.n0⟩
          have hK12 := ho.keep_blk HK11.out (by decide) (by decide)
          have hN := newest_any w12 g12 _ S hst12
          rw [hsm] at hN
          have HST12 := Lib.hid hST12; have HK12 := Lib.hid hK12; have HN12 := Lib.hid hN
          clear hST12 hK12 hN hd12 hst12 ho HOP HST11 HK11 HAP
          go_wp2_with fail
          refine HN12.out.mono ?_
          rintro e w13 ⟨rfl, hb13⟩
          have h8 : mCells S.m = #[.int .i64 S.m.n, .int .i64 S.m.epoch, .int .i64 S.m.step, .int .i64 S.m.sum, .int .i64 S.m.most, .bool S.m.done, .int .u32 S.m.job] := rfl
          have hk13 := Blk.new w13 24 #[.int .i64 0, .int .i64 0, .int .i64 0, .int .i64 0, .int .i64 0, .bool false, .int .u32 0]
          have hk14 := hk13.setRow #[.int .i64 S.m.n, .int .i64 S.m.epoch, .int .i64 S.m.step, .int .i64 S.m.sum, .int .i64 S.m.most, .bool S.m.done, .int .u32 S.m.job]
          have hone := mCells_oneA S.m
          have hb14 := hb13.trans ((below_row ((Below.refl w13.heap.size w13).alloc (Nat.le_refl _) (.cells #[.int .i64 0, .int .i64 0, .int .i64 0, .int .i64 0, .int .i64 0, .bool false, .int .u32 0] 24)) (Nat.le_refl _) #[.int .i64 S.m.n, .int .i64 S.m.epoch, .int .i64 S.m.step, .int .i64 S.m.sum, .int .i64 S.m.most, .bool S.m.done, .int .u32 S.m.job]).mono hb13.size)
          rw [h8] at hone
          have HK13 := Lib.hid hk13; have HK14 := Lib.hid hk14; have HONE := Lib.hid hone; have HST14 := Lib.hid (HST12.out.below_ hb14); have HY14 := Lib.hid (HK12.out.below hb14 HK12.out.lt)
          rw [h8]
          clear hk13 hk14 hone hb14 hb13 HN12 HST12 h8 HK12 y0
          go_upto_region 28 with (first | (refine wpList_store_row rfl 24 (.tmp 15) (.tmp 106) rfl w13.heap.size #[.int .i64 S.m.n, .int .i64 S.m.epoch, .int .i64 S.m.step, .int .i64 S.m.sum, .int .i64 S.m.most, .bool S.m.done, .int .u32 S.m.job] rfl rfl 24 _ HK13.out infoMf rfl HONE.out ?_))
          obtain ⟨w14, hw14⟩ : ∃ w14, (w13.alloc (.cells #[.int .i64 0, .int .i64 0, .int .i64 0, .int .i64 0, .int .i64 0, .bool false, .int .u32 0] 24)).setRow w13.heap.size #[.int .i64 S.m.n, .int .i64 S.m.epoch, .int .i64 S.m.step, .int .i64 S.m.sum, .int .i64 S.m.most, .bool S.m.done, .int .u32 S.m.job] = w14 := ⟨_, rfl⟩
          rw [hw14] at HK14 HST14 HY14 ⊢
          clear hw14 HK13 HONE
          have hka := HK14.out; have hkb := HY14.out
          have a0 := hka.cell 0; have a1 := hka.cell 1; have a2 := hka.cell 2; have a3 := hka.cell 3; have a4 := hka.cell 4; have a5 := hka.cell 5; have a6 := hka.cell 6
          have b0 := hkb.cell 0; have b1 := hkb.cell 1; have b2 := hkb.cell 2; have b3 := hkb.cell 3; have b4 := hkb.cell 4; have b5 := hkb.cell 5; have b6 := hkb.cell 6
          simp only [List.getElem?_toArray, List.getElem?_cons_zero, List.getElem?_cons_succ] at a0 a1 a2 a3 a4 a5 a6 b0 b1 b2 b3 b4 b5 b6
          have hnq := run_neq_man1 S.m
          clear hka hkb
          go_wp2
          go_roundg gf
          case measure => omega
          case rel => exact ⟨i + 1, L, n, v5, S, by go_num, rfl, by omega, by omega, HST14.out⟩
        | true =>
          rw [hsm] at hse
          have hz : 0 < S.m.n := of_decide_eq_true hse.symm
          have hzb : decide ((0 : Int) < S.m.n) = true := hse.symm
          clear hse
          have hlen : (⟨L, 10000, n, -1, false⟩ : DiskD).files.length = 2 := by
            show L.length = 2
            rw [HST9.out.has.length, List.length_append, kept_eq hsm]
            rfl
          have hnm := HNM.out
          rw [hlen] at hnm
          have HNM2 := Lib.hid hnm
          have hmn : min S.m.n 1 = 1 := by omega
          clear hnm hlen HNM
          go_wp2_with fail
          refine HNM2.out.mono ?_
          rintro e w10 ⟨An, cn, rfl, -, hb10⟩
          have HST10 := Lib.hid (HST9.out.below_ hb10); have HK10 := Lib.hid (HK9.out.below hb10 HK9.out.lt)
          clear hb10 HNM2 HST9 HK9
          have hcp := copy_any w10 _ _ _ _ HST10.out.is (by have := (kept_used HST10.out.has).2; show L.length ≤ _; have hx : othX.length = 1 := rfl; omega)
          have HCP := Lib.hid hcp
          clear hcp
          go_wp2_with fail
          refine HCP.out.mono ?_
          rintro e w11 ⟨v11, rfl, hd11, hb11⟩
          have HBS := Lib.hid HST10.out.below.size
          have hST11 := HST10.out.below_ hb11
          have hK11 := HK10.out.below hb11 HK10.out.lt
          have hT11 : Tb w10.heap.size w11 := (HT.out.on1 HST10.out.below).on hb11
          have hop := open_c (G := []) hd11 hT11 othX_oth HST10.out.ok hb11.size ((HST10.out.fit (by omega) (by decide)).less (by omega)) (.inl (.inl rfl)) HST10.out.has
          have hap := (apart_new HST10.out.is hd11).symm
          have HOP := Lib.hid hop; have HST11 := Lib.hid hST11; have HK11 := Lib.hid hK11; have HAP := Lib.hid hap
          clear hop hST11 hK11 hap hT11 hd11 hb11 HCP HST10 HK10
          go_wp2_with fail
          refine HOP.out.mono ?_
          rintro e w12 ⟨g12, L12, n12, v12, rfl, ho, hst12, -, -, -, -⟩
          obtain ⟨hd12, -⟩ := ho.other _ _ _ _ HST11.out.is HAP.out
          have hST12 : StSt w w12 w.heap.size gs v5 10000 othX L n S := ⟨hd12, ho.keep_blk HST11.out.st (by decide) (by decide), HST11.out.gl, HST11.out.below.trans (ho.below.mono HBS.out), HST11.out.ok, HST11.out.has, HST11.out.n0⟩
          have hK12 := ho.keep_blk HK11.out (by decide) (by decide)
          have hN := newest_any w12 g12 _ S hst12
          rw [hsm] at hN
          have HST12 := Lib.hid hST12; have HK12 := Lib.hid hK12; have HN12 := Lib.hid hN
          clear hST12 hK12 hN hd12 hst12 ho HOP HST11 HK11 HAP
          go_wp2_with fail
          refine HN12.out.mono ?_
          rintro e w13 ⟨rfl, hb13⟩
          have h8 : mCells S.m = #[.int .i64 S.m.n, .int .i64 S.m.epoch, .int .i64 S.m.step, .int .i64 S.m.sum, .int .i64 S.m.most, .bool S.m.done, .int .u32 S.m.job] := rfl
          have hk13 := Blk.new w13 24 #[.int .i64 0, .int .i64 0, .int .i64 0, .int .i64 0, .int .i64 0, .bool false, .int .u32 0]
          have hk14 := hk13.setRow #[.int .i64 S.m.n, .int .i64 S.m.epoch, .int .i64 S.m.step, .int .i64 S.m.sum, .int .i64 S.m.most, .bool S.m.done, .int .u32 S.m.job]
          have hone := mCells_oneA S.m
          have hb14 := hb13.trans ((below_row ((Below.refl w13.heap.size w13).alloc (Nat.le_refl _) (.cells #[.int .i64 0, .int .i64 0, .int .i64 0, .int .i64 0, .int .i64 0, .bool false, .int .u32 0] 24)) (Nat.le_refl _) #[.int .i64 S.m.n, .int .i64 S.m.epoch, .int .i64 S.m.step, .int .i64 S.m.sum, .int .i64 S.m.most, .bool S.m.done, .int .u32 S.m.job]).mono hb13.size)
          rw [h8] at hone
          have HK13 := Lib.hid hk13; have HK14 := Lib.hid hk14; have HONE := Lib.hid hone; have HST14 := Lib.hid (HST12.out.below_ hb14); have HY14 := Lib.hid (HK12.out.below hb14 HK12.out.lt)
          rw [h8]
          clear hk13 hk14 hone hb14 hb13 HN12 HST12 h8 HK12 y0
          go_upto_region 28 with (first | (refine wpList_store_row rfl 24 (.tmp 15) (.tmp 106) rfl w13.heap.size #[.int .i64 S.m.n, .int .i64 S.m.epoch, .int .i64 S.m.step, .int .i64 S.m.sum, .int .i64 S.m.most, .bool S.m.done, .int .u32 S.m.job] rfl rfl 24 _ HK13.out infoMf rfl HONE.out ?_))
          obtain ⟨w14, hw14⟩ : ∃ w14, (w13.alloc (.cells #[.int .i64 0, .int .i64 0, .int .i64 0, .int .i64 0, .int .i64 0, .bool false, .int .u32 0] 24)).setRow w13.heap.size #[.int .i64 S.m.n, .int .i64 S.m.epoch, .int .i64 S.m.step, .int .i64 S.m.sum, .int .i64 S.m.most, .bool S.m.done, .int .u32 S.m.job] = w14 := ⟨_, rfl⟩
          rw [hw14] at HK14 HST14 HY14 ⊢
          clear hw14 HK13 HONE
          have hka := HK14.out; have hkb := HY14.out
          have a0 := hka.cell 0; have a1 := hka.cell 1; have a2 := hka.cell 2; have a3 := hka.cell 3; have a4 := hka.cell 4; have a5 := hka.cell 5; have a6 := hka.cell 6
          have b0 := hkb.cell 0; have b1 := hkb.cell 1; have b2 := hkb.cell 2; have b3 := hkb.cell 3; have b4 := hkb.cell 4; have b5 := hkb.cell 5; have b6 := hkb.cell 6
          simp only [List.getElem?_toArray, List.getElem?_cons_zero, List.getElem?_cons_succ] at a0 a1 a2 a3 a4 a5 a6 b0 b1 b2 b3 b4 b5 b6
          have hnq := run_neq_man1 S.m
          clear hka hkb
          go_wp2
          go_roundg gf
          case measure => omega
          case rel => exact ⟨i + 1, L, n, v5, S, by go_num, rfl, by omega, by omega, HST14.out⟩
      | true =>
        have hw := st_write hst othX_oth HT.out (by omega) (by decide) (by decide) hok hy
        rw [h7] at hw
        have HW := Lib.hid hw; have HN5 := Lib.hid hn
        clear hw hst hMr hcell hc hm hok h7
        go_wp2_with fail
        refine HW.out.mono ?_
        rintro e w5 ⟨rfl, L5, n5, v5, h5, hn5, -⟩
        have HST5 := Lib.hid h5; have HN0 := newest_any w5 gs w.heap.size _ h5.st
        dsimp only at HN0
        have HN := Lib.hid HN0
        clear HN0
        clear h5 HW HST c0 c1 c2 c3 c4 c5 c6
        go_wp2_with fail
        refine HN.out.mono ?_
        rintro e w6 ⟨rfl, hb6⟩
        have h8 : mCells (nextM S m) = #[.int .i64 (S.m.n + 1), .int .i64 m.epoch, .int .i64 m.step, .int .i64 m.sum, .int .i64 m.most, .bool m.done, .int .u32 m.job] := rfl
        have hk6 := Blk.new w6 24 #[.int .i64 0, .int .i64 0, .int .i64 0, .int .i64 0, .int .i64 0, .bool false, .int .u32 0]
        have hk7 := hk6.setRow #[.int .i64 (S.m.n + 1), .int .i64 m.epoch, .int .i64 m.step, .int .i64 m.sum, .int .i64 m.most, .bool m.done, .int .u32 m.job]
        have hone := mCells_oneA (nextM S m)
        have hb7 := hb6.trans ((below_row ((Below.refl w6.heap.size w6).alloc (Nat.le_refl _) (.cells #[.int .i64 0, .int .i64 0, .int .i64 0, .int .i64 0, .int .i64 0, .bool false, .int .u32 0] 24)) (Nat.le_refl _) #[.int .i64 (S.m.n + 1), .int .i64 m.epoch, .int .i64 m.step, .int .i64 m.sum, .int .i64 m.most, .bool m.done, .int .u32 m.job]).mono hb6.size)
        rw [h8] at hone
        have HK6 := Lib.hid hk6; have HK7 := Lib.hid hk7; have HONE := Lib.hid hone; have HST7 := Lib.hid (HST5.out.below_ hb7)
        rw [h8]
        clear hk6 hk7 hone hb7 hb6 HN HST5 h8
        go_upto_region 19 with (first | (refine wpList_store_row rfl 24 (.tmp 9) (.tmp 59) rfl w6.heap.size #[.int .i64 (S.m.n + 1), .int .i64 m.epoch, .int .i64 m.step, .int .i64 m.sum, .int .i64 m.most, .bool m.done, .int .u32 m.job] rfl rfl 24 _ HK6.out infoMf rfl HONE.out ?_))
        obtain ⟨w7, hw7⟩ : ∃ w7, (w6.alloc (.cells #[.int .i64 0, .int .i64 0, .int .i64 0, .int .i64 0, .int .i64 0, .bool false, .int .u32 0] 24)).setRow w6.heap.size #[.int .i64 (S.m.n + 1), .int .i64 m.epoch, .int .i64 m.step, .int .i64 m.sum, .int .i64 m.most, .bool m.done, .int .u32 m.job] = w7 := ⟨_, rfl⟩
        rw [hw7] at HK7 HST7 ⊢
        clear hw7 HK6 HONE
        have hMr := HM.out.below HST7.out.below
        obtain ⟨bb2, oo2, he2, hlt2, hcell⟩ := hMr (by omega)
        injection he2 with he2
        injection he2 with he3 he4 _
        subst he3 he4
        obtain ⟨hok, hc⟩ := hcell i m HMI.out
        have c0 := hc 0 (by decide); have c1 := hc 1 (by decide); have c2 := hc 2 (by decide); have c3 := hc 3 (by decide); have c4 := hc 4 (by decide); have c5 := hc 5 (by decide); have c6 := hc 6 (by decide)
        simp only [mCells, List.getElem?_toArray, List.getElem?_cons_zero, List.getElem?_cons_succ, Nat.add_zero] at c0 c1 c2 c3 c4 c5 c6
        have hk8 := Blk.new w7 24 #[.int .i64 0, .int .i64 0, .int .i64 0, .int .i64 0, .int .i64 0, .bool false, .int .u32 0]
        have hone := mCells_oneA m
        rw [show mCells m = #[.int .i64 m.n, .int .i64 m.epoch, .int .i64 m.step, .int .i64 m.sum, .int .i64 m.most, .bool m.done, .int .u32 m.job] from rfl] at hone
        have HK8 := Lib.hid hk8; have HONE := Lib.hid hone
        clear hMr hcell hok hc hk8 hone
        go_upto_region 20 with (first | (refine wpList_store_row rfl 24 (.tmp 11) (.tmp 64) rfl w7.heap.size #[.int .i64 m.n, .int .i64 m.epoch, .int .i64 m.step, .int .i64 m.sum, .int .i64 m.most, .bool m.done, .int .u32 m.job] rfl rfl 24 _ HK8.out infoMf rfl HONE.out ?_))
        have hk9 := HK8.out.setRow #[.int .i64 m.n, .int .i64 m.epoch, .int .i64 m.step, .int .i64 m.sum, .int .i64 m.most, .bool m.done, .int .u32 m.job]
        have hb8 := below_row ((Below.refl w7.heap.size w7).alloc (Nat.le_refl _) (.cells #[.int .i64 0, .int .i64 0, .int .i64 0, .int .i64 0, .int .i64 0, .bool false, .int .u32 0] 24)) (Nat.le_refl _) #[.int .i64 m.n, .int .i64 m.epoch, .int .i64 m.step, .int .i64 m.sum, .int .i64 m.most, .bool m.done, .int .u32 m.job]
        obtain ⟨w8, hw8⟩ : ∃ w8, (w7.alloc (.cells #[.int .i64 0, .int .i64 0, .int .i64 0, .int .i64 0, .int .i64 0, .bool false, .int .u32 0] 24)).setRow w7.heap.size #[.int .i64 m.n, .int .i64 m.epoch, .int .i64 m.step, .int .i64 m.sum, .int .i64 m.most, .bool m.done, .int .u32 m.job] = w8 := ⟨_, rfl⟩
        rw [hw8] at hk9 hb8 ⊢
        have x0 := hk9.cell 0; have f0 := hk9.frozen 0
        simp only [List.getElem?_toArray, List.getElem?_cons_zero] at x0
        have hkx : Blk (w8.setCell ⟨w7.heap.size, 0, none⟩ (.int .i64 (S.m.n + 1))) w7.heap.size 24 #[.int .i64 (S.m.n + 1), .int .i64 m.epoch, .int .i64 m.step, .int .i64 m.sum, .int .i64 m.most, .bool m.done, .int .u32 m.job] := hk9.set_ 0 (.int .i64 (S.m.n + 1))
        have hb9 := hb8.setCell (p := ⟨w7.heap.size, 0, none⟩) (Nat.le_refl _) (.int .i64 (S.m.n + 1))
        obtain ⟨w9, hw9⟩ : ∃ w9, w8.setCell ⟨w7.heap.size, 0, none⟩ (.int .i64 (S.m.n + 1)) = w9 := ⟨_, rfl⟩
        rw [hw9] at hkx hb9
        have HKX := Lib.hid hkx; have HST9 := Lib.hid (HST7.out.below_ hb9); have HK9 := Lib.hid (HK7.out.below hb9 HK7.out.lt); have HW9 := Lib.hid hw9
        clear hk9 hb8 hkx hb9 hw8 hw9 HST7 HK7 HK8 HONE c0 c1 c2 c3 c4 c5 c6
        go_upto_region 21 with (fail)
        rw [HW9.out]
        clear x0 f0 HW9
        have y0 := HK9.out.cell 0
        simp only [List.getElem?_toArray, List.getElem?_cons_zero] at y0
        have hse := HST9.out.ok.some_eq
        have hnm := names_any w9 _ _ _ _ HST9.out.is (by have := (kept_used HST9.out.has).2; show L5.length ≤ _; have hx : othX.length = 1 := rfl; omega)
        have HNM := Lib.hid hnm
        clear hnm
        have hz : 0 < (S.m.n + 1) := of_decide_eq_true hse.symm
        have hzb : decide ((0 : Int) < (S.m.n + 1)) = true := hse.symm
        clear hse
        have hlen : (⟨L5, 10000, n5, -1, false⟩ : DiskD).files.length = 2 := by
          show L5.length = 2
          rw [HST9.out.has.length, List.length_append, kept_eq rfl]
          rfl
        have hnm := HNM.out
        rw [hlen] at hnm
        have HNM2 := Lib.hid hnm
        have hmn : min (S.m.n + 1) 1 = 1 := by omega
        clear hnm hlen HNM
        have hka := HK9.out; have hkb := HKX.out
        have a0 := hka.cell 0; have a1 := hka.cell 1; have a2 := hka.cell 2; have a3 := hka.cell 3; have a4 := hka.cell 4; have a5 := hka.cell 5; have a6 := hka.cell 6
        have b0 := hkb.cell 0; have b1 := hkb.cell 1; have b2 := hkb.cell 2; have b3 := hkb.cell 3; have b4 := hkb.cell 4; have b5 := hkb.cell 5; have b6 := hkb.cell 6
        simp only [List.getElem?_toArray, List.getElem?_cons_zero, List.getElem?_cons_succ] at a0 a1 a2 a3 a4 a5 a6 b0 b1 b2 b3 b4 b5 b6
        have hnq := run_neq_man1 (nextM S m)
        clear hka hkb
        go_wp2_with fail
        clear hnq a0 a1 a2 a3 a4 a5 a6 b0 b1 b2 b3 b4 b5 b6
        refine HNM2.out.mono ?_
        rintro e w10 ⟨An, cn, rfl, -, hb10⟩
        have HST10 := Lib.hid (HST9.out.below_ hb10); have HK10 := Lib.hid (HK9.out.below hb10 HK9.out.lt)
        clear hb10 HNM2 HST9 HK9
        have hcp := copy_any w10 _ _ _ _ HST10.out.is (by have := (kept_used HST10.out.has).2; show L5.length ≤ _; have hx : othX.length = 1 := rfl; omega)
        have HCP := Lib.hid hcp
        clear hcp
        go_wp2_with fail
        refine HCP.out.mono ?_
        rintro e w11 ⟨v11, rfl, hd11, hb11⟩
        have HBS := Lib.hid HST10.out.below.size
        have hST11 := HST10.out.below_ hb11
        have hK11 := HK10.out.below hb11 HK10.out.lt
        have hT11 : Tb w10.heap.size w11 := (HT.out.on1 HST10.out.below).on hb11
        have hop := open_c (G := []) hd11 hT11 othX_oth HST10.out.ok hb11.size ((HST10.out.fit (by omega) (by decide)).less (by omega)) (.inl (.inl rfl)) HST10.out.has
        have hap := (apart_new HST10.out.is hd11).symm
        have HOP := Lib.hid hop; have HST11 := Lib.hid hST11; have HK11 := Lib.hid hK11; have HAP := Lib.hid hap
        clear hop hST11 hK11 hap hT11 hd11 hb11 HCP HST10 HK10
        go_wp2_with fail
        refine HOP.out.mono ?_
        rintro e w12 ⟨g12, L12, n12, v12, rfl, ho, hst12, -, -, -, -⟩
        obtain ⟨hd12, -⟩ := ho.other _ _ _ _ HST11.out.is HAP.out
        have hST12 : StSt w w12 w.heap.size gs v5 10000 othX L5 n5 ⟨nextM S m, true⟩ := ⟨hd12, ho.keep_blk HST11.out.st (by decide) (by decide), HST11.out.gl, HST11.out.below.trans (ho.below.mono HBS.out), HST11.out.ok, HST11.out.has, HST11.out.n0⟩
        have hK12 := ho.keep_blk HK11.out (by decide) (by decide)
        have hN := newest_any w12 g12 _ _ hst12
        dsimp only at hN
        have HST12 := Lib.hid hST12; have HK12 := Lib.hid hK12; have HN12 := Lib.hid hN
        clear hST12 hK12 hN hd12 hst12 ho HOP HST11 HK11 HAP
        go_wp2_with fail
        refine HN12.out.mono ?_
        rintro e w13 ⟨rfl, hb13⟩
        have h8 : mCells (nextM S m) = #[.int .i64 (S.m.n + 1), .int .i64 m.epoch, .int .i64 m.step, .int .i64 m.sum, .int .i64 m.most, .bool m.done, .int .u32 m.job] := rfl
        have hk13 := Blk.new w13 24 #[.int .i64 0, .int .i64 0, .int .i64 0, .int .i64 0, .int .i64 0, .bool false, .int .u32 0]
        have hk14 := hk13.setRow #[.int .i64 (S.m.n + 1), .int .i64 m.epoch, .int .i64 m.step, .int .i64 m.sum, .int .i64 m.most, .bool m.done, .int .u32 m.job]
        have hone := mCells_oneA (nextM S m)
        have hb14 := hb13.trans ((below_row ((Below.refl w13.heap.size w13).alloc (Nat.le_refl _) (.cells #[.int .i64 0, .int .i64 0, .int .i64 0, .int .i64 0, .int .i64 0, .bool false, .int .u32 0] 24)) (Nat.le_refl _) #[.int .i64 (S.m.n + 1), .int .i64 m.epoch, .int .i64 m.step, .int .i64 m.sum, .int .i64 m.most, .bool m.done, .int .u32 m.job]).mono hb13.size)
        rw [h8] at hone
        have HK13 := Lib.hid hk13; have HK14 := Lib.hid hk14; have HONE := Lib.hid hone; have HST14 := Lib.hid (HST12.out.below_ hb14); have HY14 := Lib.hid (HK12.out.below hb14 HK12.out.lt)
        rw [h8]
        clear hk13 hk14 hone hb14 hb13 HN12 HST12 h8 HK12 y0
        go_upto_region 28 with (first | (refine wpList_store_row rfl 24 (.tmp 15) (.tmp 106) rfl w13.heap.size #[.int .i64 (S.m.n + 1), .int .i64 m.epoch, .int .i64 m.step, .int .i64 m.sum, .int .i64 m.most, .bool m.done, .int .u32 m.job] rfl rfl 24 _ HK13.out infoMf rfl HONE.out ?_))
        obtain ⟨w14, hw14⟩ : ∃ w14, (w13.alloc (.cells #[.int .i64 0, .int .i64 0, .int .i64 0, .int .i64 0, .int .i64 0, .bool false, .int .u32 0] 24)).setRow w13.heap.size #[.int .i64 (S.m.n + 1), .int .i64 m.epoch, .int .i64 m.step, .int .i64 m.sum, .int .i64 m.most, .bool m.done, .int .u32 m.job] = w14 := ⟨_, rfl⟩
        rw [hw14] at HK14 HST14 HY14 ⊢
        clear hw14 HK13 HONE
        have hka := HK14.out; have hkb := HY14.out
        have a0 := hka.cell 0; have a1 := hka.cell 1; have a2 := hka.cell 2; have a3 := hka.cell 3; have a4 := hka.cell 4; have a5 := hka.cell 5; have a6 := hka.cell 6
        have b0 := hkb.cell 0; have b1 := hkb.cell 1; have b2 := hkb.cell 2; have b3 := hkb.cell 3; have b4 := hkb.cell 4; have b5 := hkb.cell 5; have b6 := hkb.cell 6
        simp only [List.getElem?_toArray, List.getElem?_cons_zero, List.getElem?_cons_succ] at a0 a1 a2 a3 a4 a5 a6 b0 b1 b2 b3 b4 b5 b6
        have hnq := run_neq_man1 (nextM S m)
        clear hka hkb
        go_wp2
        go_roundg gf
        case measure => omega
        case rel => exact ⟨i + 1, L5, n5, v5, ⟨nextM S m, true⟩, by go_num, rfl, by omega, by omega, HST14.out⟩
theorem lawOne_any {w : World} (A : Option Addr) (l : List ManM) (c : Nat) (hM : Mans w A l) (hT : Tb w.heap.size w) :
    Calls Tryd.prog 6 #[.slice A l.length c] w fun e w' => e = .returned (.bool true) ∧ Below w.heap.size w w' := by
  by_cases hl : l.length ≤ 20
  · exact one_main w A c l hM hl hT
  · have hlI : (20 : Int) < (l.length : Int) := by omega
    have HWK := Lib.hid (works_any w hT)
    clear hM hl hT
    go_enter Tryd.func6, Tryd.ntmps6
    go_wp2_with fail
    refine HWK.out.mono ?_
    rintro e w2 ⟨rfl, hb2⟩
    have HB2 := Lib.hid hb2
    clear hb2
    go_wp2
    go_ret
    exact ⟨rfl, HB2.out⟩
end Go.Proofs.YtlcgkcafelpglaaDoor
