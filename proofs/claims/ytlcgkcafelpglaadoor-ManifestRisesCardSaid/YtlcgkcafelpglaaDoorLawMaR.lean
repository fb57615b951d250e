/- The law of manifests whose numbers rise: its walk. -/
import Derived.Test.YtlcgkcafelpglaaDoorMaZ
import Derived.Test.YtlcgkcafelpglaaDoorOpenMb
import Derived.Test.YtlcgkcafelpglaaDoorMaPn
import Derived.Test.YtlcgkcafelpglaaDoorRfD
import Derived.Deep.DeepCutAuto
namespace Go.Proofs.YtlcgkcafelpglaaDoor
open Go.RowKit Go.Maps

theorem man_struct2 : Tryd.prog.underlying 24 = some (.struct (Tryd.prog.fieldsOf 24)) := by kernel_rfl
theorem man_plain2 : Tryd.prog.stoodInHeld 24 = false := by kernel_rfl
set_option maxHeartbeats 2000000 in
theorem run_neq_man2 (a b c d e : Int) (f : Bool) (g : Nat) (w : World) : (binOp .neq 24 (.agg #[.int .i64 a, .int .i64 b, .int .i64 c, .int .i64 d, .int .i64 e, .bool f, .int .u32 g]) (.agg #[.int .i64 a, .int .i64 b, .int .i64 c, .int .i64 d, .int .i64 e, .bool f, .int .u32 g])).run Tryd.prog w = .ok (.bool false) w := by
  rw [run_neq_struct, run_equalIn_agg _ _ _ _ _ man_struct2 man_plain2]
  simp [go_sem]
theorem Tb.on2 {w W : World} (h : Tb w.heap.size w) (hb : Below w.heap.size w W) : Tb W.heap.size W := fun w2 h2 => h w2 (hb.trans (h2.mono hb.size))
theorem Mans.row {w : World} {b o : Nat} {l : List ManM} (h : Mans w (some ⟨b, o, none⟩) l) {i : Nat} {m : ManM} (hm : l[i]? = some m) :
    w.cell? ⟨b, o + i * 7, none⟩ = some (.int .i64 m.n) ∧ w.cell? ⟨b, o + i * 7 + 1, none⟩ = some (.int .i64 m.epoch) ∧ w.cell? ⟨b, o + i * 7 + 2, none⟩ = some (.int .i64 m.step) ∧ w.cell? ⟨b, o + i * 7 + 3, none⟩ = some (.int .i64 m.sum) ∧
    w.cell? ⟨b, o + i * 7 + 4, none⟩ = some (.int .i64 m.most) ∧ w.cell? ⟨b, o + i * 7 + 5, none⟩ = some (.bool m.done) ∧ w.cell? ⟨b, o + i * 7 + 6, none⟩ = some (.int .u32 m.job) := by
  obtain ⟨b2, o2, he, _, hc⟩ := h (Nat.lt_of_le_of_lt (Nat.zero_le _) (List.getElem?_eq_some_iff.1 hm).1)
  injection he with he
  injection he with h1 h2 _
  subst h1 h2
  obtain ⟨_, hx⟩ := hc i m hm
  exact ⟨hx 0 (by decide), hx 1 (by decide), hx 2 (by decide), hx 3 (by decide), hx 4 (by decide), hx 5 (by decide), hx 6 (by decide)⟩
theorem Aft.keep_blk {B gs : Nat} {w w1 : World} {p : Nat} {v v1 : Value} {S1 : StD} {D1 : DiskD} (o : Aft B gs w w1 p v S1 D1 v1) {g : Nat} {t : TypeId} {cs : Array Value} (h : Blk w g t cs) (h0 : g ≠ gs) (h1 : t ≠ 79) (h2 : t ≠ 87) : Blk w1 g t cs := (o.blk g cs t _ h0 h1 h2 h).trans h
/-- whether a store is opened again -/
def openAt (ol : List Bool) (i : Nat) : Bool := (ol[i]?).getD false
set_option maxRecDepth 100000 in
set_option maxHeartbeats 16000000 in
theorem rises_main (w : World) (A : Option Addr) (c : Nat) (l : List ManM) (hM : Mans w A l) (A2 : Option Addr) (c2 : Nat) (ol : List Bool) (hO : Bools w A2 ol) (hl : l.length ≤ 60) (hT : Tb w.heap.size w) :
    Calls Tryd.prog 5 #[.slice A l.length c, .slice A2 ol.length c2] w fun e w' => e = .returned (.bool true) ∧ Below w.heap.size w w' := by
  have hlI : ¬ (60 : Int) < (l.length : Int) := by omega
  have hwk : ∀ W, Below w.heap.size w W → Calls Tryd.prog 8 #[] W fun e w' => e = .returned (.bool true) ∧ Below W.heap.size W w' := fun W hW => works_any W (hT.on2 hW)
  have HM := Lib.hid hM; have HO := Lib.hid hO; have HT := Lib.hid hT; have HWK := Lib.hid hwk
  clear hM hO hT hwk
  go_enter Tryd.func5, Tryd.ntmps5
  go_wp2_with fail
  refine (new_any 1048576 _).mono ?_
  rintro e w1 ⟨rfl, hd1, hb1⟩
  have hc := open_c (G := []) (S := ⟨zeroM, false⟩) (L := []) (X := []) (q := 1048576) (n := 0) hd1 (HT.out.on hb1) oth_nil zeroS_ok hb1.size (fitN_of (by decide) (by decide) (by decide) (by decide)) (.inl (.inl rfl)) has_nil
  have HC := Lib.hid hc; have HB1 := Lib.hid hb1
  clear hc hd1 hb1
  go_wp2_with fail
  refine HC.out.mono ?_
  rintro e w4 ⟨gs, L4, n4, v4, rfl, ho, hst, hgs, hh, hn1, hn2⟩
  have h0 : StSt w w4 w.heap.size gs v4 1048576 [] L4 n4 ⟨zeroM, false⟩ := ⟨ho.is, hst, Nat.le_trans HB1.out.size hgs, HB1.out.trans (ho.below.mono (Nat.le_refl _)), zeroS_ok, hh, by omega⟩
  have H0 := Lib.hid h0
  clear h0 ho hst hgs hh HC HB1
  go_wp2
  go_loopg [6, 7, 8, 9] l.length (fun gf vs ve vn vi wr => ∃ (i : Nat) (L : List FileD) (n : Int) (v : Value) (S : StD) (gs : Nat), vs = .pointer (some ⟨gs, 0, none⟩) ∧ ve = .int .i64 0 ∧ vn = .int .i64 S.m.n ∧ vi = .int .i64 i ∧ i + gf = l.length ∧ n ≤ 1 + 10 * i ∧ StSt w wr w.heap.size gs v 1048576 [] L n S)
  case atStart => exact ⟨0, L4, n4, v4, ⟨zeroM, false⟩, gs, rfl, rfl, rfl, rfl, by omega, by omega, H0.out⟩
  case round =>
    clear H0
    obtain ⟨i, L, n, v, S, gs, rfl, rfl, rfl, rfl, hi, hn, hst⟩ := hrel
    cases gk with
    | zero =>
      obtain rfl : i = l.length := by omega
      have HW := Lib.hid (HWK.out _ hst.below); have HB := Lib.hid hst.below
      clear hst hn hi
      go_wp2_with fail
      refine HW.out.mono ?_
      rintro e w5 ⟨rfl, hb5⟩
      have HB5 := Lib.hid (HB.out.trans (hb5.mono HB.out.size))
      clear hb5
      go_wp2
      go_ret
      exact ⟨rfl, HB5.out⟩
    | succ gf =>
      obtain ⟨m, hm⟩ : ∃ m, l[i]? = some m := ⟨_, List.getElem?_eq_getElem (by omega)⟩
      obtain ⟨bb, oo, rfl, -, hcl⟩ := HM.out (by omega)
      have hok := (hcl i m hm).1
      have hiI : (i : Int) < (l.length : Int) := by omega
      have hS := hst.ok.nn
      obtain ⟨hS0, hS1⟩ := hS
      have HST := Lib.hid hst; have HOK := Lib.hid hok; have HMI := Lib.hid hm
      clear hst hok hm hcl
      go_upto_region 11 with (fail)
      go_cut [45] (fun s45 wx => s45 = .bool (openAt ol i) ∧ wr = wx)
      case first =>
        by_cases hio : i < ol.length
        · have hioI : (i : Int) < (ol.length : Int) := by omega
          obtain ⟨b2, o2, rfl, -, hcb⟩ := (HO.out.below HST.out.below) (by omega)
          obtain ⟨x, hx⟩ : ∃ x, ol[i]? = some x := ⟨_, List.getElem?_eq_getElem hio⟩
          have hox : openAt ol i = x := by unfold openAt; rw [hx]; rfl
          have hcx := hcb i x hx
          have HOX := Lib.hid hox
          clear hcb hx hox
          go_wp2
          go_meet
          exact ⟨by rw [HOX.out], rfl⟩
        · have hioI : ¬ (i : Int) < (ol.length : Int) := by omega
          have hiob : decide ((i : Int) < (ol.length : Int)) = false := decide_eq_false hioI
          have hox : openAt ol i = false := by unfold openAt; rw [List.getElem?_eq_none (by omega)]; rfl
          have HOX := Lib.hid hox
          clear hox
          go_wp2
          go_meet
          exact ⟨by rw [HOX.out], rfl⟩
      case rest =>
      obtain ⟨rfl, rfl⟩ := hcut
      go_upto_if 45 with (fail)
      go_cut [6, 7] (fun s6 s7 wx => ∃ (gs2 : Nat) (L2 : List FileD) (n2 : Int) (v2 : Value), s6 = .pointer (some ⟨gs2, 0, none⟩) ∧ s7 = .int .i64 0 ∧ n2 ≤ n + 1 ∧ StSt w wx w.heap.size gs2 v2 1048576 [] L2 n2 S)
      case first =>
        cases openAt ol i with
        | false =>
          go_wp2
          go_meet
          exact ⟨gs, L, n, v, rfl, rfl, by omega, HST.out⟩
        | true =>
          have HOP := Lib.hid (st_open HST.out oth_nil HT.out (by omega) (by decide))
          go_wp2_with fail
          refine HOP.out.mono ?_
          rintro e w5 ⟨g2, rfl, L2, n2, v2, h5, hn5, -, -⟩
          have HST5 := Lib.hid h5
          clear h5 HOP
          go_wp2
          go_meet
          exact ⟨g2, L2, n2, v2, rfl, rfl, hn5, HST5.out⟩
      case rest =>
      clear HST
      obtain ⟨gs2, L2, n2, v2, rfl, rfl, hn2, hst⟩ := hcut
      have hrow := (HM.out.below hst.below).row HMI.out
      obtain ⟨c0, c1, c2_, c3, c4, c5, c6⟩ := hrow
      have hk8 := Blk.new wc 24 #[.int .i64 0, .int .i64 0, .int .i64 0, .int .i64 0, .int .i64 0, .bool false, .int .u32 0]
      have hone := mCells_oneA m
      rw [show mCells m = #[.int .i64 m.n, .int .i64 m.epoch, .int .i64 m.step, .int .i64 m.sum, .int .i64 m.most, .bool m.done, .int .u32 m.job] from rfl] at hone
      have HK8 := Lib.hid hk8; have HONE := Lib.hid hone; have HST2 := Lib.hid hst
      clear hk8 hone hst
      go_upto_region 16 with (first | (refine wpList_store_row rfl 24 (.tmp 10) (.tmp 56) rfl wc.heap.size #[.int .i64 m.n, .int .i64 m.epoch, .int .i64 m.step, .int .i64 m.sum, .int .i64 m.most, .bool m.done, .int .u32 m.job] rfl rfl 24 _ HK8.out infoMf rfl HONE.out ?_))
      have hk9 := HK8.out.setRow #[.int .i64 m.n, .int .i64 m.epoch, .int .i64 m.step, .int .i64 m.sum, .int .i64 m.most, .bool m.done, .int .u32 m.job]
      have hb8 := below_row ((Below.refl wc.heap.size wc).alloc (Nat.le_refl _) (.cells #[.int .i64 0, .int .i64 0, .int .i64 0, .int .i64 0, .int .i64 0, .bool false, .int .u32 0] 24)) (Nat.le_refl _) #[.int .i64 m.n, .int .i64 m.epoch, .int .i64 m.step, .int .i64 m.sum, .int .i64 m.most, .bool m.done, .int .u32 m.job]
      obtain ⟨w8, hw8⟩ : ∃ w8, (wc.alloc (.cells #[.int .i64 0, .int .i64 0, .int .i64 0, .int .i64 0, .int .i64 0, .bool false, .int .u32 0] 24)).setRow wc.heap.size #[.int .i64 m.n, .int .i64 m.epoch, .int .i64 m.step, .int .i64 m.sum, .int .i64 m.most, .bool m.done, .int .u32 m.job] = w8 := ⟨_, rfl⟩
      rw [hw8] at hk9 hb8 ⊢
      have x0 := hk9.cell 0; have f0 := hk9.frozen 0
      simp only [List.getElem?_toArray, List.getElem?_cons_zero] at x0
      have hkx : Blk (w8.setCell ⟨wc.heap.size, 0, none⟩ (.int .i64 (S.m.n + 1))) wc.heap.size 24 #[.int .i64 (S.m.n + 1), .int .i64 m.epoch, .int .i64 m.step, .int .i64 m.sum, .int .i64 m.most, .bool m.done, .int .u32 m.job] := hk9.set_ 0 (.int .i64 (S.m.n + 1))
      have hb9 := hb8.setCell (p := ⟨wc.heap.size, 0, none⟩) (Nat.le_refl _) (.int .i64 (S.m.n + 1))
      obtain ⟨w9, hw9⟩ : ∃ w9, w8.setCell ⟨wc.heap.size, 0, none⟩ (.int .i64 (S.m.n + 1)) = w9 := ⟨_, rfl⟩
      rw [hw9] at hkx hb9
      have HKX := Lib.hid hkx; have HST9 := Lib.hid (HST2.out.below_ hb9); have HW9 := Lib.hid hw9; have HGX := Lib.hid (show wc.heap.size ≠ gs2 from fun e => by have := Blk.lt HST2.out.st; omega)
      clear hk9 hb8 hkx hb9 hw8 hw9 HST2 HK8 HONE c0 c1 c2_ c3 c4 c5 c6
      go_upto_region 17 with (fail)
      rw [HW9.out]
      clear x0 f0 HW9
      obtain ⟨gx, hgx⟩ : ∃ gx, wc.heap.size = gx := ⟨_, rfl⟩
      rw [hgx] at HKX HGX ⊢
      clear hgx
      have h1 : mCells (nextM S m) = #[.int .i64 (S.m.n + 1), .int .i64 m.epoch, .int .i64 m.step, .int .i64 m.sum, .int .i64 m.most, .bool m.done, .int .u32 m.job] := rfl
      have hpl : ∀ W, Calls Tryd.prog 11 #[.agg (mCells (nextM S m))] W fun e w' => e = .returned (.agg (mCells (nextM S m))) ∧ Below W.heap.size W w' := plain_any (nextM S m)
      have hmy := rfMay_any (nextM S m)
      have hrb := rfBytes_any (nextM S m) ⟨⟨by show _ ≤ S.m.n + 1; omega, by show S.m.n + 1 ≤ _; omega⟩, HOK.out.epoch, HOK.out.step, HOK.out.sum, HOK.out.most, HOK.out.job⟩
      rw [h1] at hpl hmy hrb
      have HPL := Lib.hid hpl; have HMY := Lib.hid hmy; have HRB := Lib.hid hrb
      have hkx := HKX.out
      have y0 := hkx.cell 0; have y1 := hkx.cell 1; have y2 := hkx.cell 2; have y3 := hkx.cell 3; have y4 := hkx.cell 4; have y5 := hkx.cell 5; have y6 := hkx.cell 6
      simp only [List.getElem?_toArray, List.getElem?_cons_zero, List.getElem?_cons_succ] at  y0 y1 y2 y3 y4 y5 y6
      clear h1 hpl hmy hrb hkx
      go_wp2_with fail
      refine (HPL.out _).mono ?_
      rintro e w10 ⟨rfl, hb10⟩
      have HB10 := Lib.hid hb10
      clear hb10 y0 y1 y2 y3 y4 y5 y6
      go_wp2_with fail
      refine (HMY.out _).mono ?_
      rintro e w11 ⟨rfl, hb11⟩
      have hb911 := HB10.out.trans (hb11.mono HB10.out.size)
      have HST11 := Lib.hid (HST9.out.below_ hb911); have HKX11 := Lib.hid (HKX.out.below hb911 HKX.out.lt)
      clear hb911 hb11 HB10 HST9 HKX HMY
      have hrow := (HM.out.below HST11.out.below).row HMI.out
      obtain ⟨c0, c1, c2_, c3, c4, c5, c6⟩ := hrow
      cases hy : (nextM S m).may with
      | false =>
        have hw := st_write_no HST11.out HT.out (by omega) (by decide) HOK.out hy
        rw [show mCells m = #[.int .i64 m.n, .int .i64 m.epoch, .int .i64 m.step, .int .i64 m.sum, .int .i64 m.most, .bool m.done, .int .u32 m.job] from rfl] at hw
        have HW := Lib.hid hw
        clear hw hy
        go_wp2_with fail
        refine HW.out.mono ?_
        rintro e w12 ⟨rfl, v3, h12, -⟩
        have hn12 := newest_any w12 gs2 w.heap.size _ h12.st
        rw [show mCells S.m = #[.int .i64 S.m.n, .int .i64 S.m.epoch, .int .i64 S.m.step, .int .i64 S.m.sum, .int .i64 S.m.most, .bool S.m.done, .int .u32 S.m.job] from rfl] at hn12
        have HST12 := Lib.hid h12; have HN := Lib.hid hn12
        clear h12 hn12 HW HST11 HKX11 HGX c0 c1 c2_ c3 c4 c5 c6
        go_wp2_with fail
        refine HN.out.mono ?_
        rintro e w13 ⟨rfl, hb13⟩
        have hk13 := Blk.new w13 24 #[.int .i64 0, .int .i64 0, .int .i64 0, .int .i64 0, .int .i64 0, .bool false, .int .u32 0]
        have hk14 := hk13.setRow #[.int .i64 S.m.n, .int .i64 S.m.epoch, .int .i64 S.m.step, .int .i64 S.m.sum, .int .i64 S.m.most, .bool S.m.done, .int .u32 S.m.job]
        have hone := mCells_oneA S.m
        rw [show mCells S.m = #[.int .i64 S.m.n, .int .i64 S.m.epoch, .int .i64 S.m.step, .int .i64 S.m.sum, .int .i64 S.m.most, .bool S.m.done, .int .u32 S.m.job] from rfl] at hone
        have hb1314 := below_row ((Below.refl w13.heap.size w13).alloc (Nat.le_refl _) (.cells #[.int .i64 0, .int .i64 0, .int .i64 0, .int .i64 0, .int .i64 0, .bool false, .int .u32 0] 24)) (Nat.le_refl _) #[.int .i64 S.m.n, .int .i64 S.m.epoch, .int .i64 S.m.step, .int .i64 S.m.sum, .int .i64 S.m.most, .bool S.m.done, .int .u32 S.m.job]
        have hb14 := hb13.trans (hb1314.mono hb13.size)
        have HK13 := Lib.hid hk13; have HK14 := Lib.hid hk14; have HONE := Lib.hid hone; have HST14 := Lib.hid (HST12.out.below_ hb14); have HBX := Lib.hid hb1314
        clear hk13 hk14 hone hb14 hb1314 hb13 HN HST12
        go_upto_region 22 with (first | (refine wpList_store_row rfl 24 (.tmp 13) (.tmp 84) rfl w13.heap.size #[.int .i64 S.m.n, .int .i64 S.m.epoch, .int .i64 S.m.step, .int .i64 S.m.sum, .int .i64 S.m.most, .bool S.m.done, .int .u32 S.m.job] rfl rfl 24 _ HK13.out infoMf rfl HONE.out ?_))
        obtain ⟨w14, hw14⟩ : ∃ w14, (w13.alloc (.cells #[.int .i64 0, .int .i64 0, .int .i64 0, .int .i64 0, .int .i64 0, .bool false, .int .u32 0] 24)).setRow w13.heap.size #[.int .i64 S.m.n, .int .i64 S.m.epoch, .int .i64 S.m.step, .int .i64 S.m.sum, .int .i64 S.m.most, .bool S.m.done, .int .u32 S.m.job] = w14 := ⟨_, rfl⟩
        rw [hw14] at HK14 HST14 HBX ⊢
        have HLT := Lib.hid (Blk.lt HK14.out)
        clear hw14 HK13 HONE
        have hse := HST14.out.ok.some_eq
        cases hsm : S.some with
        | false =>
          rw [hsm] at hse
          have hz0 : S.m.n = 0 := by have := of_decide_eq_false hse.symm; omega
          have hkc := HK14.out.cell 0
          simp only [List.getElem?_toArray, List.getElem?_cons_zero] at hkc
          have hlen : (⟨L2, 1048576, n2, -1, false⟩ : DiskD).files.length = 0 := by
            show L2.length = 0
            rw [HST14.out.has.length, List.length_append, kept_no hsm]
            rfl
          have hnm := names_any w14 _ _ _ _ HST14.out.is (by rw [hlen]; decide)
          rw [hlen] at hnm
          have HNM := Lib.hid hnm; have HZ0 := Lib.hid hz0
          rw [hz0] at hkc ⊢
          clear hnm hlen hse hz0 HK14
          go_wp2_with fail
          refine HNM.out.mono ?_
          rintro e w15 ⟨An, cn, rfl, -, hb15⟩
          have HST15 := Lib.hid (HST14.out.below_ hb15)
          have hk0 : w15.cell? ⟨w13.heap.size, 0, none⟩ = some (.int .i64 0) := (hb15.cell (p := ⟨w13.heap.size, 0, none⟩) HLT.out).trans hkc
          clear hb15 HNM HST14 hkc HLT
          go_wp2
          go_roundg gf
          case measure => omega
          case rel => exact ⟨i + 1, L2, n2, v3, S, gs2, rfl, rfl, by rw [HZ0.out], by go_num, by omega, by omega, HST15.out⟩
        | true =>
          rw [hsm] at hse
          have hz : 0 < S.m.n := of_decide_eq_true hse.symm
          clear hse
          have hgd := (HST14.out.ok.1 hsm).1
          have hpl := plain_any S.m
          have hrb := rfBytes_any S.m hgd
          rw [show mCells S.m = #[.int .i64 S.m.n, .int .i64 S.m.epoch, .int .i64 S.m.step, .int .i64 S.m.sum, .int .i64 S.m.most, .bool S.m.done, .int .u32 S.m.job] from rfl] at hpl hrb
          have HPL2 := Lib.hid hpl; have HRB2 := Lib.hid hrb
          clear hpl hrb hgd
          clear HPL HRB
          have HPL := HPL2; have HRB := HRB2
          clear HPL2 HRB2
          have hhas : Has L2 (keptF S ++ []) := HST14.out.has
          rw [List.append_nil, kept_eq hsm] at hhas
          have hone := hhas.one_eq
          have hlen : (⟨L2, 1048576, n2, -1, false⟩ : DiskD).files.length = 1 := by rw [hone]; rfl
          have hnm := names_any w14 _ _ _ _ HST14.out.is (by rw [hlen]; decide)
          rw [hlen] at hnm
          have hrdq : (⟨L2, 1048576, n2, -1, false⟩ : DiskD).read (nameM S.m.n) = (0, ManM.bytes S.m) := read_has hhas (List.mem_singleton.2 rfl) (fileM_bad (HST14.out.ok.1 hsm).1)
          have hfil : (⟨L2, 1048576, n2, -1, false⟩ : DiskD).files.map (fun f => Value.string f.name) = [.string (nameM S.m.n)] := by rw [hone]; rfl
          have HNM := Lib.hid hnm; have HRD := Lib.hid hrdq; have HFIL := Lib.hid hfil
          clear hnm hlen hrdq hfil hhas hone
          go_wp2_with fail
          refine HNM.out.mono ?_
          rintro e w15 ⟨An, cn, rfl, hrn, hb15⟩
          have HST15 := Lib.hid (HST14.out.below_ hb15); have HK15 := Lib.hid (HK14.out.below hb15 HK14.out.lt)
          rw [HFIL.out] at hrn
          obtain ⟨ad, u, rfl, hu, hcu⟩ := Rd.at_ (k := 0) hrn (by decide)
          have hu2 : u = .string (nameM S.m.n) := by
            have h1 : [Value.string (nameM S.m.n)][0]? = some (.string (nameM S.m.n)) := rfl
            rw [h1] at hu
            injection hu with hu
            exact hu.symm
          subst hu2
          have hadb : ad.block < w15.heap.size := by
            obtain ⟨_, e, hb', _⟩ := hrn.2 (by decide)
            injection e with e
            subst e
            exact hb'
          have ha0 : ad.add 0 = ad := by unfold Addr.add; simp
          rw [ha0] at hcu
          have k0 := HK15.out.cell 0
          simp only [List.getElem?_toArray, List.getElem?_cons_zero] at k0
          have hrd := d_read HST15.out.is (HST15.out.fit (by omega) (by decide)).fit HRD.out
          have HRDC := Lib.hid hrd; have HADL := Lib.hid hadb
          clear hrd hb15 hrn hu HNM HST14 HK14 HRD HFIL ha0 hadb
          go_wp2_with fail
          refine HRDC.out.mono ?_
          rintro e w16 ⟨bv, rfl, hbv, hb16⟩
          have HST16 := Lib.hid (HST15.out.below_ hb16); have HK16 := Lib.hid (HK15.out.below hb16 HK15.out.lt)
          have hss : ∀ wx, Below w16.heap.size w16 wx → (fun wq => (Instr.loadAt 9 (.pointer (some ad))).run Tryd.prog wq = .ok (.string (nameM S.m.n)) wq ∧ (convert 25 9 bv).run Tryd.prog wq = .ok (.string (ManM.bytes S.m)) wq ∧ (Instr.loadAt 24 (.pointer (some ⟨w13.heap.size, 0, none⟩))).run Tryd.prog wq = .ok (.agg #[.int .i64 S.m.n, .int .i64 S.m.epoch, .int .i64 S.m.step, .int .i64 S.m.sum, .int .i64 S.m.most, .bool S.m.done, .int .u32 S.m.job]) wq) wx := fun wx hx => by
            refine ⟨?_, (hbv.below hx).conv, ?_⟩
            · have hc : wx.cell? ad = some (.string (nameM S.m.n)) := (hx.cell (Nat.lt_of_lt_of_le HADL.out hb16.size)).trans ((hb16.cell HADL.out).trans hcu)
              go_simp
            · exact run_load_M wx _ S.m (HK16.out.below hx HK16.out.lt)
          have hname : ∀ W, Calls Tryd.prog 21 #[.int .i64 S.m.n] W fun e w' => e = .returned (.string (nameM S.m.n)) ∧ W = w' := fun W => (rname_any W S.m.n (by omega) (by omega)).mono fun _ _ ⟨h1, h2⟩ => ⟨h1, h2.symm⟩
          have HSS := Lib.hid hss; have HNAME := Lib.hid hname
          clear hss hname hbv hb16 hcu k0 HST15 HK15 HRDC HADL
          go_upto_region 31 with (fail)
          refine wp_region_held_drew (S := (fun wq => (Instr.loadAt 9 (.pointer (some ad))).run Tryd.prog wq = .ok (.string (nameM S.m.n)) wq ∧ (convert 25 9 bv).run Tryd.prog wq = .ok (.string (ManM.bytes S.m)) wq ∧ (Instr.loadAt 24 (.pointer (some ⟨w13.heap.size, 0, none⟩))).run Tryd.prog wq = .ok (.agg #[.int .i64 S.m.n, .int .i64 S.m.epoch, .int .i64 S.m.step, .int .i64 S.m.sum, .int .i64 S.m.most, .bool S.m.done, .int .u32 S.m.job]) wq)) (by kernel_rfl) ?_ (fun hHeld => ?_)
          · exact HSS.out _ (below_drewN (Below.refl _ _) 1)
          refine wpAnyH_take (i := 0) (v := ?v0g1_) rfl (by kernel_rfl) (by kernel_rfl) (by kernel_rfl) (fun _ _ _ h => h) (Or.inl ⟨by rfl, ?y0g1_⟩) (by assumption) ?r0g1_
          case y0g1_ => (intro w hSw; (try dsimp only at hSw); go_simp; try with_reducible rfl)
          change wpAnyH _ _ _ _ _ _ _ (Act.put _ (some 132) _) _; simp only [Act.put, List.setIfInBounds_toArray, List.set_cons_zero, List.set_cons_succ]
          refine wpAnyH_take (i := 1) (v := ?v1g1_) rfl (by kernel_rfl) (by kernel_rfl) (by kernel_rfl) (fun _ _ _ h => h) (Or.inl ⟨by rfl, ?y1g1_⟩) (by assumption) ?r1g1_
          case y1g1_ => (intro w hSw; (try dsimp only at hSw); go_simp; try with_reducible rfl)
          change wpAnyH _ _ _ _ _ _ _ (Act.put _ (some 133) _) _; simp only [Act.put, List.setIfInBounds_toArray, List.set_cons_zero, List.set_cons_succ]
          refine wpAnyH_take (i := 2) (v := ?v2g1_) rfl (by kernel_rfl) (by kernel_rfl) (by kernel_rfl) (fun _ _ _ h => h) (Or.inl ⟨by rfl, ?y2g1_⟩) (by assumption) ?r2g1_
          case y2g1_ => (intro w hSw; (try dsimp only at hSw); go_simp; try with_reducible rfl)
          change wpAnyH _ _ _ _ _ _ _ (Act.put _ (some 134) _) _; simp only [Act.put, List.setIfInBounds_toArray, List.set_cons_zero, List.set_cons_succ]
          refine wpAnyH_take (i := 3) (v := ?v3g1_) rfl (by kernel_rfl) (by kernel_rfl) (by kernel_rfl) (fun _ _ _ h => h) (Or.inl ⟨by rfl, ?y3g1_⟩) (by assumption) ?r3g1_
          case y3g1_ => (intro w hSw; (try dsimp only at hSw); go_simp; try with_reducible rfl)
          change wpAnyH _ _ _ _ _ _ _ (Act.put _ (some 135) _) _; simp only [Act.put, List.setIfInBounds_toArray, List.set_cons_zero, List.set_cons_succ]
          refine wpAnyH_take (i := 4) (v := ?v4g1_) rfl (by kernel_rfl) (by kernel_rfl) (by kernel_rfl) (fun _ _ _ h => h) (Or.inl ⟨by rfl, ?y4g1_⟩) (by assumption) ?r4g1_
          case y4g1_ => (intro w hSw; (try dsimp only at hSw); go_simp; try with_reducible rfl)
          change wpAnyH _ _ _ _ _ _ _ (Act.put _ (some 136) _) _; simp only [Act.put, List.setIfInBounds_toArray, List.set_cons_zero, List.set_cons_succ]
          refine wpAnyH_take (i := 5) (v := ?v5g1_) rfl (by kernel_rfl) (by kernel_rfl) (by kernel_rfl) (fun _ _ _ h => h) (Or.inl ⟨by rfl, ?y5g1_⟩) (by assumption) ?r5g1_
          case y5g1_ => (intro w hSw; exact run_execOp_load (x := .tmp 136) rfl (by have hs := hSw.1; simpa [Act.eval] using hs))
          change wpAnyH _ _ _ _ _ _ _ (Act.put _ (some 137) _) _; simp only [Act.put, List.setIfInBounds_toArray, List.set_cons_zero, List.set_cons_succ]
          refine wpAnyH_take (i := 6) (v := ?v6g1_) rfl (by kernel_rfl) (by kernel_rfl) (by kernel_rfl) (fun _ _ _ h => h) (Or.inl ⟨by rfl, ?y6g1_⟩) (by assumption) ?r6g1_
          case y6g1_ => (intro w hSw; (try dsimp only at hSw); go_simp; try with_reducible rfl)
          change wpAnyH _ _ _ _ _ _ _ (Act.put _ (some 138) _) _; simp only [Act.put, List.setIfInBounds_toArray, List.set_cons_zero, List.set_cons_succ]
          refine wpAnyH_ready (rs := [7]) (by kernel_rfl) (by simp) ?_
          refine AllReadyH.cons rfl (fun K hK => ?_) AllReadyH.nil
          go_simp
          refine (HNAME.out _).mono ?_
          rintro e wy ⟨rfl, rfl⟩
          dsimp only
          refine hK.out _ _ ?_ (fun hHeld => ?_)
          · exact by assumption
          clear hK K
          try simp only [Act.put, List.setIfInBounds_toArray, List.set_cons_zero, List.set_cons_succ]
          refine wpAnyH_take (i := 8) (v := ?v8g1_) rfl (by kernel_rfl) (by kernel_rfl) (by kernel_rfl) (fun _ _ _ h => h) (Or.inl ⟨by rfl, ?y8g1_⟩) (by assumption) ?r8g1_
          case y8g1_ => (intro w hSw; (try dsimp only at hSw); go_simp; try with_reducible rfl)
          change wpAnyH _ _ _ _ _ _ _ (Act.put _ (some 140) _) _; simp only [Act.put, List.setIfInBounds_toArray, List.set_cons_zero, List.set_cons_succ]
          refine wpAnyH_take (i := 9) (v := ?v9g1_) rfl (by kernel_rfl) (by kernel_rfl) (by kernel_rfl) (fun _ _ _ h => h) (Or.inl ⟨by rfl, ?y9g1_⟩) (by assumption) ?r9g1_
          case y9g1_ => (intro w hSw; (try dsimp only at hSw); go_simp; try with_reducible rfl)
          change wpAnyH _ _ _ _ _ _ _ (Act.put _ (some 141) _) _; simp only [Act.put, List.setIfInBounds_toArray, List.set_cons_zero, List.set_cons_succ]
          refine wpAnyH_take (i := 10) (v := ?v10g1_) rfl (by kernel_rfl) (by kernel_rfl) (by kernel_rfl) (fun _ _ _ h => h) (Or.inl ⟨by rfl, ?y10g1_⟩) (by assumption) ?r10g1_
          case y10g1_ => (intro w hSw; (try dsimp only at hSw); go_simp; try with_reducible rfl)
          change wpAnyH _ _ _ _ _ _ _ (Act.put _ (some 142) _) _; simp only [Act.put, List.setIfInBounds_toArray, List.set_cons_zero, List.set_cons_succ]
          refine wpAnyH_take (i := 11) (v := ?v11g1_) rfl (by kernel_rfl) (by kernel_rfl) (by kernel_rfl) (fun _ _ _ h => h) (Or.inl ⟨by rfl, ?y11g1_⟩) (by assumption) ?r11g1_
          case y11g1_ => (intro w hSw; (try dsimp only at hSw); go_simp; try with_reducible rfl)
          change wpAnyH _ _ _ _ _ _ _ (Act.put _ (some 143) _) _; simp only [Act.put, List.setIfInBounds_toArray, List.set_cons_zero, List.set_cons_succ]
          refine wpAnyH_take (i := 12) (v := ?v12g1_) rfl (by kernel_rfl) (by kernel_rfl) (by kernel_rfl) (fun _ _ _ h => h) (Or.inl ⟨by rfl, ?y12g1_⟩) (by assumption) ?r12g1_
          case y12g1_ => (intro w hSw; exact run_execOp_conv (x := .tmp 143) rfl (by have hs := hSw.2.1; simpa [Act.eval] using hs))
          change wpAnyH _ _ _ _ _ _ _ (Act.put _ (some 144) _) _; simp only [Act.put, List.setIfInBounds_toArray, List.set_cons_zero, List.set_cons_succ]
          refine wpAnyH_take (i := 13) (v := ?v13g1_) rfl (by kernel_rfl) (by kernel_rfl) (by kernel_rfl) (fun _ _ _ h => h) (Or.inl ⟨by rfl, ?y13g1_⟩) (by assumption) ?r13g1_
          case y13g1_ => (intro w hSw; exact run_execOp_load (x := .tmp 13) rfl (by have hs := hSw.2.2; simpa [Act.eval] using hs))
          change wpAnyH _ _ _ _ _ _ _ (Act.put _ (some 145) _) _; simp only [Act.put, List.setIfInBounds_toArray, List.set_cons_zero, List.set_cons_succ]
          refine wpAnyH_ready (rs := [14]) (by kernel_rfl) (by simp) ?_
          refine AllReadyH.cons rfl (fun K hK => ?_) AllReadyH.nil
          go_simp
          refine (HPL.out _).mono ?_
          rintro e w21 ⟨rfl, hb21⟩
          have HB21 := Lib.hid (show Below w16.heap.size w16 w21 from undrew hb21)
          clear hb21
          dsimp only
          refine hK.out _ _ ?_ (fun hHeld => ?_)
          · exact HSS.out _ HB21.out
          clear hK K
          try simp only [Act.put, List.setIfInBounds_toArray, List.set_cons_zero, List.set_cons_succ]
          refine wpAnyH_ready (rs := [15]) (by kernel_rfl) (by simp) ?_
          refine AllReadyH.cons rfl (fun K hK => ?_) AllReadyH.nil
          go_simp
          refine (HRB.out _).mono ?_
          rintro e w22 ⟨vb, rfl, hvb, -, hb22⟩
          have HB22 := Lib.hid (HB21.out.trans (hb22.mono HB21.out.size))
          have hcb := hvb.conv
          clear hb22 hvb
          dsimp only
          refine hK.out _ _ ?_ (fun hHeld => ?_)
          · exact HSS.out _ HB22.out
          clear hK K
          try simp only [Act.put, List.setIfInBounds_toArray, List.set_cons_zero, List.set_cons_succ]
          refine wpAnyH_ready (rs := [16]) (by kernel_rfl) (by simp) ?_
          refine AllReadyH.cons rfl (fun K hK => ?_) AllReadyH.nil
          go_simp
          refine hK.out _ _ ?_ (fun hHeld => ?_)
          · exact HSS.out _ HB22.out
          clear hK K
          try simp only [Act.put, List.setIfInBounds_toArray, List.set_cons_zero, List.set_cons_succ]
          refine wpAnyH_take (i := 17) (v := ?v17g1_) rfl (by kernel_rfl) (by kernel_rfl) (by kernel_rfl) (fun _ _ _ h => h) (Or.inl ⟨by rfl, ?y17g1_⟩) (by assumption) ?r17g1_
          case y17g1_ => (intro w hSw; (try dsimp only at hSw); go_simp; try with_reducible rfl)
          change wpAnyH _ _ _ _ _ _ _ (Act.put _ (some 149) _) _; simp only [Act.put, List.setIfInBounds_toArray, List.set_cons_zero, List.set_cons_succ]
          refine wpAnyH_take (i := 18) (v := ?v18g1_) rfl (by kernel_rfl) (by kernel_rfl) (by kernel_rfl) (fun _ _ _ h => h) (Or.inl ⟨by rfl, ?y18g1_⟩) (by assumption) ?r18g1_
          case y18g1_ => (intro w hSw; (try dsimp only at hSw); go_simp; try with_reducible rfl)
          change wpAnyH _ _ _ _ _ _ _ (Act.put _ (some 150) _) _; simp only [Act.put, List.setIfInBounds_toArray, List.set_cons_zero, List.set_cons_succ]
          refine wpAnyH_done (by kernel_rfl) ?_ _
          go_wp2_with fail
          go_roundg gf
          case measure => omega
          case rel => exact ⟨i + 1, L2, n2, v3, S, gs2, rfl, rfl, rfl, by go_num, by omega, by omega, HST16.out.below_ HB22.out⟩
      | true =>
        have hw := st_write HST11.out oth_nil HT.out (by omega) (by decide) (by decide) HOK.out hy
        rw [show mCells m = #[.int .i64 m.n, .int .i64 m.epoch, .int .i64 m.step, .int .i64 m.sum, .int .i64 m.most, .bool m.done, .int .u32 m.job] from rfl] at hw
        have HW := Lib.hid hw
        clear hw hy
        go_wp2_with fail
        refine HW.out.mono ?_
        rintro e w12 ⟨rfl, L3, n3, v3, h12, hn12a, ha⟩
        have hkx12 := ha.keep_blk HKX11.out HGX.out (by decide) (by decide)
        have hn12 := newest_any w12 gs2 w.heap.size _ h12.st
        dsimp only at hn12
        rw [show mCells (nextM S m) = #[.int .i64 (S.m.n + 1), .int .i64 m.epoch, .int .i64 m.step, .int .i64 m.sum, .int .i64 m.most, .bool m.done, .int .u32 m.job] from rfl] at hn12
        have HST12 := Lib.hid h12; have HN := Lib.hid hn12; have HKX12 := Lib.hid hkx12
        clear h12 hn12 ha hkx12 HW HST11 HKX11 HGX c0 c1 c2_ c3 c4 c5 c6
        go_wp2_with fail
        refine HN.out.mono ?_
        rintro e w13 ⟨rfl, hb13⟩
        have HKX13 := Lib.hid (HKX12.out.below hb13 HKX12.out.lt)
        have hk13 := Blk.new w13 24 #[.int .i64 0, .int .i64 0, .int .i64 0, .int .i64 0, .int .i64 0, .bool false, .int .u32 0]
        have hk14 := hk13.setRow #[.int .i64 (S.m.n + 1), .int .i64 m.epoch, .int .i64 m.step, .int .i64 m.sum, .int .i64 m.most, .bool m.done, .int .u32 m.job]
        have hone := mCells_oneA (nextM S m)
        rw [show mCells (nextM S m) = #[.int .i64 (S.m.n + 1), .int .i64 m.epoch, .int .i64 m.step, .int .i64 m.sum, .int .i64 m.most, .bool m.done, .int .u32 m.job] from rfl] at hone
        have hb1314 := below_row ((Below.refl w13.heap.size w13).alloc (Nat.le_refl _) (.cells #[.int .i64 0, .int .i64 0, .int .i64 0, .int .i64 0, .int .i64 0, .bool false, .int .u32 0] 24)) (Nat.le_refl _) #[.int .i64 (S.m.n + 1), .int .i64 m.epoch, .int .i64 m.step, .int .i64 m.sum, .int .i64 m.most, .bool m.done, .int .u32 m.job]
        have hb14 := hb13.trans (hb1314.mono hb13.size)
        have HK13 := Lib.hid hk13; have HK14 := Lib.hid hk14; have HONE := Lib.hid hone; have HST14 := Lib.hid (HST12.out.below_ hb14); have HBX := Lib.hid hb1314
        clear hk13 hk14 hone hb14 hb1314 hb13 HN HST12
        go_upto_region 22 with (first | (refine wpList_store_row rfl 24 (.tmp 13) (.tmp 84) rfl w13.heap.size #[.int .i64 (S.m.n + 1), .int .i64 m.epoch, .int .i64 m.step, .int .i64 m.sum, .int .i64 m.most, .bool m.done, .int .u32 m.job] rfl rfl 24 _ HK13.out infoMf rfl HONE.out ?_))
        obtain ⟨w14, hw14⟩ : ∃ w14, (w13.alloc (.cells #[.int .i64 0, .int .i64 0, .int .i64 0, .int .i64 0, .int .i64 0, .bool false, .int .u32 0] 24)).setRow w13.heap.size #[.int .i64 (S.m.n + 1), .int .i64 m.epoch, .int .i64 m.step, .int .i64 m.sum, .int .i64 m.most, .bool m.done, .int .u32 m.job] = w14 := ⟨_, rfl⟩
        rw [hw14] at HK14 HST14 HBX ⊢
        have HLT := Lib.hid (Blk.lt HK14.out)
        clear hw14 HK13 HONE
        have hka := HK14.out; have hkb := HKX13.out.below HBX.out HKX13.out.lt
        have a0 := hka.cell 0; have a1 := hka.cell 1; have a2 := hka.cell 2; have a3 := hka.cell 3; have a4 := hka.cell 4; have a5 := hka.cell 5; have a6 := hka.cell 6; have b0 := hkb.cell 0; have b1 := hkb.cell 1; have b2 := hkb.cell 2; have b3 := hkb.cell 3; have b4 := hkb.cell 4; have b5 := hkb.cell 5; have b6 := hkb.cell 6
        simp only [List.getElem?_toArray, List.getElem?_cons_zero, List.getElem?_cons_succ] at  a0 a1 a2 a3 a4 a5 a6 b0 b1 b2 b3 b4 b5 b6
        have hnq := run_neq_man2 (S.m.n + 1) m.epoch m.step m.sum m.most m.done m.job
        clear hka hkb HBX HKX12 HKX13
        go_upto_region 26 with (fail)
        clear hnq a0 a1 a2 a3 a4 a5 a6 b0 b1 b2 b3 b4 b5 b6
        have hz : 0 < S.m.n + 1 := by omega
        have HPL2 := HPL; have HRB2 := HRB
        clear HPL HRB
        have HPL := HPL2; have HRB := HRB2
        clear HPL2 HRB2
        have hhas : Has L3 (keptF ⟨nextM S m, true⟩ ++ []) := HST14.out.has
        rw [List.append_nil, kept_eq rfl] at hhas
        have hone := hhas.one_eq
        have hlen : (⟨L3, 1048576, n3, -1, false⟩ : DiskD).files.length = 1 := by rw [hone]; rfl
        have hnm := names_any w14 _ _ _ _ HST14.out.is (by rw [hlen]; decide)
        rw [hlen] at hnm
        have hrdq : (⟨L3, 1048576, n3, -1, false⟩ : DiskD).read (nameM (S.m.n + 1)) = (0, ManM.bytes (nextM S m)) := read_has hhas (List.mem_singleton.2 rfl) (fileM_bad (HST14.out.ok.1 rfl).1)
        have hfil : (⟨L3, 1048576, n3, -1, false⟩ : DiskD).files.map (fun f => Value.string f.name) = [.string (nameM (S.m.n + 1))] := by rw [hone]; rfl
        have HNM := Lib.hid hnm; have HRD := Lib.hid hrdq; have HFIL := Lib.hid hfil
        clear hnm hlen hrdq hfil hhas hone
        go_wp2_with fail
        refine HNM.out.mono ?_
        rintro e w15 ⟨An, cn, rfl, hrn, hb15⟩
        have HST15 := Lib.hid (HST14.out.below_ hb15); have HK15 := Lib.hid (HK14.out.below hb15 HK14.out.lt)
        rw [HFIL.out] at hrn
        obtain ⟨ad, u, rfl, hu, hcu⟩ := Rd.at_ (k := 0) hrn (by decide)
        have hu2 : u = .string (nameM (S.m.n + 1)) := by
          have h1 : [Value.string (nameM (S.m.n + 1))][0]? = some (.string (nameM (S.m.n + 1))) := rfl
          rw [h1] at hu
          injection hu with hu
          exact hu.symm
        subst hu2
        have hadb : ad.block < w15.heap.size := by
          obtain ⟨_, e, hb', _⟩ := hrn.2 (by decide)
          injection e with e
          subst e
          exact hb'
        have ha0 : ad.add 0 = ad := by unfold Addr.add; simp
        rw [ha0] at hcu
        have k0 := HK15.out.cell 0
        simp only [List.getElem?_toArray, List.getElem?_cons_zero] at k0
        have hrd := d_read HST15.out.is (HST15.out.fit (by omega) (by decide)).fit HRD.out
        have HRDC := Lib.hid hrd; have HADL := Lib.hid hadb
        clear hrd hb15 hrn hu HNM HST14 HK14 HRD HFIL ha0 hadb
        go_wp2_with fail
        refine HRDC.out.mono ?_
        rintro e w16 ⟨bv, rfl, hbv, hb16⟩
        have HST16 := Lib.hid (HST15.out.below_ hb16); have HK16 := Lib.hid (HK15.out.below hb16 HK15.out.lt)
        have hss : ∀ wx, Below w16.heap.size w16 wx → (fun wq => (Instr.loadAt 9 (.pointer (some ad))).run Tryd.prog wq = .ok (.string (nameM (S.m.n + 1))) wq ∧ (convert 25 9 bv).run Tryd.prog wq = .ok (.string (ManM.bytes (nextM S m))) wq ∧ (Instr.loadAt 24 (.pointer (some ⟨w13.heap.size, 0, none⟩))).run Tryd.prog wq = .ok (.agg #[.int .i64 (S.m.n + 1), .int .i64 m.epoch, .int .i64 m.step, .int .i64 m.sum, .int .i64 m.most, .bool m.done, .int .u32 m.job]) wq) wx := fun wx hx => by
          refine ⟨?_, (hbv.below hx).conv, ?_⟩
          · have hc : wx.cell? ad = some (.string (nameM (S.m.n + 1))) := (hx.cell (Nat.lt_of_lt_of_le HADL.out hb16.size)).trans ((hb16.cell HADL.out).trans hcu)
            go_simp
          · exact run_load_M wx _ (nextM S m) (HK16.out.below hx HK16.out.lt)
        have hname : ∀ W, Calls Tryd.prog 21 #[.int .i64 (S.m.n + 1)] W fun e w' => e = .returned (.string (nameM (S.m.n + 1))) ∧ W = w' := fun W => (rname_any W (S.m.n + 1) (by omega) (by omega)).mono fun _ _ ⟨h1, h2⟩ => ⟨h1, h2.symm⟩
        have HSS := Lib.hid hss; have HNAME := Lib.hid hname
        clear hss hname hbv hb16 hcu k0 HST15 HK15 HRDC HADL
        go_upto_region 31 with (fail)
        refine wp_region_held_drew (S := (fun wq => (Instr.loadAt 9 (.pointer (some ad))).run Tryd.prog wq = .ok (.string (nameM (S.m.n + 1))) wq ∧ (convert 25 9 bv).run Tryd.prog wq = .ok (.string (ManM.bytes (nextM S m))) wq ∧ (Instr.loadAt 24 (.pointer (some ⟨w13.heap.size, 0, none⟩))).run Tryd.prog wq = .ok (.agg #[.int .i64 (S.m.n + 1), .int .i64 m.epoch, .int .i64 m.step, .int .i64 m.sum, .int .i64 m.most, .bool m.done, .int .u32 m.job]) wq)) (by kernel_rfl) ?_ (fun hHeld => ?_)
        · exact HSS.out _ (below_drewN (Below.refl _ _) 1)
        refine wpAnyH_take (i := 0) (v := ?v0g2_) rfl (by kernel_rfl) (by kernel_rfl) (by kernel_rfl) (fun _ _ _ h => h) (Or.inl ⟨by rfl, ?y0g2_⟩) (by assumption) ?r0g2_
        case y0g2_ => (intro w hSw; (try dsimp only at hSw); go_simp; try with_reducible rfl)
        change wpAnyH _ _ _ _ _ _ _ (Act.put _ (some 132) _) _; simp only [Act.put, List.setIfInBounds_toArray, List.set_cons_zero, List.set_cons_succ]
        refine wpAnyH_take (i := 1) (v := ?v1g2_) rfl (by kernel_rfl) (by kernel_rfl) (by kernel_rfl) (fun _ _ _ h => h) (Or.inl ⟨by rfl, ?y1g2_⟩) (by assumption) ?r1g2_
        case y1g2_ => (intro w hSw; (try dsimp only at hSw); go_simp; try with_reducible rfl)
        change wpAnyH _ _ _ _ _ _ _ (Act.put _ (some 133) _) _; simp only [Act.put, List.setIfInBounds_toArray, List.set_cons_zero, List.set_cons_succ]
        refine wpAnyH_take (i := 2) (v := ?v2g2_) rfl (by kernel_rfl) (by kernel_rfl) (by kernel_rfl) (fun _ _ _ h => h) (Or.inl ⟨by rfl, ?y2g2_⟩) (by assumption) ?r2g2_
        case y2g2_ => (intro w hSw; (try dsimp only at hSw); go_simp; try with_reducible rfl)
        change wpAnyH _ _ _ _ _ _ _ (Act.put _ (some 134) _) _; simp only [Act.put, List.setIfInBounds_toArray, List.set_cons_zero, List.set_cons_succ]
        refine wpAnyH_take (i := 3) (v := ?v3g2_) rfl (by kernel_rfl) (by kernel_rfl) (by kernel_rfl) (fun _ _ _ h => h) (Or.inl ⟨by rfl, ?y3g2_⟩) (by assumption) ?r3g2_
        case y3g2_ => (intro w hSw; (try dsimp only at hSw); go_simp; try with_reducible rfl)
        change wpAnyH _ _ _ _ _ _ _ (Act.put _ (some 135) _) _; simp only [Act.put, List.setIfInBounds_toArray, List.set_cons_zero, List.set_cons_succ]
        refine wpAnyH_take (i := 4) (v := ?v4g2_) rfl (by kernel_rfl) (by kernel_rfl) (by kernel_rfl) (fun _ _ _ h => h) (Or.inl ⟨by rfl, ?y4g2_⟩) (by assumption) ?r4g2_
        case y4g2_ => (intro w hSw; (try dsimp only at hSw); go_simp; try with_reducible rfl)
        change wpAnyH _ _ _ _ _ _ _ (Act.put _ (some 136) _) _; simp only [Act.put, List.setIfInBounds_toArray, List.set_cons_zero, List.set_cons_succ]
        refine wpAnyH_take (i := 5) (v := ?v5g2_) rfl (by kernel_rfl) (by kernel_rfl) (by kernel_rfl) (fun _ _ _ h => h) (Or.inl ⟨by rfl, ?y5g2_⟩) (by assumption) ?r5g2_
        case y5g2_ => (intro w hSw; exact run_execOp_load (x := .tmp 136) rfl (by have hs := hSw.1; simpa [Act.eval] using hs))
        change wpAnyH _ _ _ _ _ _ _ (Act.put _ (some 137) _) _; simp only [Act.put, List.setIfInBounds_toArray, List.set_cons_zero, List.set_cons_succ]
        refine wpAnyH_take (i := 6) (v := ?v6g2_) rfl (by kernel_rfl) (by kernel_rfl) (by kernel_rfl) (fun _ _ _ h => h) (Or.inl ⟨by rfl, ?y6g2_⟩) (by assumption) ?r6g2_
        case y6g2_ => (intro w hSw; (try dsimp only at hSw); go_simp; try with_reducible rfl)
        change wpAnyH _ _ _ _ _ _ _ (Act.put _ (some 138) _) _; simp only [Act.put, List.setIfInBounds_toArray, List.set_cons_zero, List.set_cons_succ]
        refine wpAnyH_ready (rs := [7]) (by kernel_rfl) (by simp) ?_
        refine AllReadyH.cons rfl (fun K hK => ?_) AllReadyH.nil
        go_simp
        refine (HNAME.out _).mono ?_
        rintro e wy ⟨rfl, rfl⟩
        dsimp only
        refine hK.out _ _ ?_ (fun hHeld => ?_)
        · exact by assumption
        clear hK K
        try simp only [Act.put, List.setIfInBounds_toArray, List.set_cons_zero, List.set_cons_succ]
        refine wpAnyH_take (i := 8) (v := ?v8g2_) rfl (by kernel_rfl) (by kernel_rfl) (by kernel_rfl) (fun _ _ _ h => h) (Or.inl ⟨by rfl, ?y8g2_⟩) (by assumption) ?r8g2_
        case y8g2_ => (intro w hSw; (try dsimp only at hSw); go_simp; try with_reducible rfl)
        change wpAnyH _ _ _ _ _ _ _ (Act.put _ (some 140) _) _; simp only [Act.put, List.setIfInBounds_toArray, List.set_cons_zero, List.set_cons_succ]
        refine wpAnyH_take (i := 9) (v := ?v9g2_) rfl (by kernel_rfl) (by kernel_rfl) (by kernel_rfl) (fun _ _ _ h => h) (Or.inl ⟨by rfl, ?y9g2_⟩) (by assumption) ?r9g2_
        case y9g2_ => (intro w hSw; (try dsimp only at hSw); go_simp; try with_reducible rfl)
        change wpAnyH _ _ _ _ _ _ _ (Act.put _ (some 141) _) _; simp only [Act.put, List.setIfInBounds_toArray, List.set_cons_zero, List.set_cons_succ]
        refine wpAnyH_take (i := 10) (v := ?v10g2_) rfl (by kernel_rfl) (by kernel_rfl) (by kernel_rfl) (fun _ _ _ h => h) (Or.inl ⟨by rfl, ?y10g2_⟩) (by assumption) ?r10g2_
        case y10g2_ => (intro w hSw; (try dsimp only at hSw); go_simp; try with_reducible rfl)
        change wpAnyH _ _ _ _ _ _ _ (Act.put _ (some 142) _) _; simp only [Act.put, List.setIfInBounds_toArray, List.set_cons_zero, List.set_cons_succ]
        refine wpAnyH_take (i := 11) (v := ?v11g2_) rfl (by kernel_rfl) (by kernel_rfl) (by kernel_rfl) (fun _ _ _ h => h) (Or.inl ⟨by rfl, ?y11g2_⟩) (by assumption) ?r11g2_
        case y11g2_ => (intro w hSw; (try dsimp only at hSw); go_simp; try with_reducible rfl)
        change wpAnyH _ _ _ _ _ _ _ (Act.put _ (some 143) _) _; simp only [Act.put, List.setIfInBounds_toArray, List.set_cons_zero, List.set_cons_succ]
        refine wpAnyH_take (i := 12) (v := ?v12g2_) rfl (by kernel_rfl) (by kernel_rfl) (by kernel_rfl) (fun _ _ _ h => h) (Or.inl ⟨by rfl, ?y12g2_⟩) (by assumption) ?r12g2_
        case y12g2_ => (intro w hSw; exact run_execOp_conv (x := .tmp 143) rfl (by have hs := hSw.2.1; simpa [Act.eval] using hs))
        change wpAnyH _ _ _ _ _ _ _ (Act.put _ (some 144) _) _; simp only [Act.put, List.setIfInBounds_toArray, List.set_cons_zero, List.set_cons_succ]
        refine wpAnyH_take (i := 13) (v := ?v13g2_) rfl (by kernel_rfl) (by kernel_rfl) (by kernel_rfl) (fun _ _ _ h => h) (Or.inl ⟨by rfl, ?y13g2_⟩) (by assumption) ?r13g2_
        case y13g2_ => (intro w hSw; exact run_execOp_load (x := .tmp 13) rfl (by have hs := hSw.2.2; simpa [Act.eval] using hs))
        change wpAnyH _ _ _ _ _ _ _ (Act.put _ (some 145) _) _; simp only [Act.put, List.setIfInBounds_toArray, List.set_cons_zero, List.set_cons_succ]
        refine wpAnyH_ready (rs := [14]) (by kernel_rfl) (by simp) ?_
        refine AllReadyH.cons rfl (fun K hK => ?_) AllReadyH.nil
        go_simp
        refine (HPL.out _).mono ?_
        rintro e w21 ⟨rfl, hb21⟩
        have HB21 := Lib.hid (show Below w16.heap.size w16 w21 from undrew hb21)
        clear hb21
        dsimp only
        refine hK.out _ _ ?_ (fun hHeld => ?_)
        · exact HSS.out _ HB21.out
        clear hK K
        try simp only [Act.put, List.setIfInBounds_toArray, List.set_cons_zero, List.set_cons_succ]
        refine wpAnyH_ready (rs := [15]) (by kernel_rfl) (by simp) ?_
        refine AllReadyH.cons rfl (fun K hK => ?_) AllReadyH.nil
        go_simp
        refine (HRB.out _).mono ?_
        rintro e w22 ⟨vb, rfl, hvb, -, hb22⟩
        have HB22 := Lib.hid (HB21.out.trans (hb22.mono HB21.out.size))
        have hcb := hvb.conv
        clear hb22 hvb
        dsimp only
        refine hK.out _ _ ?_ (fun hHeld => ?_)
        · exact HSS.out _ HB22.out
        clear hK K
        try simp only [Act.put, List.setIfInBounds_toArray, List.set_cons_zero, List.set_cons_succ]
        refine wpAnyH_ready (rs := [16]) (by kernel_rfl) (by simp) ?_
        refine AllReadyH.cons rfl (fun K hK => ?_) AllReadyH.nil
        go_simp
        refine hK.out _ _ ?_ (fun hHeld => ?_)
        · exact HSS.out _ HB22.out
        clear hK K
        try simp only [Act.put, List.setIfInBounds_toArray, List.set_cons_zero, List.set_cons_succ]
        refine wpAnyH_take (i := 17) (v := ?v17g2_) rfl (by kernel_rfl) (by kernel_rfl) (by kernel_rfl) (fun _ _ _ h => h) (Or.inl ⟨by rfl, ?y17g2_⟩) (by assumption) ?r17g2_
        case y17g2_ => (intro w hSw; (try dsimp only at hSw); go_simp; try with_reducible rfl)
        change wpAnyH _ _ _ _ _ _ _ (Act.put _ (some 149) _) _; simp only [Act.put, List.setIfInBounds_toArray, List.set_cons_zero, List.set_cons_succ]
        refine wpAnyH_take (i := 18) (v := ?v18g2_) rfl (by kernel_rfl) (by kernel_rfl) (by kernel_rfl) (fun _ _ _ h => h) (Or.inl ⟨by rfl, ?y18g2_⟩) (by assumption) ?r18g2_
        case y18g2_ => (intro w hSw; (try dsimp only at hSw); go_simp; try with_reducible rfl)
        change wpAnyH _ _ _ _ _ _ _ (Act.put _ (some 150) _) _; simp only [Act.put, List.setIfInBounds_toArray, List.set_cons_zero, List.set_cons_succ]
        refine wpAnyH_done (by kernel_rfl) ?_ _
        go_wp2_with fail
        go_roundg gf
        case measure => omega
        case rel => exact ⟨i + 1, L3, n3, v3, ⟨nextM S m, true⟩, gs2, rfl, rfl, rfl, by go_num, by omega, by omega, HST16.out.below_ HB22.out⟩
theorem lawRises_any {w : World} (A : Option Addr) (l : List ManM) (c : Nat) (hM : Mans w A l) (A2 : Option Addr) (ol : List Bool) (c2 : Nat) (hO : Bools w A2 ol) (hT : Tb w.heap.size w) :
    Calls Tryd.prog 5 #[.slice A l.length c, .slice A2 ol.length c2] w fun e w' => e = .returned (.bool true) ∧ Below w.heap.size w w' := by
  by_cases hl : l.length ≤ 60
  · exact rises_main w A c l hM A2 c2 ol hO hl hT
  · have hlI : (60 : Int) < (l.length : Int) := by omega
    have HWK := Lib.hid (works_any w hT)
    clear hM hO hl hT
    go_enter Tryd.func5, Tryd.ntmps5
    go_wp2_with fail
    refine HWK.out.mono ?_
    rintro e w2 ⟨rfl, hb2⟩
    have HB2 := Lib.hid hb2
    clear hb2
    go_wp2
    go_ret
    exact ⟨rfl, HB2.out⟩
end Go.Proofs.YtlcgkcafelpglaaDoor
