/- The law of what stays: its walk. -/
import Derived.Test.YtcfcfpphhaknnaaStaysL
import Derived.Deep.DeepCutAuto
import Derived.RegionTactic
namespace Go.Proofs.Ytcfcfpphhaknnaa
open Go.RowKit

theorem Out.keep2 {B : Nat} {w w' : World} {p : Nat} {v v1 : Value} {D' : DiskD} (o : Out B w w' p v D' v1) {B2 p2 : Nat} {v2 : Value} {D2 : DiskD} (h : DiskIs w B2 p2 v2 D2 ∧ Apart p v p2 v2) : DiskIs w' B2 p2 v2 D2 ∧ Apart p v1 p2 v2 := o.other _ _ _ _ h.1 h.2
theorem below2 {w w' : World} {p : Nat} {v : Value} {B2 p2 : Nat} {v2 : Value} {D2 : DiskD} (hb : Below w.heap.size w w') (h : DiskIs w B2 p2 v2 D2 ∧ Apart p v p2 v2) : DiskIs w' B2 p2 v2 D2 ∧ Apart p v p2 v2 := ⟨h.1.below hb (Nat.le_refl _), h.2⟩
theorem fit1 {t b : ByteArray} {s q n : Int} {o : Bool} (hb : b.size ≤ 1000000) (hn : 0 ≤ n) (hn2 : n ≤ 1000000) : Fit ⟨[⟨t, b, s⟩], q, n, -1, o⟩ :=
  fit_small (by simp) (by intro f hf; simp at hf; subst hf; show b.size ≤ _; omega) hn hn2 (by decide) (by decide)
theorem safe1 {t b : ByteArray} {s : Int} (h : 0 ≤ s) (h2 : s ≤ b.size) : ∀ f ∈ ([⟨t, b, s⟩] : List FileD), SafeOk f := by
  intro f hf
  simp at hf
  subst hf
  exact ⟨by show -1 ≤ s; omega, h2⟩
theorem Bt.cap {w : World} {A : Option Addr} {n c c' : Nat} {s : ByteArray} (h : Bt w (.slice A n c) s) (hc : n ≤ c') : Bt w (.slice A n c') s := by
  obtain ⟨A', c2, he, h2, hr⟩ := h
  simp only [Value.slice.injEq] at he
  obtain ⟨rfl, rfl, rfl⟩ := he
  exact ⟨A, c', rfl, hc, hr⟩
set_option maxRecDepth 100000 in
set_option maxHeartbeats 16000000 in
theorem stays_main (w : World) (va vo : Value) (S O : ByteArray) (keep other : Int) (hS : BtR w va S) (hO : BtR w vo O) (hs : S.size ≤ 200) (ho : O.size ≤ 200) :
    Calls Try.prog 3 #[va, vo, .int .i64 keep, .int .i64 other] w fun e w' => e = .returned (.bool true) ∧ Below w.heap.size w w' := by
  obtain ⟨k, hk⟩ : ∃ k, (keep % ((O.size : Int) + 1)).toNat = k := ⟨_, rfl⟩
  have hkO : k ≤ O.size := by
    have := Int.emod_nonneg keep (show (O.size : Int) + 1 ≠ 0 by omega)
    have := Int.emod_lt_of_pos keep (show (0 : Int) < (O.size : Int) + 1 by omega)
    omega
  obtain ⟨T, hT⟩ : ∃ T, S ++ O.extract 0 k = T := ⟨_, rfl⟩
  have hTs : T.size = S.size + k := by rw [← hT, ByteArray.size_append, ByteArray.size_extract]; omega
  have e1 : (⟨[], 1000, 0, -1, false⟩ : DiskD).append ⟨#[102]⟩ S = (0, ⟨[⟨⟨#[102]⟩, S, -1⟩], 1000, 1, -1, false⟩) := nil_append rfl (by omega) (by omega)
  have e2 : (⟨[⟨⟨#[102]⟩, S, -1⟩], 1000, 1, -1, false⟩ : DiskD).step 0 ⟨#[102]⟩ ⟨#[102]⟩ 0 true = (0, ⟨[⟨⟨#[102]⟩, S, S.size⟩], 1000, 2, -1, false⟩) := one_sync rfl
  have e3 : (⟨[⟨⟨#[102]⟩, S, S.size⟩], 1000, 2, -1, false⟩ : DiskD).append ⟨#[102]⟩ O = (0, ⟨[⟨⟨#[102]⟩, S ++ O, S.size⟩], 1000, 3, -1, false⟩) := one_append rfl (by omega) (by omega)
  have e5 : (⟨[⟨⟨#[102]⟩, S ++ O, S.size⟩], 1000, 3, -1, true⟩ : DiskD).on [keep] = ⟨[⟨⟨#[102]⟩, T, (S.size + k : Nat)⟩], 1000, 3, -1, false⟩ := by rw [stays_keep, hk, hT]
  have e6 : (⟨[⟨⟨#[102]⟩, T, (S.size + k : Nat)⟩], 1000, 3, -1, false⟩ : DiskD).read ⟨#[102]⟩ = (0, T) := one_read rfl
  have e7 : (⟨[⟨⟨#[102]⟩, T, (S.size + k : Nat)⟩], 1000, 3, -1, false⟩ : DiskD).on [other] = ⟨[⟨⟨#[102]⟩, T, (S.size + k : Nat)⟩], 1000, 3, -1, false⟩ := rfl
  have e8 : (⟨[⟨⟨#[102]⟩, T, (S.size + k : Nat)⟩], 1000, 3, -1, true⟩ : DiskD).on [other] = ⟨[⟨⟨#[102]⟩, T, (S.size + k : Nat)⟩], 1000, 3, -1, false⟩ := stays_again _ _ T _ hTs other
  have e9 : (⟨[⟨⟨#[102]⟩, S ++ O, S.size⟩], 1000, 3, -1, false⟩ : DiskD).read ⟨#[102]⟩ = (0, S ++ O) := one_read rfl
  have e10 : (⟨[⟨⟨#[102]⟩, S ++ O, S.size⟩], 1000, 3, -1, true⟩ : DiskD).read ⟨#[102]⟩ = (160, ByteArray.empty) := off_read _
  have e11 : (⟨[⟨⟨#[102]⟩, S ++ O, S.size⟩], 1000, 3, -1, true⟩ : DiskD).on [] = ⟨[⟨⟨#[102]⟩, S, S.size⟩], 1000, 3, -1, false⟩ := stays_none _ _ _ _
  have e12 : (⟨[⟨⟨#[102]⟩, S, S.size⟩], 1000, 3, -1, false⟩ : DiskD).read ⟨#[102]⟩ = (0, S) := one_read rfl
  have hTI : (T.size : Int) = ((S.size + k : Nat) : Int) := by omega
  have hT2 : T.size ≤ 400 := by omega
  have hsn := stays_n keep O.size
  rw [hk] at hsn
  obtain ⟨hn1, hn2⟩ := tmod_bounds keep ((O.size : Int) + 1) (by omega)
  obtain ⟨N, hN⟩ : ∃ N, S.size + k = N := ⟨_, rfl⟩
  rw [hN] at e5 e6 e7 e8 hTI
  have hN2 : N ≤ 400 := by omega
  have E1 := Lib.hid e1; have E2 := Lib.hid e2; have E3 := Lib.hid e3; have E5 := Lib.hid e5; have E6 := Lib.hid e6; have E7 := Lib.hid e7; have E8 := Lib.hid e8; have E9 := Lib.hid e9; have E10 := Lib.hid e10; have E11 := Lib.hid e11; have E12 := Lib.hid e12
  have HTI := Lib.hid hTI; have HSN := Lib.hid hsn; have HT := Lib.hid hT
  clear e1 e2 e3 e5 e6 e7 e8 e9 e10 e11 e12 hk hT hTs hTI hsn hN
  obtain ⟨Aa, ca, rfl, hca, -⟩ := id hS
  obtain ⟨Ao, co, rfl, hco, -⟩ := id hO
  have HS := Lib.hid hS; have HO := Lib.hid hO
  clear hS hO
  have hkI : (k : Int) ≤ (co : Int) := by omega
  have hsI : (S.size : Int) ≤ 200 := by omega
  have hoI : (O.size : Int) ≤ 200 := by omega
  go_enter Try.func3, Try.ntmps3
  go_wp2_with fail
  refine (new_any 1000 _).mono ?_
  rintro e w1 ⟨rfl, hd1, hb1⟩
  have hc := d_append hd1 hb1.size (fit_small (by simp) (by simp) (by decide) (by decide) (by decide) (by decide)) (by simp [DiskD.used, usedL]) (HS.out.below hb1) (by omega) E1.out
  have HC := Lib.hid hc; have HB := Lib.hid hb1
  clear hc hd1 hb1
  go_wp2_with fail
  refine HC.out.mono ?_
  rintro e w2 ⟨rfl, v2, o2⟩
  have hb2 := HB.out.trans o2.below
  have hc := d_sync o2.is hb2.size (fit1 (by omega) (by decide) (by decide)) E2.out
  have HC2 := Lib.hid hc; have HB2 := Lib.hid hb2
  clear hc hb2 o2
  go_wp2_with fail
  refine HC2.out.mono ?_
  rintro e w3 ⟨rfl, v3, o3⟩
  have hb3 := HB2.out.trans o3.below
  have hc := d_append o3.is hb3.size (fit1 (by omega) (by decide) (by decide)) (by simp [DiskD.used, usedL]; omega) (HO.out.below hb3) (by omega) E3.out
  have HC3 := Lib.hid hc; have HB3 := Lib.hid hb3
  clear hc hb3 o3
  go_wp2_with fail
  refine HC3.out.mono ?_
  rintro e w4 ⟨rfl, v4, o4⟩
  have hb4 := HB3.out.trans o4.below
  have hc := copy_any _ _ _ _ _ o4.is (by simp)
  have HC4 := Lib.hid hc; have HB4 := Lib.hid hb4; have HD4 := Lib.hid o4.is
  clear hc hb4 o4
  go_wp2_with fail
  refine HC4.out.mono ?_
  rintro e w5 ⟨vw, rfl, hw5, hb5⟩
  have hb5' := HB4.out.trans (hb5.mono HB4.out.size)
  have hd5 := HD4.out.below hb5 (Nat.le_refl _)
  have hc := d_crash hd5 hb5'.size rfl
  have HC5 := Lib.hid hc; have HB5 := Lib.hid hb5'; have HW5 := Lib.hid (And.intro hw5 (apart_new HD4.out hw5))
  clear hc hb5 hb5' hd5 hw5 HD4
  go_wp2_with fail
  refine HC5.out.mono ?_
  rintro e w6 ⟨rfl, v6, o6⟩
  have hb6 := HB5.out.trans o6.below
  have hc := copy_any _ _ _ _ _ o6.is (by simp)
  have HC6 := Lib.hid hc; have HB6 := Lib.hid hb6; have HD6 := Lib.hid o6.is; have HW6 := Lib.hid (o6.keep2 HW5.out)
  clear hc hb6 o6
  go_wp2_with fail
  refine HC6.out.mono ?_
  rintro e w7 ⟨vf, rfl, hf7, hb7⟩
  -- On, with what is kept
  have hb78 := hb7.trans ((Below.refl w6.heap.size w7).alloc hb7.size (.cells #[.int .i64 keep] 3))
  have hb8 := HB6.out.trans (hb78.mono HB6.out.size)
  have hp8 := HD6.out.blk.lt
  have hsz7 := hb7.size
  have hd8 := HD6.out.below hb78 (Nat.le_refl _)
  have hw8 := below2 hb78 HW6.out
  have hf8 := And.intro (hf7.below ((Below.refl w7.heap.size w7).alloc (Nat.le_refl _) (.cells #[.int .i64 keep] 3)) (Nat.le_refl _)) (apart_new HD6.out hf7)
  have hwf8 := And.intro hf8.1 (apart_new HW6.out.1 hf7)
  have hc := d_on hd8 hb8.size (fit1 (by rw [ByteArray.size_append]; omega) (by decide) (by decide)) (safe1 (by omega) (by rw [ByteArray.size_append]; omega)) (A := some ⟨w7.heap.size, 0, none⟩) (c := 1) (keep := [keep]) (rd_vals w7 [.int .i64 keep] 3 w7.heap.size rfl) (fun ad he => by injection he with he; subst he; show w7.heap.size ≠ _; omega) (by simp) E5.out
  have HC8 := Lib.hid hc; have HB8 := Lib.hid hb8; have HW8 := Lib.hid hw8; have HF8 := Lib.hid hf8; have HWF := Lib.hid hwf8.2
  clear hc hb78 hb8 hd8 hw8 hf8 hwf8 hf7 hb7 hp8
  go_wp2_with fail
  refine HC8.out.mono ?_
  rintro e w9 ⟨rfl, v9, o9⟩
  have hb9 := HB8.out.trans o9.below
  have HB9 := Lib.hid hb9; have HD9 := Lib.hid o9.is; have HW9 := Lib.hid (o9.keep2 HW8.out); have HF9 := Lib.hid (o9.keep2 HF8.out)
  have hBS := HS.out.below hb9
  have hBO := HO.out.below hb9
  clear hb9 o9
  go_upto_region 10 with (fail)
  go_cut [12] (fun s12 wx => s12 = .int .i64 (k : Nat) ∧ wx = w9)
  case first =>
    clear hBS hBO
    go_wp2
    go_meet
    exact ⟨by rw [← HSN.out], rfl⟩
  case rest =>
  obtain ⟨rfl, rfl⟩ := hcut
  have hbq := hBO.cut k hkO (c' := co) (by omega)
  have hQs : (O.extract 0 k).size = k := by rw [ByteArray.size_extract]; omega
  obtain ⟨Q, hQ⟩ : ∃ Q, O.extract 0 k = Q := ⟨_, rfl⟩
  rw [hQ] at hbq hQs
  have c1 := BtR.conv (w := wc.drew) hBS
  have c2 := BtR.conv (w := wc.drew) hbq
  have hQ1 : Q.size ≤ 200 := by omega
  have hT := HT.out
  rw [hQ] at hT
  have HT := Lib.hid hT; have HQ := Lib.hid hQ
  have hkcN : k ≤ co := by omega
  have hST : (S ++ Q).size ≤ 400 := by rw [ByteArray.size_append]; omega
  clear hbq hBS hBO hQs hQ hT
  go_wp2_with fail
  go_region
  rw [HT.out]
  have hc := d_read HD9.out.drew_ (fit1 (by omega) (by decide) (by decide)) E6.out
  have HC9 := Lib.hid hc
  clear hc c1 c2 hST hQ1
  go_wp2_with fail
  refine HC9.out.mono ?_
  rintro e w10 ⟨bv, rfl, hbv, hb10⟩
  have hbb := (HB9.out.drew).trans (hb10.mono HB9.out.size)
  have hw10 := below2 hb10 (And.intro HW9.out.1.drew_ HW9.out.2)
  have hf10 := below2 hb10 (And.intro HF9.out.1.drew_ HF9.out.2)
  have hd10 := HD9.out.drew_.below hb10 (Nat.le_refl _)
  have ha := (Below.refl w10.heap.size w10).alloc (Nat.le_refl _) (.cells #[.int .i64 other] 3)
  have hp10 := hd10.blk.lt
  have hba := hbb.trans (ha.mono hbb.size)
  have hc := d_on (hd10.below ha (Nat.le_refl _)) hba.size (fit1 (by omega) (by decide) (by decide)) (safe1 (by omega) (by rw [HTI.out]; exact Int.le_refl _)) (A := some ⟨w10.heap.size, 0, none⟩) (c := 1) (keep := [other]) (rd_vals w10 [.int .i64 other] 3 w10.heap.size rfl) (fun ad he => by injection he with he; subst he; show w10.heap.size ≠ _; omega) (by simp) E7.out
  have HC10 := Lib.hid hc; have HB10 := Lib.hid hba; have HW10 := Lib.hid (below2 ha hw10); have HF10 := Lib.hid (below2 ha hf10); have HBV10 := Lib.hid (hbv.below ha)
  clear hc hbb hw10 hf10 hd10 ha hp10 hba hb10 hbv
  obtain ⟨Ab, nb, cb, hbve⟩ : ∃ A n c, bv = Value.slice A n c := by
    obtain ⟨A, c, h, _⟩ := HBV10.out
    exact ⟨A, _, c, h⟩
  subst hbve
  go_wp2_with fail
  refine HC10.out.mono ?_
  rintro e w11 ⟨rfl, v11, o11⟩
  have hb11 := HB10.out.trans o11.below
  have hc := d_crash o11.is hb11.size rfl
  have HC11 := Lib.hid hc; have HB11 := Lib.hid hb11; have HW11 := Lib.hid (o11.keep2 HW10.out); have HF11 := Lib.hid (o11.keep2 HF10.out); have HBV11 := Lib.hid (o11.bt _ _ HBV10.out)
  clear hc hb11 o11
  go_wp2_with fail
  refine HC11.out.mono ?_
  rintro e w12 ⟨rfl, v12, o12⟩
  have hb12 := HB11.out.trans o12.below
  have ha := (Below.refl w12.heap.size w12).alloc (Nat.le_refl _) (.cells #[.int .i64 other] 3)
  have hp12 := o12.is.blk.lt
  have hba := hb12.trans (ha.mono hb12.size)
  have hc := d_on (o12.is.below ha (Nat.le_refl _)) hba.size (fit1 (by omega) (by decide) (by decide)) (safe1 (by omega) (by rw [HTI.out]; exact Int.le_refl _)) (A := some ⟨w12.heap.size, 0, none⟩) (c := 1) (keep := [other]) (rd_vals w12 [.int .i64 other] 3 w12.heap.size rfl) (fun ad he => by injection he with he; subst he; show w12.heap.size ≠ _; omega) (by simp) E8.out
  have HC12 := Lib.hid hc; have HB12 := Lib.hid hba; have HW12 := Lib.hid (below2 ha (o12.keep2 HW11.out)); have HF12 := Lib.hid (below2 ha (o12.keep2 HF11.out)); have HBV12 := Lib.hid ((o12.bt _ _ HBV11.out).below ha)
  clear hc hb12 ha hp12 hba o12
  go_wp2_with fail
  refine HC12.out.mono ?_
  rintro e w13 ⟨rfl, v13, o13⟩
  have hb13 := HB12.out.trans o13.below
  have hc := d_read o13.is (fit1 (by omega) (by decide) (by decide)) E6.out
  have HC13 := Lib.hid hc; have HB13 := Lib.hid hb13; have HW13 := Lib.hid (o13.keep2 HW12.out); have HF13 := Lib.hid (o13.keep2 HF12.out); have HBV13 := Lib.hid (o13.bt _ _ HBV12.out)
  clear hc hb13 o13
  go_wp2_with fail
  refine HC13.out.mono ?_
  rintro e w14 ⟨cv, rfl, hcv, hb14⟩
  have hbb := HB13.out.trans (hb14.mono HB13.out.size)
  have hw14 := below2 hb14 HW13.out
  have hc := d_read hw14.1 (fit1 (by rw [ByteArray.size_append]; omega) (by decide) (by decide)) E9.out
  have HC14 := Lib.hid hc; have HB14 := Lib.hid hbb; have HF14 := Lib.hid (below2 hb14 HF13.out); have HBV14 := Lib.hid (HBV13.out.below hb14); have HCV14 := Lib.hid hcv
  clear hc hbb hw14 hb14 hcv
  obtain ⟨Ac, nc, cc, hcve⟩ : ∃ A n c, cv = Value.slice A n c := by
    obtain ⟨A, c, h, _⟩ := HCV14.out
    exact ⟨A, _, c, h⟩
  subst hcve
  go_wp2_with fail
  refine HC14.out.mono ?_
  rintro e w15 ⟨xv, rfl, hxv, hb15⟩
  have hbb := HB14.out.trans (hb15.mono HB14.out.size)
  have hf15 := below2 hb15 HF14.out
  have hc := d_read hf15.1 (fit1 (by rw [ByteArray.size_append]; omega) (by decide) (by decide)) E10.out
  have HC15 := Lib.hid hc; have HB15 := Lib.hid hbb; have HF15 := Lib.hid hf15.1; have HBV15 := Lib.hid (HBV14.out.below hb15); have HCV15 := Lib.hid (HCV14.out.below hb15); have HXV15 := Lib.hid hxv
  clear hc hbb hf15 hb15 hxv
  obtain ⟨Ax, nx, cx, hxve⟩ : ∃ A n c, xv = Value.slice A n c := by
    obtain ⟨A, c, h, _⟩ := HXV15.out
    exact ⟨A, _, c, h⟩
  subst hxve
  go_wp2_with fail
  refine HC15.out.mono ?_
  rintro e w16 ⟨zv, rfl, hzv, hb16⟩
  have hbb := HB15.out.trans (hb16.mono HB15.out.size)
  have hc := d_on ((HF15.out.below hb16 (Nat.le_refl _)).mono (b' := w.heap.size) (Nat.le_trans HB6.out.size (Nat.le_refl _))) hbb.size (fit1 (by rw [ByteArray.size_append]; omega) (by decide) (by decide)) (safe1 (by omega) (by rw [ByteArray.size_append]; omega)) (A := none) (c := 0) (keep := []) (Rd.nil' none) (fun ad he => by cases he) (by simp) E11.out
  have HC16 := Lib.hid hc; have HB16 := Lib.hid hbb; have HBV16 := Lib.hid (HBV15.out.below hb16); have HCV16 := Lib.hid (HCV15.out.below hb16); have HXV16 := Lib.hid (HXV15.out.below hb16)
  clear hc hbb hb16
  obtain ⟨Az, nz, cz, hzve⟩ : ∃ A n c, zv = Value.slice A n c := by
    obtain ⟨A, c, h, _⟩ := hzv
    exact ⟨A, _, c, h⟩
  subst hzve
  clear hzv
  go_wp2_with fail
  refine HC16.out.mono ?_
  rintro e w17 ⟨rfl, v17, o17⟩
  have hbb := HB16.out.trans o17.below
  have hc := d_read o17.is (fit1 (by omega) (by decide) (by decide)) E12.out
  have HC17 := Lib.hid hc; have HB17 := Lib.hid hbb; have HBV17 := Lib.hid (o17.bt _ _ HBV16.out); have HCV17 := Lib.hid (o17.bt _ _ HCV16.out); have HXV17 := Lib.hid (o17.bt _ _ HXV16.out)
  clear hc hbb o17
  go_wp2_with fail
  refine HC17.out.mono ?_
  rintro e w18 ⟨yv, rfl, hyv, hb18⟩
  have hbb := HB17.out.trans (hb18.mono HB17.out.size)
  obtain ⟨Ay, ny, cy, hyve⟩ : ∃ A n c, yv = Value.slice A n c := by
    obtain ⟨A, c, h, _⟩ := hyv
    exact ⟨A, _, c, h⟩
  subst hyve
  have k1 := (HBV17.out.below hb18).conv
  have k2 := (HCV17.out.below hb18).conv
  have k3 := (HXV17.out.below hb18).conv
  have k4 := hyv.conv
  have k5 := (HS.out.below hbb).conv
  have k6 := (HO.out.below hbb).conv
  have hSO : (S ++ O).size ≤ 400 := by rw [ByteArray.size_append]; omega
  have HB18 := Lib.hid hbb
  clear hbb hyv hb18
  go_wp2_with fail
  refine (works_any _).mono ?_
  rintro e w19 ⟨rfl, hb19⟩
  have HB19 := Lib.hid (HB18.out.trans (hb19.mono HB18.out.size))
  clear hb19
  go_wp2
  go_ret
  exact ⟨rfl, HB19.out⟩
end Go.Proofs.Ytcfcfpphhaknnaa
