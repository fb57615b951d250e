/- The law of room: its walk. -/
import Derived.Test.YtcfcfpphhaknnaaRoomL
import Derived.Test.YtcfcfpphhaknnaaStaysL
import Derived.Deep.DeepCutAuto
import Derived.Deep.RegionHeld3
import Derived.Deep.DrawnRows
namespace Go.Proofs.Ytcfcfpphhaknnaa
open Go.RowKit

/-- the state of the round -/
def RoomSt (w wr : World) (p : Nat) (q : Int) (i : Nat) (L : List FileD) (n : Nat) (v : Value) : Prop :=
  DiskIs wr w.heap.size p v ⟨L, q, n, -1, false⟩ ∧ Below w.heap.size w wr ∧ SortedF L ∧ (usedL L : Int) ≤ q ∧ n ≤ i ∧ L.length ≤ i ∧ ∀ g ∈ L, g.name ≠ zN
theorem fit_room {L : List FileD} {q n : Int} (hl : L.length ≤ 1000) (hu : (usedL L : Int) ≤ 65535) (hn : 0 ≤ n) (hn2 : n ≤ 1000) : Fit ⟨L, q, n, -1, false⟩ :=
  fit_small (by omega) (fun f hf => by have := size_le_used hf; omega) hn (by omega) (by decide) (by decide)
attribute [local go_sem ↓] Go.wp_at_zero Go.wp_at_succ
set_option maxRecDepth 100000 in
set_option maxHeartbeats 16000000 in
theorem room_main (w : World) (q : Nat) (A : Option Addr) (c : Nat) (xs : List (Value × ByteArray)) (cut : Int) (hX : Rows2 w A xs) (hq : q ≤ 65535) (hl : xs.length ≤ 40) :
    Calls Try.prog 4 #[.int .u16 q, .slice A xs.length c, .int .i64 cut] w fun e w' => e = .returned (.bool true) ∧ Below w.heap.size w w' := by
  have HX := Lib.hid hX
  clear hX
  have hlI : (xs.length : Int) ≤ 40 := by omega
  have hqI : (q : Int) ≤ 65535 := by omega
  go_enter Try.func4, Try.ntmps4
  go_wp2_with fail
  refine (new_any q _).mono ?_
  rintro e w1 ⟨rfl, hd1, hb1⟩
  rw [show max 0 (q : Int) = q by omega] at hd1
  have h0 : RoomSt w w1 w.heap.size q 0 [] 0 (.slice none 0 0) := ⟨hd1, hb1, List.Pairwise.nil, by show (0 : Int) ≤ _; omega, Nat.le_refl _, Nat.le_refl _, by simp⟩
  have H0 := Lib.hid h0
  clear h0 hd1 hb1
  go_wp2
  go_loopg [8, 9, 10] xs.length (fun gf vu vs vi wr => ∃ (i n : Nat) (L : List FileD) (v : Value), vi = .int .i64 i ∧ vu = .int .i64 (usedL L : Nat) ∧ vs = .int .i64 n ∧ i + gf = xs.length ∧ RoomSt w wr w.heap.size q i L n v)
  case atStart => exact ⟨0, 0, [], _, rfl, rfl, rfl, by omega, H0.out⟩
  case round =>
    obtain ⟨i, n, L, v, rfl, rfl, rfl, hi, hst⟩ := hrel
    cases gk with
    | zero =>
      obtain rfl : i = xs.length := by omega
      obtain ⟨hD, hB, hs, hu, hn, hL, hz⟩ := hst
      have HD := Lib.hid hD; have HB := Lib.hid hB; have HS := Lib.hid hs; have HZ := Lib.hid hz
      clear hD hB hs hz hi
      by_cases hf : ∃ f ∈ L, f.name = nm 1
      · obtain ⟨f, hf, hfn⟩ := hf
        obtain ⟨k, hk⟩ : ∃ k, (cut % ((f.b.size : Int) + 1)).toNat = k := ⟨_, rfl⟩
        have hkO : k ≤ f.b.size := by
          have := Int.emod_nonneg cut (show (f.b.size : Int) + 1 ≠ 0 by omega)
          have := Int.emod_lt_of_pos cut (show (0 : Int) < (f.b.size : Int) + 1 by omega)
          omega
        have hsn := stays_n cut f.b.size
        rw [hk] at hsn
        obtain ⟨hn1, hn2⟩ := tmod_bounds cut ((f.b.size : Int) + 1) (by omega)
        have hfu := size_le_used hf
        obtain ⟨fr, hfr⟩ : ∃ fr : Nat, (fr : Int) = (q : Int) - usedL L + f.b.size - k := ⟨((q : Int) - usedL L + f.b.size - k).toNat, by omega⟩
        have e0 := read_ok (q := q) (n := n) HS.out hf (by rw [hfn]; rfl)
        rw [hfn] at e0
        obtain ⟨L1, L2, L3, e1, e2, e3, hu2, e5, e6, e7, hu3, e9, e10, hu1, hl1, hl2, hl3⟩ := room_plain (q := q) (n := n) HS.out hqI hf hfn HZ.out (by omega) k hkO fr hfr
        have E0 := Lib.hid e0; have E1 := Lib.hid e1; have E2 := Lib.hid e2; have E3 := Lib.hid e3; have E5 := Lib.hid e5; have E6 := Lib.hid e6; have E7 := Lib.hid e7; have E9 := Lib.hid e9; have E10 := Lib.hid e10
        have HU2 := Lib.hid hu2; have HU3 := Lib.hid hu3; have HSN := Lib.hid hsn; have HFR := Lib.hid hfr
        have hfrb : (fr : Int) ≤ 65535 := by omega
        have hu2' : (usedL L2 : Int) ≤ 65535 := by omega
        have hu3' : (usedL L3 : Int) ≤ 65535 := by omega
        clear e0 e1 e2 e3 e5 e6 e7 e9 e10 hu2 hu3 hsn hfr hf hfn hk
        generalize f.b = bb at *
        go_wp2_with fail
        refine (name_any 1 (by omega) _).mono ?_
        rintro e w2 ⟨rfl, hb2⟩
        have hd2 := HD.out.below hb2 (Nat.le_refl _)
        have hB2 := HB.out.trans (hb2.mono HB.out.size)
        have hc := d_read hd2 (fit_room (by omega) (by omega) (by omega) (by omega)) E0.out
        have HC := Lib.hid hc; have HD2 := Lib.hid hd2; have HB2 := Lib.hid hB2
        clear hc hd2 hB2 hb2
        go_wp2_with fail
        refine HC.out.mono ?_
        rintro e w3 ⟨bv, rfl, hbv, hb3⟩
        have hB3 := HB2.out.trans (hb3.mono HB2.out.size)
        have hd3 := HD2.out.below hb3 (Nat.le_refl _)
        obtain ⟨Ab, cb, hbve, hcb, -⟩ := id hbv
        subst hbve
        have HBV := Lib.hid hbv; have HB3 := Lib.hid hB3; have HD3 := Lib.hid hd3
        clear hbv hB3 hd3 hb3
        go_upto_region 21 with (fail)
        go_cut [14] (fun s14 wx => s14 = .int .i64 (k : Nat) ∧ wx = w3)
        case first =>
          go_wp2
          go_meet
          exact ⟨by rw [← HSN.out], rfl⟩
        case rest =>
        obtain ⟨rfl, rfl⟩ := hcut
        go_upto_region 22 with (fail)
        go_cut [15] (fun s15 wx => s15 = .int .i64 (fr : Nat) ∧ wx = wc)
        case first =>
          go_wp2
          go_meet
          exact ⟨by rw [HFR.out], rfl⟩
        case rest =>
        obtain ⟨rfl, rfl⟩ := hcut
        -- the cut, and what has no room
        go_wp2_with fail
        refine (name_any 1 (by omega) _).mono ?_
        rintro e w4 ⟨rfl, hb4⟩
        have hB4 := HB3.out.trans (hb4.mono HB3.out.size)
        have hc := d_cut (HD3.out.below hb4 (Nat.le_refl _)) hB4.size (fit_room (by omega) (by omega) (by omega) (by omega)) E1.out
        have HC4 := Lib.hid hc; have HB4 := Lib.hid hB4; have HBV4 := Lib.hid (HBV.out.below hb4)
        clear hc hB4 hb4
        go_wp2_with fail
        refine HC4.out.mono ?_
        rintro e w5 ⟨rfl, v5, o5⟩
        have hB5 := HB4.out.trans o5.below
        have hmk1 := run_make_bytes (fr + 1) (by omega) w5
        rw [show ((fr + 1 : Nat) : Int) = (fr : Int) + 1 by omega] at hmk1
        have ha5 := (Below.refl w5.heap.size w5).alloc (Nat.le_refl _) (.cells (ucells (zerosB (fr + 1))).toArray 5)
        have hB5a := hB5.trans (ha5.mono hB5.size)
        have hc := d_append (o5.is.below ha5 (Nat.le_refl _)) hB5a.size (fit_room (by omega) (by omega) (by omega) (by omega)) (by show usedL L1 ≤ _; omega) (bt_zeros (fr + 1) w5).btr (by rw [zerosB_size]; omega) E2.out
        have HC5 := Lib.hid hc; have HB5 := Lib.hid hB5a; have HBV5 := Lib.hid ((o5.bt _ _ HBV4.out).below ha5)
        obtain ⟨zs1, hzs1⟩ : ∃ zs1, (ucells (zerosB (fr + 1))).toArray = zs1 := ⟨_, rfl⟩
        rw [hzs1] at hmk1 HC5 HB5 HBV5
        clear hc hB5 hB5a ha5 o5 hzs1
        go_wp2_with fail
        refine HC5.out.mono ?_
        rintro e w6 ⟨rfl, v6, o6⟩
        have hB6 := HB5.out.trans o6.below
        have hmk2 := run_make_bytes fr (by omega) w6
        have ha6 := (Below.refl w6.heap.size w6).alloc (Nat.le_refl _) (.cells (ucells (zerosB fr)).toArray 5)
        have hB6a := hB6.trans (ha6.mono hB6.size)
        have hc := d_append (o6.is.below ha6 (Nat.le_refl _)) hB6a.size (fit_room (by omega) (by omega) (by omega) (by omega)) (by show usedL L1 ≤ _; omega) (bt_zeros fr w6).btr (by rw [zerosB_size]; omega) E3.out
        have HC6 := Lib.hid hc; have HB6 := Lib.hid hB6a; have HBV6 := Lib.hid ((o6.bt _ _ HBV5.out).below ha6)
        obtain ⟨zs2, hzs2⟩ : ∃ zs2, (ucells (zerosB fr)).toArray = zs2 := ⟨_, rfl⟩
        rw [hzs2] at hmk2 HC6 HB6 HBV6
        clear hc hB6 hB6a ha6 o6 hzs2 hmk1
        go_wp2_with fail
        refine HC6.out.mono ?_
        rintro e w7 ⟨rfl, v7, o7⟩
        have hB7 := HB6.out.trans o7.below
        have hus := used_any _ _ _ _ _ o7.is (by show L2.length ≤ _; omega) (by show usedL L2 ≤ _; omega)
        rw [show (((⟨L2, q, (n : Int) + 1 + 1, -1, false⟩ : DiskD).used : Nat) : Int) = (q : Int) from HU2.out] at hus
        have HUS := Lib.hid hus; have HB7 := Lib.hid hB7; have HD7 := Lib.hid o7.is; have HBV7 := Lib.hid (o7.bt _ _ HBV6.out)
        clear hus hB7 o7 hmk2
        go_wp2_with fail
        refine HUS.out.mono ?_
        rintro e w8 ⟨rfl, hb8⟩
        have hB8 := HB7.out.trans (hb8.mono HB7.out.size)
        have HD8 := Lib.hid (HD7.out.below hb8 (Nat.le_refl _)); have HB8 := Lib.hid hB8; have HBV8 := Lib.hid (HBV7.out.below hb8)
        clear hB8 hb8
        -- what is read
        go_wp2_with fail
        refine (name_any 1 (by omega) _).mono ?_
        rintro e w9 ⟨rfl, hb9⟩
        have hB9 := HB8.out.trans (hb9.mono HB8.out.size)
        have hd9 := HD8.out.below hb9 (Nat.le_refl _)
        have hc := d_read hd9 (fit_room (by omega) (by omega) (by omega) (by omega)) E5.out
        have HC9 := Lib.hid hc; have HB9 := Lib.hid hB9; have HD9 := Lib.hid hd9; have HBV9 := Lib.hid (HBV8.out.below hb9)
        clear hc hB9 hd9 hb9
        go_wp2_with fail
        refine HC9.out.mono ?_
        rintro e w10 ⟨cv, rfl, hcv, hb10⟩
        have hB10 := HB9.out.trans (hb10.mono HB9.out.size)
        have hd10 := HD9.out.below hb10 (Nat.le_refl _)
        have hbv10 := HBV9.out.below hb10
        have hbk := hbv10.btr.cut k hkO (c' := cb) (by omega)
        obtain ⟨Ac, nc, cc, hcve⟩ : ∃ A n c, cv = Value.slice A n c := by
          obtain ⟨A, c, h, _⟩ := hcv
          exact ⟨A, _, c, h⟩
        subst hcve
        have s1 := BtR.conv (w := w10.drew) hcv.btr
        have s2 := BtR.conv (w := w10.drew) hbk
        have hkcI : (k : Int) ≤ (cb : Int) := by omega
        have hkcN : k ≤ cb := by omega
        have hrm := d_remove (DiskIs.drew_ hd10) (by show w.heap.size ≤ w10.heap.size; exact hB10.size) (fit_room (by omega) (by omega) (by omega) (by omega)) E6.out
        obtain ⟨Q, hQ⟩ : ∃ Q, bb.extract 0 k = Q := ⟨_, rfl⟩
        rw [hQ] at s1 s2
        unfold zN at hrm
        have HRM := Lib.hid hrm; have HB10 := Lib.hid hB10; have HCV := Lib.hid (Bt.drew hcv); have HBVD := Lib.hid (Bt.drew hbv10); have HQ := Lib.hid hQ
        clear hrm hB10 hd10 hbv10 hbk hcv hb10 hQ
        go_wp2_with fail
        go_region_held3 (fun w' => (convert 22 9 (.slice Ac nc cc)).run Try.prog w' = .ok (.string Q) w' ∧ (convert 22 9 (.slice Ab k cb)).run Try.prog w' = .ok (.string Q) w')
          (first | exact ⟨s1, s2⟩ | exact ⟨t1, t2⟩ | exact ⟨r1, r2⟩)
          (first
            | ((go_at_call 19; (with_reducible refine HRM.out.mono ?_); rintro e w11 ⟨rfl, v11, o11⟩; have hrm2 := d_remove o11.is ((HB10.out.drew.trans o11.below).size) (fit_room (by omega) (by omega) (by omega) (by omega)) E7.out; unfold zN at hrm2; have t1 := (o11.bt _ _ HCV.out).conv; have t2 := BtR.conv ((o11.bt _ _ HBVD.out).btr.cut k hkO (c' := cb) (by omega)); rw [HQ.out] at t1 t2; have HRM2 := Lib.hid hrm2; have HB11 := Lib.hid (HB10.out.drew.trans o11.below); have HCV11 := Lib.hid (o11.bt _ _ HCV.out); have HBV11 := Lib.hid (o11.bt _ _ HBVD.out); clear hrm2 o11))
            | ((go_at_call 19; (with_reducible refine HRM2.out.mono ?_); rintro e w12 ⟨rfl, v12, o12⟩; have r1 := (o12.bt _ _ HCV11.out).conv; have r2 := BtR.conv ((o12.bt _ _ HBV11.out).btr.cut k hkO (c' := cb) (by omega)); rw [HQ.out] at r1 r2; have HB12 := Lib.hid (HB11.out.trans o12.below); have HD12 := Lib.hid o12.is; clear o12)))
        have hus := used_any _ _ _ _ _ HD12.out (by show L3.length ≤ _; omega) (by show usedL L3 ≤ _; omega)
        rw [show (((⟨L3, q, (n : Int) + 1 + 1 + 1, -1, false⟩ : DiskD).used : Nat) : Int) = (q : Int) - (fr : Int) from HU3.out] at hus
        have HUS3 := Lib.hid hus
        clear hus
        go_wp2_with fail
        refine HUS3.out.mono ?_
        rintro e w13 ⟨rfl, hb13⟩
        have HB13 := Lib.hid (HB12.out.trans (hb13.mono HB12.out.size)); have HD13 := Lib.hid (HD12.out.below hb13 (Nat.le_refl _))
        clear hb13
        go_wp2_with fail
        refine (name_any 1 (by omega) _).mono ?_
        rintro e w14 ⟨rfl, hb14⟩
        have hB14 := HB13.out.trans (hb14.mono HB13.out.size)
        have hc := d_cut (HD13.out.below hb14 (Nat.le_refl _)) hB14.size (fit_room (by omega) (by omega) (by omega) (by omega)) E9.out
        have HC14 := Lib.hid hc; have HB14 := Lib.hid hB14
        clear hc hB14 hb14
        go_wp2_with fail
        refine HC14.out.mono ?_
        rintro e w15 ⟨rfl, v15, o15⟩
        have HB15 := Lib.hid (HB14.out.trans o15.below); have HD15 := Lib.hid o15.is
        clear o15
        go_wp2_with fail
        refine (name_any 1 (by omega) _).mono ?_
        rintro e w16 ⟨rfl, hb16⟩
        have hB16 := HB15.out.trans (hb16.mono HB15.out.size)
        have hc := d_cut (HD15.out.below hb16 (Nat.le_refl _)) hB16.size (fit_room (by omega) (by omega) (by omega) (by omega)) E10.out
        have HC16 := Lib.hid hc; have HB16 := Lib.hid hB16
        clear hc hB16 hb16
        go_wp2_with fail
        refine HC16.out.mono ?_
        rintro e w17 ⟨rfl, v17, o17⟩
        have HB17 := Lib.hid (HB16.out.trans o17.below)
        clear o17
        go_wp2_with fail
        refine (works_any _).mono ?_
        rintro e w18 ⟨rfl, hb18⟩
        have HB18 := Lib.hid (HB17.out.trans (hb18.mono HB17.out.size))
        clear hb18
        go_wp2
        go_ret
        exact ⟨rfl, HB18.out⟩
      · have hno : ∀ g ∈ L, g.name ≠ nm 1 := fun g hg e => hf ⟨g, hg, e⟩
        have e0 := read_no (q := q) (n := n) hno rfl
        have E0 := Lib.hid e0
        clear e0 hno hf
        go_wp2_with fail
        refine (name_any 1 (by omega) _).mono ?_
        rintro e w2 ⟨rfl, hb2⟩
        have hB2 := HB.out.trans (hb2.mono HB.out.size)
        have hc := d_read (HD.out.below hb2 (Nat.le_refl _)) (fit_room (by omega) (by omega) (by omega) (by omega)) E0.out
        have HC := Lib.hid hc; have HB2 := Lib.hid hB2
        clear hc hB2 hb2
        go_wp2_with fail
        refine HC.out.mono ?_
        rintro e w3 ⟨bv, rfl, -, hb3⟩
        have HB3 := Lib.hid (HB2.out.trans (hb3.mono HB2.out.size))
        clear hb3
        go_wp2_with fail
        refine (works_any _).mono ?_
        rintro e w4 ⟨rfl, hb4⟩
        have HB4 := Lib.hid (HB3.out.trans (hb4.mono HB3.out.size))
        clear hb4
        go_wp2
        go_ret
        exact ⟨rfl, HB4.out⟩
    | succ gf =>
      obtain ⟨hD, hB, hs, hu, hn, hL, hz⟩ := hst
      have HZ := Lib.hid hz
      obtain ⟨ad, x, A', c', rfl, hx, hx1, hcc, hadl, hc, hbt⟩ := HX.out.at_ hB (i := i) (by omega)
      have hiI : (i : Int) < (xs.length : Int) := by omega
      have hir : i < xs.length := by omega
      have HD := Lib.hid hD; have HB := Lib.hid hB; have HS := Lib.hid hs; have HBT := Lib.hid hbt
      clear hD hB hs hbt hx hx1 hz
      by_cases hbig : 3000 < x.2.size
      · have hbigI : (3000 : Int) < (x.2.size : Int) := by omega
        go_wp2_with fail
        refine (works_any _).mono ?_
        rintro e w2 ⟨rfl, hb2⟩
        have HB2 := Lib.hid (HB.out.trans (hb2.mono HB.out.size))
        clear hb2
        go_wp2
        go_ret
        exact ⟨rfl, HB2.out⟩
      · have hbigI : ¬ (3000 : Int) < (x.2.size : Int) := by omega
        obtain ⟨j, hj⟩ : ∃ j, i % 3 = j := ⟨_, rfl⟩
        have hj2 : j ≤ 2 := by omega
        have hmod : (i : Int) % 3 = (j : Int) := by omega
        have hmodT : (i : Int).tmod 3 = (j : Int) := by rw [Int.tmod_eq_emod_of_nonneg (by omega)]; exact hmod
        have hadr : (ad.add i).block < wr.heap.size := by rw [block_of_add]; have := HB.out.size; omega
        have hadw : (ad.add i).block < w.heap.size := by rw [block_of_add]; exact hadl
        have HADR := Lib.hid hadr; have HADW := Lib.hid hadw
        clear hj hadr hadw
        by_cases hroom : (usedL L : Int) + (x.2.size : Int) ≤ q
        · obtain ⟨f, hfn, -, -, hE, hu2⟩ := append_ok (q := q) (n := n) HS.out (t := nm j) (b := x.2) rfl (by omega) hroom
          have hlen := put_len (D := ⟨L, q, n, -1, false⟩) f
          have hso := putF_sorted HS.out f
          have hz2 : ∀ g ∈ putF L f, g.name ≠ zN := fun g hg => by
            rcases (mem_putF HS.out f g).1 hg with rfl | ⟨hg, _⟩
            · rw [hfn]; exact nm_zN j
            · exact HZ.out g hg
          obtain ⟨L2, hL2⟩ : ∃ L2, putF L f = L2 := ⟨_, rfl⟩
          rw [hL2] at hE hu2 hso hz2
          have hlen2 : L2.length ≤ L.length + 1 := by rw [← hL2]; exact hlen
          have HE := Lib.hid hE; have HU2 := Lib.hid hu2; have HSO := Lib.hid hso; have HZ2 := Lib.hid hz2
          clear hz2 hE hu2 hso hlen hfn hL2
          go_wp2_with fail
          go_region_held3 (fun w' => w'.cell? (ad.add i) = some (.slice A' x.2.size c')) (go_keep)
            (first
              | ((go_at_call 15; refine (name_any j (by omega) _).mono ?_; rintro e w2 ⟨rfl, hb2⟩; have k2 := (hb2.cell (p := ad.add i) HADR.out).trans hc; have HB2 := Lib.hid (((Below.refl wr.heap.size wr).drew).trans hb2); clear hb2))
              | ((go_at_call 9; refine (d_append (HD.out.below HB2.out (Nat.le_refl _)) (Nat.le_trans HB.out.size HB2.out.size) (fit_room (by omega) (by omega) (by omega) (by omega)) (by show usedL L ≤ _; omega) (HBT.out.below HB2.out) (by omega) HE.out).mono ?_; rintro e w3 ⟨rfl, v3, o3⟩; have k3 := (o3.below.cell (p := ad.add i) HADW.out).trans k2; have HO3 := Lib.hid o3; clear o3)))
          have hb3 := (HB.out.trans (HB2.out.mono HB.out.size)).trans HO3.out.below
          have hus := used_any _ _ _ _ _ HO3.out.is (by show L2.length ≤ _; omega) (by show usedL L2 ≤ _; rw [HU2.out]; omega)
          have hue : (⟨L2, q, (n : Int) + 1, -1, false⟩ : DiskD).used = usedL L + x.2.size := HU2.out
          rw [hue] at hus
          have HUS := Lib.hid hus; have HB3 := Lib.hid hb3
          clear hus hb3 hue
          go_wp2_with fail
          refine HUS.out.mono ?_
          rintro e w4 ⟨rfl, hb4⟩
          have hst := steps_any w4 _ _ _ _ (HO3.out.is.below hb4 (Nat.le_refl _))
          have hb34 := HB3.out.trans (hb4.mono HB3.out.size)
          have k4 := (hb4.cell (p := ad.add i) (by have := HADW.out; have := HB3.out.size; omega)).trans k3
          have HST := Lib.hid hst; have HB4 := Lib.hid hb34; have HBB := Lib.hid hb4
          clear hst hb34 hb4
          go_wp2_with fail
          refine HST.out.mono ?_
          rintro e w5 ⟨rfl, rfl⟩
          go_wp2
          go_roundg gf
          case measure => omega
          case rel => exact ⟨i + 1, n + 1, L2, v3, by go_num, by rw [HU2.out]; go_num, by go_num, by omega, HO3.out.is.below HBB.out (Nat.le_refl _), HB4.out, HSO.out, by rw [HU2.out]; omega, by omega, by omega, HZ2.out⟩
        · have hE := append_full (q := q) (n := n) HS.out (t := nm j) (b := x.2) rfl (by omega) (by omega)
          have HE := Lib.hid hE
          clear hE
          have hroomI : ¬ (usedL L : Int) + (x.2.size : Int) ≤ (q : Int) := hroom
          go_wp2_with fail
          go_region_held3 (fun w' => w'.cell? (ad.add i) = some (.slice A' x.2.size c')) (go_keep)
            (first
              | ((go_at_call 15; refine (name_any j (by omega) _).mono ?_; rintro e w2 ⟨rfl, hb2⟩; have k2 := (hb2.cell (p := ad.add i) HADR.out).trans hc; have HB2 := Lib.hid (((Below.refl wr.heap.size wr).drew).trans hb2); clear hb2))
              | ((go_at_call 9; refine (d_append (HD.out.below HB2.out (Nat.le_refl _)) (Nat.le_trans HB.out.size HB2.out.size) (fit_room (by omega) (by omega) (by omega) (by omega)) (by show usedL L ≤ _; omega) (HBT.out.below HB2.out) (by omega) HE.out).mono ?_; rintro e w3 ⟨rfl, v3, o3⟩; have k3 := (o3.below.cell (p := ad.add i) HADW.out).trans k2; have HO3 := Lib.hid o3; clear o3)))
          have hb3 := (HB.out.trans (HB2.out.mono HB.out.size)).trans HO3.out.below
          have hus := used_any _ _ _ _ _ HO3.out.is (by show L.length ≤ _; omega) (by show usedL L ≤ _; omega)
          have hue : (⟨L, q, (n : Int), -1, false⟩ : DiskD).used = usedL L := rfl
          rw [hue] at hus
          have HUS := Lib.hid hus; have HB3 := Lib.hid hb3
          clear hus hb3 hue
          go_wp2_with fail
          refine HUS.out.mono ?_
          rintro e w4 ⟨rfl, hb4⟩
          have hst := steps_any w4 _ _ _ _ (HO3.out.is.below hb4 (Nat.le_refl _))
          have hb34 := HB3.out.trans (hb4.mono HB3.out.size)
          have k4 := (hb4.cell (p := ad.add i) (by have := HADW.out; have := HB3.out.size; omega)).trans k3
          have HST := Lib.hid hst; have HB4 := Lib.hid hb34; have HBB := Lib.hid hb4
          clear hst hb34 hb4
          go_wp2_with fail
          refine HST.out.mono ?_
          rintro e w5 ⟨rfl, rfl⟩
          go_wp2
          go_roundg gf
          case measure => omega
          case rel => exact ⟨i + 1, n, L, v3, by go_num, rfl, rfl, by omega, HO3.out.is.below HBB.out (Nat.le_refl _), HB4.out, HS.out, hu, by omega, by omega, HZ.out⟩
end Go.Proofs.Ytcfcfpphhaknnaa
