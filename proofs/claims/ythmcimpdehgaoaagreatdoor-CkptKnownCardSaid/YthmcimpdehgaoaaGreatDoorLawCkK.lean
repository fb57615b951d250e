/- The stage's law: wherever the power goes; its walk. -/
import Derived.Test.YthmcimpdehgaoaaGreatDoorCkKp
import Derived.Deep.DeepCutAuto
namespace Go.Proofs.YthmcimpdehgaoaaGreatDoor
open Go.RowKit Go.Maps

set_option maxRecDepth 100000 in
set_option maxHeartbeats 16000000 in
theorem ckeeps_any (w0 : World) (A : Option Addr) (c : Nat) (l : List CallC) (hA0 : CallsA w0 A l) (A2 : Option Addr) (c2 : Nat) (il : List Int) (hI0 : Rd w0 1 A2 il.length (il.map (Value.int .i64))) (hib : ∀ z ∈ il, In64 z) (hT0 : Tb w0.heap.size w0) (hV0 : Ev w0.heap.size w0) :
    Calls Tryz.prog 5 #[.slice A l.length c, .slice A2 il.length c2] w0 fun e w' => e = .returned (.bool true) ∧ Below w0.heap.size w0 w' := by
  have HL := Lib.hid (large_any w0 A c l hA0)
  have HA0 := Lib.hid hA0; have HI0 := Lib.hid hI0; have HT0 := Lib.hid hT0; have HV0 := Lib.hid hV0; have HIB := Lib.hid hib
  clear hA0 hI0 hT0 hV0 hib
  go_enter Tryz.func5, Tryz.ntmps5
  go_wp2_with fail
  refine HL.out.mono ?_
  intro e w hP
  obtain ⟨b, rfl, hb0, hsm⟩ := hP
  have hwk : ∀ W, Below w.heap.size w W → Calls Tryz.prog 9 #[] W fun e w' => e = .returned (.bool true) ∧ Below W.heap.size W w' := fun W hW => works_any W (HT0.out.at_ (hb0.trans (hW.mono hb0.size))) (HV0.out.at_ (hb0.trans (hW.mono hb0.size)))
  have HWK := Lib.hid hwk; have HB0 := Lib.hid hb0; have HA := Lib.hid (HA0.out.below hb0); have HI := Lib.hid (HI0.out.below hb0); have HT := Lib.hid (HT0.out.at_ hb0); have HV := Lib.hid (HV0.out.at_ hb0)
  clear hwk hb0 HL HA0 HI0 HT0 HV0
  cases b with
  | true =>
    clear hsm
    go_wp2_with fail
    refine (HWK.out _ (Below.refl _ _)).mono ?_
    rintro e w5 ⟨rfl, hb5⟩
    have HB5 := Lib.hid (HB0.out.trans (hb5.mono HB0.out.size))
    clear hb5
    go_wp2
    go_ret
    exact ⟨rfl, HB5.out⟩
  | false =>
  obtain ⟨hl60, hsz, -⟩ := hsm rfl
  have HSZ := Lib.hid hsz
  clear hsm hsz
  by_cases hil : il.length ≤ 100
  case neg =>
    have hilI : (100 : Int) < (il.length : Int) := by omega
    have hilb : decide ((100 : Int) < (il.length : Int)) = true := decide_eq_true hilI
    go_wp2_with fail
    refine (HWK.out _ (Below.refl _ _)).mono ?_
    rintro e w5 ⟨rfl, hb5⟩
    have HB5 := Lib.hid (HB0.out.trans (hb5.mono HB0.out.size))
    clear hb5
    go_wp2
    go_ret
    exact ⟨rfl, HB5.out⟩
  have hilI : ¬ (100 : Int) < (il.length : Int) := by omega
  have hilb : decide ((100 : Int) < (il.length : Int)) = false := decide_eq_false hilI
  have hms := mkS 8 (by decide); have hmb := mkB 8 (by decide)
  simp only [Int.cast_ofNat_Int] at hms hmb
  go_wp2_with fail
  refine (kc_new (K := 8) (Z := 5000) ⟨by decide, by decide⟩ 1048576 (by decide) _).mono ?_
  rintro e w1 ⟨rfl, h1⟩
  clear hilb hilI
  have HC := Lib.hid (kc_open h1 (by decide))
  clear h1
  go_wp2_with fail
  refine HC.out.mono ?_
  intro e w2 hP
  obtain ⟨gs0, L2, n2, v2, rfl, h2, hs2, hg2, hn2, -⟩ := hP.ok
  obtain ⟨p, hp⟩ : ∃ p, w.heap.size = p := ⟨_, rfl⟩
  have hg1 : w.heap.size ≤ w2.heap.size := h2.below.size
  have hbx := ((Below.refl w2.heap.size w2).alloc (Nat.le_refl _) (.cells ((List.range 8).map (hvV fun _ => none)).toArray 9)).alloc (by simp) (.cells ((List.range 8).map (isV fun _ => none)).toArray 4)
  have hr1 : RowK ((w2.alloc (.cells ((List.range 8).map (hvV fun _ => none)).toArray 9)).alloc (.cells ((List.range 8).map (isV fun _ => none)).toArray 4)) w2.heap.size 9 8 (hvV fun _ => none) := (Blk.new w2 _ _).alloc _
  have hr2 : RowK ((w2.alloc (.cells ((List.range 8).map (hvV fun _ => none)).toArray 9)).alloc (.cells ((List.range 8).map (isV fun _ => none)).toArray 4)) (w2.heap.size + 1) 4 8 (isV fun _ => none) := by
    have := Blk.new (w2.alloc (.cells ((List.range 8).map (hvV fun _ => none)).toArray 9)) 4 ((List.range 8).map (isV fun _ => none)).toArray
    rw [World.size_alloc] at this
    exact this
  have H2 := Lib.hid (h2.below_ hbx); have HS2 := Lib.hid (hs2.below hbx); have HR1 := Lib.hid hr1; have HR2 := Lib.hid hr2
  clear h2 hs2 hg2 hP HC hbx hr1 hr2
  obtain ⟨cs1, hcs1⟩ : ∃ cs1, ((List.range 8).map (hvV fun _ => none)).toArray = cs1 := ⟨_, rfl⟩
  obtain ⟨cs2, hcs2⟩ : ∃ cs2, ((List.range 8).map (isV fun _ => none)).toArray = cs2 := ⟨_, rfl⟩
  rw [hcs1] at hms H2 HS2 HR1 HR2
  rw [hcs2] at hmb H2 HS2 HR1 HR2
  rw [hp] at H2 HS2
  go_upto_region 7 with (fail)
  clear hms hmb hcs1 hcs2
  obtain ⟨w3, hw3⟩ : ∃ w3, (w2.alloc (.cells cs1 9)).alloc (.cells cs2 4) = w3 := ⟨_, rfl⟩
  obtain ⟨g1, hg1e⟩ : ∃ g1, w2.heap.size = g1 := ⟨_, rfl⟩
  rw [hw3] at H2 HS2 HR1 HR2 ⊢
  rw [hg1e] at HR1 HR2 ⊢
  have HG1 := Lib.hid (show w.heap.size ≤ g1 by omega)
  clear hw3 hg1e hg1
  go_wp2
  go_loopg [6, 7, 10, 11] l.length (fun gf vs ve vt vi wr => ∃ (i : Nat) (M : MapC) (L : List FileD) (n d : Int) (v : Value) (gs : Nat), vs = .pointer (some ⟨gs, 0, none⟩) ∧ ve = .int .i64 0 ∧ vt = .int .i64 i ∧ vi = .int .i64 i ∧ i + gf = l.length ∧ KC w wr p v 8 5000 1048576 M [] L n d false ∧ CkSt wr gs p ∧ RowK wr g1 9 8 (hvV M) ∧ RowK wr (g1 + 1) 4 8 (isV M) ∧ n ≤ 1 + 20 * i)
  case atStart => exact ⟨0, _, L2, n2, -1, v2, gs0, rfl, rfl, rfl, rfl, by omega, H2.out, HS2.out, HR1.out, HR2.out, by omega⟩
  case round =>
    clear H2 HS2 HR1 HR2
    obtain ⟨i, M, L, n, d, v, gs, rfl, rfl, rfl, rfl, hi, hkc, hst, hr1, hr2, hn⟩ := hrel
    cases gk with
    | zero =>
      obtain rfl : i = l.length := by omega
      have HW := Lib.hid (HWK.out _ hkc.below); have HB := Lib.hid hkc.below
      clear hkc hst hr1 hr2 hn hi
      go_wp2_with fail
      refine HW.out.mono ?_
      rintro e w6 ⟨rfl, hb5⟩
      have HB5 := Lib.hid (HB0.out.trans ((HB.out.trans (hb5.mono HB.out.size)).mono HB0.out.size))
      clear hb5
      go_wp2
      go_ret
      exact ⟨rfl, HB5.out⟩
    | succ gf =>
      obtain ⟨x, hx⟩ : ∃ x, l[i]? = some x := ⟨_, List.getElem?_eq_getElem (by omega)⟩
      obtain ⟨bb, oo, rfl, hlt, hcl⟩ := HA.out (by omega)
      have hcx := hcl i x hx
      have hsx := HSZ.out x (List.mem_of_getElem? hx)
      have hbsz : x.b.size ≤ 5000 := hsx.2.1
      have hksz : x.keep.length ≤ 5000 := hsx.2.2
      have hiI : (i : Int) < (l.length : Int) := by omega
      have hil2 : i ≤ 60 := by omega
      have HKC := Lib.hid hkc; have HST := Lib.hid hst; have HR1 := Lib.hid hr1; have HR2 := Lib.hid hr2; have HCX := Lib.hid hcx; have HLT := Lib.hid hlt
      clear hkc hst hr1 hr2 hcx hcl hlt hx hsx
      go_upto_if 48 with (fail)
      go_cut [7] (fun s7 wx => s7 = .int .i64 0 ∧ ∃ (d' : Int) (v' : Value), KC w wx p v' 8 5000 1048576 M [] L n d' false ∧ CkSt wx gs p ∧ RowK wx g1 9 8 (hvV M) ∧ RowK wx (g1 + 1) 4 8 (isV M))
      case first =>
        by_cases hii : i < il.length
        · have hiiI : (i : Int) < (il.length : Int) := by omega
          have hiib : decide ((i : Int) < (il.length : Int)) = true := decide_eq_true hiiI
          obtain ⟨ad, u, rfl, hu, hcu⟩ := (HI.out.below HKC.out.below).at_ hii
          rw [List.getElem?_map, List.getElem?_eq_getElem hii, Option.map_some] at hu
          injection hu with hu
          obtain ⟨z, hz⟩ : ∃ z, il[i] = z := ⟨_, rfl⟩
          rw [hz] at hu
          subst hu
          have hzb : z ≤ 9223372036854775807 := by rw [← hz]; exact (HIB.out _ (List.getElem_mem hii)).2
          have HF := Lib.hid (kc_fail HKC.out z hzb)
          clear hz
          go_wp2_with fail
          refine HF.out.mono ?_
          rintro e w6 ⟨rfl, v6, h6, k6⟩
          have H6 := Lib.hid h6; have HS6 := Lib.hid (k6.st HST.out); have HR16 := Lib.hid (HR1.out.kp k6 (by decide) (by decide)); have HR26 := Lib.hid (HR2.out.kp k6 (by decide) (by decide))
          clear h6 k6 HF
          go_wp2
          go_meet
          exact ⟨rfl, _, v6, H6.out, HS6.out, HR16.out, HR26.out⟩
        · have hiiI : ¬ (i : Int) < (il.length : Int) := by omega
          have hiib : decide ((i : Int) < (il.length : Int)) = false := decide_eq_false hiiI
          go_wp2
          go_meet
          exact ⟨rfl, d, v, HKC.out, HST.out, HR1.out, HR2.out⟩
      case rest =>
      as_aux_lemma =>
      clear HKC HST HR1 HR2
      obtain ⟨rfl, d1, v1, hkc, hst, hr1, hr2⟩ := hcut
      have hcy := HCX.out.below HLT.out hkc.below
      obtain ⟨A1, cc1, hb1, hbt⟩ := HCX.out.bs
      obtain ⟨A2', cc2, hk1, hrd⟩ := HCX.out.keep
      have tr := fun j => hkc.below.cell (p := ⟨bb, j, none⟩) HLT.out
      have x0 : wc.cell? ⟨bb, oo + i * 6, none⟩ = some (.int .u8 x.kind) := hcy.k
      have x1 : wc.cell? ⟨bb, oo + i * 6 + 1, none⟩ = some (.int .i64 x.step) := hcy.s
      have x2 : wc.cell? ⟨bb, oo + i * 6 + 2, none⟩ = some (.string x.name) := hcy.name
      have x3 : wc.cell? ⟨bb, oo + i * 6 + 3, none⟩ = some (.slice A1 x.b.size cc1) := (tr _).trans hb1
      have x4 : wc.cell? ⟨bb, oo + i * 6 + 4, none⟩ = some (.int .i64 x.n) := hcy.n
      have x5 : wc.cell? ⟨bb, oo + i * 6 + 5, none⟩ = some (.slice A2' x.keep.length cc2) := (tr _).trans hk1
      have hkz := Blk.new wc 36 #[.int .u8 0, .int .i64 0, .string ⟨#[]⟩, .slice none 0 0, .int .i64 0, .slice none 0 0]
      have hkx := hkz.setRowR #[.int .u8 x.kind, .int .i64 x.step, .string x.name, .slice A1 x.b.size cc1, .int .i64 x.n, .slice A2' x.keep.length cc2]
      have hone : (#[.int .u8 x.kind, .int .i64 x.step, .string x.name, .slice A1 x.b.size cc1, .int .i64 x.n, .slice A2' x.keep.length cc2] : Array Value).all (·.oneCell') = true := by simp [Value.oneCell']
      have hbc := below_rowR ((Below.refl wc.heap.size wc).alloc (Nat.le_refl _) (.cells #[.int .u8 0, .int .i64 0, .string ⟨#[]⟩, .slice none 0 0, .int .i64 0, .slice none 0 0] 36)) (Nat.le_refl _) #[.int .u8 x.kind, .int .i64 x.step, .string x.name, .slice A1 x.b.size cc1, .int .i64 x.n, .slice A2' x.keep.length cc2]
      have hko : KcO ((wc.alloc (.cells #[.int .u8 0, .int .i64 0, .string ⟨#[]⟩, .slice none 0 0, .int .i64 0, .slice none 0 0] 36)).setRow wc.heap.size #[.int .u8 x.kind, .int .i64 x.step, .string x.name, .slice A1 x.b.size cc1, .int .i64 x.n, .slice A2' x.keep.length cc2]) g1 wc.heap.size M #[.int .u8 x.kind, .int .i64 x.step, .string x.name, .slice A1 x.b.size cc1, .int .i64 x.n, .slice A2' x.keep.length cc2] := ⟨hkx, hr1.below hbc, hr2.below hbc⟩
      have HKZ := Lib.hid hkz; have HKO := Lib.hid hko; have HONE := Lib.hid hone; have HKC := Lib.hid (hkc.below_ hbc); have HST := Lib.hid (hst.below hbc); have HBT := Lib.hid hbt; have HRD := Lib.hid hrd
      have hgx : w.heap.size ≤ wc.heap.size := hkc.below.size
      clear hkz hkx hone hbc hko hkc hst hr1 hr2 hcy tr hb1 hk1 hbt hrd
      go_upto_region 17 with (first | (refine wpList_store_row rfl 36 (.tmp 12) (.tmp 60) rfl wc.heap.size #[.int .u8 x.kind, .int .i64 x.step, .string x.name, .slice A1 x.b.size cc1, .int .i64 x.n, .slice A2' x.keep.length cc2] rfl rfl 36 _ HKZ.out infoCall rfl HONE.out ?_))
      clear x0 x1 x2 x3 x4 x5 HKZ HONE
      obtain ⟨w4, hw4⟩ : ∃ w4, (wc.alloc (.cells #[.int .u8 0, .int .i64 0, .string ⟨#[]⟩, .slice none 0 0, .int .i64 0, .slice none 0 0] 36)).setRow wc.heap.size #[.int .u8 x.kind, .int .i64 x.step, .string x.name, .slice A1 x.b.size cc1, .int .i64 x.n, .slice A2' x.keep.length cc2] = w4 := ⟨_, rfl⟩
      obtain ⟨gx, hgxe⟩ : ∃ gx, wc.heap.size = gx := ⟨_, rfl⟩
      rw [hw4] at HKO HKC HST ⊢
      rw [hgxe] at HKO hgx ⊢
      clear hw4 hgxe
      dsimp only [Act.put]
      have hcall := HKO.out.call
      have z0 := hcall.cell 0; have z1 := hcall.cell 1
      simp only [List.getElem?_toArray, List.getElem?_cons_zero, List.getElem?_cons_succ] at z0 z1
      obtain ⟨k, hk, hke⟩ := and7 x.step
      obtain ⟨drop, hdrop⟩ : ∃ drop : Bool, decide (x.kind.tmod 10 = 4) = drop := ⟨_, rfl⟩
      have hkb : (x.kind.tmod 10 == 4) = drop := by rw [← hdrop]; by_cases h : x.kind.tmod 10 = 4 <;> simp [h]
      have HDB := Lib.hid hkb
      clear hcall hdrop
      go_upto_if 67 with (fail)
      go_cut [14] (fun s14 wx => ∃ (f : Int) (M1 : MapC), s14 = .int .i64 f ∧ KcRel drop k x.b f M M1 ∧ KcMid w wx p gs n M1 f ∧ KcO wx g1 gx M #[.int .u8 x.kind, .int .i64 x.step, .string x.name, .slice A1 x.b.size cc1, .int .i64 x.n, .slice A2' x.keep.length cc2])
      case first =>
        as_aux_lemma =>
        cases drop with
        | true =>
          have hw := kc_drop HKC.out (by omega) HT.out HV.out HST.out (k : Int)
          have HW := Lib.hid hw
          clear hw
          go_wp2_with fail
          refine HW.out.mono ?_
          intro e w9 hP
          rcases hP with ⟨L9, n9, l9, v9, rfl, h9, s9, hn9, -, k9⟩ | ⟨M9, L9, n9, v9, -, rfl, h9, hM9, hn9, k9⟩
          · have HR := Lib.hid (show KcRel true k x.b 0 M (dropM M k) ∧ KcMid w w9 p gs n (dropM M k) 0 ∧ KcO w9 g1 gx M #[.int .u8 x.kind, .int .i64 x.step, .string x.name, .slice A1 x.b.size cc1, .int .i64 x.n, .slice A2' x.keep.length cc2] from ⟨.inl ⟨rfl, rfl⟩, .inl ⟨rfl, L9, n9, l9, v9, h9, s9, by omega⟩, HKO.out.kp k9⟩)
            clear h9 s9 k9 HW z0 z1
            go_wp2
            go_meet
            exact ⟨0, _, rfl, HR.out⟩
          · have HR := Lib.hid (show KcRel true k x.b 160 M M9 ∧ KcMid w w9 p gs n M9 160 ∧ KcO w9 g1 gx M #[.int .u8 x.kind, .int .i64 x.step, .string x.name, .slice A1 x.b.size cc1, .int .i64 x.n, .slice A2' x.keep.length cc2] from ⟨.inr ⟨rfl, hM9⟩, .inr ⟨rfl, [], L9, n9, v9, h9, by omega⟩, HKO.out.kp k9⟩)
            clear h9 k9 HW z0 z1
            go_wp2
            go_meet
            exact ⟨160, _, rfl, HR.out⟩
        | false =>
          have z3 := HKO.out.call.cell 3
          simp only [List.getElem?_toArray, List.getElem?_cons_zero, List.getElem?_cons_succ] at z3
          have hw := kc_write HKC.out (by omega) HT.out HST.out hk hbsz (BtX.of_arg HBT.out HKC.out.below)
          have HW := Lib.hid hw
          clear hw
          go_wp2_with fail
          refine HW.out.mono ?_
          intro e w9 hP
          rcases hP with ⟨L9, n9, l9, v9, rfl, h9, s9, hn9, -, k9⟩ | ⟨T9, L9, n9, v9, -, rfl, h9, hn9, k9⟩
          · have HR := Lib.hid (show KcRel false k x.b 0 M (putC M k x.b) ∧ KcMid w w9 p gs n (putC M k x.b) 0 ∧ KcO w9 g1 gx M #[.int .u8 x.kind, .int .i64 x.step, .string x.name, .slice A1 x.b.size cc1, .int .i64 x.n, .slice A2' x.keep.length cc2] from ⟨.inl ⟨rfl, rfl⟩, .inl ⟨rfl, L9, n9, l9, v9, h9, s9, by omega⟩, HKO.out.kp k9⟩)
            clear h9 s9 k9 HW z0 z1 z3
            go_wp2
            go_meet
            exact ⟨0, _, rfl, HR.out⟩
          · have HR := Lib.hid (show KcRel false k x.b 160 M M ∧ KcMid w w9 p gs n M 160 ∧ KcO w9 g1 gx M #[.int .u8 x.kind, .int .i64 x.step, .string x.name, .slice A1 x.b.size cc1, .int .i64 x.n, .slice A2' x.keep.length cc2] from ⟨.inr ⟨rfl, rfl⟩, .inr ⟨rfl, T9, L9, n9, v9, h9, by omega⟩, HKO.out.kp k9⟩)
            clear h9 k9 HW z0 z1 z3
            go_wp2
            go_meet
            exact ⟨160, _, rfl, HR.out⟩
      case rest =>
      as_aux_lemma =>
      clear HKC HST HKO z0 z1
      obtain ⟨f, M1, rfl, hrel1, hmid, hko⟩ := hcut
      have HREL := Lib.hid hrel1; have HMID := Lib.hid hmid; have HKO := Lib.hid hko
      clear hrel1 hmid hko
      have hf : f = 0 ∨ f = 160 := by rcases HMID.out with ⟨h, -⟩ | ⟨h, -⟩ <;> simp [h]
      have HOFF : Hid (Calls Tryz.prog 18 #[.pointer (some ⟨p, 0, none⟩)] wc fun e w' => e = .returned (.bool (f == 160)) ∧ wc = w') := by
        refine Lib.hid ?_
        rw [hp] at *
        rcases HMID.out with ⟨rfl, L', n', l', v', h, -⟩ | ⟨rfl, T', L', n', v', h, -⟩
        · exact kc_off h
        · exact kc_off h
      obtain ⟨w9, hw9⟩ : ∃ w9, w9 = wc := ⟨_, rfl⟩
      subst hw9
      go_upto_region 22 with (fail)
      go_cut [81] (fun s81 wx => s81 = .bool false ∧ w9 = wx)
      case first =>
        rcases hf with rfl | rfl
        all_goals
          go_wp2
          go_meet
          exact ⟨rfl, rfl⟩
      case rest =>
      obtain ⟨rfl, rfl⟩ := hcut
      go_upto_region 24 with (fail)
      go_cut [83] (fun s83 wx => s83 = .bool (f == 160) ∧ w9 = wx)
      case first =>
        go_wp2_with fail
        refine HOFF.out.mono ?_
        rintro e wz ⟨rfl, rfl⟩
        go_wp2
        go_meet
        exact ⟨rfl, rfl⟩
      case rest =>
      as_aux_lemma =>
      obtain ⟨rfl, rfl⟩ := hcut
      clear HOFF
      go_upto_if 83 with (fail)
      go_cut [6, 7] (fun s6 s7 wx => ∃ (gs2 : Nat) (L2 : List FileD) (n2 l2 : Int) (v2 : Value), s6 = .pointer (some ⟨gs2, 0, none⟩) ∧ s7 = .int .i64 0 ∧ KC w wx p v2 8 5000 1048576 M1 [] L2 n2 l2 false ∧ CkSt wx gs2 p ∧ n2 ≤ n + 18 ∧ KcO wx g1 gx M #[.int .u8 x.kind, .int .i64 x.step, .string x.name, .slice A1 x.b.size cc1, .int .i64 x.n, .slice A2' x.keep.length cc2])
      case first =>
        as_aux_lemma =>
        rcases HMID.out with ⟨rfl, L9, n9, l9, v9, h9, s9, hn9⟩ | ⟨rfl, T9, L9, n9, v9, h9, hn9⟩
        · have H9 := Lib.hid h9; have HS9 := Lib.hid s9
          clear h9 s9
          go_wp2
          go_meet
          exact ⟨gs, L9, n9, l9, v9, rfl, rfl, H9.out, HS9.out, by omega, HKO.out⟩
        · have hnp : 0 < x.keep.length → ∀ ad, A2' = some ad → ad.block ≠ p := fun h0 ad e h => by
            subst e
            obtain ⟨_, e, hb', _⟩ := HRD.out.2 h0
            injection e with e
            subst e
            omega
          have HNP := Lib.hid hnp; have H9 := Lib.hid h9
          clear h9 hnp HREL
          go_wp2
          go_loopg [15] (min x.keep.length 3) (fun gf vt wr => ∃ (t : Nat) (T L : List FileD) (n' : Int) (v : Value), vt = .int .i64 t ∧ t + gf = min x.keep.length 3 ∧ n' ≤ n + 8 + t ∧ KC w wr p v 8 5000 1048576 M1 T L n' (-1) true ∧ KcO wr g1 gx M #[.int .u8 x.kind, .int .i64 x.step, .string x.name, .slice A1 x.b.size cc1, .int .i64 x.n, .slice A2' x.keep.length cc2])
          case atStart => exact ⟨0, T9, L9, n9, v9, rfl, by omega, by omega, H9.out, HKO.out⟩
          case round =>
            clear H9 HKO HMID
            obtain ⟨t, T, L, n', v', rfl, ht, hn', hkd, hko⟩ := hrel
            have z5 := hko.call.cell 5
            simp only [List.getElem?_toArray, List.getElem?_cons_zero, List.getElem?_cons_succ] at z5
            have hon := kc_on hkd (by omega) (HRD.out.below hkd.below) HNP.out (by omega) (c := cc2)
            have HON := Lib.hid hon; have HKO := Lib.hid hko
            clear hon hko hkd
            cases gk with
            | zero =>
              have ht33 : t ≤ 3 := by omega
              by_cases htk : t < x.keep.length
              all_goals
                first
                | (have htkI : (t : Int) < (x.keep.length : Int) := by omega
                   have htkb : decide ((t : Int) < (x.keep.length : Int)) = true := decide_eq_true htkI
                   have ht3 : ¬ (t : Int) < 3 := by omega
                   have ht3b : decide ((t : Int) < 3) = false := decide_eq_false ht3)
                | (have htkI : ¬ (t : Int) < (x.keep.length : Int) := by omega
                   have htkb : decide ((t : Int) < (x.keep.length : Int)) = false := decide_eq_false htkI)
                clear ht
                go_wp2_with fail
                refine HON.out.mono ?_
                rintro e w10 ⟨rfl, L10, T10, v10, h10, k10⟩
                have HOP := Lib.hid (kc_open h10 (by omega)); have HKO10 := Lib.hid (HKO.out.kp k10)
                clear h10 k10 HON HKO z5
                go_wp2_with fail
                refine HOP.out.mono ?_
                intro e w11 hP
                obtain ⟨g11, L11, n11, v11, rfl, h11, s11, -, hn11, k11⟩ := hP.ok
                have H11 := Lib.hid h11; have HS11 := Lib.hid s11; have HKO11 := Lib.hid (HKO10.out.kp k11)
                clear h11 s11 k11 hP HOP HKO10
                go_wp2
                go_meet
                exact ⟨g11, L11, n11, -1, v11, rfl, rfl, H11.out, HS11.out, by omega, HKO11.out⟩
            | succ gf =>
              have htk : t < x.keep.length := by omega
              have htkI : (t : Int) < (x.keep.length : Int) := by omega
              have htkb : decide ((t : Int) < (x.keep.length : Int)) = true := decide_eq_true htkI
              have ht3 : (t : Int) < 3 := by omega
              have ht3b : decide ((t : Int) < 3) = true := decide_eq_true ht3
              go_wp2_with fail
              refine HON.out.mono ?_
              rintro e w10 ⟨rfl, L10, T10, v10, h10, k10⟩
              have hko10 := HKO.out.kp k10
              clear z5
              have z5 := hko10.call.cell 5
              simp only [List.getElem?_toArray, List.getElem?_cons_zero, List.getElem?_cons_succ] at z5
              obtain ⟨ad, u, hA2, hu, hcu⟩ := (HRD.out.below h10.below).at_ htk
              rw [hA2] at z5
              rw [List.getElem?_map, List.getElem?_eq_getElem htk, Option.map_some] at hu
              injection hu with hu
              obtain ⟨z, hz⟩ : ∃ z, x.keep[t] = z := ⟨_, rfl⟩
              rw [hz] at hu
              subst hu
              have HF := Lib.hid (kc_fail h10 (bits .and .i64 z 1) (and1 z)); have HKO10 := Lib.hid hko10
              clear h10 k10 hko10 HON HKO hz hA2
              go_wp2_with fail
              refine HF.out.mono ?_
              rintro e w11 ⟨rfl, v11, h11, k11⟩
              have HOP := Lib.hid (kc_open h11 (by omega)); have HKO11 := Lib.hid (HKO10.out.kp k11)
              clear h11 k11 HF hcu z5 HKO10
              go_wp2_with fail
              refine HOP.out.mono ?_
              intro e w12 hP
              rcases hP with ⟨g12, L12, n12, l12, v12, rfl, h12, -, -, hn12, -, k12⟩ | ⟨v12, -, rfl, h12, k12⟩
              · have HCR := Lib.hid (kc_crash h12); have HKO12 := Lib.hid (HKO11.out.kp k12)
                clear h12 k12 HOP HKO11
                go_wp2_with fail
                refine HCR.out.mono ?_
                rintro e w13 ⟨rfl, v13, h13, k13⟩
                have H13 := Lib.hid h13; have HKO13 := Lib.hid (HKO12.out.kp k13)
                clear h13 k13 HCR HKO12
                go_wp2
                go_roundg gf
                case measure => omega
                case rel => exact ⟨t + 1, [], L12, n12, v13, by go_num, by omega, by omega, H13.out, HKO13.out⟩
              · have HCR := Lib.hid (kc_crash h12); have HKO12 := Lib.hid (HKO11.out.kp k12)
                clear h12 k12 HOP HKO11
                go_wp2_with fail
                refine HCR.out.mono ?_
                rintro e w13 ⟨rfl, v13, h13, k13⟩
                have H13 := Lib.hid h13; have HKO13 := Lib.hid (HKO12.out.kp k13)
                clear h13 k13 HCR HKO12
                go_wp2
                go_roundg gf
                case measure => omega
                case rel => exact ⟨t + 1, T10, L10, n' + 1, v13, by go_num, by omega, by omega, H13.out, HKO13.out⟩
      case rest =>
      as_aux_lemma =>
      clear HMID HKO HRD
      obtain ⟨gs2, L4, n4, l4, v4, rfl, rfl, hkc, hst, hn4, hko⟩ := hcut
      have HK4 := Lib.hid hkc; have HS4 := Lib.hid hst; have HO4 := Lib.hid hko
      clear hkc hst hko
      go_wp2
      go_loopg [16] 8 (fun gf vj wr => ∃ j : Nat, vj = .int .i64 j ∧ j + gf = 8 ∧ KC w wr p v4 8 5000 1048576 M1 [] L4 n4 l4 false ∧ CkSt wr gs2 p ∧ Blk wr gx 36 #[.int .u8 x.kind, .int .i64 x.step, .string x.name, .slice A1 x.b.size cc1, .int .i64 x.n, .slice A2' x.keep.length cc2] ∧ RowK wr g1 9 8 (hvV (midM M M1 j)) ∧ RowK wr (g1 + 1) 4 8 (isV (midM M M1 j)))
      case atStart => exact ⟨0, rfl, by omega, HK4.out, HS4.out, HO4.out.call, by rw [midM_zero]; exact HO4.out.hv, by rw [midM_zero]; exact HO4.out.is⟩
      case round =>
        clear HK4 HS4 HO4
        obtain ⟨j, rfl, hj, hkc, hst, hcall, hr1, hr2⟩ := hrel
        cases gk with
        | zero =>
          obtain rfl : j = 8 := by omega
          have h1 := hr1.congr (f' := hvV M1) (fun a ha => by unfold hvV midM; rw [if_pos ha])
          have h2 := hr2.congr (f' := isV M1) (fun a ha => by unfold isV midM; rw [if_pos ha])
          have HKC := Lib.hid hkc; have HST := Lib.hid hst; have H1 := Lib.hid h1; have H2 := Lib.hid h2
          clear hkc hst hcall hr1 hr2 h1 h2
          go_wp2
          go_roundg gf
          case measure => omega
          case rel => exact ⟨i + 1, M1, L4, n4, l4, v4, gs2, rfl, rfl, by go_num, by go_num, by omega, HKC.out, HST.out, H1.out, H2.out, by omega⟩
        | succ gf2 =>
          have hj8 : j < 8 := by omega
          have hjI : (j : Int) < 8 := by omega
          have hjb : decide ((j : Int) < 8) = true := decide_eq_true hjI
          have hrd := kc_read hkc (by omega) HT.out hst j (by omega)
          obtain ⟨q1, hq1⟩ : ∃ q1, rdC (M1 j) = q1 := ⟨_, rfl⟩
          obtain ⟨e1, b1⟩ := q1
          rw [hq1] at hrd
          have hans : (e1 = 0 ∧ M1 j = some b1) ∨ (e1 = 190 ∧ M1 j = none ∧ b1 = ByteArray.empty) := by
            unfold rdC at hq1
            cases hm : M1 j with
            | some b' => rw [hm] at hq1; injection hq1 with h1 h2; subst h1; subst h2; exact .inl ⟨rfl, rfl⟩
            | none => rw [hm] at hq1; injection hq1 with h1 h2; subst h1; subst h2; exact .inr ⟨rfl, rfl, rfl⟩
          have HRDJ := Lib.hid hrd; have HANS := Lib.hid hans; have HKC := Lib.hid hkc; have HST := Lib.hid hst; have HCL := Lib.hid hcall; have HR1 := Lib.hid hr1; have HR2 := Lib.hid hr2
          clear hrd hans hkc hst hcall hr1 hr2 hq1
          go_wp2_with fail
          refine HRDJ.out.mono ?_
          rintro e w8 ⟨v8, rfl, ho8, hb8⟩
          have ho8 : w8.ownsRow _ 5 1 v8 b1.size (ucells b1) := ho8
          have hbt8 := Bt.of_own ho8
          obtain ⟨A8, c8, rfl⟩ := own_shape ho8
          have hcl8 := HCL.out.below hb8 HCL.out.lt
          have hr18 := HR1.out.below hb8
          have hr28 := HR2.out.below hb8
          have hm0 : midM M M1 j j = M j := by unfold midM; rw [if_neg (by omega)]
          have y0 := hr18.cell hj8
          have y1 := hr28.cell hj8
          unfold hvV at y0
          unfold isV at y1
          rw [hm0] at y0 y1
          have HKC8 := Lib.hid (HKC.out.below_ hb8); have HST8 := Lib.hid (HST.out.below hb8); have HCL8 := Lib.hid hcl8; have HR18 := Lib.hid hr18; have HR28 := Lib.hid hr28; have HBT8 := Lib.hid hbt8
          have hcv : ∀ j, (convert 33 9 (.slice A8 b1.size c8)).run Tryz.prog (w8.drewN j) = .ok (.string b1) (w8.drewN j) := fun j => (show Bt (w8.drewN j) _ _ from hbt8).conv
          clear HRDJ HKC HST HCL HR1 HR2 hcl8 hr18 hr28 hbt8 ho8 hb8 hm0
          dsimp only
          go_upto_region 40 with (fail)
          go_cut [19] (fun s19 wx => s19 = .bool (wasC M M1 j) ∧ ∃ nd, wx = w8.drewN nd)
          case first =>
            as_aux_lemma =>
            clear HKC8 HST8 HCL8 HR18 HR28 HBT8
            rcases HANS.out with ⟨rfl, hm1⟩ | ⟨rfl, hm1, rfl⟩
            · cases hM : M j with
              | none =>
                have hw : wasC M M1 j = false := by unfold wasC; rw [hM, hm1]; rfl
                rw [hM] at y0 y1
                dsimp only [Option.isSome, Option.getD] at y0 y1
                go_quiet (fail)
                refine Met.intro ?_
                go_step
                go_meet
                exact ⟨by rw [hw], _, rfl⟩
              | some a =>
                rw [hM] at y0 y1
                dsimp only [Option.isSome, Option.getD] at y0 y1
                by_cases hba : b1 = a
                · have hw : wasC M M1 j = true := by unfold wasC; rw [hM, hm1, hba]; exact decide_eq_true rfl
                  subst hba
                  go_quiet (fail)
                  refine Met.intro ?_
                  go_step
                  go_meet
                  exact ⟨by rw [hw], _, rfl⟩
                · have hw : wasC M M1 j = false := by unfold wasC; rw [hM, hm1]; exact decide_eq_false (fun h => hba (by injection h))
                  have hYb : (b1.toList == a.toList) = false := by rw [cbeq_]; exact decide_eq_false hba
                  go_quiet (fail)
                  refine Met.intro ?_
                  go_step
                  go_meet
                  exact ⟨by rw [hw], _, rfl⟩
            · cases hM : M j with
              | none =>
                have hw : wasC M M1 j = true := by unfold wasC; rw [hM, hm1]; exact decide_eq_true rfl
                rw [hM] at y0 y1
                dsimp only [Option.isSome, Option.getD] at y0 y1
                go_quiet (fail)
                refine Met.intro ?_
                go_step
                go_meet
                exact ⟨by rw [hw], _, rfl⟩
              | some a =>
                have hw : wasC M M1 j = false := by unfold wasC; rw [hM, hm1]; rfl
                rw [hM] at y0 y1
                dsimp only [Option.isSome, Option.getD] at y0 y1
                go_quiet (fail)
                refine Met.intro ?_
                go_step
                go_meet
                exact ⟨by rw [hw], _, rfl⟩
          case rest =>
          as_aux_lemma =>
          obtain ⟨rfl, nd, hwc⟩ := hcut
          have hbd : Below w8.heap.size w8 wc := by rw [hwc]; exact below_drewN (Below.refl _ _) nd
          have HKC9 := Lib.hid (HKC8.out.below_ hbd); have HST9 := Lib.hid (HST8.out.below hbd); have HCL9 := Lib.hid (HCL8.out.below hbd HCL8.out.lt); have HR19 := Lib.hid (HR18.out.below hbd); have HR29 := Lib.hid (HR28.out.below hbd); have HBT9 := Lib.hid (HBT8.out.below hbd)
          clear HKC8 HST8 HCL8 HR18 HR28 HBT8 hcv y0 y1 hbd hwc
          obtain ⟨was, hwas⟩ : ∃ was, wasC M M1 j = was := ⟨_, rfl⟩
          rw [hwas]
          obtain ⟨w9, hw9⟩ : ∃ w9, w9 = wc := ⟨_, rfl⟩
          subst hw9
          have z0 := HCL9.out.cell 0
          simp only [List.getElem?_toArray, List.getElem?_cons_zero] at z0
          have hkn : (x.kind.tmod 10 != 4) = !drop := by rw [← HDB.out]; rfl
          have hkb : (x.kind.tmod 10 == 4) = drop := HDB.out
          go_upto_region 42 with (fail)
          go_cut [164] (fun s164 wx => s164 = .bool (drop && decide ((j : Int) < (k : Int))) ∧ w9 = wx)
          case first =>
            cases drop with
            | false =>
              go_wp2
              go_meet
              exact ⟨rfl, rfl⟩
            | true =>
              by_cases hjk : (j : Int) < (k : Int)
              · have hjkb : decide ((j : Int) < (k : Int)) = true := decide_eq_true hjk
                go_wp2
                go_meet
                exact ⟨by rw [hjkb]; rfl, rfl⟩
              · have hjkb : decide ((j : Int) < (k : Int)) = false := decide_eq_false hjk
                go_wp2
                go_meet
                exact ⟨by rw [hjkb]; rfl, rfl⟩
          case rest =>
          as_aux_lemma =>
          obtain ⟨rfl, rfl⟩ := hcut
          obtain ⟨c1, hc1⟩ : ∃ c1, (drop && decide ((j : Int) < (k : Int))) = c1 := ⟨_, rfl⟩
          rw [hc1]
          go_upto_if 164 with (fail)
          go_cut [20] (fun s20 wx => s20 = .bool (if c1 = true then !(M1 j).isSome else was) ∧ w9 = wx)
          case first =>
            cases c1 with
            | false =>
              go_wp2
              go_meet
              exact ⟨rfl, rfl⟩
            | true =>
              rcases HANS.out with ⟨rfl, hm1⟩ | ⟨rfl, hm1, rfl⟩
              · go_wp2
                go_meet
                exact ⟨by rw [hm1]; rfl, rfl⟩
              · go_wp2
                go_meet
                exact ⟨by rw [hm1]; rfl, rfl⟩
          case rest =>
          as_aux_lemma =>
          obtain ⟨rfl, rfl⟩ := hcut
          obtain ⟨N1, hN1⟩ : ∃ N1, (if c1 = true then !(M1 j).isSome else was) = N1 := ⟨_, rfl⟩
          rw [hN1]
          go_upto_region 44 with (fail)
          go_cut [175] (fun s175 wx => s175 = .bool (!drop && decide ((j : Int) = (k : Int))) ∧ w9 = wx)
          case first =>
            cases drop with
            | true =>
              go_wp2
              go_meet
              exact ⟨rfl, rfl⟩
            | false =>
              by_cases hjk : (j : Int) = (k : Int)
              · have hjkb : ((j : Int) == (k : Int)) = true := by rw [hjk]; exact beq_self_eq_true _
                have hjkd : decide ((j : Int) = (k : Int)) = true := decide_eq_true hjk
                have HJD := Lib.hid hjkd
                clear hjk hjkd
                go_wp2
                go_meet
                exact ⟨by rw [HJD.out]; rfl, rfl⟩
              · have hjkb : ((j : Int) == (k : Int)) = false := by exact beq_eq_false_iff_ne.2 hjk
                have hjkd : decide ((j : Int) = (k : Int)) = false := decide_eq_false hjk
                go_wp2
                go_meet
                exact ⟨by rw [hjkd]; rfl, rfl⟩
          case rest =>
          as_aux_lemma =>
          obtain ⟨rfl, rfl⟩ := hcut
          have hne := next_eq drop k x.b M M1 j
          rw [hc1, hwas, hN1] at hne
          obtain ⟨c2, hc2⟩ : ∃ c2, (!drop && decide ((j : Int) = (k : Int))) = c2 := ⟨_, rfl⟩
          rw [hc2] at hne
          rw [hc2]
          have z3 := HCL9.out.cell 3
          simp only [List.getElem?_toArray, List.getElem?_cons_zero, List.getElem?_cons_succ] at z3
          have HNE := Lib.hid hne
          clear hne hc1 hc2 hN1
          go_upto_if 175 with (fail)
          go_cut [20] (fun s20 wx => s20 = .bool (nextC drop k x.b M M1 j) ∧ w9 = wx)
          case first =>
            cases c2 with
            | false =>
              go_wp2
              go_meet
              exact ⟨by rw [HNE.out]; rfl, rfl⟩
            | true =>
              have hcv : (convert 33 9 (.slice A8 b1.size c8)).run Tryz.prog w9 = .ok (.string b1) w9 := HBT9.out.conv
              have hcx : (convert 33 9 (.slice A1 x.b.size cc1)).run Tryz.prog w9 = .ok (.string x.b) w9 := (HBT.out.below HKC9.out.below).conv
              have hn1 : nextC drop k x.b M M1 j = decide (M1 j = some x.b) := by rw [HNE.out]; exact if_pos rfl
              have HN1 := Lib.hid hn1
              clear hn1
              rcases HANS.out with ⟨rfl, hm1⟩ | ⟨rfl, hm1, rfl⟩
              · by_cases hbx : b1 = x.b
                · have hYb : (b1.toList == x.b.toList) = true := by rw [cbeq_]; exact decide_eq_true hbx
                  have HNV := Lib.hid (show nextC drop k x.b M M1 j = true by rw [HN1.out, hm1, hbx]; exact decide_eq_true rfl)
                  clear hbx hm1 HN1 HNE
                  go_wp2
                  go_meet
                  exact ⟨by rw [HNV.out], rfl⟩
                · have hYb : (b1.toList == x.b.toList) = false := by rw [cbeq_]; exact decide_eq_false hbx
                  have HNV := Lib.hid (show nextC drop k x.b M M1 j = false by rw [HN1.out, hm1]; exact decide_eq_false (fun h => hbx (by injection h)))
                  clear hbx hm1 HN1 HNE
                  go_wp2
                  go_meet
                  exact ⟨by rw [HNV.out], rfl⟩
              · have HNV := Lib.hid (show nextC drop k x.b M M1 j = false by rw [HN1.out, hm1]; exact decide_eq_false (fun h => by cases h))
                clear hm1 HN1 HNE
                go_wp2
                go_meet
                exact ⟨by rw [HNV.out], rfl⟩
          case rest =>
          as_aux_lemma =>
          obtain ⟨rfl, rfl⟩ := hcut
          clear HNE z0 z3 N1 c1 c2
          have hnx := next_ok HREL.out j
          rw [hwas] at hnx
          obtain ⟨N2, hN2⟩ : ∃ N2, nextC drop k x.b M M1 j = N2 := ⟨_, rfl⟩
          rw [hN2] at hnx
          rw [hN2]
          have HNX := Lib.hid hnx
          clear hnx hN2 hwas hkb hkn
          go_upto_region 46 with (fail)
          go_cut [203] (fun s203 wx => s203 = .bool false ∧ w9 = wx)
          case first =>
            rcases HNX.out with rfl | ⟨rfl, rfl, rfl⟩
            all_goals
              rcases HANS.out with ⟨rfl, hm1⟩ | ⟨rfl, hm1, rfl⟩
              all_goals
                go_wp2
                go_meet
                exact ⟨rfl, rfl⟩
          case rest =>
          as_aux_lemma =>
          obtain ⟨rfl, rfl⟩ := hcut
          obtain ⟨s1, hs1⟩ : ∃ s1, (M1 j).isSome = s1 := ⟨_, rfl⟩
          obtain ⟨heb, hgb⟩ := ans_is HANS.out
          rw [hs1] at heb
          have hgi : isV M1 j = .bool s1 := by unfold isV; rw [hs1]
          obtain ⟨y1, f1, hcv, y0, f0, h6, hs6, hc6, hr16, hr26⟩ := kc_renew HKC9.out HST9.out HCL9.out HR19.out HR29.out HBT9.out HG1.out hj8 hgb hgi
          have H6 := Lib.hid h6; have HS6 := Lib.hid hs6; have HC6 := Lib.hid hc6; have HR16 := Lib.hid hr16; have HR26 := Lib.hid hr26
          clear h6 hs6 hc6 hr16 hr26 hgb hgi hs1 HNX HANS HBT9 HKC9 HST9 HCL9 HR19 HR29
          unfold hvV at y0
          unfold isV at y1
          go_wp2
          go_roundg gf2
          case measure => omega
          case rel => exact ⟨j + 1, by go_num, by omega, H6.out, HS6.out, HC6.out, HR16.out, HR26.out⟩
end Go.Proofs.YthmcimpdehgaoaaGreatDoor
