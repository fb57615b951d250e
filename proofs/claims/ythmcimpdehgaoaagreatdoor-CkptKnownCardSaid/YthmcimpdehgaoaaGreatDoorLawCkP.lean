/- The law of whole plays: its walk. -/
import Derived.Test.YthmcimpdehgaoaaGreatDoorCmW
import Derived.Test.YthmcimpdehgaoaaGreatDoorCmT
import Derived.Test.YthmcimpdehgaoaaGreatDoorCmLi
import Derived.Test.YthmcimpdehgaoaaGreatDoorPk40
import Derived.Test.YthmcimpdehgaoaaGreatDoorPk21
import Derived.Deep.DeepCutAuto
namespace Go.Proofs.YthmcimpdehgaoaaGreatDoor
open Go.RowKit Go.Maps

theorem infoCallP : (Tryz.prog.info? 36).map (·.size) = some 6 := by kernel_rfl
theorem bud_newC (q : Int) : BudC ⟨[], max 0 q, 0, -1, false⟩ 0 0 := ⟨by show (0 : Int) ≤ 0; decide, by show (0 : Int) ≤ _; decide, Nat.le_refl _, Nat.zero_le _, by show (-1 : Int) ≤ -1; decide, by show (-1 : Int) ≤ 8; decide⟩
theorem BudC.crash {D : DiskD} {i u : Nat} (h : BudC D i u) : BudC { D with off := true, left := -1 } i u := ⟨h.s0, h.s1, h.f, h.u, by show (-1 : Int) ≤ -1; decide, by show (-1 : Int) ≤ 8; decide⟩
theorem BudC.same {D D' : DiskD} {i u : Nat} (h : BudC D i u) (c : Cst D D' 0 0 0) : BudC D' i u :=
  ⟨by have := h.s0; have := c.s0; omega, by have := h.s1; have := c.s1; omega, by have := h.f; have := c.f; omega, by have := h.u; have := c.u; omega, c.l0, by have := h.l1; have := c.l1; omega⟩
theorem BudC.big {D : DiskD} {i u : Nat} (h : BudC D i u) (hi : i ≤ 64) (hu : u ≤ 5000) : FitN D 50000 :=
  ⟨h.s0, by have := h.s1; omega, by have := h.f; omega, by have := h.u; omega, h.l0, by have := h.l1; omega⟩
theorem allC_few (D : DiskD) : (allC D).length ≤ D.files.length := by
  unfold allC
  rw [List.length_mergeSort]
  refine Nat.le_trans (List.length_filterMap_le _ _) ?_
  rw [List.length_map]
  exact Nat.le_refl _
theorem BudC.does {D : DiskD} {i u : Nat} (h : BudC D i u) (hi : i ≤ 64) (x : CallC) : BudC (doesC D x) (i + 1) (u + x.b.size) := by
  have hl := allC_few D
  have hf := h.f
  unfold doesC
  split
  · exact h.next (cst_dropC h.l0 x.step) (by omega) (by omega) (by omega)
  split
  · exact h.less (by omega) (by omega)
  · exact h.next (cst_writeC h.l0 x.step x.b) (by decide) (by decide) (by omega)
theorem tmod9P (n : Int) : n.tmod 9 ≤ 8 := by have := Int.tmod_lt_of_pos n (show (0 : Int) < 9 by decide); omega
/-- what a round leaves for the next -/
def RndC (w wr : World) (p q : Nat) (i u : Nat) (E : Int) (s7 s9 : Value) (v : Value) (D : DiskD) (R : RDisk) : Prop := PlC w wr p q v D R E s7 s9 ∧ Sim D R ∧ BudC D i u
set_option maxRecDepth 100000 in
set_option maxHeartbeats 16000000 in
theorem cplays_any (w0 : World) (quota : Int) (A : Option Addr) (c : Nat) (l : List CallC) (hA0 : CallsA w0 A l) (hT0 : Tb w0.heap.size w0) (hV0 : Ev w0.heap.size w0) :
    Calls Tryz.prog 6 #[.int .i64 quota, .slice A l.length c] w0 fun e w' => e = .returned (.bool true) ∧ Below w0.heap.size w0 w' := by
  have HL := Lib.hid (large_any w0 A c l hA0)
  have HA0 := Lib.hid hA0; have HT0 := Lib.hid hT0; have HV0 := Lib.hid hV0
  clear hA0 hT0 hV0
  go_enter Tryz.func6, Tryz.ntmps6
  go_wp2_with fail
  refine HL.out.mono ?_
  intro e w hP
  obtain ⟨b, rfl, hb0, hsm⟩ := hP
  have hwk : ∀ W, Below w.heap.size w W → Calls Tryz.prog 9 #[] W fun e w' => e = .returned (.bool true) ∧ Below W.heap.size W w' := fun W hW => works_any W (HT0.out.at_ (hb0.trans (hW.mono hb0.size))) (HV0.out.at_ (hb0.trans (hW.mono hb0.size)))
  have hT : Tb w.heap.size w := HT0.out.at_ hb0
  have hV : Ev w.heap.size w := HV0.out.at_ hb0
  have HWK := Lib.hid hwk; have HB0 := Lib.hid hb0; have HA := Lib.hid (HA0.out.below hb0); have HT := Lib.hid hT; have HV := Lib.hid hV
  clear hwk hb0 hT hV HL HA0 HT0 HV0
  cases b with
  | true =>
    clear hsm
    go_wp2_with fail
    refine (HWK.out _ (Below.refl _ _)).mono ?_
    rintro e w5 ⟨rfl, hb5⟩
    have HB5 := Lib.hid (HB0.out.trans (hb5.mono HB0.out.size))
    clear hb5
    go_wp2
    go_ret
    exact ⟨rfl, HB5.out⟩
  | false =>
  obtain ⟨hl60, hsz, hsum⟩ := hsm rfl
  have HSZ := Lib.hid hsz
  clear hsm hsz
  go_wp2_with fail
  refine (new_any quota _).mono ?_
  rintro e w1 ⟨rfl, hd1, hb1⟩
  have HD1 := Lib.hid hd1; have HB1 := Lib.hid hb1
  clear hd1 hb1
  go_wp2_with fail
  refine (rnew_any _ quota).mono ?_
  rintro e w2 ⟨rfl, hr2, hb2⟩
  have hpl2 : PlC w w2 w.heap.size w1.heap.size (.slice none 0 0) ⟨[], max 0 quota, 0, -1, false⟩ ⟨[], [], max 0 quota, 0, -1, false⟩ 1 (.pointer none) (.pointer none) :=
    ⟨HD1.out.below hb2 (Nat.le_refl _), ⟨Nat.le_trans HB1.out.size hr2.1, hr2.2⟩, HB1.out.trans (hb2.mono HB1.out.size), .inl ⟨by decide, rfl, rfl⟩⟩
  have H2 := Lib.hid (show RndC w w2 w.heap.size w1.heap.size 0 0 1 (.pointer none) (.pointer none) (.slice none 0 0) ⟨[], max 0 quota, 0, -1, false⟩ ⟨[], [], max 0 quota, 0, -1, false⟩ from ⟨hpl2, sim_new quota, bud_newC quota⟩)
  obtain ⟨p, hp⟩ : ∃ p, w.heap.size = p := ⟨_, rfl⟩
  obtain ⟨q, hq⟩ : ∃ q, w1.heap.size = q := ⟨_, rfl⟩
  have H2 := H2.out
  rw [hp, hq] at H2
  rw [hp, hq]
  have H2 := Lib.hid H2
  clear hpl2 hr2 hb2 HD1 HB1 hp hq
  have HPO := Lib.hid (pc_open H2.out.1 ((H2.out.2.2.fit (by decide) (by decide)).less (by decide)))
  go_wp2_with fail
  refine HPO.out.mono ?_
  rintro e w3 ⟨s7', rfl, ⟨v3, hz3⟩, hh3, -⟩
  have hpr := pc_ropen hz3 hh3 H2.out.2.1 ((H2.out.2.2.fit (by decide) (by decide)).less (by decide))
  have HPR := Lib.hid hpr; have HSO := Lib.hid (sim_openC H2.out.2.1).2; have HBO := Lib.hid (H2.out.2.2.next (b := 0) (cst_openC H2.out.2.2.l0) (by decide) (by decide) (by decide))
  clear hz3 hh3 hpr HPO
  go_wp2_with fail
  refine HPR.out.mono ?_
  rintro e w4 ⟨s9', rfl, hpl4, -⟩
  have HPL4 := Lib.hid hpl4
  clear hpl4 HPR H2
  go_wp2
  go_loopg [7, 8, 9, 10, 11] l.length (fun gf v7 v8 v9 v10 v11 wr => ∃ (i : Nat) (v : Value) (D : DiskD) (R : RDisk) (E : Int), v8 = .int .i64 E ∧ v10 = .int .i64 E ∧ v11 = .int .i64 i ∧ i + gf = l.length ∧ PlC w wr p q v D R E v7 v9 ∧ Sim D R ∧ BudC D (i + 1) (bSum (l.take i)))
  case atStart => exact ⟨0, _, _, _, _, rfl, rfl, rfl, by omega, HPL4.out, HSO.out, HBO.out⟩
  case round =>
    clear HPL4 HSO HBO
    obtain ⟨i, v, D, R, E, rfl, rfl, rfl, hi, hpl, hsim, hbud⟩ := hrel
    have hub : bSum (l.take i) ≤ 5000 := by
      have e : bSum l = bSum (l.take i) + bSum (l.drop i) := by
        unfold bSum
        rw [← List.sum_append, ← List.map_append, List.take_append_drop]
      omega
    cases gk with
    | zero =>
      obtain rfl : i = l.length := by omega
      as_aux_lemma =>
      have HLI := Lib.hid (lies_any wr _ p q v D R hpl.is hpl.rk hsim ((hbud.fit (by omega) hub).less (by decide)))
      have hdr := hpl.below
      have HB := Lib.hid hpl.below; have HPL := Lib.hid hpl; have HSIM := Lib.hid hsim; have HBUD := Lib.hid hbud
      clear hpl hsim hbud hi hdr
      rcases HPL.out.sto with ⟨hE, rfl, rfl⟩ | ⟨rfl, gs, gr, rfl, rfl, hst, hrt⟩
      · have hEb : (E != 0) = true := by simpa using hE
        clear hE
        go_wp2_with fail
        refine HLI.out.mono ?_
        rintro e w5 ⟨rfl, hb5⟩
        have HB5 := Lib.hid (HB.out.trans (hb5.mono HB.out.size))
        clear hb5 HLI
        go_wp2_with fail
        refine (HWK.out _ HB5.out).mono ?_
        rintro e w6 ⟨rfl, hb6⟩
        have HB6 := Lib.hid (HB0.out.trans ((HB5.out.trans (hb6.mono HB5.out.size)).mono HB0.out.size))
        clear hb6
        go_wp2
        go_ret
        exact ⟨rfl, HB6.out⟩
      · have HST := Lib.hid hst; have HRT := Lib.hid hrt
        clear hst hrt
        go_wp2_with fail
        refine HLI.out.mono ?_
        rintro e w5 ⟨rfl, hb5⟩
        have hp5 := HPL.out.below_ hb5
        have HTE := Lib.hid (ctells_any w5 _ p q gs gr v D R hp5.is hp5.rk (HST.out.below hb5) (HRT.out.below hb5) HSIM.out ((HBUD.out.fit (by omega) hub).less (by decide)) (sim_names HSIM.out) (fun t => HBUD.out.size HSIM.out (by omega) hub t) (HT.out.at_ hp5.below) (HV.out.at_ hp5.below))
        have HB5 := Lib.hid hp5.below
        clear hb5 HLI hp5
        go_wp2_with fail
        refine HTE.out.mono ?_
        rintro e w7 ⟨rfl, hb7⟩
        have HB7 := Lib.hid (HB5.out.trans (hb7.mono HB5.out.size))
        clear hb7 HTE
        go_wp2_with fail
        refine (HWK.out _ HB7.out).mono ?_
        rintro e w6 ⟨rfl, hb6⟩
        have HB6 := Lib.hid (HB0.out.trans ((HB7.out.trans (hb6.mono HB7.out.size)).mono HB0.out.size))
        clear hb6
        go_wp2
        go_ret
        exact ⟨rfl, HB6.out⟩
    | succ gf =>
      obtain ⟨x, hx⟩ : ∃ x, l[i]? = some x := ⟨_, List.getElem?_eq_getElem (by omega)⟩
      obtain ⟨bb, oo, rfl, hlt, hcl⟩ := HA.out (by omega)
      have hcx := hcl i x hx
      have hsx := HSZ.out x (List.mem_of_getElem? hx)
      obtain ⟨hs1, hs2, hs3⟩ := hsx
      obtain ⟨A1, cc1, hb1, hbt⟩ := hcx.bs
      obtain ⟨A2, cc2, hk1, hrd⟩ := hcx.keep
      have hiI : (i : Int) < (l.length : Int) := by omega
      have tr := fun j => hpl.below.cell (p := ⟨bb, j, none⟩) hlt
      have x0 : wr.cell? ⟨bb, oo + i * 6, none⟩ = some (.int .u8 x.kind) := (tr _).trans hcx.k
      have x1 : wr.cell? ⟨bb, oo + i * 6 + 1, none⟩ = some (.int .i64 x.step) := (tr _).trans hcx.s
      have x2 : wr.cell? ⟨bb, oo + i * 6 + 2, none⟩ = some (.string x.name) := (tr _).trans hcx.name
      have x3 : wr.cell? ⟨bb, oo + i * 6 + 3, none⟩ = some (.slice A1 x.b.size cc1) := (tr _).trans hb1
      have x4 : wr.cell? ⟨bb, oo + i * 6 + 4, none⟩ = some (.int .i64 x.n) := (tr _).trans hcx.n
      have x5 : wr.cell? ⟨bb, oo + i * 6 + 5, none⟩ = some (.slice A2 x.keep.length cc2) := (tr _).trans hk1
      have hkb := hcx.kb; have hnb := hcx.nb
      have hbs := bSum_snoc hx
      have HBS := Lib.hid hbs; have HBT := Lib.hid hbt; have HRD := Lib.hid hrd
      have hkz := Blk.new wr 36 #[.int .u8 0, .int .i64 0, .string ⟨#[]⟩, .slice none 0 0, .int .i64 0, .slice none 0 0]
      have hkc := hkz.setRowR #[.int .u8 x.kind, .int .i64 x.step, .string x.name, .slice A1 x.b.size cc1, .int .i64 x.n, .slice A2 x.keep.length cc2]
      have hone : (#[.int .u8 x.kind, .int .i64 x.step, .string x.name, .slice A1 x.b.size cc1, .int .i64 x.n, .slice A2 x.keep.length cc2] : Array Value).all (·.oneCell') = true := by simp [Value.oneCell']
      have hbc := below_rowR ((Below.refl wr.heap.size wr).alloc (Nat.le_refl _) (.cells #[.int .u8 0, .int .i64 0, .string ⟨#[]⟩, .slice none 0 0, .int .i64 0, .slice none 0 0] 36)) (Nat.le_refl _) #[.int .u8 x.kind, .int .i64 x.step, .string x.name, .slice A1 x.b.size cc1, .int .i64 x.n, .slice A2 x.keep.length cc2]
      have hpl4 := hpl.below_ hbc
      have HKZ := Lib.hid hkz; have HKC := Lib.hid hkc; have HONE := Lib.hid hone; have HPL := Lib.hid hpl4; have HSIM := Lib.hid hsim; have HBUD := Lib.hid hbud
      clear hx hcl hcx hb1 hk1 hbt hrd tr hkz hkc hone hbc hpl hpl4 hsim hbud hbs
      go_upto_region 10 with (first | (refine wpList_store_row rfl 36 (.tmp 12) (.tmp 39) rfl wr.heap.size #[.int .u8 x.kind, .int .i64 x.step, .string x.name, .slice A1 x.b.size cc1, .int .i64 x.n, .slice A2 x.keep.length cc2] rfl rfl 36 _ HKZ.out infoCallP rfl HONE.out ?_))
      clear x0 x1 x2 x3 x4 x5 HKZ HONE
      obtain ⟨w4, hw4⟩ : ∃ w4, (wr.alloc (.cells #[.int .u8 0, .int .i64 0, .string ⟨#[]⟩, .slice none 0 0, .int .i64 0, .slice none 0 0] 36)).setRow wr.heap.size #[.int .u8 x.kind, .int .i64 x.step, .string x.name, .slice A1 x.b.size cc1, .int .i64 x.n, .slice A2 x.keep.length cc2] = w4 := ⟨_, rfl⟩
      obtain ⟨g, hg⟩ : ∃ g, wr.heap.size = g := ⟨_, rfl⟩
      rw [hw4] at HKC HPL ⊢
      rw [hg] at HKC ⊢
      clear hw4 hg
      dsimp only [Act.put]
      go_cut [65] (fun s65 wx => s65 = .bool false ∧ Below w4.heap.size w4 wx)
      case first =>
        as_aux_lemma =>
        have HLI := Lib.hid (lies_any w4 _ p q v D R HPL.out.is HPL.out.rk HSIM.out ((HBUD.out.fit (by omega) hub).less (by decide)))
        rcases HPL.out.sto with ⟨hE, rfl, rfl⟩ | ⟨rfl, gs, gr, rfl, rfl, hst, hrt⟩
        · have hEb : (E == 0) = false := by simpa using hE
          clear hE
          go_wp2_with fail
          refine HLI.out.mono ?_
          rintro e w5 ⟨rfl, hb5⟩
          have HB5 := Lib.hid hb5
          clear hb5 HLI
          go_wp2
          go_meet
          exact ⟨rfl, HB5.out⟩
        · have HST := Lib.hid hst; have HRT := Lib.hid hrt
          clear hst hrt
          go_wp2_with fail
          refine HLI.out.mono ?_
          rintro e w5 ⟨rfl, hb5⟩
          have hp5 := HPL.out.below_ hb5
          have HTE := Lib.hid (ctells_any w5 _ p q gs gr v D R hp5.is hp5.rk (HST.out.below hb5) (HRT.out.below hb5) HSIM.out ((HBUD.out.fit (by omega) hub).less (by decide)) (sim_names HSIM.out) (fun t => HBUD.out.size HSIM.out (by omega) hub t) (HT.out.at_ hp5.below) (HV.out.at_ hp5.below))
          have HB5 := Lib.hid hb5
          clear hb5 HLI hp5
          go_wp2_with fail
          refine HTE.out.mono ?_
          rintro e w7 ⟨rfl, hb7⟩
          have HB7 := Lib.hid (HB5.out.trans (hb7.mono HB5.out.size))
          clear hb7 HTE
          go_wp2
          go_meet
          exact ⟨rfl, HB7.out⟩
      case rest =>
      as_aux_lemma =>
      obtain ⟨rfl, hbx⟩ := hcut
      obtain ⟨w6, hw6⟩ : ∃ w6, w6 = wc := ⟨_, rfl⟩
      subst hw6
      have HPL6 := Lib.hid (HPL.out.below_ hbx); have HKC6 := Lib.hid (HKC.out.below hbx HKC.out.lt)
      clear hbx HPL HKC
      have z0 := HKC6.out.cell 0; have z2 := HKC6.out.cell 2; have z3 := HKC6.out.cell 3; have z4 := HKC6.out.cell 4; have z5 := HKC6.out.cell 5
      simp only [List.getElem?_toArray, List.getElem?_cons_zero, List.getElem?_cons_succ] at z0 z2 z3 z4 z5
      by_cases h6 : x.kind % 10 = 6
      · have hb6 : (x.kind % 10 == 6) = true := by simpa using h6
        clear h6 z2 z3 z5
        have HF := Lib.hid (fun z => pc_fail HPL6.out z)
        go_wp2_with fail
        refine (HF.out _).mono ?_
        rintro e w7 ⟨rfl, v7, hpl7, hk7⟩
        have z4 := (hk7 _ _ HKC6.out).cell 4
        simp only [List.getElem?_toArray, List.getElem?_cons_zero, List.getElem?_cons_succ] at z4
        have HF2 := Lib.hid (fun z => pc_rfail hpl7 z)
        clear hpl7 hk7 HF z0
        go_wp2_with fail
        refine (HF2.out _).mono ?_
        rintro e w8 ⟨rfl, hpl8, -⟩
        have HPL8 := Lib.hid hpl8
        clear hpl8 HF2 z4
        go_wp2
        go_roundg gf
        case measure => omega
        case rel => exact ⟨i + 1, _, _, _, _, rfl, rfl, by go_num, by omega, HPL8.out, sim_fail HSIM.out _, (HBUD.out.left _ (tmod9P _) _).less (by omega) (by rw [HBS.out]; omega)⟩
      have hb6 : (x.kind % 10 == 6) = false := by simpa using h6
      by_cases h7 : x.kind % 10 = 7
      · as_aux_lemma =>
        have hb7 : (x.kind % 10 == 7) = true := by simpa using h7
        clear h6 h7 z2 z3 z4 z5
        have HF := Lib.hid (pc_crash HPL6.out)
        go_wp2_with fail
        refine HF.out.mono ?_
        rintro e w7 ⟨rfl, v7, hpl7, hk7⟩
        have HK7 := Lib.hid (hk7 _ _ HKC6.out)
        have HF2 := Lib.hid (pc_rcrash hpl7)
        clear hpl7 hk7 HF z0
        go_wp2_with fail
        refine HF2.out.mono ?_
        rintro e w8 ⟨rfl, hpl8, hk8⟩
        have HK8 := Lib.hid (hk8 _ _ HK7.out)
        have z5 := HK8.out.cell 5
        simp only [List.getElem?_toArray, List.getElem?_cons_zero, List.getElem?_cons_succ] at z5
        have hs1 := sim_crash HSIM.out
        have hbd1 := HBUD.out.crash
        have hf1 := hbd1.fit (by omega) hub
        have HF3 := Lib.hid (pc_on (c := cc2) hpl8 hs1 (hf1.less (by decide)) HRD.out hs3)
        have HS1 := Lib.hid hs1; have HBD1 := Lib.hid hbd1; have HF1 := Lib.hid hf1
        clear hpl8 hk8 HF2 HK7 hs1 hbd1 hf1
        go_wp2_with fail
        refine HF3.out.mono ?_
        rintro e w9 ⟨rfl, v9, hpl9, hk9⟩
        have HK9 := Lib.hid (hk9 _ _ HK8.out)
        have z5 := HK9.out.cell 5
        simp only [List.getElem?_toArray, List.getElem?_cons_zero, List.getElem?_cons_succ] at z5
        have HF4 := Lib.hid (pc_ron (c := cc2) hpl9 (sim_safeR HS1.out) (sim_fit HS1.out (HF1.out.less (k := 1) (by decide))) HRD.out hs3)
        clear hpl9 hk9 HF3 HK8
        go_wp2_with fail
        refine HF4.out.mono ?_
        rintro e w10 ⟨rfl, hpl10, hk10⟩
        have HK10 := Lib.hid (hk10 _ _ HK9.out)
        have z4 := HK10.out.cell 4
        simp only [List.getElem?_toArray, List.getElem?_cons_zero, List.getElem?_cons_succ] at z4
        obtain ⟨D2, hD2⟩ : ∃ D2, ({ D with off := true, left := -1 } : DiskD).on x.keep = D2 := ⟨_, rfl⟩
        obtain ⟨R2, hR2⟩ : ∃ R2, ({ R with gone := true, left := -1 } : RDisk).on x.keep = R2 := ⟨_, rfl⟩
        have hs2 := sim_on HS1.out x.keep
        have hbd2 := HBD1.out.same (cst_on x.keep)
        rw [hD2, hR2] at hpl10 hs2
        rw [hD2] at hbd2
        have HR10 := Lib.hid (show RndC w w10 p q (i + 1) (bSum (l.take i)) E u7 u9 v9 D2 R2 from ⟨hpl10, hs2, hbd2⟩)
        clear hpl10 hk10 HF4 HK9 hD2 hR2 hs2 hbd2 HS1 HBD1 HF1 z5
        by_cases h1 : x.n.tmod 3 = 1
        · have h1b : (x.n.tmod 3 == 1) = true := by simpa using h1
          clear h1
          have HF5 := Lib.hid (pc_fail HR10.out.1 0)
          go_wp2_with fail
          refine HF5.out.mono ?_
          rintro e w11 ⟨rfl, v11, hpl11, hk11⟩
          have HF6 := Lib.hid (pc_rfail hpl11 0)
          clear hpl11 hk11 HF5
          go_wp2_with fail
          refine HF6.out.mono ?_
          rintro e w12 ⟨rfl, hpl12, -⟩
          have hr12 : RndC w w12 p q (i + 1) (bSum (l.take i)) E u7 u9 v11 _ _ := ⟨hpl12, sim_fail HR10.out.2.1 0, HR10.out.2.2.left 0 (by decide) _⟩
          obtain ⟨D3, hD3⟩ : ∃ D3, ({ D2 with left := max (-1) 0 } : DiskD) = D3 := ⟨_, rfl⟩
          obtain ⟨R3, hR3⟩ : ∃ R3, ({ R2 with left := max (-1) 0 } : RDisk) = R3 := ⟨_, rfl⟩
          rw [hD3, hR3] at hr12
          have HR12 := Lib.hid hr12
          clear hpl12 HF6 hr12 hD3 hR3 z4 HR10 HK10
          have HPO := Lib.hid (pc_open HR12.out.1 ((HR12.out.2.2.fit (by omega) hub).less (by decide)))
          go_wp2_with fail
          refine HPO.out.mono ?_
          rintro e w20 ⟨s7', rfl, ⟨v20, hz20⟩, hh20, -⟩
          have hpr := pc_ropen hz20 hh20 HR12.out.2.1 ((HR12.out.2.2.fit (by omega) hub).less (by decide))
          have HPR := Lib.hid hpr; have HSO := Lib.hid (sim_openC HR12.out.2.1).2; have HBO := Lib.hid (HR12.out.2.2.next (b := x.b.size) (cst_openC HR12.out.2.2.l0) (by decide) (by decide) (by omega))
          clear hz20 hh20 hpr HPO
          go_wp2_with fail
          refine HPR.out.mono ?_
          rintro e w21 ⟨s9', rfl, hpl21, -⟩
          have HPL21 := Lib.hid hpl21
          clear hpl21 HPR
          go_wp2
          go_roundg gf
          case measure => omega
          case rel => exact ⟨i + 1, _, _, _, _, rfl, rfl, by go_num, by omega, HPL21.out, HSO.out, by rw [HBS.out]; exact HBO.out⟩
        · have h1b : (x.n.tmod 3 == 1) = false := by simpa using h1
          clear h1
          have HPO := Lib.hid (pc_open HR10.out.1 ((HR10.out.2.2.fit (by omega) hub).less (by decide)))
          go_wp2_with fail
          refine HPO.out.mono ?_
          rintro e w20 ⟨s7', rfl, ⟨v20, hz20⟩, hh20, -⟩
          have hpr := pc_ropen hz20 hh20 HR10.out.2.1 ((HR10.out.2.2.fit (by omega) hub).less (by decide))
          have HPR := Lib.hid hpr; have HSO := Lib.hid (sim_openC HR10.out.2.1).2; have HBO := Lib.hid (HR10.out.2.2.next (b := x.b.size) (cst_openC HR10.out.2.2.l0) (by decide) (by decide) (by omega))
          clear hz20 hh20 hpr HPO
          go_wp2_with fail
          refine HPR.out.mono ?_
          rintro e w21 ⟨s9', rfl, hpl21, -⟩
          have HPL21 := Lib.hid hpl21
          clear hpl21 HPR
          go_wp2
          go_roundg gf
          case measure => omega
          case rel => exact ⟨i + 1, _, _, _, _, rfl, rfl, by go_num, by omega, HPL21.out, HSO.out, by rw [HBS.out]; exact HBO.out⟩
      have hb7 : (x.kind % 10 == 7) = false := by simpa using h7
      by_cases h8 : x.kind % 10 = 8
      · as_aux_lemma =>
        have hb8 : (x.kind % 10 == 8) = true := by simpa using h8
        clear h6 h7 h8 z4 z5
        have HF := Lib.hid (pc_append HPL6.out ((HBUD.out.fit (by omega) hub).less (by decide)) (n := x.name) HBT.out hs2)
        go_wp2_with fail
        refine HF.out.mono ?_
        rintro e w7 ⟨E7, rfl, v7, hpl7, hk7⟩
        have z2 := (hk7 _ _ HKC6.out).cell 2; have z3 := (hk7 _ _ HKC6.out).cell 3
        simp only [List.getElem?_toArray, List.getElem?_cons_zero, List.getElem?_cons_succ] at z2 z3
        have HF2 := Lib.hid (pc_rappend hpl7 (sim_fit HSIM.out ((HBUD.out.fit (by omega) hub).less (k := 1) (by decide))) (n := x.name) HBT.out hs2)
        clear hpl7 hk7 HF z0
        go_wp2_with fail
        refine HF2.out.mono ?_
        rintro e w8 ⟨E8, rfl, hpl8, -⟩
        have HPL8 := Lib.hid hpl8
        clear hpl8 HF2
        go_wp2
        go_roundg gf
        case measure => omega
        case rel => exact ⟨i + 1, _, _, _, _, rfl, rfl, by go_num, by omega, HPL8.out, (sim_append HSIM.out x.name x.b).2, by rw [HBS.out]; exact HBUD.out.next (cst_append HBUD.out.l0 x.name x.b) (by decide) (by decide) (by omega)⟩
      have hb8 : (x.kind % 10 == 8) = false := by simpa using h8
      by_cases h9 : x.kind % 10 = 9
      · as_aux_lemma =>
        have hb9 : (x.kind % 10 == 9) = true := by simpa using h9
        clear h6 h7 h8 h9 z3 z5
        have HF := Lib.hid (pc_cut HPL6.out ((HBUD.out.fit (by omega) hub).less (by decide)) x.name x.n)
        go_wp2_with fail
        refine HF.out.mono ?_
        rintro e w7 ⟨E7, rfl, v7, hpl7, hk7⟩
        have z2 := (hk7 _ _ HKC6.out).cell 2; have z4 := (hk7 _ _ HKC6.out).cell 4
        simp only [List.getElem?_toArray, List.getElem?_cons_zero, List.getElem?_cons_succ] at z2 z4
        have HF2 := Lib.hid (pc_rcut hpl7 (sim_fit HSIM.out ((HBUD.out.fit (by omega) hub).less (k := 1) (by decide))) x.name x.n)
        clear hpl7 hk7 HF z0
        go_wp2_with fail
        refine HF2.out.mono ?_
        rintro e w8 ⟨E8, rfl, hpl8, -⟩
        have HPL8 := Lib.hid hpl8
        clear hpl8 HF2
        go_wp2
        go_roundg gf
        case measure => omega
        case rel => exact ⟨i + 1, _, _, _, _, rfl, rfl, by go_num, by omega, HPL8.out, (sim_cut HSIM.out x.name x.n).2, by rw [HBS.out]; exact HBUD.out.next (cst_step HBUD.out.l0 1 x.name x.name x.n false) (by decide) (by decide) (by omega)⟩
      have hb9 : (x.kind % 10 == 9) = false := by simpa using h9
      clear h6 h7 h8 h9
      rcases HPL6.out.sto with ⟨hE, rfl, rfl⟩ | ⟨rfl, gs, gr, rfl, rfl, hst, hrt⟩
      · have hEb : (E == 0) = false := by simpa using hE
        clear hE z2 z3 z4 z5
        go_wp2
        go_roundg gf
        case measure => omega
        case rel => exact ⟨i + 1, _, _, _, _, rfl, rfl, by go_num, by omega, HPL6.out, HSIM.out, HBUD.out.less (by omega) (by rw [HBS.out]; omega)⟩
      · clear hst hrt
        have hdo := cdoes_any HPL6.out HSIM.out (HBUD.out.big (by omega) hub) (by have := allC_few D; have := HBUD.out.f; omega) (fun t => HBUD.out.size HSIM.out (by omega) hub t) HT.out HV.out x hkb hs2 A1 A2 cc1 cc2 HBT.out
        have HDO := Lib.hid hdo; have HS9 := Lib.hid (sim_doesC HSIM.out x); have HB9 := Lib.hid (HBUD.out.does (by omega) x)
        clear hdo
        have z1 := HKC6.out.cell 1
        simp only [List.getElem?_toArray, List.getElem?_cons_zero, List.getElem?_cons_succ] at z1
        go_wp2_with fail
        refine HDO.out.mono ?_
        rintro e w9 ⟨rfl, v9, hpl9⟩
        have HPL9 := Lib.hid hpl9
        clear hpl9 HDO z0 z1 z2 z3 z4 z5
        go_wp2
        go_roundg gf
        case measure => omega
        case rel => exact ⟨i + 1, _, _, _, _, rfl, rfl, by go_num, by omega, HPL9.out, HS9.out, by rw [HBS.out]; exact HB9.out⟩
end Go.Proofs.YthmcimpdehgaoaaGreatDoor
