/- The law of whole plays: its walk. -/
import Derived.Test.YtlcgkcafelpglaaGreatDoorPk42
import Derived.Test.YtlcgkcafelpglaaGreatDoorPk37
import Derived.Deep.DeepCutAuto
namespace Go.Proofs.YtlcgkcafelpglaaGreatDoor
open Go.RowKit Go.Maps

theorem infoCall : (Tryz.prog.info? 42).map (·.size) = some 12 := by kernel_rfl
set_option maxHeartbeats 2000000 in
theorem run_neq_rf (m : ManM) (w : World) : (binOp .neq 46 (.agg #[.int .i64 m.n, .int .i64 m.epoch, .int .i64 m.step, .int .i64 m.sum, .int .i64 m.most, .bool m.done, .int .u32 m.job]) (.agg #[.int .i64 m.n, .int .i64 m.epoch, .int .i64 m.step, .int .i64 m.sum, .int .i64 m.most, .bool m.done, .int .u32 m.job])).run Tryz.prog w = .ok (.bool false) w := by
  rw [run_neq_struct, run_equalIn_agg _ _ _ _ _ rf_struct rf_plain]
  simp [go_sem]
theorem Tb.on4 {w W : World} (h : Tb w.heap.size w) (hb : Below w.heap.size w W) : Tb W.heap.size W := fun w2 h2 => h w2 (hb.trans (h2.mono hb.size))
theorem sim_new (q : Int) : Sim ⟨[], max 0 q, 0, -1, false⟩ ⟨[], [], max 0 q, 0, -1, false⟩ :=
  ⟨List.Pairwise.nil, (fun _ h => by cases h), rfl, rfl, rfl, rfl, rfl, rfl, by show (-1 : Int) ≤ -1; decide, (fun _ h => by cases h)⟩
theorem bud_new (q : Int) : Bud ⟨[], max 0 q, 0, -1, false⟩ 0 := ⟨by show (0 : Int) ≤ 0; decide, by show (0 : Int) ≤ _; decide, Nat.le_refl _, Nat.le_refl _, by show (-1 : Int) ≤ -1; decide, by show (-1 : Int) ≤ 8; decide⟩
theorem Bud.crash {D : DiskD} {i : Nat} (h : Bud D i) : Bud { D with off := true, left := -1 } i := ⟨h.s0, h.s1, h.f, h.u, by show (-1 : Int) ≤ -1; decide, by show (-1 : Int) ≤ 8; decide⟩
theorem Bud.same {D D' : DiskD} {i : Nat} (h : Bud D i) (c : Cst D D' 0 0 0) : Bud D' i :=
  ⟨by have := h.s0; have := c.s0; omega, by have := h.s1; have := c.s1; omega, by have := h.f; have := c.f; omega, by have := h.u; have := c.u; omega, c.l0, by have := h.l1; have := c.l1; omega⟩
theorem tmod9 (n : Int) : n.tmod 9 ≤ 8 := by have := Int.tmod_lt_of_pos n (show (0 : Int) < 9 by decide); omega
theorem tmod4 (n : Int) : n.tmod 4 ≤ 8 := by have := Int.tmod_lt_of_pos n (show (0 : Int) < 4 by decide); omega
theorem call7 {w : World} {g : Nat} {x : CallM} {A1 A2 : Option Addr} {cc1 cc2 : Nat} (h : Blk w g 42 #[.int .u8 x.kind, .int .i64 x.m.n, .int .i64 x.m.epoch, .int .i64 x.m.step, .int .i64 x.m.sum, .int .i64 x.m.most, .bool x.m.done, .int .u32 x.m.job, .string x.name, .slice A1 x.b.size cc1, .int .i64 x.n, .slice A2 x.keep.length cc2]) : w.cell? ⟨g, 1, none⟩ = some (.int .i64 x.m.n) ∧ w.cell? ⟨g, 2, none⟩ = some (.int .i64 x.m.epoch) ∧ w.cell? ⟨g, 3, none⟩ = some (.int .i64 x.m.step) ∧ w.cell? ⟨g, 4, none⟩ = some (.int .i64 x.m.sum) ∧ w.cell? ⟨g, 5, none⟩ = some (.int .i64 x.m.most) ∧ w.cell? ⟨g, 6, none⟩ = some (.bool x.m.done) ∧ w.cell? ⟨g, 7, none⟩ = some (.int .u32 x.m.job) :=
  ⟨h.cell 1, h.cell 2, h.cell 3, h.cell 4, h.cell 5, h.cell 6, h.cell 7⟩
/-- what a round leaves for the next -/
def Rnd (w wr : World) (p q : Nat) (i : Nat) (E : Int) (s7 s9 : Value) (v : Value) (D : DiskD) (R : RDisk) : Prop := PlS w wr p q v D R E s7 s9 ∧ Sim D R ∧ Bud D i
set_option maxRecDepth 100000 in
set_option maxHeartbeats 16000000 in
theorem plays_any (w0 : World) (quota : Int) (A : Option Addr) (c : Nat) (l : List CallM) (hA0 : CallsA w0 A l) (hT0 : Tb w0.heap.size w0) :
    Calls Tryz.prog 3 #[.int .i64 quota, .slice A l.length c] w0 fun e w' => e = .returned (.bool true) ∧ Below w0.heap.size w0 w' := by
  have HL := Lib.hid (large_any w0 A c l hA0)
  have HA0 := Lib.hid hA0; have HT0 := Lib.hid hT0
  clear hA0 hT0
  go_enter Tryz.func3, Tryz.ntmps3
  go_wp2_with fail
  refine HL.out.mono ?_
  intro e w hP
  obtain ⟨b, rfl, hb0, hsm⟩ := hP
  have hwk : ∀ W, Below w.heap.size w W → Calls Tryz.prog 6 #[] W fun e w' => e = .returned (.bool true) ∧ Below W.heap.size W w' := fun W hW => works_any W (HT0.out.on4 (hb0.trans (hW.mono hb0.size)))
  have hT : Tb w.heap.size w := HT0.out.on4 hb0
  have HWK := Lib.hid hwk; have HB0 := Lib.hid hb0; have HA := Lib.hid (HA0.out.below hb0); have HT := Lib.hid hT
  clear hwk hb0 hT HL HA0 HT0
  cases b with
  | true =>
    clear hsm
    go_wp2_with fail
    refine (HWK.out _ (Below.refl _ _)).mono ?_
    rintro e w5 ⟨rfl, hb5⟩
    have HB5 := Lib.hid (HB0.out.trans (hb5.mono HB0.out.size))
    clear hb5
    go_wp2
    go_ret
    exact ⟨rfl, HB5.out⟩
  | false =>
  obtain ⟨hl60, hsz⟩ := hsm rfl
  have HSZ := Lib.hid hsz
  clear hsm hsz
  go_wp2_with fail
  refine (new_any quota _).mono ?_
  rintro e w1 ⟨rfl, hd1, hb1⟩
  have HD1 := Lib.hid hd1; have HB1 := Lib.hid hb1
  clear hd1 hb1
  go_wp2_with fail
  refine (rnew_any _ quota).mono ?_
  rintro e w2 ⟨rfl, hr2, hb2⟩
  have hpl2 : PlS w w2 w.heap.size w1.heap.size (.slice none 0 0) ⟨[], max 0 quota, 0, -1, false⟩ ⟨[], [], max 0 quota, 0, -1, false⟩ 1 (.pointer none) (.pointer none) :=
    ⟨HD1.out.below hb2 (Nat.le_refl _), ⟨Nat.le_trans HB1.out.size hr2.1, hr2.2⟩, HB1.out.trans (hb2.mono HB1.out.size), .inl ⟨by decide, rfl, rfl⟩⟩
  have H2 := Lib.hid (show Rnd w w2 w.heap.size w1.heap.size 0 1 (.pointer none) (.pointer none) (.slice none 0 0) ⟨[], max 0 quota, 0, -1, false⟩ ⟨[], [], max 0 quota, 0, -1, false⟩ from ⟨hpl2, sim_new quota, bud_new quota⟩)
  obtain ⟨p, hp⟩ : ∃ p, w.heap.size = p := ⟨_, rfl⟩
  obtain ⟨q, hq⟩ : ∃ q, w1.heap.size = q := ⟨_, rfl⟩
  have H2 := H2.out
  rw [hp, hq] at H2
  rw [hp, hq]
  have H2 := Lib.hid H2
  clear hpl2 hr2 hb2 HD1 HB1 hp hq
  have HPO := Lib.hid (pl_open H2.out.1 ((H2.out.2.2.fit (by decide)).less (by have := H2.out.2.2.f; omega)) HT.out)
  go_wp2_with fail
  refine HPO.out.mono ?_
  rintro e w3 ⟨s7', rfl, ⟨v3, hz3⟩, hh3, -⟩
  have hpr := pl_ropen hz3 hh3 H2.out.2.1 ((H2.out.2.2.fit (by decide)).less (by have := H2.out.2.2.f; omega))
  have HPR := Lib.hid hpr; have HSO := Lib.hid (sim_open H2.out.2.1).2; have HBO := Lib.hid (H2.out.2.2.next (cst_open H2.out.2.2.l0) (by have := H2.out.2.2.f; omega) (by decide) (by decide))
  clear hz3 hh3 hpr HPO
  go_wp2_with fail
  refine HPR.out.mono ?_
  rintro e w4 ⟨s9', rfl, hpl4, -⟩
  have HPL4 := Lib.hid hpl4
  clear hpl4 HPR H2
  go_wp2
  go_loopg [7, 8, 9, 10, 11] l.length (fun gf v7 v8 v9 v10 v11 wr => ∃ (i : Nat) (v : Value) (D : DiskD) (R : RDisk) (E : Int), v8 = .int .i64 E ∧ v10 = .int .i64 E ∧ v11 = .int .i64 i ∧ i + gf = l.length ∧ PlS w wr p q v D R E v7 v9 ∧ Sim D R ∧ Bud D (i + 1))
  case atStart => exact ⟨0, _, _, _, _, rfl, rfl, rfl, by omega, HPL4.out, HSO.out, HBO.out⟩
  case round =>
    clear HPL4 HSO HBO
    obtain ⟨i, v, D, R, E, rfl, rfl, rfl, hi, hpl, hsim, hbud⟩ := hrel
    cases gk with
    | zero =>
      obtain rfl : i = l.length := by omega
      have HLI := Lib.hid (lies_any wr _ p q v D R hpl.is hpl.rk hsim ((hbud.fit (by omega)).less (by decide)))
      have HB := Lib.hid hpl.below
      clear hpl hsim hbud hi
      go_wp2_with fail
      refine HLI.out.mono ?_
      rintro e w5 ⟨rfl, hb5⟩
      have HB5 := Lib.hid (HB.out.trans (hb5.mono HB.out.size))
      clear hb5 HLI
      go_wp2_with fail
      refine (HWK.out _ HB5.out).mono ?_
      rintro e w6 ⟨rfl, hb6⟩
      have HB6 := Lib.hid (HB0.out.trans ((HB5.out.trans (hb6.mono HB5.out.size)).mono HB0.out.size))
      clear hb6
      go_wp2
      go_ret
      exact ⟨rfl, HB6.out⟩
    | succ gf =>
      obtain ⟨x, hx⟩ : ∃ x, l[i]? = some x := ⟨_, List.getElem?_eq_getElem (by omega)⟩
      obtain ⟨bb, oo, rfl, hlt, hcl⟩ := HA.out (by omega)
      have hcx := hcl i x hx
      have hsx := HSZ.out x (List.mem_of_getElem? hx)
      obtain ⟨hs1, hs2, hs3⟩ := hsx
      obtain ⟨A1, cc1, hb1, hbt⟩ := hcx.bs
      obtain ⟨A2, cc2, hk1, hrd⟩ := hcx.keep
      have hiI : (i : Int) < (l.length : Int) := by omega
      have tr := fun j => hpl.below.cell (p := ⟨bb, j, none⟩) hlt
      have x0 : wr.cell? ⟨bb, oo + i * 12, none⟩ = some (.int .u8 x.kind) := (tr _).trans hcx.k
      have x1 : wr.cell? ⟨bb, oo + i * 12 + 1, none⟩ = some (.int .i64 x.m.n) := (tr _).trans (hcx.m 0 (by decide))
      have x2 : wr.cell? ⟨bb, oo + i * 12 + 2, none⟩ = some (.int .i64 x.m.epoch) := (tr _).trans (hcx.m 1 (by decide))
      have x3 : wr.cell? ⟨bb, oo + i * 12 + 3, none⟩ = some (.int .i64 x.m.step) := (tr _).trans (hcx.m 2 (by decide))
      have x4 : wr.cell? ⟨bb, oo + i * 12 + 4, none⟩ = some (.int .i64 x.m.sum) := (tr _).trans (hcx.m 3 (by decide))
      have x5 : wr.cell? ⟨bb, oo + i * 12 + 5, none⟩ = some (.int .i64 x.m.most) := (tr _).trans (hcx.m 4 (by decide))
      have x6 : wr.cell? ⟨bb, oo + i * 12 + 6, none⟩ = some (.bool x.m.done) := (tr _).trans (hcx.m 5 (by decide))
      have x7 : wr.cell? ⟨bb, oo + i * 12 + 7, none⟩ = some (.int .u32 x.m.job) := (tr _).trans (hcx.m 6 (by decide))
      have x8 : wr.cell? ⟨bb, oo + i * 12 + 8, none⟩ = some (.string x.name) := (tr _).trans hcx.name
      have x9 : wr.cell? ⟨bb, oo + i * 12 + 9, none⟩ = some (.slice A1 x.b.size cc1) := (tr _).trans hb1
      have x10 : wr.cell? ⟨bb, oo + i * 12 + 10, none⟩ = some (.int .i64 x.n) := (tr _).trans hcx.n
      have x11 : wr.cell? ⟨bb, oo + i * 12 + 11, none⟩ = some (.slice A2 x.keep.length cc2) := (tr _).trans hk1
      have hkb := hcx.kb; have hnb := hcx.nb
      have HMO := Lib.hid hcx.ok; have HBT := Lib.hid hbt; have HRD := Lib.hid hrd
      have hkz := Blk.new wr 42 #[.int .u8 0, .int .i64 0, .int .i64 0, .int .i64 0, .int .i64 0, .int .i64 0, .bool false, .int .u32 0, .string ⟨#[]⟩, .slice none 0 0, .int .i64 0, .slice none 0 0]
      have hkc := hkz.setRow #[.int .u8 x.kind, .int .i64 x.m.n, .int .i64 x.m.epoch, .int .i64 x.m.step, .int .i64 x.m.sum, .int .i64 x.m.most, .bool x.m.done, .int .u32 x.m.job, .string x.name, .slice A1 x.b.size cc1, .int .i64 x.n, .slice A2 x.keep.length cc2]
      have hone : (#[.int .u8 x.kind, .int .i64 x.m.n, .int .i64 x.m.epoch, .int .i64 x.m.step, .int .i64 x.m.sum, .int .i64 x.m.most, .bool x.m.done, .int .u32 x.m.job, .string x.name, .slice A1 x.b.size cc1, .int .i64 x.n, .slice A2 x.keep.length cc2] : Array Value).all (·.oneCell') = true := by simp [Value.oneCell']
      have hbc := below_row ((Below.refl wr.heap.size wr).alloc (Nat.le_refl _) (.cells #[.int .u8 0, .int .i64 0, .int .i64 0, .int .i64 0, .int .i64 0, .int .i64 0, .bool false, .int .u32 0, .string ⟨#[]⟩, .slice none 0 0, .int .i64 0, .slice none 0 0] 42)) (Nat.le_refl _) #[.int .u8 x.kind, .int .i64 x.m.n, .int .i64 x.m.epoch, .int .i64 x.m.step, .int .i64 x.m.sum, .int .i64 x.m.most, .bool x.m.done, .int .u32 x.m.job, .string x.name, .slice A1 x.b.size cc1, .int .i64 x.n, .slice A2 x.keep.length cc2]
      have hpl4 := hpl.below_ hbc
      have HKZ := Lib.hid hkz; have HKC := Lib.hid hkc; have HONE := Lib.hid hone; have HPL := Lib.hid hpl4; have HSIM := Lib.hid hsim; have HBUD := Lib.hid hbud
      clear hx hcl hcx hb1 hk1 hbt hrd tr hkz hkc hone hbc hpl hpl4 hsim hbud
      go_upto_region 10 with (first | (refine wpList_store_row rfl 42 (.tmp 12) (.tmp 41) rfl wr.heap.size #[.int .u8 x.kind, .int .i64 x.m.n, .int .i64 x.m.epoch, .int .i64 x.m.step, .int .i64 x.m.sum, .int .i64 x.m.most, .bool x.m.done, .int .u32 x.m.job, .string x.name, .slice A1 x.b.size cc1, .int .i64 x.n, .slice A2 x.keep.length cc2] rfl rfl 42 _ HKZ.out infoCall rfl HONE.out ?_))
      clear x0 x1 x2 x3 x4 x5 x6 x7 x8 x9 x10 x11 HKZ HONE
      obtain ⟨w4, hw4⟩ : ∃ w4, (wr.alloc (.cells #[.int .u8 0, .int .i64 0, .int .i64 0, .int .i64 0, .int .i64 0, .int .i64 0, .bool false, .int .u32 0, .string ⟨#[]⟩, .slice none 0 0, .int .i64 0, .slice none 0 0] 42)).setRow wr.heap.size #[.int .u8 x.kind, .int .i64 x.m.n, .int .i64 x.m.epoch, .int .i64 x.m.step, .int .i64 x.m.sum, .int .i64 x.m.most, .bool x.m.done, .int .u32 x.m.job, .string x.name, .slice A1 x.b.size cc1, .int .i64 x.n, .slice A2 x.keep.length cc2] = w4 := ⟨_, rfl⟩
      obtain ⟨g, hg⟩ : ∃ g, wr.heap.size = g := ⟨_, rfl⟩
      rw [hw4] at HKC HPL ⊢
      rw [hg] at HKC ⊢
      clear hw4 hg
      dsimp only [Act.put]
      go_cut [57] (fun s57 wx => s57 = .bool false ∧ Below w4.heap.size w4 wx)
      case first =>
        have HLI := Lib.hid (lies_any w4 _ p q v D R HPL.out.is HPL.out.rk HSIM.out ((HBUD.out.fit (by omega)).less (by decide)))
        rcases HPL.out.sto with ⟨hE, rfl, rfl⟩ | ⟨rfl, gs, gr, S, rfl, rfl, -⟩
        · have hEb : (E == 0) = false := by simpa using hE
          clear hE
          go_wp2_with fail
          refine HLI.out.mono ?_
          rintro e w5 ⟨rfl, hb5⟩
          have HB5 := Lib.hid hb5
          clear hb5 HLI
          go_wp2
          go_meet
          exact ⟨rfl, HB5.out⟩
        · go_wp2_with fail
          refine HLI.out.mono ?_
          rintro e w5 ⟨rfl, hb5⟩
          have HB5 := Lib.hid hb5
          clear hb5 HLI
          go_wp2
          go_meet
          exact ⟨rfl, HB5.out⟩
      case rest =>
      as_aux_lemma =>
      obtain ⟨rfl, hbx⟩ := hcut
      obtain ⟨w5, hw5⟩ : ∃ w5, w5 = wc := ⟨_, rfl⟩
      subst hw5
      have HPL5 := Lib.hid (HPL.out.below_ hbx); have HKC5 := Lib.hid (HKC.out.below hbx HKC.out.lt)
      clear hbx HPL HKC
      go_upto_if 59 with (fail)
      go_cut [59] (fun _s59 wx => Below w5.heap.size w5 wx)
      case first =>
        rcases HPL5.out.sto with ⟨hE, rfl, rfl⟩ | ⟨rfl, gs, gr, S, rfl, rfl, hst, hrt, -⟩
        · have hEb : (E == 0) = false := by simpa using hE
          clear hE
          go_wp2
          go_meet
          exact Below.refl _ _
        · have HN := Lib.hid (newest_any w5 gs p S hst); have HRT := Lib.hid hrt
          clear hst hrt
          go_wp2_with fail
          refine HN.out.mono ?_
          rintro e w6 ⟨rfl, hb6⟩
          have h8 : mCells S.m = #[.int .i64 S.m.n, .int .i64 S.m.epoch, .int .i64 S.m.step, .int .i64 S.m.sum, .int .i64 S.m.most, .bool S.m.done, .int .u32 S.m.job] := rfl
          have hk6 := Blk.new w6 38 #[.int .i64 0, .int .i64 0, .int .i64 0, .int .i64 0, .int .i64 0, .bool false, .int .u32 0]
          have hk7 := hk6.setRow #[.int .i64 S.m.n, .int .i64 S.m.epoch, .int .i64 S.m.step, .int .i64 S.m.sum, .int .i64 S.m.most, .bool S.m.done, .int .u32 S.m.job]
          have hone := mCells_oneA S.m
          have hb67 := below_row ((Below.refl w6.heap.size w6).alloc (Nat.le_refl _) (.cells #[.int .i64 0, .int .i64 0, .int .i64 0, .int .i64 0, .int .i64 0, .bool false, .int .u32 0] 38)) (Nat.le_refl _) #[.int .i64 S.m.n, .int .i64 S.m.epoch, .int .i64 S.m.step, .int .i64 S.m.sum, .int .i64 S.m.most, .bool S.m.done, .int .u32 S.m.job]
          have hb57 := hb6.trans (hb67.mono hb6.size)
          have hpn := fun W => plain_any S.m W
          have hnq := run_neq_rf S.m
          rw [h8] at hone hpn
          have HK6 := Lib.hid hk6; have HK7 := Lib.hid hk7; have HONE := Lib.hid hone; have HB57 := Lib.hid hb57; have HPN := Lib.hid hpn; have HNQ := Lib.hid hnq
          rw [h8]
          clear hk6 hk7 hone hb67 hb57 hb6 HN hpn h8 hnq
          go_upto_region 14 with (first | (refine wpList_store_row rfl 38 (.tmp 13) (.tmp 63) rfl w6.heap.size #[.int .i64 S.m.n, .int .i64 S.m.epoch, .int .i64 S.m.step, .int .i64 S.m.sum, .int .i64 S.m.most, .bool S.m.done, .int .u32 S.m.job] rfl rfl 38 _ HK6.out infoMf rfl HONE.out ?_))
          obtain ⟨w7, hw7⟩ : ∃ w7, (w6.alloc (.cells #[.int .i64 0, .int .i64 0, .int .i64 0, .int .i64 0, .int .i64 0, .bool false, .int .u32 0] 38)).setRow w6.heap.size #[.int .i64 S.m.n, .int .i64 S.m.epoch, .int .i64 S.m.step, .int .i64 S.m.sum, .int .i64 S.m.most, .bool S.m.done, .int .u32 S.m.job] = w7 := ⟨_, rfl⟩
          rw [hw7] at HK7 HB57 ⊢
          have hcl : ∀ wx, Below w7.heap.size w7 wx → wx.cell? ⟨w6.heap.size, 0, none⟩ = some (.int .i64 S.m.n) ∧ wx.cell? ⟨w6.heap.size, 1, none⟩ = some (.int .i64 S.m.epoch) ∧ wx.cell? ⟨w6.heap.size, 2, none⟩ = some (.int .i64 S.m.step) ∧ wx.cell? ⟨w6.heap.size, 3, none⟩ = some (.int .i64 S.m.sum) ∧ wx.cell? ⟨w6.heap.size, 4, none⟩ = some (.int .i64 S.m.most) ∧ wx.cell? ⟨w6.heap.size, 5, none⟩ = some (.bool S.m.done) ∧ wx.cell? ⟨w6.heap.size, 6, none⟩ = some (.int .u32 S.m.job) ∧ wx.cell? ⟨gr, 1, none⟩ = some (.int .i64 S.m.n) ∧ wx.cell? ⟨gr, 2, none⟩ = some (.int .i64 S.m.epoch) ∧ wx.cell? ⟨gr, 3, none⟩ = some (.int .i64 S.m.step) ∧ wx.cell? ⟨gr, 4, none⟩ = some (.int .i64 S.m.sum) ∧ wx.cell? ⟨gr, 5, none⟩ = some (.int .i64 S.m.most) ∧ wx.cell? ⟨gr, 6, none⟩ = some (.bool S.m.done) ∧ wx.cell? ⟨gr, 7, none⟩ = some (.int .u32 S.m.job) ∧ wx.cell? ⟨gr, 8, none⟩ = some (.bool S.some) := fun wx hx => by
            have k1 := HK7.out.below hx HK7.out.lt
            have k2 := HRT.out.below (HB57.out.trans (hx.mono HB57.out.size)) (Blk.lt HRT.out)
            exact ⟨k1.cell 0, k1.cell 1, k1.cell 2, k1.cell 3, k1.cell 4, k1.cell 5, k1.cell 6, Blk.cell k2 1, Blk.cell k2 2, Blk.cell k2 3, Blk.cell k2 4, Blk.cell k2 5, Blk.cell k2 6, Blk.cell k2 7, Blk.cell k2 8⟩
          have HCL := Lib.hid hcl
          clear hcl hw7 HK6 HONE
          have hnq := HNQ.out
          go_cut [79] (fun s79 wx => s79 = .bool false ∧ Below w7.heap.size w7 wx)
          case first =>
            refine wp_region_noPanic ?_
            refine wp_region_held_drew (S := (fun wx => wx.cell? ⟨w6.heap.size, 0, none⟩ = some (.int .i64 S.m.n) ∧ wx.cell? ⟨w6.heap.size, 1, none⟩ = some (.int .i64 S.m.epoch) ∧ wx.cell? ⟨w6.heap.size, 2, none⟩ = some (.int .i64 S.m.step) ∧ wx.cell? ⟨w6.heap.size, 3, none⟩ = some (.int .i64 S.m.sum) ∧ wx.cell? ⟨w6.heap.size, 4, none⟩ = some (.int .i64 S.m.most) ∧ wx.cell? ⟨w6.heap.size, 5, none⟩ = some (.bool S.m.done) ∧ wx.cell? ⟨w6.heap.size, 6, none⟩ = some (.int .u32 S.m.job) ∧ wx.cell? ⟨gr, 1, none⟩ = some (.int .i64 S.m.n) ∧ wx.cell? ⟨gr, 2, none⟩ = some (.int .i64 S.m.epoch) ∧ wx.cell? ⟨gr, 3, none⟩ = some (.int .i64 S.m.step) ∧ wx.cell? ⟨gr, 4, none⟩ = some (.int .i64 S.m.sum) ∧ wx.cell? ⟨gr, 5, none⟩ = some (.int .i64 S.m.most) ∧ wx.cell? ⟨gr, 6, none⟩ = some (.bool S.m.done) ∧ wx.cell? ⟨gr, 7, none⟩ = some (.int .u32 S.m.job) ∧ wx.cell? ⟨gr, 8, none⟩ = some (.bool S.some))) (by kernel_rfl) ?_ (fun hHeld => ?_)
            · exact HCL.out _ (below_drewN (Below.refl _ _) 1)
            refine wpT (i := 0) (v := ?v0g1_) rfl (Or.inl ⟨by rfl, ?y0g1_⟩) (by assumption) ?r0g1_
            case y0g1_ => (intro w hSw; (try dsimp only at hSw); go_simp; try with_reducible rfl)
            change wpAnyH _ _ _ _ _ _ _ (Act.put _ (some 65) _) _; simp only [Act.put, List.setIfInBounds_toArray, List.set_cons_zero, List.set_cons_succ]
            refine wpT (i := 2) (v := ?v2g1_) rfl (Or.inl ⟨by rfl, ?y2g1_⟩) (by assumption) ?r2g1_
            case y2g1_ => (intro w hSw; (try dsimp only at hSw); go_simp; try with_reducible rfl)
            change wpAnyH _ _ _ _ _ _ _ (Act.put _ (some 67) _) _; simp only [Act.put, List.setIfInBounds_toArray, List.set_cons_zero, List.set_cons_succ]
            refine wpT (i := 3) (v := ?v3g1_) rfl (Or.inl ⟨by rfl, ?y3g1_⟩) (by assumption) ?r3g1_
            case y3g1_ => (intro w hSw; (try dsimp only at hSw); go_simp; try with_reducible rfl)
            change wpAnyH _ _ _ _ _ _ _ (Act.put _ (some 68) _) _; simp only [Act.put, List.setIfInBounds_toArray, List.set_cons_zero, List.set_cons_succ]
            refine wpT (i := 4) (v := ?v4g1_) rfl (Or.inl ⟨by rfl, ?y4g1_⟩) (by assumption) ?r4g1_
            case y4g1_ => (intro w hSw; (try dsimp only at hSw); go_simp; try with_reducible rfl)
            change wpAnyH _ _ _ _ _ _ _ (Act.put _ (some 69) _) _; simp only [Act.put, List.setIfInBounds_toArray, List.set_cons_zero, List.set_cons_succ]
            refine wpT (i := 5) (v := ?v5g1_) rfl (Or.inl ⟨by rfl, ?y5g1_⟩) (by assumption) ?r5g1_
            case y5g1_ => (intro w hSw; (try dsimp only at hSw); go_simp; try with_reducible rfl)
            change wpAnyH _ _ _ _ _ _ _ (Act.put _ (some 70) _) _; simp only [Act.put, List.setIfInBounds_toArray, List.set_cons_zero, List.set_cons_succ]
            refine wpAnyH_ready (rs := [1]) (by kernel_rfl) (by simp) ?_
            refine AllReadyH.cons rfl (fun K hK => ?_) AllReadyH.nil
            go_simp
            refine (HPN.out _).mono ?_
            rintro e w8 ⟨rfl, hb8⟩
            have HB8 := Lib.hid (show Below w7.heap.size w7 w8 from undrew hb8)
            clear hb8
            dsimp only
            refine hK.out _ _ ?_ (fun hHeld => ?_)
            · exact HCL.out _ HB8.out
            clear hK K
            try simp only [Act.put, List.setIfInBounds_toArray, List.set_cons_zero, List.set_cons_succ]
            refine wpT (i := 6) (v := ?v6g1_) rfl (Or.inl ⟨by rfl, ?y6g1_⟩) (by assumption) ?r6g1_
            case y6g1_ => (intro w hSw; (try dsimp only at hSw); go_simp; try with_reducible rfl)
            change wpAnyH _ _ _ _ _ _ _ (Act.put _ (some 71) _) _; simp only [Act.put, List.setIfInBounds_toArray, List.set_cons_zero, List.set_cons_succ]
            refine wpT (i := 7) (v := ?v7g1_) rfl (Or.inl ⟨by rfl, ?y7g1_⟩) (by assumption) ?r7g1_
            case y7g1_ => (intro w hSw; (try dsimp only at hSw); go_simp; try with_reducible rfl)
            change wpAnyH _ _ _ _ _ _ _ (Act.put _ (some 72) _) _; simp only [Act.put, List.setIfInBounds_toArray, List.set_cons_zero, List.set_cons_succ]
            refine wpT (i := 8) (v := ?v8g1_) rfl (Or.inl ⟨by rfl, ?y8g1_⟩) (by assumption) ?r8g1_
            case y8g1_ => (intro w hSw; (try dsimp only at hSw); go_simp; try with_reducible rfl)
            change wpAnyH _ _ _ _ _ _ _ (Act.put _ (some 73) _) _; simp only [Act.put, List.setIfInBounds_toArray, List.set_cons_zero, List.set_cons_succ]
            refine wpT (i := 9) (v := ?v9g1_) rfl (Or.inl ⟨by rfl, ?y9g1_⟩) (by assumption) ?r9g1_
            case y9g1_ => (intro w hSw; (try dsimp only at hSw); go_simp; try with_reducible rfl)
            change wpAnyH _ _ _ _ _ _ _ (Act.put _ (some 74) _) _; simp only [Act.put, List.setIfInBounds_toArray, List.set_cons_zero, List.set_cons_succ]
            refine wpT (i := 10) (v := ?v10g1_) rfl (Or.inl ⟨by rfl, ?y10g1_⟩) (by assumption) ?r10g1_
            case y10g1_ => (intro w hSw; (try dsimp only at hSw); go_simp; try with_reducible rfl)
            change wpAnyH _ _ _ _ _ _ _ (Act.put _ (some 75) _) _; simp only [Act.put, List.setIfInBounds_toArray, List.set_cons_zero, List.set_cons_succ]
            refine wpT (i := 11) (v := ?v11g1_) rfl (Or.inl ⟨by rfl, ?y11g1_⟩) (by assumption) ?r11g1_
            case y11g1_ => (intro w hSw; (try dsimp only at hSw); go_simp; try with_reducible rfl)
            change wpAnyH _ _ _ _ _ _ _ (Act.put _ (some 76) _) _; simp only [Act.put, List.setIfInBounds_toArray, List.set_cons_zero, List.set_cons_succ]
            refine wpT (i := 12) (v := ?v12g1_) rfl (Or.inl ⟨by rfl, ?y12g1_⟩) (by assumption) ?r12g1_
            case y12g1_ => (intro w hSw; (try dsimp only at hSw); go_simp; try with_reducible rfl)
            change wpAnyH _ _ _ _ _ _ _ (Act.put _ (some 77) _) _; simp only [Act.put, List.setIfInBounds_toArray, List.set_cons_zero, List.set_cons_succ]
            refine wpT (i := 13) (v := ?v13g1_) rfl (Or.inl ⟨by rfl, ?y13g1_⟩) (by assumption) ?r13g1_
            case y13g1_ => (intro w hSw; (try dsimp only at hSw); go_simp; try with_reducible rfl)
            change wpAnyH _ _ _ _ _ _ _ (Act.put _ (some 78) _) _; simp only [Act.put, List.setIfInBounds_toArray, List.set_cons_zero, List.set_cons_succ]
            refine wpT (i := 14) (v := ?v14g1_) rfl (Or.inl ⟨by rfl, ?y14g1_⟩) (by assumption) ?r14g1_
            case y14g1_ => (intro w hSw; (try dsimp only at hSw); go_simp; try with_reducible rfl)
            change wpAnyH _ _ _ _ _ _ _ (Act.put _ (some 79) _) _; simp only [Act.put, List.setIfInBounds_toArray, List.set_cons_zero, List.set_cons_succ]
            refine wpAnyH_done (by kernel_rfl) ?_ _
            refine NoPanic.normal ?_
            go_wp2_with fail
            go_meet
            exact ⟨rfl, HB8.out⟩
          case rest =>
          obtain ⟨rfl, hbx⟩ := hcut
          have HBX := Lib.hid (HB57.out.trans (hbx.mono HB57.out.size))
          clear hbx hnq
          go_wp2
          go_meet
          exact HBX.out
      case rest =>
      as_aux_lemma =>
      have hbx := hcut
      clear hcut
      obtain ⟨w6, hw6⟩ : ∃ w6, w6 = wc := ⟨_, rfl⟩
      subst hw6
      have HPL6 := Lib.hid (HPL5.out.below_ hbx); have HKC6 := Lib.hid (HKC5.out.below hbx HKC5.out.lt)
      clear hbx HPL5 HKC5
      have z0 := HKC6.out.cell 0
      simp only [List.getElem?_toArray, List.getElem?_cons_zero] at z0
      have hfit : FitN D 1000 := HBUD.out.fit (by omega)
      have HFIT := Lib.hid hfit
      clear hfit
      by_cases h4 : x.kind % 8 = 4
      · have hb4 : (x.kind % 8 == 4) = true := by simpa using h4
        clear h4
        have z10 := HKC6.out.cell 10
        simp only [List.getElem?_toArray, List.getElem?_cons_zero, List.getElem?_cons_succ] at z10
        have HF := Lib.hid (fun z => pl_fail HPL6.out z)
        go_wp2_with fail
        refine (HF.out _).mono ?_
        rintro e w7 ⟨rfl, v7, hpl7, hk7⟩
        have z10 := (hk7 _ _ HKC6.out).cell 10
        simp only [List.getElem?_toArray, List.getElem?_cons_zero, List.getElem?_cons_succ] at z10
        have HF2 := Lib.hid (fun z => pl_rfail hpl7 z)
        clear hpl7 hk7 HF
        go_wp2_with fail
        refine (HF2.out _).mono ?_
        rintro e w8 ⟨rfl, hpl8, -⟩
        have HPL8 := Lib.hid hpl8
        clear hpl8 HF2
        go_wp2
        go_roundg gf
        case measure => omega
        case rel => exact ⟨i + 1, _, _, _, _, rfl, rfl, by go_num, by omega, HPL8.out, sim_fail HSIM.out _, (HBUD.out.left _ (tmod9 _) _).less (by omega)⟩
      have hb4 : (x.kind % 8 == 4) = false := by simpa using h4
      by_cases h7 : x.kind % 8 = 7
      · have hb7 : (x.kind % 8 == 7) = true := by simpa using h7
        clear h4 h7
        have z8 := HKC6.out.cell 8; have z9 := HKC6.out.cell 9
        simp only [List.getElem?_toArray, List.getElem?_cons_zero, List.getElem?_cons_succ] at z8 z9
        have HF := Lib.hid (pl_append HPL6.out (HFIT.out.less (by decide)) (t := x.name) HBT.out hs2)
        go_wp2_with fail
        refine HF.out.mono ?_
        rintro e w7 ⟨E7, rfl, v7, hpl7, hk7⟩
        have z8 := (hk7 _ _ HKC6.out).cell 8; have z9 := (hk7 _ _ HKC6.out).cell 9
        simp only [List.getElem?_toArray, List.getElem?_cons_zero, List.getElem?_cons_succ] at z8 z9
        have HF2 := Lib.hid (pl_rappend hpl7 (sim_fit HSIM.out HFIT.out) (t := x.name) HBT.out hs2)
        clear hpl7 hk7 HF
        go_wp2_with fail
        refine HF2.out.mono ?_
        rintro e w8 ⟨E8, rfl, hpl8, -⟩
        have HPL8 := Lib.hid hpl8
        clear hpl8 HF2
        go_wp2
        go_roundg gf
        case measure => omega
        case rel => exact ⟨i + 1, _, _, _, _, rfl, rfl, by go_num, by omega, HPL8.out, (sim_append HSIM.out x.name x.b).2, HBUD.out.next (cst_append HBUD.out.l0 x.name x.b) (by decide) (by decide) (by omega)⟩
      have hb7 : (x.kind % 8 == 7) = false := by simpa using h7
      by_cases h5 : x.kind % 8 = 5
      · have hb5 : (x.kind % 8 == 5) = true := by simpa using h5
        clear h4 h7 h5
        have HF := Lib.hid (pl_crash HPL6.out)
        go_wp2_with fail
        refine HF.out.mono ?_
        rintro e w7 ⟨rfl, v7, hpl7, hk7⟩
        have HK7 := Lib.hid (hk7 _ _ HKC6.out)
        have HF2 := Lib.hid (pl_rcrash hpl7)
        clear hpl7 hk7 HF
        go_wp2_with fail
        refine HF2.out.mono ?_
        rintro e w8 ⟨rfl, hpl8, hk8⟩
        have HK8 := Lib.hid (hk8 _ _ HK7.out)
        have z11 := HK8.out.cell 11
        simp only [List.getElem?_toArray, List.getElem?_cons_zero, List.getElem?_cons_succ] at z11
        have hs1 := sim_crash HSIM.out
        have hbd1 := HBUD.out.crash
        have hf1 := hbd1.fit (by omega)
        have HF3 := Lib.hid (pl_on (c := cc2) hpl8 hs1 (hf1.less (by decide)) HRD.out hs3)
        have HS1 := Lib.hid hs1; have HBD1 := Lib.hid hbd1; have HF1 := Lib.hid hf1
        clear hpl8 hk8 HF2 HK7 hs1 hbd1 hf1
        go_wp2_with fail
        refine HF3.out.mono ?_
        rintro e w9 ⟨rfl, v9, hpl9, hk9⟩
        have HK9 := Lib.hid (hk9 _ _ HK8.out)
        have z11 := HK9.out.cell 11
        simp only [List.getElem?_toArray, List.getElem?_cons_zero, List.getElem?_cons_succ] at z11
        have HF4 := Lib.hid (pl_ron (c := cc2) hpl9 (sim_safeR HS1.out) (sim_fit HS1.out HF1.out) HRD.out hs3)
        clear hpl9 hk9 HF3 HK8
        go_wp2_with fail
        refine HF4.out.mono ?_
        rintro e w10 ⟨rfl, hpl10, hk10⟩
        have HK10 := Lib.hid (hk10 _ _ HK9.out)
        have z6 := HK10.out.cell 6
        simp only [List.getElem?_toArray, List.getElem?_cons_zero, List.getElem?_cons_succ] at z6
        obtain ⟨D2, hD2⟩ : ∃ D2, ({ D with off := true, left := -1 } : DiskD).on x.keep = D2 := ⟨_, rfl⟩
        obtain ⟨R2, hR2⟩ : ∃ R2, ({ R with gone := true, left := -1 } : RDisk).on x.keep = R2 := ⟨_, rfl⟩
        have hs2 := sim_on HS1.out x.keep
        have hbd2 := HBD1.out.same (cst_on x.keep)
        rw [hD2, hR2] at hpl10 hs2
        rw [hD2] at hbd2
        have HR10 := Lib.hid (show Rnd w w10 p q (i + 1) E u7 u9 v9 D2 R2 from ⟨hpl10, hs2, hbd2⟩)
        clear hpl10 hk10 HF4 HK9 hD2 hR2 hs2 hbd2 HS1 HBD1 HF1
        cases hdn : x.m.done with
        | false =>
          rw [hdn] at z6
          clear hdn
          have HPO := Lib.hid (pl_open HR10.out.1 ((HR10.out.2.2.fit (by omega)).less (by have := HR10.out.2.2.f; omega)) HT.out)
          go_wp2_with fail
          refine HPO.out.mono ?_
          rintro e w20 ⟨s7', rfl, ⟨v20, hz20⟩, hh20, -⟩
          have hpr := pl_ropen hz20 hh20 HR10.out.2.1 ((HR10.out.2.2.fit (by omega)).less (by have := HR10.out.2.2.f; omega))
          have HPR := Lib.hid hpr; have HSO := Lib.hid (sim_open HR10.out.2.1).2; have HBO := Lib.hid (HR10.out.2.2.next (cst_open HR10.out.2.2.l0) (by have := HR10.out.2.2.f; omega) (by decide) (by decide))
          clear hz20 hh20 hpr HPO
          go_wp2_with fail
          refine HPR.out.mono ?_
          rintro e w21 ⟨s9', rfl, hpl21, -⟩
          have HPL21 := Lib.hid hpl21
          clear hpl21 HPR
          go_wp2
          go_roundg gf
          case measure => omega
          case rel => exact ⟨i + 1, _, _, _, _, rfl, rfl, by go_num, by omega, HPL21.out, HSO.out, HBO.out⟩
        | true =>
          rw [hdn] at z6 HK10
          clear hdn
          have z10 := HK10.out.cell 10
          simp only [List.getElem?_toArray, List.getElem?_cons_zero, List.getElem?_cons_succ] at z10
          have HF5 := Lib.hid (fun z => pl_fail HR10.out.1 z)
          go_wp2_with fail
          refine (HF5.out _).mono ?_
          rintro e w11 ⟨rfl, v11, hpl11, hk11⟩
          have z10 := (hk11 _ _ HK10.out).cell 10
          simp only [List.getElem?_toArray, List.getElem?_cons_zero, List.getElem?_cons_succ] at z10
          have HF6 := Lib.hid (fun z => pl_rfail hpl11 z)
          clear hpl11 hk11 HF5
          go_wp2_with fail
          refine (HF6.out _).mono ?_
          rintro e w12 ⟨rfl, hpl12, -⟩
          have hr12 : Rnd w w12 p q (i + 1) E u7 u9 v11 _ _ := ⟨hpl12, sim_fail HR10.out.2.1 _, HR10.out.2.2.left _ (tmod4 _) _⟩
          obtain ⟨D3, hD3⟩ : ∃ D3, ({ D2 with left := max (-1) (x.n.tmod 4) } : DiskD) = D3 := ⟨_, rfl⟩
          obtain ⟨R3, hR3⟩ : ∃ R3, ({ R2 with left := max (-1) (x.n.tmod 4) } : RDisk) = R3 := ⟨_, rfl⟩
          rw [hD3, hR3] at hr12
          have HR12 := Lib.hid hr12
          clear hpl12 HF6 hr12 hD3 hR3 z6 z10 HR10 HK10
          have HPO := Lib.hid (pl_open HR12.out.1 ((HR12.out.2.2.fit (by omega)).less (by have := HR12.out.2.2.f; omega)) HT.out)
          go_wp2_with fail
          refine HPO.out.mono ?_
          rintro e w20 ⟨s7', rfl, ⟨v20, hz20⟩, hh20, -⟩
          have hpr := pl_ropen hz20 hh20 HR12.out.2.1 ((HR12.out.2.2.fit (by omega)).less (by have := HR12.out.2.2.f; omega))
          have HPR := Lib.hid hpr; have HSO := Lib.hid (sim_open HR12.out.2.1).2; have HBO := Lib.hid (HR12.out.2.2.next (cst_open HR12.out.2.2.l0) (by have := HR12.out.2.2.f; omega) (by decide) (by decide))
          clear hz20 hh20 hpr HPO
          go_wp2_with fail
          refine HPR.out.mono ?_
          rintro e w21 ⟨s9', rfl, hpl21, -⟩
          have HPL21 := Lib.hid hpl21
          clear hpl21 HPR
          go_wp2
          go_roundg gf
          case measure => omega
          case rel => exact ⟨i + 1, _, _, _, _, rfl, rfl, by go_num, by omega, HPL21.out, HSO.out, HBO.out⟩
      have hb5 : (x.kind % 8 == 5) = false := by simpa using h5
      by_cases h6 : x.kind % 8 = 6
      · have hb6 : (x.kind % 8 == 6) = true := by simpa using h6
        clear h4 h7 h5 h6
        have HR6 := Lib.hid (show Rnd w w6 p q (i + 1) E u7 u9 v D R from ⟨HPL6.out, HSIM.out, HBUD.out⟩)
        have HPO := Lib.hid (pl_open HR6.out.1 ((HR6.out.2.2.fit (by omega)).less (by have := HR6.out.2.2.f; omega)) HT.out)
        go_wp2_with fail
        refine HPO.out.mono ?_
        rintro e w20 ⟨s7', rfl, ⟨v20, hz20⟩, hh20, -⟩
        have hpr := pl_ropen hz20 hh20 HR6.out.2.1 ((HR6.out.2.2.fit (by omega)).less (by have := HR6.out.2.2.f; omega))
        have HPR := Lib.hid hpr; have HSO := Lib.hid (sim_open HR6.out.2.1).2; have HBO := Lib.hid (HR6.out.2.2.next (cst_open HR6.out.2.2.l0) (by have := HR6.out.2.2.f; omega) (by decide) (by decide))
        clear hz20 hh20 hpr HPO
        go_wp2_with fail
        refine HPR.out.mono ?_
        rintro e w21 ⟨s9', rfl, hpl21, -⟩
        have HPL21 := Lib.hid hpl21
        clear hpl21 HPR
        go_wp2
        go_roundg gf
        case measure => omega
        case rel => exact ⟨i + 1, _, _, _, _, rfl, rfl, by go_num, by omega, HPL21.out, HSO.out, HBO.out⟩
      have hb6 : (x.kind % 8 == 6) = false := by simpa using h6
      clear h4 h7 h5 h6
      rcases HPL6.out.sto with ⟨hE, rfl, rfl⟩ | ⟨rfl, gs, gr, S, rfl, rfl, hst, hrt, hsok, hgs, hgr⟩
      · have hEb : (E == 0) = false := by simpa using hE
        clear hE
        go_upto_region 17 with (fail)
        go_cut [96] (fun s96 wx => s96 = .bool false ∧ Below w6.heap.size w6 wx)
        case first =>
          refine wp_region_noPanic ?_
          refine wp_region_held_drew (S := (fun _ => True)) (by kernel_rfl) ?_ (fun hHeld => ?_)
          · exact trivial
          refine wpT (i := 0) (v := ?v0g2_) rfl (Or.inl ⟨by rfl, ?y0g2_⟩) (by assumption) ?r0g2_
          case y0g2_ => (intro w hSw; (try dsimp only at hSw); go_simp; try with_reducible rfl)
          change wpAnyH _ _ _ _ _ _ _ (Act.put _ (some 83) _) _; simp only [Act.put, List.setIfInBounds_toArray, List.set_cons_zero, List.set_cons_succ]
          refine wpT (i := 1) (v := ?v1g2_) rfl (Or.inl ⟨by rfl, ?y1g2_⟩) (by assumption) ?r1g2_
          case y1g2_ => (intro w hSw; (try dsimp only at hSw); go_simp; try with_reducible rfl)
          change wpAnyH _ _ _ _ _ _ _ (Act.put _ (some 84) _) _; simp only [Act.put, List.setIfInBounds_toArray, List.set_cons_zero, List.set_cons_succ]
          refine wpT (i := 2) (v := ?v2g2_) rfl (Or.inl ⟨by rfl, ?y2g2_⟩) (by assumption) ?r2g2_
          case y2g2_ => (intro w hSw; (try dsimp only at hSw); go_simp; try with_reducible rfl)
          change wpAnyH _ _ _ _ _ _ _ (Act.put _ (some 85) _) _; simp only [Act.put, List.setIfInBounds_toArray, List.set_cons_zero, List.set_cons_succ]
          refine wpT (i := 3) (v := undef) rfl (Or.inr ⟨by rfl, rfl⟩) (by assumption) ?_
          change wpAnyH _ _ _ _ _ _ _ (Act.put _ (some 86) _) _; simp only [Act.put, List.setIfInBounds_toArray, List.set_cons_zero, List.set_cons_succ]
          refine wpT (i := 4) (v := undef) rfl (Or.inr ⟨by rfl, rfl⟩) (by assumption) ?_
          change wpAnyH _ _ _ _ _ _ _ (Act.put _ (some 87) _) _; simp only [Act.put, List.setIfInBounds_toArray, List.set_cons_zero, List.set_cons_succ]
          refine wpT (i := 5) (v := undef) rfl (Or.inr ⟨by rfl, rfl⟩) (by assumption) ?_
          change wpAnyH _ _ _ _ _ _ _ (Act.put _ (some 88) _) _; simp only [Act.put, List.setIfInBounds_toArray, List.set_cons_zero, List.set_cons_succ]
          refine wpT (i := 6) (v := undef) rfl (Or.inr ⟨by rfl, rfl⟩) (by assumption) ?_
          change wpAnyH _ _ _ _ _ _ _ (Act.put _ (some 89) _) _; simp only [Act.put, List.setIfInBounds_toArray, List.set_cons_zero, List.set_cons_succ]
          refine wpT (i := 7) (v := undef) rfl (Or.inr ⟨by rfl, rfl⟩) (by assumption) ?_
          change wpAnyH _ _ _ _ _ _ _ (Act.put _ (some 90) _) _; simp only [Act.put, List.setIfInBounds_toArray, List.set_cons_zero, List.set_cons_succ]
          refine wpT (i := 8) (v := undef) rfl (Or.inr ⟨by rfl, rfl⟩) (by assumption) ?_
          change wpAnyH _ _ _ _ _ _ _ (Act.put _ (some 91) _) _; simp only [Act.put, List.setIfInBounds_toArray, List.set_cons_zero, List.set_cons_succ]
          refine wpT (i := 9) (v := undef) rfl (Or.inr ⟨by rfl, rfl⟩) (by assumption) ?_
          change wpAnyH _ _ _ _ _ _ _ (Act.put _ (some 92) _) _; simp only [Act.put, List.setIfInBounds_toArray, List.set_cons_zero, List.set_cons_succ]
          refine wpT (i := 10) (v := undef) rfl (Or.inr ⟨by rfl, rfl⟩) (by assumption) ?_
          change wpAnyH _ _ _ _ _ _ _ (Act.put _ (some 93) _) _; simp only [Act.put, List.setIfInBounds_toArray, List.set_cons_zero, List.set_cons_succ]
          refine wpT (i := 11) (v := undef) rfl (Or.inr ⟨by rfl, rfl⟩) (by assumption) ?_
          change wpAnyH _ _ _ _ _ _ _ (Act.put _ (some 94) _) _; simp only [Act.put, List.setIfInBounds_toArray, List.set_cons_zero, List.set_cons_succ]
          refine wpT (i := 12) (v := undef) rfl (Or.inr ⟨by rfl, rfl⟩) (by assumption) ?_
          change wpAnyH _ _ _ _ _ _ _ (Act.put _ (some 95) _) _; simp only [Act.put, List.setIfInBounds_toArray, List.set_cons_zero, List.set_cons_succ]
          refine wpT (i := 13) (v := ?v13g2_) rfl (Or.inl ⟨by rfl, ?y13g2_⟩) (by assumption) ?r13g2_
          case y13g2_ => (intro w hSw; (try dsimp only at hSw); go_simp; try with_reducible rfl)
          change wpAnyH _ _ _ _ _ _ _ (Act.put _ (some 96) _) _; simp only [Act.put, List.setIfInBounds_toArray, List.set_cons_zero, List.set_cons_succ]
          refine wpAnyH_done (by kernel_rfl) ?_ _
          refine NoPanic.normal ?_
          go_wp2_with fail
          go_meet
          exact ⟨rfl, below_drewN (Below.refl _ _) 1⟩
        case rest =>
        obtain ⟨rfl, hbx⟩ := hcut
        have HPLX := Lib.hid (HPL6.out.below_ hbx)
        clear hbx
        go_wp2
        go_roundg gf
        case measure => omega
        case rel => exact ⟨i + 1, _, _, _, _, rfl, rfl, by go_num, by omega, HPLX.out, HSIM.out, HBUD.out.less (by omega)⟩
      · have hbd : Below w6.heap.size w6 w6.drew := (Below.refl _ _).drew
        have hpw := pl_write (HPL6.out.below_ hbd) (HFIT.out.less (by decide)) HT.out (hst.below hbd) hgs (Blk.below hrt hbd (Blk.lt hrt)) hsok HMO.out
        have hpr : ∀ w8 v7, STO0 w w8 p q v7 (writeD D S x.m).2.1 R → StIs w8 gs p (writeD D S x.m).2.2 → RSt w8 gr q S → Calls Tryz.prog 23 #[.pointer (some ⟨gr, 0, none⟩), .agg (mCells x.m)] w8 fun e w' => e = .returned (.int .i64 (writeD D S x.m).1) ∧ PlS w w' p q v7 (writeD D S x.m).2.1 (writeR R S x.m).2.1 0 (.pointer (some ⟨gs, 0, none⟩)) (.pointer (some ⟨gr, 0, none⟩)) ∧ KpC w8 w' := fun w8 v7 h1 h2 h3 => pl_rwrite h1 HSIM.out (HFIT.out.less (by decide)) h2 hgs h3 hgr hsok HMO.out rfl
        have hpn := fun W => plain_any x.m W
        have hsw := (sim_write HSIM.out S x.m).2.2
        have hcw := HBUD.out.next (cst_write HBUD.out.l0 S x.m) (by decide) (by decide) (by decide)
        obtain ⟨wd, hwd⟩ : ∃ wd, writeD D S x.m = wd := ⟨_, rfl⟩
        obtain ⟨wr5, hwr5⟩ : ∃ wr5, writeR R S x.m = wr5 := ⟨_, rfl⟩
        rw [hwd] at hpw hsw hcw
        simp only [hwd, hwr5] at hpr
        rw [hwr5] at hsw
        have h7 : mCells x.m = #[.int .i64 x.m.n, .int .i64 x.m.epoch, .int .i64 x.m.step, .int .i64 x.m.sum, .int .i64 x.m.most, .bool x.m.done, .int .u32 x.m.job] := rfl
        rw [h7] at hpw hpn
        simp only [h7] at hpr
        have HPW := Lib.hid hpw; have HPR := Lib.hid hpr; have HPN := Lib.hid hpn; have HSW := Lib.hid hsw; have HCW := Lib.hid hcw
        have HKD := Lib.hid (HKC6.out.below hbd HKC6.out.lt)
        have HKE := Lib.hid (call7 HKD.out)
        clear hpw hpr hpn hsw hcw hwd hwr5 h7 hst hrt hsok hbd
        go_upto_region 17 with (fail)
        refine wp_region_noPanic ?_
        refine wp_region_held_drew (S := (fun w => w.cell? ⟨g, 1, none⟩ = some (.int .i64 x.m.n) ∧ w.cell? ⟨g, 2, none⟩ = some (.int .i64 x.m.epoch) ∧ w.cell? ⟨g, 3, none⟩ = some (.int .i64 x.m.step) ∧ w.cell? ⟨g, 4, none⟩ = some (.int .i64 x.m.sum) ∧ w.cell? ⟨g, 5, none⟩ = some (.int .i64 x.m.most) ∧ w.cell? ⟨g, 6, none⟩ = some (.bool x.m.done) ∧ w.cell? ⟨g, 7, none⟩ = some (.int .u32 x.m.job))) (by kernel_rfl) ?_ (fun hHeld => ?_)
        · exact HKE.out
        refine wpT (i := 0) (v := ?v0g3_) rfl (Or.inl ⟨by rfl, ?y0g3_⟩) (by assumption) ?r0g3_
        case y0g3_ => (intro w hSw; (try dsimp only at hSw); go_simp; try with_reducible rfl)
        change wpAnyH _ _ _ _ _ _ _ (Act.put _ (some 83) _) _; simp only [Act.put, List.setIfInBounds_toArray, List.set_cons_zero, List.set_cons_succ]
        refine wpT (i := 1) (v := ?v1g3_) rfl (Or.inl ⟨by rfl, ?y1g3_⟩) (by assumption) ?r1g3_
        case y1g3_ => (intro w hSw; (try dsimp only at hSw); go_simp; try with_reducible rfl)
        change wpAnyH _ _ _ _ _ _ _ (Act.put _ (some 84) _) _; simp only [Act.put, List.setIfInBounds_toArray, List.set_cons_zero, List.set_cons_succ]
        refine wpT (i := 2) (v := ?v2g3_) rfl (Or.inl ⟨by rfl, ?y2g3_⟩) (by assumption) ?r2g3_
        case y2g3_ => (intro w hSw; (try dsimp only at hSw); go_simp; try with_reducible rfl)
        change wpAnyH _ _ _ _ _ _ _ (Act.put _ (some 85) _) _; simp only [Act.put, List.setIfInBounds_toArray, List.set_cons_zero, List.set_cons_succ]
        refine wpT (i := 3) (v := ?v3g3_) rfl (Or.inl ⟨by rfl, ?y3g3_⟩) (by assumption) ?r3g3_
        case y3g3_ => (intro w hSw; (try dsimp only at hSw); go_simp; try with_reducible rfl)
        change wpAnyH _ _ _ _ _ _ _ (Act.put _ (some 86) _) _; simp only [Act.put, List.setIfInBounds_toArray, List.set_cons_zero, List.set_cons_succ]
        refine wpT (i := 4) (v := ?v4g3_) rfl (Or.inl ⟨by rfl, ?y4g3_⟩) (by assumption) ?r4g3_
        case y4g3_ => (intro w hSw; (try dsimp only at hSw); go_simp; try with_reducible rfl)
        change wpAnyH _ _ _ _ _ _ _ (Act.put _ (some 87) _) _; simp only [Act.put, List.setIfInBounds_toArray, List.set_cons_zero, List.set_cons_succ]
        refine wpT (i := 5) (v := ?v5g3_) rfl (Or.inl ⟨by rfl, ?y5g3_⟩) (by assumption) ?r5g3_
        case y5g3_ => (intro w hSw; (try dsimp only at hSw); go_simp; try with_reducible rfl)
        change wpAnyH _ _ _ _ _ _ _ (Act.put _ (some 88) _) _; simp only [Act.put, List.setIfInBounds_toArray, List.set_cons_zero, List.set_cons_succ]
        refine wpT (i := 7) (v := ?v7g3_) rfl (Or.inl ⟨by rfl, ?y7g3_⟩) (by assumption) ?r7g3_
        case y7g3_ => (intro w hSw; (try dsimp only at hSw); go_simp; try with_reducible rfl)
        change wpAnyH _ _ _ _ _ _ _ (Act.put _ (some 90) _) _; simp only [Act.put, List.setIfInBounds_toArray, List.set_cons_zero, List.set_cons_succ]
        refine wpT (i := 8) (v := ?v8g3_) rfl (Or.inl ⟨by rfl, ?y8g3_⟩) (by assumption) ?r8g3_
        case y8g3_ => (intro w hSw; (try dsimp only at hSw); go_simp; try with_reducible rfl)
        change wpAnyH _ _ _ _ _ _ _ (Act.put _ (some 91) _) _; simp only [Act.put, List.setIfInBounds_toArray, List.set_cons_zero, List.set_cons_succ]
        refine wpT (i := 9) (v := ?v9g3_) rfl (Or.inl ⟨by rfl, ?y9g3_⟩) (by assumption) ?r9g3_
        case y9g3_ => (intro w hSw; (try dsimp only at hSw); go_simp; try with_reducible rfl)
        change wpAnyH _ _ _ _ _ _ _ (Act.put _ (some 92) _) _; simp only [Act.put, List.setIfInBounds_toArray, List.set_cons_zero, List.set_cons_succ]
        refine wpAnyH_ready (rs := [6]) (by kernel_rfl) (by simp) ?_
        refine AllReadyH.cons rfl (fun K hK => ?_) AllReadyH.nil
        go_simp
        refine (HPW.out).mono ?_
        rintro e w7 ⟨rfl, ⟨v7, hz7⟩, hst7, hrt7, hk7⟩
        have HK7 := Lib.hid (hk7 _ _ HKD.out); have HZ7 := Lib.hid hz7; have HST7 := Lib.hid hst7; have HRT7 := Lib.hid hrt7; have HKF := Lib.hid (call7 HK7.out)
        clear hz7 hst7 hrt7 hk7
        dsimp only
        refine hK.out _ _ ?_ (fun hHeld => ?_)
        · exact HKF.out
        clear hK K
        try simp only [Act.put, List.setIfInBounds_toArray, List.set_cons_zero, List.set_cons_succ]
        refine wpAnyH_ready (rs := [10]) (by kernel_rfl) (by simp) ?_
        refine AllReadyH.cons rfl (fun K hK => ?_) AllReadyH.nil
        go_simp
        refine (HPN.out _).mono ?_
        rintro e w8 ⟨rfl, hb8⟩
        have HP8 := Lib.hid (HPR.out w8 v7 (HZ7.out.below_ hb8) (HST7.out.below hb8) (Blk.below HRT7.out hb8 (Blk.lt HRT7.out))); have HK8 := Lib.hid (HK7.out.below hb8 HK7.out.lt); have HKG := Lib.hid (call7 HK8.out)
        clear hb8
        dsimp only
        refine hK.out _ _ ?_ (fun hHeld => ?_)
        · exact HKG.out
        clear hK K
        try simp only [Act.put, List.setIfInBounds_toArray, List.set_cons_zero, List.set_cons_succ]
        refine wpAnyH_ready (rs := [11]) (by kernel_rfl) (by simp) ?_
        refine AllReadyH.cons rfl (fun K hK => ?_) AllReadyH.nil
        go_simp
        refine (HP8.out).mono ?_
        rintro e w9 ⟨rfl, hpl9, hk9⟩
        have HK9 := Lib.hid (hk9 _ _ HK8.out); have HPL9 := Lib.hid hpl9; have HKH := Lib.hid (call7 HK9.out)
        clear hpl9 hk9
        dsimp only
        refine hK.out _ _ ?_ (fun hHeld => ?_)
        · exact HKH.out
        clear hK K
        try simp only [Act.put, List.setIfInBounds_toArray, List.set_cons_zero, List.set_cons_succ]
        refine wpT (i := 12) (v := ?v12g3_) rfl (Or.inl ⟨by rfl, ?y12g3_⟩) (by assumption) ?r12g3_
        case y12g3_ => (intro w hSw; (try dsimp only at hSw); go_simp; try with_reducible rfl)
        change wpAnyH _ _ _ _ _ _ _ (Act.put _ (some 95) _) _; simp only [Act.put, List.setIfInBounds_toArray, List.set_cons_zero, List.set_cons_succ]
        refine wpT (i := 13) (v := ?v13g3_) rfl (Or.inl ⟨by rfl, ?y13g3_⟩) (by assumption) ?r13g3_
        case y13g3_ => (intro w hSw; (try dsimp only at hSw); go_simp; try with_reducible rfl)
        change wpAnyH _ _ _ _ _ _ _ (Act.put _ (some 96) _) _; simp only [Act.put, List.setIfInBounds_toArray, List.set_cons_zero, List.set_cons_succ]
        refine wpAnyH_done (by kernel_rfl) ?_ _
        refine NoPanic.normal ?_
        go_wp2
        go_roundg gf
        case measure => omega
        case rel => exact ⟨i + 1, _, _, _, _, rfl, rfl, by go_num, by omega, HPL9.out, HSW.out, HCW.out⟩
end Go.Proofs.YtlcgkcafelpglaaGreatDoor
