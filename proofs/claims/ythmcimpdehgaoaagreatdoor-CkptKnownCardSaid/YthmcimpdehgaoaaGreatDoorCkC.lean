/- A store of checkpoints: Write's closures. -/
import Derived.Test.YthmcimpdehgaoaaGreatDoorPk13
import Derived.OrdersHeld
import Derived.Deep.RegionHeld3
namespace Go.Proofs.YthmcimpdehgaoaaGreatDoor
open Go.RowKit Go.Maps

theorem tmpC_eq : tmpC = ⟨#[99, 107, 46, 116, 109, 112]⟩ := rfl
/-- bytes that stay readable, whatever calls of a disk leave -/
def BtX (B : Nat) (w : World) (bv : Value) (b : ByteArray) : Prop := ∀ w', Below B w w' → (∀ x s, Bt w x s → Bt w' x s) → BtR w' bv b
theorem BtX.here {B : Nat} {w : World} {bv : Value} {b : ByteArray} (h : BtX B w bv b) : BtR w bv b := h w (Below.refl _ _) fun _ _ h => h
theorem BtX.of_bt {B : Nat} {w : World} {bv : Value} {b : ByteArray} (h : Bt w bv b) : BtX B w bv b := fun _ _ hk => (hk _ _ h).btr
theorem BtX.of_arg {w0 w : World} {bv : Value} {b : ByteArray} (h : BtR w0 bv b) (hb : Below w0.heap.size w0 w) : BtX w0.heap.size w bv b := fun _ hb2 _ => h.below (hb.trans hb2)
theorem BtX.on {B : Nat} {w w1 : World} {bv : Value} {b : ByteArray} (h : BtX B w bv b) (hb : Below B w w1) (hk : ∀ x s, Bt w x s → Bt w1 x s) : BtX B w1 bv b := fun w2 hb2 hk2 => h w2 (hb.trans hb2) fun x s hx => hk2 x s (hk x s hx)
theorem BtX.below {B : Nat} {w w1 : World} {bv : Value} {b : ByteArray} (h : BtX B w bv b) (hB : B ≤ w.heap.size) (hb : Below w.heap.size w w1) : BtX B w1 bv b := h.on (hb.mono hB) fun _ _ hx => hx.below hb
theorem BtX.out [Forb] {B p : Nat} {w w1 : World} {v v1 : Value} {D1 : DiskD} {bv : Value} {b : ByteArray} (h : BtX B w bv b) (o : Out B w w1 p v D1 v1) : BtX B w1 bv b := h.on o.below o.bt
/-- amid a write: the disk, the store, the boxes of what the closures hold -/
structure CwS [Forb] (B : Nat) (w wr : World) (p gs g3 g4 g5 : Nat) (v0 v : Value) (D : DiskD) (n : Nat) (bv : Value) (b : ByteArray) : Prop where
  o : Out B w wr p v0 D v
  st : CkSt wr gs p
  x3 : Blk wr g3 27 #[.pointer (some ⟨gs, 0, none⟩)]
  x4 : Blk wr g4 3 #[.int .i64 n]
  x5 : Blk wr g5 33 #[bv]
  bx : BtX B wr bv b
  sz : w.heap.size ≤ wr.heap.size
  hB : B ≤ w.heap.size
section
variable [Forb] {B : Nat} {w wr w2 : World} {p gs g3 g4 g5 n : Nat} {v0 v v2 bv : Value} {D D2 : DiskD} {b : ByteArray} (a : CwS B w wr p gs g3 g4 g5 v0 v D n bv b)
include a
theorem CwS.is : DiskIs wr B p v D := a.o.is
theorem CwS.below : Below B w wr := a.o.below
theorem CwS.lt : B ≤ wr.heap.size := Nat.le_trans a.hB a.sz
theorem CwS.below_ (hb : Below wr.heap.size wr w2) : CwS B w w2 p gs g3 g4 g5 v0 v D n bv b :=
  ⟨a.o.trans (Out.of_below a.is a.lt hb), a.st.below hb, a.x3.below hb a.x3.lt, a.x4.below hb a.x4.lt, a.x5.below hb a.x5.lt, a.bx.below a.lt hb, Nat.le_trans a.sz hb.size, a.hB⟩
theorem CwS.out (o : Out B wr w2 p v D2 v2) : CwS B w w2 p gs g3 g4 g5 v0 v2 D2 n bv b :=
  ⟨a.o.trans o, a.st.out o, o.keep_blk a.x3 (by decide) (by decide), o.keep_blk a.x4 (by decide) (by decide), o.keep_blk a.x5 (by decide) (by decide), a.bx.out o, Nat.le_trans a.sz o.below.size, a.hB⟩
theorem CwS.cells : wr.cell? ⟨g3, 0, none⟩ = some (.pointer (some ⟨gs, 0, none⟩)) ∧ wr.cell? ⟨gs, 0, none⟩ = some (.pointer (some ⟨p, 0, none⟩)) ∧ wr.cell? ⟨g4, 0, none⟩ = some (.int .i64 n) ∧ wr.cell? ⟨g5, 0, none⟩ = some bv :=
  ⟨a.x3.cell 0, Blk.cell a.st 0, a.x4.cell 0, a.x5.cell 0⟩
end
/-- what one of a write's calls leaves -/
def CwP [Forb] (B : Nat) (w wr : World) (p gs g3 g4 g5 : Nat) (v0 : Value) (n : Nat) (bv : Value) (b : ByteArray) (q : Int × DiskD) (e : Ending) (w' : World) : Prop :=
  e = .returned (.int .i64 q.1) ∧ wr.heap.size ≤ w'.heap.size ∧ ∃ v', CwS B w w' p gs g3 g4 g5 v0 v' q.2 n bv b
section
variable [Forb] {B : Nat} {w wr : World} {p gs g3 g4 g5 n : Nat} {v0 v bv : Value} {D : DiskD} {b : ByteArray} (a : CwS B w wr p gs g3 g4 g5 v0 v D n bv b) (hf : Fit D)
include a hf
theorem cw_clear : Calls Tryz.prog 36 #[.pointer (some ⟨gs, 0, none⟩)] wr (CwP B w wr p gs g3 g4 g5 v0 n bv b (clearC D)) :=
  (cclear_any wr B p gs v D a.is a.lt a.st hf).mono fun _ _ ⟨he, v', o⟩ => ⟨he, o.below.size, v', a.out o⟩
set_option maxRecDepth 100000 in
set_option maxHeartbeats 4000000 in
theorem cw_append (ht : Forb.top ≤ w.heap.size) (hu : D.used ≤ 1000000000000) (hn : n ≤ 1073741824) (hbs : b.size ≤ 4194304) :
    Calls Tryz.prog 37 #[.pointer (some ⟨g3, 0, none⟩), .pointer (some ⟨g4, 0, none⟩), .pointer (some ⟨g5, 0, none⟩)] wr (CwP B w wr p gs g3 g4 g5 v0 n bv b (D.append tmpC (fileC n b))) := by
  rw [tmpC_eq]
  have HA := Lib.hid (show CwS B w wr.drew p gs g3 g4 g5 v0 v D n bv b from a.below_ (show Below wr.heap.size wr wr.drew from (Below.refl _ _).drew))
  have hsz := fileC_size n b
  have HFI := Lib.hid (cfile_any wr.drew n hn bv b HA.out.bx.here hbs)
  have HAP := Lib.hid (fun (w1 : World) (h1 : CwS B w w1 p gs g3 g4 g5 v0 v D n bv b) (fv : Value) (hv : BtR w1 fv (fileC n b)) => d_appendF h1.is h1.lt (Nat.le_trans ht h1.sz) hf hu (name := ⟨#[99, 107, 46, 116, 109, 112]⟩) hv (by omega) (E := (D.append ⟨#[99, 107, 46, 116, 109, 112]⟩ (fileC n b)).1) (D' := (D.append ⟨#[99, 107, 46, 116, 109, 112]⟩ (fileC n b)).2) rfl)
  obtain ⟨E, hE⟩ : ∃ E, (D.append ⟨#[99, 107, 46, 116, 109, 112]⟩ (fileC n b)).1 = E := ⟨_, rfl⟩
  obtain ⟨D2, hD2⟩ : ∃ D2, (D.append ⟨#[99, 107, 46, 116, 109, 112]⟩ (fileC n b)).2 = D2 := ⟨_, rfl⟩
  have HFIN := Lib.hid (fun (e : Ending) (w2 : World) (he : e = .returned (.int .i64 E)) (hs : wr.heap.size ≤ w2.heap.size) (v2 : Value) (h2 : CwS B w w2 p gs g3 g4 g5 v0 v2 D2 n bv b) => show CwP B w wr p gs g3 g4 g5 v0 n bv b (D.append ⟨#[99, 107, 46, 116, 109, 112]⟩ (fileC n b)) e w2 from ⟨by rw [hE]; exact he, hs, v2, by rw [hD2]; exact h2⟩)
  rw [hE, hD2] at HAP
  obtain ⟨T, hT⟩ : ∃ T, fileC n b = T := ⟨_, rfl⟩
  rw [hT] at HFI HAP hsz
  have c3 := a.cells.1; have cs := a.cells.2.1; have c4 := a.cells.2.2.1; have c5 := a.cells.2.2.2
  clear a hf hE hD2 hT ht hu hsz
  go_enter Tryz.func37, Tryz.ntmps37
  go_upto_region 1 with (fail)
  refine wp_region_noPanic ?_
  refine wp_region_held_drew (S := (fun w' => w'.cell? ⟨g3, 0, none⟩ = some (.pointer (some ⟨gs, 0, none⟩)) ∧ w'.cell? ⟨gs, 0, none⟩ = some (.pointer (some ⟨p, 0, none⟩)) ∧ w'.cell? ⟨g4, 0, none⟩ = some (.int .i64 n) ∧ w'.cell? ⟨g5, 0, none⟩ = some bv)) (by kernel_rfl) ?_ (fun hHeld => ?_)
  · exact HA.out.cells
  refine wpT (i := 0) (v := ?v0g1_) rfl (Or.inl ⟨by rfl, ?y0g1_⟩) (by assumption) ?r0g1_
  case y0g1_ => (intro w hSw; (try dsimp only at hSw); obtain ⟨s1, s2, s3, s4⟩ := hSw; go_simp; try with_reducible rfl)
  change wpAnyH _ _ _ _ _ _ _ (Act.put _ (some 4) _) _; simp only [Act.put, List.setIfInBounds_toArray, List.set_cons_zero, List.set_cons_succ]
  refine wpT (i := 1) (v := ?v1g1_) rfl (Or.inl ⟨by rfl, ?y1g1_⟩) (by assumption) ?r1g1_
  case y1g1_ => (intro w hSw; (try dsimp only at hSw); go_simp; try with_reducible rfl)
  change wpAnyH _ _ _ _ _ _ _ (Act.put _ (some 5) _) _; simp only [Act.put, List.setIfInBounds_toArray, List.set_cons_zero, List.set_cons_succ]
  refine wpT (i := 2) (v := ?v2g1_) rfl (Or.inl ⟨by rfl, ?y2g1_⟩) (by assumption) ?r2g1_
  case y2g1_ => (intro w hSw; (try dsimp only at hSw); go_simp; try with_reducible rfl)
  change wpAnyH _ _ _ _ _ _ _ (Act.put _ (some 6) _) _; simp only [Act.put, List.setIfInBounds_toArray, List.set_cons_zero, List.set_cons_succ]
  refine wpT (i := 3) (v := ?v3g1_) rfl (Or.inl ⟨by rfl, ?y3g1_⟩) (by assumption) ?r3g1_
  case y3g1_ => (intro w hSw; (try dsimp only at hSw); obtain ⟨s1, s2, s3, s4⟩ := hSw; go_simp; try with_reducible rfl)
  change wpAnyH _ _ _ _ _ _ _ (Act.put _ (some 7) _) _; simp only [Act.put, List.setIfInBounds_toArray, List.set_cons_zero, List.set_cons_succ]
  refine wpT (i := 4) (v := ?v4g1_) rfl (Or.inl ⟨by rfl, ?y4g1_⟩) (by assumption) ?r4g1_
  case y4g1_ => (intro w hSw; (try dsimp only at hSw); obtain ⟨s1, s2, s3, s4⟩ := hSw; go_simp; try with_reducible rfl)
  change wpAnyH _ _ _ _ _ _ _ (Act.put _ (some 8) _) _; simp only [Act.put, List.setIfInBounds_toArray, List.set_cons_zero, List.set_cons_succ]
  refine wpT (i := 5) (v := ?v5g1_) rfl (Or.inl ⟨by rfl, ?y5g1_⟩) (by assumption) ?r5g1_
  case y5g1_ => (intro w hSw; (try dsimp only at hSw); obtain ⟨s1, s2, s3, s4⟩ := hSw; go_simp; try with_reducible rfl)
  change wpAnyH _ _ _ _ _ _ _ (Act.put _ (some 9) _) _; simp only [Act.put, List.setIfInBounds_toArray, List.set_cons_zero, List.set_cons_succ]
  refine wpAnyH_ready (rs := [6]) (by kernel_rfl) (by simp) ?_
  refine AllReadyH.cons rfl (fun K hK => ?_) AllReadyH.nil
  go_simp
  refine (HFI.out).mono ?_
  rintro e w1 ⟨fv, rfl, ho1, hb1⟩
  have HSZ1 := Lib.hid (show wr.heap.size ≤ w1.heap.size from hb1.size)
  have h1 := HA.out.below_ hb1
  have HBV := Lib.hid (Bt.of_own ho1).btr; have H1 := Lib.hid h1
  obtain ⟨Af, cf, rfl⟩ := own_shape ho1
  clear ho1 hb1 h1
  dsimp only
  refine hK.out _ _ ?_ (fun hHeld => ?_)
  · exact H1.out.cells
  clear hK K
  try simp only [Act.put, List.setIfInBounds_toArray, List.set_cons_zero, List.set_cons_succ]
  refine wpAnyH_ready (rs := [7]) (by kernel_rfl) (by simp) ?_
  refine AllReadyH.cons rfl (fun K hK => ?_) AllReadyH.nil
  go_simp
  refine (HAP.out w1 H1.out _ HBV.out).mono ?_
  rintro e w2 ⟨rfl, v2, o2⟩
  have H2 := Lib.hid (H1.out.out o2)
  have HSZ := Lib.hid (show wr.heap.size ≤ w2.heap.size from Nat.le_trans HSZ1.out o2.below.size)
  clear o2
  dsimp only
  refine hK.out _ _ ?_ (fun hHeld => ?_)
  · exact H2.out.cells
  clear hK K
  try simp only [Act.put, List.setIfInBounds_toArray, List.set_cons_zero, List.set_cons_succ]
  refine wpT (i := 8) (v := ?v8g1_) rfl (Or.inl ⟨by rfl, ?y8g1_⟩) (by assumption) ?r8g1_
  case y8g1_ => (intro w hSw; (try dsimp only at hSw); go_simp; try with_reducible rfl)
  change wpAnyH _ _ _ _ _ _ _ (Act.put _ (some 3) _) _; simp only [Act.put, List.setIfInBounds_toArray, List.set_cons_zero, List.set_cons_succ]
  refine wpAnyH_done (by kernel_rfl) ?_ _
  refine NoPanic.normal ?_
  go_wp2
  go_ret
  exact HFIN.out _ _ rfl HSZ.out v2 H2.out
set_option maxHeartbeats 4000000 in
theorem cw_sync : Calls Tryz.prog 39 #[.pointer (some ⟨g3, 0, none⟩)] wr (CwP B w wr p gs g3 g4 g5 v0 n bv b (D.step 0 tmpC tmpC 0 true)) := by
  rw [tmpC_eq]
  have HS := Lib.hid (d_sync a.is a.lt hf (name := ⟨#[99, 107, 46, 116, 109, 112]⟩) (E := (D.step 0 ⟨#[99, 107, 46, 116, 109, 112]⟩ ⟨#[99, 107, 46, 116, 109, 112]⟩ 0 true).1) (D' := (D.step 0 ⟨#[99, 107, 46, 116, 109, 112]⟩ ⟨#[99, 107, 46, 116, 109, 112]⟩ 0 true).2) rfl)
  obtain ⟨E, hE⟩ : ∃ E, (D.step 0 ⟨#[99, 107, 46, 116, 109, 112]⟩ ⟨#[99, 107, 46, 116, 109, 112]⟩ 0 true).1 = E := ⟨_, rfl⟩
  obtain ⟨D2, hD2⟩ : ∃ D2, (D.step 0 ⟨#[99, 107, 46, 116, 109, 112]⟩ ⟨#[99, 107, 46, 116, 109, 112]⟩ 0 true).2 = D2 := ⟨_, rfl⟩
  have HFIN := Lib.hid (fun (e : Ending) (w2 : World) (he : e = .returned (.int .i64 E)) (v2 : Value) (o : Out B wr w2 p v D2 v2) => show CwP B w wr p gs g3 g4 g5 v0 n bv b (D.step 0 ⟨#[99, 107, 46, 116, 109, 112]⟩ ⟨#[99, 107, 46, 116, 109, 112]⟩ 0 true) e w2 from ⟨by rw [hE]; exact he, o.below.size, v2, by rw [hD2]; exact a.out o⟩)
  rw [hE, hD2] at HS
  have c3 := a.cells.1; have cs := a.cells.2.1
  clear a hf hE hD2
  go_enter Tryz.func39, Tryz.ntmps39
  go_wp2_with fail
  refine HS.out.mono ?_
  rintro e w2 ⟨rfl, v2, o2⟩
  have HO := Lib.hid o2
  clear o2 HS
  go_wp2
  go_ret
  exact HFIN.out _ _ rfl v2 HO.out
set_option maxRecDepth 100000 in
set_option maxHeartbeats 4000000 in
theorem cw_rename (hT : Tb wr.heap.size wr) (hn : n ≤ 1073741824) :
    Calls Tryz.prog 41 #[.pointer (some ⟨g3, 0, none⟩), .pointer (some ⟨g4, 0, none⟩)] wr (CwP B w wr p gs g3 g4 g5 v0 n bv b (D.step 2 tmpC (nameC n) 0 true)) := by
  rw [tmpC_eq]
  have HA := Lib.hid (show CwS B w wr.drew p gs g3 g4 g5 v0 v D n bv b from a.below_ (show Below wr.heap.size wr wr.drew from (Below.refl _ _).drew))
  have HNA := Lib.hid (cname_any wr.drew (hT.at_ (show Below wr.heap.size wr wr.drew from (Below.refl _ _).drew)) n (by omega))
  have HRE := Lib.hid (fun (w1 : World) (h1 : CwS B w w1 p gs g3 g4 g5 v0 v D n bv b) => d_rename h1.is h1.lt hf (name := ⟨#[99, 107, 46, 116, 109, 112]⟩) (dst := nameC n) (E := (D.step 2 ⟨#[99, 107, 46, 116, 109, 112]⟩ (nameC n) 0 true).1) (D' := (D.step 2 ⟨#[99, 107, 46, 116, 109, 112]⟩ (nameC n) 0 true).2) rfl)
  obtain ⟨E, hE⟩ : ∃ E, (D.step 2 ⟨#[99, 107, 46, 116, 109, 112]⟩ (nameC n) 0 true).1 = E := ⟨_, rfl⟩
  obtain ⟨D2, hD2⟩ : ∃ D2, (D.step 2 ⟨#[99, 107, 46, 116, 109, 112]⟩ (nameC n) 0 true).2 = D2 := ⟨_, rfl⟩
  have HFIN := Lib.hid (fun (e : Ending) (w2 : World) (he : e = .returned (.int .i64 E)) (hs : wr.heap.size ≤ w2.heap.size) (v2 : Value) (h2 : CwS B w w2 p gs g3 g4 g5 v0 v2 D2 n bv b) => show CwP B w wr p gs g3 g4 g5 v0 n bv b (D.step 2 ⟨#[99, 107, 46, 116, 109, 112]⟩ (nameC n) 0 true) e w2 from ⟨by rw [hE]; exact he, hs, v2, by rw [hD2]; exact h2⟩)
  rw [hE, hD2] at HRE
  obtain ⟨T, hTT⟩ : ∃ T, nameC n = T := ⟨_, rfl⟩
  rw [hTT] at HNA HRE
  have c3 := a.cells.1; have cs := a.cells.2.1; have c4 := a.cells.2.2.1
  clear a hf hE hD2 hTT hT
  go_enter Tryz.func41, Tryz.ntmps41
  go_upto_region 1 with (fail)
  refine wp_region_noPanic ?_
  refine wp_region_held_drew (S := (fun w' => w'.cell? ⟨g3, 0, none⟩ = some (.pointer (some ⟨gs, 0, none⟩)) ∧ w'.cell? ⟨gs, 0, none⟩ = some (.pointer (some ⟨p, 0, none⟩)) ∧ w'.cell? ⟨g4, 0, none⟩ = some (.int .i64 n) ∧ w'.cell? ⟨g5, 0, none⟩ = some bv)) (by kernel_rfl) ?_ (fun hHeld => ?_)
  · exact HA.out.cells
  refine wpT (i := 0) (v := ?v0g2_) rfl (Or.inl ⟨by rfl, ?y0g2_⟩) (by assumption) ?r0g2_
  case y0g2_ => (intro w hSw; (try dsimp only at hSw); obtain ⟨s1, s2, s3, s4⟩ := hSw; go_simp; try with_reducible rfl)
  change wpAnyH _ _ _ _ _ _ _ (Act.put _ (some 3) _) _; simp only [Act.put, List.setIfInBounds_toArray, List.set_cons_zero, List.set_cons_succ]
  refine wpT (i := 1) (v := ?v1g2_) rfl (Or.inl ⟨by rfl, ?y1g2_⟩) (by assumption) ?r1g2_
  case y1g2_ => (intro w hSw; (try dsimp only at hSw); go_simp; try with_reducible rfl)
  change wpAnyH _ _ _ _ _ _ _ (Act.put _ (some 4) _) _; simp only [Act.put, List.setIfInBounds_toArray, List.set_cons_zero, List.set_cons_succ]
  refine wpT (i := 2) (v := ?v2g2_) rfl (Or.inl ⟨by rfl, ?y2g2_⟩) (by assumption) ?r2g2_
  case y2g2_ => (intro w hSw; (try dsimp only at hSw); go_simp; try with_reducible rfl)
  change wpAnyH _ _ _ _ _ _ _ (Act.put _ (some 5) _) _; simp only [Act.put, List.setIfInBounds_toArray, List.set_cons_zero, List.set_cons_succ]
  refine wpT (i := 3) (v := ?v3g2_) rfl (Or.inl ⟨by rfl, ?y3g2_⟩) (by assumption) ?r3g2_
  case y3g2_ => (intro w hSw; (try dsimp only at hSw); obtain ⟨s1, s2, s3, s4⟩ := hSw; go_simp; try with_reducible rfl)
  change wpAnyH _ _ _ _ _ _ _ (Act.put _ (some 6) _) _; simp only [Act.put, List.setIfInBounds_toArray, List.set_cons_zero, List.set_cons_succ]
  refine wpT (i := 4) (v := ?v4g2_) rfl (Or.inl ⟨by rfl, ?y4g2_⟩) (by assumption) ?r4g2_
  case y4g2_ => (intro w hSw; (try dsimp only at hSw); obtain ⟨s1, s2, s3, s4⟩ := hSw; go_simp; try with_reducible rfl)
  change wpAnyH _ _ _ _ _ _ _ (Act.put _ (some 7) _) _; simp only [Act.put, List.setIfInBounds_toArray, List.set_cons_zero, List.set_cons_succ]
  refine wpAnyH_ready (rs := [5]) (by kernel_rfl) (by simp) ?_
  refine AllReadyH.cons rfl (fun K hK => ?_) AllReadyH.nil
  go_simp
  refine (HNA.out).mono ?_
  rintro e w1 ⟨rfl, hb1⟩
  have HSZ1 := Lib.hid (show wr.heap.size ≤ w1.heap.size from hb1.size)
  have H1 := Lib.hid (HA.out.below_ hb1)
  clear hb1
  dsimp only
  refine hK.out _ _ ?_ (fun hHeld => ?_)
  · exact H1.out.cells
  clear hK K
  try simp only [Act.put, List.setIfInBounds_toArray, List.set_cons_zero, List.set_cons_succ]
  refine wpAnyH_ready (rs := [6]) (by kernel_rfl) (by simp) ?_
  refine AllReadyH.cons rfl (fun K hK => ?_) AllReadyH.nil
  go_simp
  refine (HRE.out w1 H1.out).mono ?_
  rintro e w2 ⟨rfl, v2, o2⟩
  have H2 := Lib.hid (H1.out.out o2)
  have HSZ := Lib.hid (show wr.heap.size ≤ w2.heap.size from Nat.le_trans HSZ1.out o2.below.size)
  clear o2
  dsimp only
  refine hK.out _ _ ?_ (fun hHeld => ?_)
  · exact H2.out.cells
  clear hK K
  try simp only [Act.put, List.setIfInBounds_toArray, List.set_cons_zero, List.set_cons_succ]
  refine wpT (i := 7) (v := ?v7g2_) rfl (Or.inl ⟨by rfl, ?y7g2_⟩) (by assumption) ?r7g2_
  case y7g2_ => (intro w hSw; (try dsimp only at hSw); go_simp; try with_reducible rfl)
  change wpAnyH _ _ _ _ _ _ _ (Act.put _ (some 2) _) _; simp only [Act.put, List.setIfInBounds_toArray, List.set_cons_zero, List.set_cons_succ]
  refine wpAnyH_done (by kernel_rfl) ?_ _
  refine NoPanic.normal ?_
  go_wp2
  go_ret
  exact HFIN.out _ _ rfl HSZ.out v2 H2.out
end
end Go.Proofs.YthmcimpdehgaoaaGreatDoor
