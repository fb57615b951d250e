/- A store of manifests: its small functions: name, clear, Newest; the disk's Off. The reference's store of manifests: there, Write. -/
import Derived.Test.YtlcgkcafelpglaaGreatDoorPk16
import Derived.Test.YtlcgkcafelpglaaGreatDoorMaO
import Derived.Test.YtlcgkcafelpglaaGreatDoorShelf
import Derived.Shelf.Abstract
import Derived.Test.YtlcgkcafelpglaaGreatDoorRkS
import Derived.Test.YtlcgkcafelpglaaGreatDoorPk20
import Derived.Test.YtlcgkcafelpglaaGreatDoorRfM
import Derived.Deep.DeepCutAuto
namespace Go.Proofs.YtlcgkcafelpglaaGreatDoor
open Go.RowKit Go.Maps

/-- the table of powers that strconv reads lies below the call's own -/
def Tb (B : Nat) (w : World) : Prop := Lib.TabBelow Tryz.prog B w "internal/strconv.uint64pow10" .u64 Lib.pow10Tab
theorem Tb.on {B : Nat} {w w' : World} (h : Tb B w) (hb : Below B w w') : Tb B w' := Lib.TabBelow.on h hb
def sCells (p : Nat) (S : StD) : Array Value := #[.pointer (some ⟨p, 0, none⟩), .int .i64 S.m.n, .int .i64 S.m.epoch, .int .i64 S.m.step, .int .i64 S.m.sum, .int .i64 S.m.most, .bool S.m.done, .int .u32 S.m.job, .bool S.some]
def StIs (w : World) (gs p : Nat) (S : StD) : Prop := Blk w gs 69 (sCells p S)
section
variable {w w1 w2 : World} {B p gs : Nat} {v v1 v2 : Value} {D D1 D2 : DiskD} {S : StD}
theorem Out.of_below (h : DiskIs w B p v D) (hB : B ≤ w.heap.size) (hb : Below w.heap.size w w1) : Out B w w1 p v D v :=
  ⟨h.below hb (Nat.le_refl _), hb.mono hB, fun _ _ hx => hx.below hb, fun g _ _ _ _ _ hg => hb.block g (Array.getElem?_eq_some_iff.1 hg).1, fun _ _ _ _ h2 ha => ⟨h2.below hb (Nat.le_refl _), ha⟩⟩
theorem Out.trans (o : Out B w w1 p v D1 v1) (q : Out B w1 w2 p v1 D2 v2) : Out B w w2 p v D2 v2 :=
  ⟨q.is, o.below.trans q.below, fun x s h => q.bt x s (o.bt x s h), fun g cs t fz h1 h2 hh => by
    have e := o.blk g cs t fz h1 h2 hh
    exact (q.blk g cs t fz h1 h2 (e.trans hh)).trans e, fun B' p' v' D' h2 ha => by
    obtain ⟨a, b⟩ := o.other B' p' v' D' h2 ha
    exact q.other B' p' v' D' a b⟩
theorem Out.keep_blk (o : Out B w w1 p v D1 v1) {g : Nat} {t : TypeId} {cs : Array Value} (h : Blk w g t cs) (h1 : t ≠ 64) (h2 : t ≠ 86) : Blk w1 g t cs := (o.blk g cs t _ h1 h2 h).trans h
theorem StIs.out (h : StIs w gs p S) (o : Out B w w1 p v D1 v1) : StIs w1 gs p S := o.keep_blk h (by decide) (by decide)
theorem StIs.below (h : StIs w gs p S) (hb : Below w.heap.size w w1) : StIs w1 gs p S := Blk.below h hb (Blk.lt h)
end
set_option maxHeartbeats 1000000 in
theorem off_any (w : World) (B p : Nat) (v : Value) (D : DiskD) (h : DiskIs w B p v D) :
    Calls Tryz.prog 29 #[.pointer (some ⟨p, 0, none⟩)] w fun e w' => e = .returned (.bool D.off) ∧ w' = w := by
  have c4 := h.blk.cell 4
  simp only [List.getElem?_toArray, List.getElem?_cons_zero, List.getElem?_cons_succ] at c4
  clear h
  go_enter Tryz.func29, Tryz.ntmps29
  go_wp2
  go_ret
  exact ⟨rfl, rfl⟩
set_option maxHeartbeats 1000000 in
theorem name_any (w : World) (B : Nat) (hT : Tb B w) (n : Int) (hn : In64 n) :
    Calls Tryz.prog 33 #[.int .i64 n] w fun e w' => e = .returned (.string (nameM n)) ∧ Below w.heap.size w w' := by
  have HC := Lib.hid (Tryz.strconv_FormatInt_10 n hn.1 hn.2 w (Lib.TabBelow.here hT))
  have hsz := (nameM_size hn).2
  unfold nameM at hsz
  rw [ByteArray.size_append] at hsz
  have h3 : (⟨#[109, 102, 46]⟩ : ByteArray).size = 3 := rfl
  rw [h3] at hsz
  have HN : Hid (nameM n = ⟨#[109, 102, 46]⟩ ++ ⟨(Lib.itoa n).toArray⟩) := Lib.hid rfl
  obtain ⟨s, hs⟩ : ∃ s : ByteArray, ⟨(Lib.itoa n).toArray⟩ = s := ⟨_, rfl⟩
  rw [hs] at hsz HC HN
  clear hs h3 hT
  go_enter Tryz.func33, Tryz.ntmps33
  go_wp2_with fail
  refine HC.out.mono ?_
  rintro e w1 ⟨rfl, k, os, hw⟩
  have HB := Lib.hid (show Below w.heap.size w w1 by rw [hw]; exact Lib.below_grow _ w (Nat.le_refl _) k os)
  clear hw HC
  go_wp2
  go_ret
  exact ⟨by rw [HN.out]; rfl, HB.out⟩
section
variable (w : World) (B p gs : Nat) (v : Value) (D : DiskD) (S : StD) (h : DiskIs w B p v D) (hB : B ≤ w.heap.size) (hs : StIs w gs p S)
include h hB hs
set_option maxHeartbeats 4000000 in
theorem clear_any (hf : FitN D 1) : Calls Tryz.prog 53 #[.pointer (some ⟨gs, 0, none⟩)] w fun e w' => e = .returned (.int .i64 (clearD D).1) ∧ ∃ v1, Out B w w' p v (clearD D).2 v1 := by
  have c0 := hs.cell 0
  simp only [sCells, List.getElem?_toArray, List.getElem?_cons_zero] at c0
  have HR := Lib.hid (d_read h hf.fit (name := tmpN) (E := (D.read tmpN).1) (b := (D.read tmpN).2) rfl)
  have HO := Lib.hid (fun w1 hb => Out.of_below (w1 := w1) h hB hb)
  have HS := Lib.hid hs; have HF := Lib.hid hf
  have tq : tmpN = ⟨#[109, 102, 46, 116, 109, 112]⟩ := rfl
  by_cases hr : (D.read tmpN).1 = 0
  · have hcl : clearD D = D.step 3 tmpN tmpN 0 true := by unfold clearD; rw [if_neg (by simp [hr])]
    rw [hr] at HR
    rw [hcl]
    have HCL := Lib.hid hcl
    clear h hs hr hcl hf
    rw [tq] at HR ⊢
    clear tq
    go_enter Tryz.func53, Tryz.ntmps53
    go_wp2_with fail
    refine HR.out.mono ?_
    rintro e w1 ⟨bv, rfl, hbt, hb⟩
    have ho := HO.out w1 hb
    have hs1 := HS.out.out ho
    have c0' := hs1.cell 0
    simp only [sCells, List.getElem?_toArray, List.getElem?_cons_zero] at c0'
    have HC := Lib.hid (d_remove ho.is (Nat.le_trans hB ho.below.size) HF.out.fit (name := ⟨#[109, 102, 46, 116, 109, 112]⟩) (E := (D.step 3 ⟨#[109, 102, 46, 116, 109, 112]⟩ ⟨#[109, 102, 46, 116, 109, 112]⟩ 0 true).1) (D' := (D.step 3 ⟨#[109, 102, 46, 116, 109, 112]⟩ ⟨#[109, 102, 46, 116, 109, 112]⟩ 0 true).2) rfl)
    have HO1 := Lib.hid ho
    obtain ⟨Ab, cb, rfl, -, -⟩ := hbt
    clear ho hs1 hb HO HR HS HF HCL
    go_wp2_with fail
    refine HC.out.mono ?_
    rintro e w2 ⟨rfl, v2, o2⟩
    have HO2 := Lib.hid (HO1.out.trans o2)
    clear o2 HC HO1
    go_wp2
    go_ret
    exact ⟨rfl, v2, HO2.out⟩
  · have hcl : clearD D = (0, D) := by unfold clearD; rw [if_pos hr]
    have hr2 : ((D.read tmpN).1 != 0) = true := by simpa using hr
    obtain ⟨E, hE⟩ : ∃ E, (D.read tmpN).1 = E := ⟨_, rfl⟩
    rw [hE] at HR hr2
    rw [hcl]
    clear h hs hr hcl hf hE
    rw [tq] at HR
    clear tq
    go_enter Tryz.func53, Tryz.ntmps53
    go_wp2_with fail
    refine HR.out.mono ?_
    rintro e w1 ⟨bv, rfl, hbt, hb⟩
    have HO1 := Lib.hid (HO.out w1 hb)
    obtain ⟨Ab, cb, rfl, -, -⟩ := hbt
    clear hb HO HR HS HF
    go_wp2
    go_ret
    exact ⟨rfl, v, HO1.out⟩
end
set_option maxRecDepth 100000 in
set_option maxHeartbeats 4000000 in
theorem newest_any (w : World) (gs p : Nat) (S : StD) (hs : StIs w gs p S) :
    Calls Tryz.prog 12 #[.pointer (some ⟨gs, 0, none⟩)] w fun e w' => e = .returned (.tuple #[.agg (mCells S.m), .bool S.some]) ∧ Below w.heap.size w w' := by
  have hk0 := Blk.new w 38 (mCells zeroM)
  have ha := (Below.refl w.heap.size w).alloc (Nat.le_refl _) (.cells (mCells zeroM) 38)
  have hz7 : mCells zeroM = #[.int .i64 0, .int .i64 0, .int .i64 0, .int .i64 0, .int .i64 0, .bool false, .int .u32 0] := rfl
  have hs1 := hs.below ha
  have hlt := Blk.lt hs
  rw [hz7] at hk0 ha hs1
  have d1 := hs1.cell 1; have d2 := hs1.cell 2; have d3 := hs1.cell 3; have d4 := hs1.cell 4; have d5 := hs1.cell 5; have d6 := hs1.cell 6; have d7 := hs1.cell 7; have d8 := hs1.cell 8
  have c1 := hs.cell 1; have c2 := hs.cell 2; have c3 := hs.cell 3; have c4 := hs.cell 4; have c5 := hs.cell 5; have c6 := hs.cell 6; have c7 := hs.cell 7; have c8 := hs.cell 8
  simp only [sCells, List.getElem?_toArray, List.getElem?_cons_zero, List.getElem?_cons_succ] at d1 d2 d3 d4 d5 d6 d7 d8 c1 c2 c3 c4 c5 c6 c7 c8
  have hgn : gs ≠ w.heap.size := by omega
  clear hs hs1 hz7 ha hk0
  go_enter Tryz.func12, Tryz.ntmps12
  go_wp2_with fail
  go_region
  all_goals
    go_wp2_with fail
    refine bodyPost_ret (results_row_tmp (Tryz.results12) _ _ w.heap.size 38 #[.int .i64 S.m.n, .int .i64 S.m.epoch, .int .i64 S.m.step, .int .i64 S.m.sum, .int .i64 S.m.most, .bool S.m.done, .int .u32 S.m.job] (0, 0) _ rfl (heap_alloc_new w _) Tryz.underlying38 rfl infoMf) rfl ?_
    exact ⟨rfl, ((Below.refl w.heap.size w).alloc (Nat.le_refl _) _).drew⟩
end Go.Proofs.YtlcgkcafelpglaaGreatDoor
namespace Go.Proofs.YtlcgkcafelpglaaGreatDoor
open Go.RowKit Go.Maps

/-- the reference's store -/
def RSt (w : World) (gs p : Nat) (S : StD) : Prop := Blk w gs 49 (sCells p S)
theorem sim_fit {D : DiskD} {R : RDisk} {n : Nat} (h : Sim D R) (hf : FitN D n) : RFit R := by
  have h1 := hf.files; have h2 := hf.used; have h3 := hf.steps
  refine ⟨?_, ?_, ?_, by rw [h.done]; exact hf.steps0, by rw [h.done]; omega, by rw [h.left]; exact hf.left, by rw [h.left]; exact hf.left1⟩
  · rw [h.files]
    unfold seenL
    rw [List.length_map]; omega
  · rw [h.safe]
    unfold safeL
    rw [List.length_map]
    have := List.length_filter_le (fun f : FileD => decide (f.safe ≠ -1)) D.files
    omega
  · rw [h.files, longP_seen]
    unfold DiskD.used at h2
    omega
set_option maxRecDepth 100000 in
set_option maxHeartbeats 4000000 in
theorem rthere_any (w : World) (B p gs : Nat) (R : RDisk) (S : StD) (h : RkIs w B p R) (hf : RFit R) (hs : RSt w gs p S) (t : ByteArray) :
    Calls Tryz.prog 57 #[.pointer (some ⟨gs, 0, none⟩), .string t] w fun e w' => e = .returned (.bool (decide ((R.read t).1 = 0))) ∧ w = w' := by
  have hr := rread_any w B p R h hf t
  obtain ⟨E, hE⟩ : ∃ E, (R.read t).1 = E := ⟨_, rfl⟩
  rw [hE] at hr ⊢
  have c0 := Blk.cell hs 0
  simp only [sCells, List.getElem?_toArray, List.getElem?_cons_zero] at c0
  have HR := Lib.hid hr
  clear hr h hf hs hE
  go_enter Tryz.func57, Tryz.ntmps57
  go_wp2_with fail
  refine HR.out.mono ?_
  rintro e w' ⟨bv, rfl, -, rfl⟩
  by_cases hE : E = 0
  · subst hE
    go_wp2
    go_ret
    exact ⟨rfl, rfl⟩
  · have hEb : (E == 0) = false := by simpa using hE
    have HD : Hid (decide (E = 0) = false) := Lib.hid (decide_eq_false hE)
    go_wp2
    go_ret
    exact ⟨by rw [HD.out]; rfl, rfl⟩
end Go.Proofs.YtlcgkcafelpglaaGreatDoor
