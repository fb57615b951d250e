/- Chapter 16's Call, and what it does to the document's disk; the two disks stay alike. -/
import Derived.Test.YtcfcfpphhaknnaaTkA
namespace Go.Proofs.Ytcfcfpphhaknnaa
open Go.RowKit Go.Maps

def RDisk.doesC (R : RDisk) (x : CallD) : Int × ByteArray × RDisk :=
  if x.kind = 0 ∨ x.kind = 1 then ((R.append x.name x.b).1, ByteArray.empty, (R.append x.name x.b).2)
  else if x.kind = 2 then ((R.sync x.name).1, ByteArray.empty, (R.sync x.name).2)
  else if x.kind = 3 then ((R.cut x.name x.n).1, ByteArray.empty, (R.cut x.name x.n).2)
  else if x.kind = 4 then ((R.rename x.name x.dst).1, ByteArray.empty, (R.rename x.name x.dst).2)
  else if x.kind = 5 then ((R.remove x.name).1, ByteArray.empty, (R.remove x.name).2)
  else if x.kind = 6 then (0, ByteArray.empty, { R with left := max (-1) x.n })
  else if x.kind = 7 then (0, ByteArray.empty, { R with gone := true, left := -1 })
  else if x.kind = 8 then (0, ByteArray.empty, R.on x.keep)
  else ((R.read x.name).1, (R.read x.name).2, R)
theorem sim_does {D : DiskD} {R : RDisk} (h : Sim D R) (x : CallD) : (D.doesC x).1 = (R.doesC x).1 ∧ (D.doesC x).2.1 = (R.doesC x).2.1 ∧ Sim (D.doesC x).2.2 (R.doesC x).2.2 := by
  unfold DiskD.doesC RDisk.doesC
  split
  · have := sim_append h x.name x.b; exact ⟨this.1, rfl, this.2⟩
  split
  · have := sim_sync h x.name; exact ⟨this.1, rfl, this.2⟩
  split
  · have := sim_cut h x.name x.n; exact ⟨this.1, rfl, this.2⟩
  split
  · have := sim_rename h x.name x.dst; exact ⟨this.1, rfl, this.2⟩
  split
  · have := sim_remove h x.name; exact ⟨this.1, rfl, this.2⟩
  split
  · exact ⟨rfl, rfl, sim_fail h x.n⟩
  split
  · exact ⟨rfl, rfl, sim_crash h⟩
  split
  · exact ⟨rfl, rfl, sim_on h x.keep⟩
  · have := sim_read h x.name
    rw [this]
    exact ⟨rfl, rfl, h⟩
/-- what a call leaves -/
def RDoesP (B : Nat) (w : World) (p : Nat) (q : Int × ByteArray × RDisk) (e : Ending) (w' : World) : Prop :=
  e = .returned (.tuple #[.int .i64 q.1, .string q.2.1]) ∧ RkOut B w w' p q.2.2
theorem RkOut.pre {B p : Nat} {w0 w w' : World} {R : RDisk} (o : RkOut B w w' p R) (hb : Below w0.heap.size w0 w) : RkOut B w0 w' p R := ⟨o.is, (Moved.of_below hb p none).trans o.moved (.inl rfl)⟩
set_option maxRecDepth 100000 in
set_option maxHeartbeats 8000000 in
theorem rdoes_c (w : World) (B p : Nat) (R : RDisk) (h : RkIs w B p R) (hf : RFit R) (hso : SafeR R) (x : CallD) (hk : 0 ≤ x.kind ∧ x.kind ≤ 255)
    (bv : Value) (hbv : BtR w bv x.b) (hbs : x.b.size ≤ 1000000000) (A : Option Addr) (c : Nat) (hr : Rd w 1 A x.keep.length (x.keep.map (Value.int .i64))) (hkp : 0 < x.keep.length → ∀ ad, A = some ad → ad.block ≠ p) (hkl : x.keep.length ≤ 100000000) :
    Calls Try.prog 39 #[.pointer (some ⟨p, 0, none⟩), .agg #[.int .u8 x.kind, .string x.name, .string x.dst, bv, .int .i64 x.n, .slice A x.keep.length c]] w (RDoesP B w p (R.doesC x)) := by
  have hb1 := (Below.refl w.heap.size w).alloc (Nat.le_refl _) (.cells #[.int .u8 x.kind, .string x.name, .string x.dst, bv, .int .i64 x.n, .slice A x.keep.length c] 50)
  have hbk := Blk.new w 50 #[.int .u8 x.kind, .string x.name, .string x.dst, bv, .int .i64 x.n, .slice A x.keep.length c]
  have c0 := hbk.cell 0; have c1 := hbk.cell 1; have c2 := hbk.cell 2; have c3 := hbk.cell 3; have c4 := hbk.cell 4; have c5 := hbk.cell 5
  simp only [List.getElem?_toArray, List.getElem?_cons_zero, List.getElem?_cons_succ] at c0 c1 c2 c3 c4 c5
  obtain ⟨w1, hw1⟩ : ∃ w1, w.alloc (.cells #[.int .u8 x.kind, .string x.name, .string x.dst, bv, .int .i64 x.n, .slice A x.keep.length c] 50) = w1 := ⟨_, rfl⟩
  rw [hw1] at hb1
  have h1 := h.below hb1
  have hbv1 : BtR w1 bv x.b := hbv.below hb1
  have hr1 := hr.below hb1
  have HPRE := Lib.hid (fun (e : Ending) (w' : World) (E : Int) (t : ByteArray) (R' : RDisk) (hq : R.doesC x = (E, t, R')) (he : e = .returned (.tuple #[.int .i64 E, .string t])) (o : RkOut B w1 w' p R') => show RDoesP B w p (R.doesC x) e w' by rw [hq]; exact ⟨he, o.pre hb1⟩)
  obtain ⟨kd, nm, dst, b, n, kp⟩ := x
  dsimp only at *
  have HW1 := Lib.hid hw1
  have HD := Lib.hid h1; have HBV := Lib.hid hbv1; have HR := Lib.hid hr1; have HF := Lib.hid hf; have HSO := Lib.hid hso; have HKP := Lib.hid hkp
  clear h hbv hr hb1 hbk h1 hbv1 hr1 hf hso hkp hw1
  go_enter Try.func39, Try.ntmps39
  by_cases h0 : kd = 0
  · as_aux_lemma =>
    obtain rfl : kd = 0 := h0
    have HC := Lib.hid (rappend_any w1 B p R HD.out HF.out nm bv b HBV.out hbs)
    have hd : R.doesC ⟨0, nm, dst, b, n, kp⟩ = ((R.append nm b).1, ByteArray.empty, (R.append nm b).2) := by simp [RDisk.doesC]
    have HFIN := Lib.hid (fun e w' he o => HPRE.out e w' _ _ _ hd he o)
    clear hd
    go_wp2_with fail
    rw [HW1.out]
    (with_reducible refine HC.out.mono ?_)
    rintro e w2 ⟨rfl, o⟩
    have HO := Lib.hid o
    clear o
    go_wp2
    go_ret2
    exact HFIN.out _ _ rfl HO.out
  by_cases h1 : kd = 1
  · as_aux_lemma =>
    obtain rfl : kd = 1 := h1
    have HC := Lib.hid (rappend_any w1 B p R HD.out HF.out nm bv b HBV.out hbs)
    have hd : R.doesC ⟨1, nm, dst, b, n, kp⟩ = ((R.append nm b).1, ByteArray.empty, (R.append nm b).2) := by simp [RDisk.doesC]
    have HFIN := Lib.hid (fun e w' he o => HPRE.out e w' _ _ _ hd he o)
    clear hd
    go_wp2_with fail
    rw [HW1.out]
    (with_reducible refine HC.out.mono ?_)
    rintro e w2 ⟨rfl, o⟩
    have HO := Lib.hid o
    clear o
    go_wp2
    go_ret2
    exact HFIN.out _ _ rfl HO.out
  by_cases h2 : kd = 2
  · as_aux_lemma =>
    obtain rfl : kd = 2 := h2
    have HC := Lib.hid (rsync_any w1 B p R HD.out HF.out nm)
    have hd : R.doesC ⟨2, nm, dst, b, n, kp⟩ = ((R.sync nm).1, ByteArray.empty, (R.sync nm).2) := by simp [RDisk.doesC]
    have HFIN := Lib.hid (fun e w' he o => HPRE.out e w' _ _ _ hd he o)
    clear hd
    go_wp2_with fail
    rw [HW1.out]
    (with_reducible refine HC.out.mono ?_)
    rintro e w2 ⟨rfl, o⟩
    have HO := Lib.hid o
    clear o
    go_wp2
    go_ret2
    exact HFIN.out _ _ rfl HO.out
  by_cases h3 : kd = 3
  · as_aux_lemma =>
    obtain rfl : kd = 3 := h3
    have HC := Lib.hid (rcut_any w1 B p R HD.out HF.out nm n)
    have hd : R.doesC ⟨3, nm, dst, b, n, kp⟩ = ((R.cut nm n).1, ByteArray.empty, (R.cut nm n).2) := by simp [RDisk.doesC]
    have HFIN := Lib.hid (fun e w' he o => HPRE.out e w' _ _ _ hd he o)
    clear hd
    go_wp2_with fail
    rw [HW1.out]
    (with_reducible refine HC.out.mono ?_)
    rintro e w2 ⟨rfl, o⟩
    have HO := Lib.hid o
    clear o
    go_wp2
    go_ret2
    exact HFIN.out _ _ rfl HO.out
  by_cases h4 : kd = 4
  · as_aux_lemma =>
    obtain rfl : kd = 4 := h4
    have HC := Lib.hid (rrename_any w1 B p R HD.out HF.out nm dst)
    have hd : R.doesC ⟨4, nm, dst, b, n, kp⟩ = ((R.rename nm dst).1, ByteArray.empty, (R.rename nm dst).2) := by simp [RDisk.doesC]
    have HFIN := Lib.hid (fun e w' he o => HPRE.out e w' _ _ _ hd he o)
    clear hd
    go_wp2_with fail
    rw [HW1.out]
    (with_reducible refine HC.out.mono ?_)
    rintro e w2 ⟨rfl, o⟩
    have HO := Lib.hid o
    clear o
    go_wp2
    go_ret2
    exact HFIN.out _ _ rfl HO.out
  by_cases h5 : kd = 5
  · as_aux_lemma =>
    obtain rfl : kd = 5 := h5
    have HC := Lib.hid (rremove_any w1 B p R HD.out HF.out nm)
    have hd : R.doesC ⟨5, nm, dst, b, n, kp⟩ = ((R.remove nm).1, ByteArray.empty, (R.remove nm).2) := by simp [RDisk.doesC]
    have HFIN := Lib.hid (fun e w' he o => HPRE.out e w' _ _ _ hd he o)
    clear hd
    go_wp2_with fail
    rw [HW1.out]
    (with_reducible refine HC.out.mono ?_)
    rintro e w2 ⟨rfl, o⟩
    have HO := Lib.hid o
    clear o
    go_wp2
    go_ret2
    exact HFIN.out _ _ rfl HO.out
  by_cases h6 : kd = 6
  · as_aux_lemma =>
    obtain rfl : kd = 6 := h6
    have HC := Lib.hid (rfail_any w1 B p R HD.out n)
    have hd : R.doesC ⟨6, nm, dst, b, n, kp⟩ = (0, ByteArray.empty, { R with left := max (-1) n }) := by simp [RDisk.doesC]
    have HFIN := Lib.hid (fun e w' he o => HPRE.out e w' _ _ _ hd he o)
    clear hd
    go_wp2_with fail
    rw [HW1.out]
    (with_reducible refine HC.out.mono ?_)
    rintro e w2 ⟨rfl, o⟩
    have HO := Lib.hid o
    clear o
    go_wp2
    go_ret2
    exact HFIN.out _ _ rfl HO.out
  by_cases h7 : kd = 7
  · as_aux_lemma =>
    obtain rfl : kd = 7 := h7
    have HC := Lib.hid (rcrash_any w1 B p R HD.out)
    have hd : R.doesC ⟨7, nm, dst, b, n, kp⟩ = (0, ByteArray.empty, { R with gone := true, left := -1 }) := by simp [RDisk.doesC]
    have HFIN := Lib.hid (fun e w' he o => HPRE.out e w' _ _ _ hd he o)
    clear hd
    go_wp2_with fail
    rw [HW1.out]
    (with_reducible refine HC.out.mono ?_)
    rintro e w2 ⟨rfl, o⟩
    have HO := Lib.hid o
    clear o
    go_wp2
    go_ret2
    exact HFIN.out _ _ rfl HO.out
  by_cases h8 : kd = 8
  · as_aux_lemma =>
    obtain rfl : kd = 8 := h8
    have HC := Lib.hid (ron_any w1 B p R HD.out HF.out HSO.out A c kp HR.out HKP.out hkl)
    have hd : R.doesC ⟨8, nm, dst, b, n, kp⟩ = (0, ByteArray.empty, R.on kp) := by simp [RDisk.doesC]
    have HFIN := Lib.hid (fun e w' he o => HPRE.out e w' _ _ _ hd he o)
    clear hd
    go_wp2_with fail
    rw [HW1.out]
    (with_reducible refine HC.out.mono ?_)
    rintro e w2 ⟨rfl, o⟩
    have HO := Lib.hid o
    clear o
    go_wp2
    go_ret2
    exact HFIN.out _ _ rfl HO.out
  have b0 : (kd == 0) = false := by simpa using h0
  have b1 : (kd == 1) = false := by simpa using h1
  have b2 : (kd == 2) = false := by simpa using h2
  have b3 : (kd == 3) = false := by simpa using h3
  have b4 : (kd == 4) = false := by simpa using h4
  have b5 : (kd == 5) = false := by simpa using h5
  have b6 : (kd == 6) = false := by simpa using h6
  have b7 : (kd == 7) = false := by simpa using h7
  have b8 : (kd == 8) = false := by simpa using h8
  have hd : R.doesC ⟨kd, nm, dst, b, n, kp⟩ = ((R.read nm).1, (R.read nm).2, R) := by simp [RDisk.doesC, h0, h1, h2, h3, h4, h5, h6, h7, h8]
  have HC := Lib.hid (rread_any w1 B p R HD.out HF.out nm)
  have HFIN := Lib.hid (fun e w' he o => HPRE.out e w' _ _ _ hd he o)
  obtain ⟨E, hE⟩ : ∃ E, (R.read nm).1 = E := ⟨_, rfl⟩
  obtain ⟨t, ht⟩ : ∃ t, (R.read nm).2 = t := ⟨_, rfl⟩
  rw [hE, ht] at HC HFIN
  clear hd h0 h1 h2 h3 h4 h5 h6 h7 h8 hE ht
  go_wp2_with fail
  rw [HW1.out]
  (with_reducible refine HC.out.mono ?_)
  rintro e w2 ⟨bv2, rfl, hbt, rfl⟩
  have hcv := fun k => (show Bt (w1.drewN k) bv2 t from hbt).conv
  have HO := Lib.hid (fun k => (show RkOut B w1 (w1.drewN k) p R from (RkOut.same HD.out).below ⟨rfl, rfl, rfl, Nat.le_refl _, fun _ _ => rfl⟩))
  clear hbt
  go_wp2_with fail
  go_quiet (fail)
  go_wp2
  go_ret2
  exact HFIN.out _ _ rfl (HO.out _)
end Go.Proofs.Ytcfcfpphhaknnaa
