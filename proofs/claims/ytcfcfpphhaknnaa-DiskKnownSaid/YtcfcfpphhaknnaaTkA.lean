/- Chapter 16's Call, and what it does to the program's disk. -/
import Derived.Test.YtcfcfpphhaknnaaRkL
import Derived.Test.YtcfcfpphhaknnaaDiskWk
import Derived.Test.YtcfcfpphhaknnaaDiskCut
namespace Go.Proofs.Ytcfcfpphhaknnaa
open Go.RowKit Go.Maps

/-- a call of a disk -/
structure CallD where
  kind : Int
  name : ByteArray
  dst : ByteArray
  b : ByteArray
  n : Int
  keep : List Int
/-- its answer, what was read, the disk behind it -/
def DiskD.doesC (D : DiskD) (x : CallD) : Int × ByteArray × DiskD :=
  if x.kind = 0 ∨ x.kind = 1 then ((D.append x.name x.b).1, ByteArray.empty, (D.append x.name x.b).2)
  else if x.kind = 2 then ((D.step 0 x.name x.name 0 true).1, ByteArray.empty, (D.step 0 x.name x.name 0 true).2)
  else if x.kind = 3 then ((D.step 1 x.name x.name x.n false).1, ByteArray.empty, (D.step 1 x.name x.name x.n false).2)
  else if x.kind = 4 then ((D.step 2 x.name x.dst 0 true).1, ByteArray.empty, (D.step 2 x.name x.dst 0 true).2)
  else if x.kind = 5 then ((D.step 3 x.name x.name 0 true).1, ByteArray.empty, (D.step 3 x.name x.name 0 true).2)
  else if x.kind = 6 then (0, ByteArray.empty, { D with left := max (-1) x.n })
  else if x.kind = 7 then (0, ByteArray.empty, { D with off := true, left := -1 })
  else if x.kind = 8 then (0, ByteArray.empty, D.on x.keep)
  else ((D.read x.name).1, (D.read x.name).2, D)
theorem out_below [Forb] {B p : Nat} {w w' : World} {v : Value} {D : DiskD} (h : DiskIs w B p v D) (hb : Below w.heap.size w w') (hB : B ≤ w.heap.size) : Out B w w' p v D v :=
  ⟨h.below hb (Nat.le_refl _), hb.mono hB, fun _ _ k => k.below hb, fun g _ _ _ _ _ hh => hb.block g (Array.getElem?_eq_some_iff.1 hh).1, fun _ _ _ _ k ha => ⟨k.below hb (Nat.le_refl _), ha⟩⟩
theorem Out.pre [Forb] {B p : Nat} {w0 w w' : World} {v v1 : Value} {D : DiskD} (o : Out B w w' p v D v1) (hb : Below w0.heap.size w0 w) (hB : B ≤ w0.heap.size) : Out B w0 w' p v D v1 :=
  ⟨o.is, (hb.mono hB).trans o.below, fun x s k => o.bt x s (k.below hb), fun g cs t fz h1 h2 hh => (o.blk g cs t fz h1 h2 ((hb.block g (Array.getElem?_eq_some_iff.1 hh).1).trans hh)).trans (hb.block g (Array.getElem?_eq_some_iff.1 hh).1), fun B' p' v' D2 k ha => o.other B' p' v' D2 (k.below hb (Nat.le_refl _)) ha⟩
set_option maxHeartbeats 1000000 in
theorem failD_any [Forb] (w : World) (base p : Nat) (v : Value) (D : DiskD) (h : DiskIs w base p v D) (z : Int) :
    Calls Try.prog 21 #[.pointer (some ⟨p, 0, none⟩), .int .i64 z] w fun e w' => e = .returned (.tuple #[]) ∧ DiskIs w' base p v { D with left := max (-1) z } ∧ Moved w w' p none := by
  have hb := h.blk
  have c3 := hb.cell 3
  simp only [List.getElem?_toArray, List.getElem?_cons_zero, List.getElem?_cons_succ] at c3
  have f3 := hb.frozen 3
  have hm := Moved.set_ w p 3 none (.int .i64 (max (-1) z))
  have hk := hb.set_ 3 (.int .i64 (max (-1) z))
  have hD := h.set_ (D' := { D with left := max (-1) z }) hm hk rfl
  have HD := Lib.hid hD; have HM := Lib.hid hm
  clear hD hm hk h hb
  go_enter Try.func21, Try.ntmps21
  go_wp2
  go_end0
  exact ⟨rfl, HD.out, HM.out⟩
theorem failD_c [Forb] {w : World} {B p : Nat} {v : Value} {D D' : DiskD} (h : DiskIs w B p v D) (hB : B ≤ w.heap.size) (z : Int) (hE : { D with left := max (-1) z } = D') :
    Calls Try.prog 21 #[.pointer (some ⟨p, 0, none⟩), .int .i64 z] w fun e w' => e = .returned (.tuple #[]) ∧ ∃ v1, Out B w w' p v D' v1 :=
  (failD_any w B p v D h z).mono fun e w' ⟨he, hd, hm⟩ => by
    rw [hE] at hd
    exact ⟨he, Leaves.out h hB ⟨v, hd, ⟨hm.os, hm.tape, hm.output, hm.size, fun k hk hkp _ => hm.block k hk hkp (by simp)⟩, own_new (.inl rfl)⟩⟩
set_option maxHeartbeats 1000000 in
theorem offD_any [Forb] (w : World) (B p : Nat) (v : Value) (D : DiskD) (h : DiskIs w B p v D) :
    Calls Try.prog 22 #[.pointer (some ⟨p, 0, none⟩)] w fun e w' => e = .returned (.bool D.off) ∧ w' = w := by
  have c4 := h.blk.cell 4
  simp only [List.getElem?_toArray, List.getElem?_cons_zero, List.getElem?_cons_succ] at c4
  clear h
  go_enter Try.func22, Try.ntmps22
  go_wp2
  go_ret
  exact ⟨rfl, rfl⟩
/-- what a call leaves -/
def DoesP [Forb] (B : Nat) (w : World) (p : Nat) (v : Value) (q : Int × ByteArray × DiskD) (e : Ending) (w' : World) : Prop :=
  e = .returned (.tuple #[.int .i64 q.1, .string q.2.1]) ∧ ∃ v1, Out B w w' p v q.2.2 v1
set_option maxRecDepth 100000 in
set_option maxHeartbeats 8000000 in
theorem does_c [Forb] (w : World) (B p : Nat) (v : Value) (D : DiskD) (h : DiskIs w B p v D) (hB : B ≤ w.heap.size) (ht : Forb.top ≤ w.heap.size) (hf : Fit D) (hu : D.used ≤ 1000000000000) (hso : ∀ f ∈ D.files, SafeOk f) (x : CallD) (hk : 0 ≤ x.kind ∧ x.kind ≤ 255)
    (bv : Value) (hbv : BtR w bv x.b) (hbs : x.b.size ≤ 1000000000) (A : Option Addr) (c : Nat) (hr : Rd w 1 A x.keep.length (x.keep.map (Value.int .i64))) (hkp : 0 < x.keep.length → ∀ ad, A = some ad → ad.block ≠ p) (hkl : x.keep.length ≤ 100000000) :
    Calls Try.prog 36 #[.pointer (some ⟨p, 0, none⟩), .agg #[.int .u8 x.kind, .string x.name, .string x.dst, bv, .int .i64 x.n, .slice A x.keep.length c]] w (DoesP B w p v (D.doesC x)) := by
  have hb1 := (Below.refl w.heap.size w).alloc (Nat.le_refl _) (.cells #[.int .u8 x.kind, .string x.name, .string x.dst, bv, .int .i64 x.n, .slice A x.keep.length c] 50)
  have hbk := Blk.new w 50 #[.int .u8 x.kind, .string x.name, .string x.dst, bv, .int .i64 x.n, .slice A x.keep.length c]
  have c0 := hbk.cell 0; have c1 := hbk.cell 1; have c2 := hbk.cell 2; have c3 := hbk.cell 3; have c4 := hbk.cell 4; have c5 := hbk.cell 5
  simp only [List.getElem?_toArray, List.getElem?_cons_zero, List.getElem?_cons_succ] at c0 c1 c2 c3 c4 c5
  obtain ⟨w1, hw1⟩ : ∃ w1, w.alloc (.cells #[.int .u8 x.kind, .string x.name, .string x.dst, bv, .int .i64 x.n, .slice A x.keep.length c] 50) = w1 := ⟨_, rfl⟩
  rw [hw1] at hb1
  have h1 := h.below hb1 (Nat.le_refl _)
  have hB1 : B ≤ w1.heap.size := Nat.le_trans hB hb1.size
  have ht1 : Forb.top ≤ w1.heap.size := Nat.le_trans ht hb1.size
  have hbv1 : BtR w1 bv x.b := hbv.below hb1
  have hr1 := hr.below hb1
  have HPRE := Lib.hid (fun (e : Ending) (w' : World) (E : Int) (t : ByteArray) (D' : DiskD) (hq : D.doesC x = (E, t, D')) (he : e = .returned (.tuple #[.int .i64 E, .string t])) (v1 : Value) (o : Out B w1 w' p v D' v1) => show DoesP B w p v (D.doesC x) e w' by rw [hq]; exact ⟨he, v1, o.pre hb1 hB⟩)
  obtain ⟨kd, nm, dst, b, n, kp⟩ := x
  dsimp only at *
  have HW1 := Lib.hid hw1
  have HD := Lib.hid h1; have HBV := Lib.hid hbv1; have HR := Lib.hid hr1; have HF := Lib.hid hf; have HSO := Lib.hid hso; have HKP := Lib.hid hkp
  clear h hbv hr hb1 hbk h1 hbv1 hr1 hf hso hkp hw1
  go_enter Try.func36, Try.ntmps36
  by_cases h0 : kd = 0
  · as_aux_lemma =>
    obtain rfl : kd = 0 := h0
    have HC := Lib.hid (d_appendF HD.out hB1 ht1 HF.out hu HBV.out hbs (E := (D.append nm b).1) (D' := (D.append nm b).2) rfl)
    have hd : D.doesC ⟨0, nm, dst, b, n, kp⟩ = ((D.append nm b).1, ByteArray.empty, (D.append nm b).2) := by simp [DiskD.doesC]
    have HFIN := Lib.hid (fun e w' he v1 o => HPRE.out e w' _ _ _ hd he v1 o)
    clear hd
    go_wp2_with fail
    rw [HW1.out]
    (with_reducible refine HC.out.mono ?_)
    rintro e w2 ⟨rfl, v1, o⟩
    have HO := Lib.hid o
    clear o
    go_wp2
    go_ret2
    exact HFIN.out _ _ rfl v1 HO.out
  by_cases h1 : kd = 1
  · as_aux_lemma =>
    obtain rfl : kd = 1 := h1
    have HC := Lib.hid (d_appendF HD.out hB1 ht1 HF.out hu HBV.out hbs (E := (D.append nm b).1) (D' := (D.append nm b).2) rfl)
    have hd : D.doesC ⟨1, nm, dst, b, n, kp⟩ = ((D.append nm b).1, ByteArray.empty, (D.append nm b).2) := by simp [DiskD.doesC]
    have HFIN := Lib.hid (fun e w' he v1 o => HPRE.out e w' _ _ _ hd he v1 o)
    clear hd
    go_wp2_with fail
    rw [HW1.out]
    (with_reducible refine HC.out.mono ?_)
    rintro e w2 ⟨rfl, v1, o⟩
    have HO := Lib.hid o
    clear o
    go_wp2
    go_ret2
    exact HFIN.out _ _ rfl v1 HO.out
  by_cases h2 : kd = 2
  · as_aux_lemma =>
    obtain rfl : kd = 2 := h2
    have HC := Lib.hid (d_sync HD.out hB1 HF.out (name := nm) (E := (D.step 0 nm nm 0 true).1) (D' := (D.step 0 nm nm 0 true).2) rfl)
    have hd : D.doesC ⟨2, nm, dst, b, n, kp⟩ = ((D.step 0 nm nm 0 true).1, ByteArray.empty, (D.step 0 nm nm 0 true).2) := by simp [DiskD.doesC]
    have HFIN := Lib.hid (fun e w' he v1 o => HPRE.out e w' _ _ _ hd he v1 o)
    clear hd
    go_wp2_with fail
    rw [HW1.out]
    (with_reducible refine HC.out.mono ?_)
    rintro e w2 ⟨rfl, v1, o⟩
    have HO := Lib.hid o
    clear o
    go_wp2
    go_ret2
    exact HFIN.out _ _ rfl v1 HO.out
  by_cases h3 : kd = 3
  · as_aux_lemma =>
    obtain rfl : kd = 3 := h3
    have HC := Lib.hid (d_cut HD.out hB1 HF.out (name := nm) (n := n) (E := (D.step 1 nm nm n false).1) (D' := (D.step 1 nm nm n false).2) rfl)
    have hd : D.doesC ⟨3, nm, dst, b, n, kp⟩ = ((D.step 1 nm nm n false).1, ByteArray.empty, (D.step 1 nm nm n false).2) := by simp [DiskD.doesC]
    have HFIN := Lib.hid (fun e w' he v1 o => HPRE.out e w' _ _ _ hd he v1 o)
    clear hd
    go_wp2_with fail
    rw [HW1.out]
    (with_reducible refine HC.out.mono ?_)
    rintro e w2 ⟨rfl, v1, o⟩
    have HO := Lib.hid o
    clear o
    go_wp2
    go_ret2
    exact HFIN.out _ _ rfl v1 HO.out
  by_cases h4 : kd = 4
  · as_aux_lemma =>
    obtain rfl : kd = 4 := h4
    have HC := Lib.hid (d_rename HD.out hB1 HF.out (name := nm) (dst := dst) (E := (D.step 2 nm dst 0 true).1) (D' := (D.step 2 nm dst 0 true).2) rfl)
    have hd : D.doesC ⟨4, nm, dst, b, n, kp⟩ = ((D.step 2 nm dst 0 true).1, ByteArray.empty, (D.step 2 nm dst 0 true).2) := by simp [DiskD.doesC]
    have HFIN := Lib.hid (fun e w' he v1 o => HPRE.out e w' _ _ _ hd he v1 o)
    clear hd
    go_wp2_with fail
    rw [HW1.out]
    (with_reducible refine HC.out.mono ?_)
    rintro e w2 ⟨rfl, v1, o⟩
    have HO := Lib.hid o
    clear o
    go_wp2
    go_ret2
    exact HFIN.out _ _ rfl v1 HO.out
  by_cases h5 : kd = 5
  · as_aux_lemma =>
    obtain rfl : kd = 5 := h5
    have HC := Lib.hid (d_remove HD.out hB1 HF.out (name := nm) (E := (D.step 3 nm nm 0 true).1) (D' := (D.step 3 nm nm 0 true).2) rfl)
    have hd : D.doesC ⟨5, nm, dst, b, n, kp⟩ = ((D.step 3 nm nm 0 true).1, ByteArray.empty, (D.step 3 nm nm 0 true).2) := by simp [DiskD.doesC]
    have HFIN := Lib.hid (fun e w' he v1 o => HPRE.out e w' _ _ _ hd he v1 o)
    clear hd
    go_wp2_with fail
    rw [HW1.out]
    (with_reducible refine HC.out.mono ?_)
    rintro e w2 ⟨rfl, v1, o⟩
    have HO := Lib.hid o
    clear o
    go_wp2
    go_ret2
    exact HFIN.out _ _ rfl v1 HO.out
  by_cases h6 : kd = 6
  · as_aux_lemma =>
    obtain rfl : kd = 6 := h6
    have HC := Lib.hid (failD_c HD.out hB1 n (D' := { D with left := max (-1) n }) rfl)
    have hd : D.doesC ⟨6, nm, dst, b, n, kp⟩ = (0, ByteArray.empty, { D with left := max (-1) n }) := by simp [DiskD.doesC]
    have HFIN := Lib.hid (fun e w' he v1 o => HPRE.out e w' _ _ _ hd he v1 o)
    clear hd
    go_wp2_with fail
    rw [HW1.out]
    (with_reducible refine HC.out.mono ?_)
    rintro e w2 ⟨rfl, v1, o⟩
    have HO := Lib.hid o
    clear o
    go_wp2
    go_ret2
    exact HFIN.out _ _ rfl v1 HO.out
  by_cases h7 : kd = 7
  · as_aux_lemma =>
    obtain rfl : kd = 7 := h7
    have HC := Lib.hid (d_crash HD.out hB1 (D' := { D with off := true, left := -1 }) rfl)
    have hd : D.doesC ⟨7, nm, dst, b, n, kp⟩ = (0, ByteArray.empty, { D with off := true, left := -1 }) := by simp [DiskD.doesC]
    have HFIN := Lib.hid (fun e w' he v1 o => HPRE.out e w' _ _ _ hd he v1 o)
    clear hd
    go_wp2_with fail
    rw [HW1.out]
    (with_reducible refine HC.out.mono ?_)
    rintro e w2 ⟨rfl, v1, o⟩
    have HO := Lib.hid o
    clear o
    go_wp2
    go_ret2
    exact HFIN.out _ _ rfl v1 HO.out
  by_cases h8 : kd = 8
  · as_aux_lemma =>
    obtain rfl : kd = 8 := h8
    have HC := Lib.hid (d_on0 HD.out hB1 HF.out HSO.out (c := c) HR.out HKP.out hkl (D' := D.on kp) rfl)
    have hd : D.doesC ⟨8, nm, dst, b, n, kp⟩ = (0, ByteArray.empty, D.on kp) := by simp [DiskD.doesC]
    have HFIN := Lib.hid (fun e w' he v1 o => HPRE.out e w' _ _ _ hd he v1 o)
    clear hd
    go_wp2_with fail
    rw [HW1.out]
    (with_reducible refine HC.out.mono ?_)
    rintro e w2 ⟨rfl, v1, o⟩
    have HO := Lib.hid o
    clear o
    go_wp2
    go_ret2
    exact HFIN.out _ _ rfl v1 HO.out
  have b0 : (kd == 0) = false := by simpa using h0
  have b1 : (kd == 1) = false := by simpa using h1
  have b2 : (kd == 2) = false := by simpa using h2
  have b3 : (kd == 3) = false := by simpa using h3
  have b4 : (kd == 4) = false := by simpa using h4
  have b5 : (kd == 5) = false := by simpa using h5
  have b6 : (kd == 6) = false := by simpa using h6
  have b7 : (kd == 7) = false := by simpa using h7
  have b8 : (kd == 8) = false := by simpa using h8
  have hd : D.doesC ⟨kd, nm, dst, b, n, kp⟩ = ((D.read nm).1, (D.read nm).2, D) := by simp [DiskD.doesC, h0, h1, h2, h3, h4, h5, h6, h7, h8]
  have HC := Lib.hid (d_read (h := HD.out) HF.out (name := nm) (E := (D.read nm).1) (b := (D.read nm).2) rfl)
  have HFIN := Lib.hid (fun e w' he v1 o => HPRE.out e w' _ _ _ hd he v1 o)
  obtain ⟨E, hE⟩ : ∃ E, (D.read nm).1 = E := ⟨_, rfl⟩
  obtain ⟨t, ht⟩ : ∃ t, (D.read nm).2 = t := ⟨_, rfl⟩
  rw [hE, ht] at HC HFIN
  clear hd h0 h1 h2 h3 h4 h5 h6 h7 h8 hE ht
  go_wp2_with fail
  rw [HW1.out]
  (with_reducible refine HC.out.mono ?_)
  rintro e w2 ⟨bv2, rfl, hbt, hb2⟩
  have hcv := fun k => (show Bt (w2.drewN k) bv2 t from hbt).conv
  have HO := Lib.hid (fun k => (show Out B w1 (w2.drewN k) p v D v from out_below HD.out ⟨hb2.os, hb2.tape, hb2.output, hb2.size, hb2.block⟩ hB1))
  clear hbt hb2
  go_wp2_with fail
  go_quiet (fail)
  go_wp2
  go_ret2
  exact HFIN.out _ _ rfl v (HO.out _)
end Go.Proofs.Ytcfcfpphhaknnaa
