/- CkptPlays: a call upon both stores (does); what was handed in, and what was answered, is written over. -/
import Derived.Test.YthmcimpdehgaoaaGreatDoorPk36
import Derived.Deep.DeepCutAuto
import Derived.OrdersHeld
namespace Go.Proofs.YthmcimpdehgaoaaGreatDoor
open Go.RowKit Go.Maps

theorem wrap_u8W (z : Int) : 0 ≤ IntKind.u8.wrap (z + 1) ∧ IntKind.u8.wrap (z + 1) ≤ 255 := by
  have h : IntKind.u8.wrap (z + 1) = (z + 1) % 256 := by simp [IntKind.wrap, IntKind.bits, IntKind.signed]
  rw [h]
  omega
noncomputable def doesC (D : DiskD) (x : CallC) : DiskD := if x.kind % 10 = 4 then (dropC D x.step).2 else if x.kind % 10 = 5 then D else (writeC D x.step x.b).2
noncomputable def doesRC (R : RDisk) (x : CallC) : RDisk := if x.kind % 10 = 4 then (dropRC R x.step).2 else if x.kind % 10 = 5 then R else (writeRC R x.step x.b).2
theorem sim_doesC {D : DiskD} {R : RDisk} (h : Sim D R) (x : CallC) : Sim (doesC D x) (doesRC R x) := by
  unfold doesC doesRC
  split
  · exact (sim_dropC h x.step).2
  split
  · exact h
  · exact (sim_writeC h x.step x.b).2
/-- amid a write: the row that was handed in may be written over -/
structure DzW (w wx : World) (p q gs gr gX g n : Nat) (v : Value) (D : DiskD) (R : RDisk) (cs : Array Value) : Prop where
  is : @DiskIs (Forb.at g) wx w.heap.size p v D
  rk : @RkIs (Forb.at g) wx w.heap.size q R
  below : Below w.heap.size w wx
  st : CkSt wx gs p
  rt : RcSt wx gr q
  x : Blk wx gX 36 cs
  b : BytesN wx g n
  gg : w.heap.size ≤ g
section
variable {w wx w2 : World} {p q gs gr gX g n : Nat} {v v2 : Value} {D D2 : DiskD} {R R2 : RDisk} {cs : Array Value} (a : DzW w wx p q gs gr gX g n v D R cs)
include a
theorem DzW.out (o : @Out (Forb.at g) w.heap.size wx w2 p v D2 v2) : DzW w w2 p q gs gr gX g n v2 D2 R cs := by
  have hrk := @Out.rk _ _ _ _ _ (Forb.at g) _ _ _ _ _ o (by obtain ⟨_, o2, _, _, _⟩ := o; exact o2.size) a.rk
  obtain ⟨o1, o2, o3, o4, _⟩ := o
  exact ⟨o1, hrk, a.below.trans o2, (o4 gs _ _ _ (by decide) (by decide) a.st).trans a.st, (o4 gr _ _ _ (by decide) (by decide) a.rt).trans a.rt, (o4 gX _ _ _ (by decide) (by decide) a.x).trans a.x, a.b.keep fun _ _ hh => o4 g _ _ _ (by decide) (by decide) hh, a.gg⟩
theorem DzW.rout (o : @RkOut (Forb.at g) w.heap.size wx w2 q R2) : DzW w w2 p q gs gr gX g n v D R2 cs := by
  have hdk := @RkOut.disk _ _ _ _ _ _ (Forb.at g) o a.rk _ _ _ _ a.is
  have hkb := @RkOut.keep_blk _ _ _ _ _ _ (Forb.at g) o a.rk
  have hkf := @RkOut.keepF _ _ _ _ _ _ (Forb.at g) o a.rk
  have hbb := @RkOut.belowB _ _ _ _ _ (Forb.at g) o a.below.size
  obtain ⟨o1, o2⟩ := o
  exact ⟨hdk, o1, a.below.trans hbb, hkb a.st (by decide), hkb a.rt (by decide), hkb a.x (by decide), a.b.keep fun _ _ hh => hkf.2 g _ _ _ (.inr rfl) hh, a.gg⟩
theorem DzW.below_ (hb : Below wx.heap.size wx w2) : DzW w w2 p q gs gr gX g n v D R cs :=
  ⟨@DiskIs.below (Forb.at g) _ _ _ _ _ _ _ a.is hb (Nat.le_refl _), @RkIs.below _ _ _ _ _ (Forb.at g) a.rk hb, a.below.trans (hb.mono a.below.size), a.st.below hb, a.rt.below hb, a.x.below hb a.x.lt, a.b.below hb, a.gg⟩
theorem DzW.put {z : Int} {k : Nat} (h0 : 0 ≤ z) (h1 : z ≤ 255) : DzW w (wx.setCell ⟨g, k, none⟩ (.int .u8 z)) p q gs gr gX g n v D R cs := by
  obtain ⟨C, fz, e1⟩ := a.b.u8
  have hne : ∀ (i : Nat) (t : TypeId) (c : Array Value), Blk wx i t c → t ≠ 5 → Blk (wx.setCell ⟨g, k, none⟩ (.int .u8 z)) i t c := fun i t c h ht =>
    (Below.heap_setCell wx ⟨g, k, none⟩ _ i (fun e => by have e : i = g := e; subst e; exact blk_type h e1 ht)).trans h
  exact ⟨DiskIs.wr a.is rfl ⟨C, _, e1⟩, RkIs.wr a.rk rfl ⟨C, _, e1⟩, a.below.setCell (p := ⟨g, k, none⟩) a.gg _, hne gs _ _ a.st (by decide), hne gr _ _ a.rt (by decide), hne gX _ _ a.x (by decide), a.b.set_ h0 h1, a.gg⟩
theorem DzW.done : PlC w wx p q v D R 0 (.pointer (some ⟨gs, 0, none⟩)) (.pointer (some ⟨gr, 0, none⟩)) :=
  ⟨DiskIs.ofF a.is, RkIs.ofF a.rk, a.below, .inr ⟨rfl, gs, gr, rfl, rfl, a.st, a.rt⟩⟩
end
theorem own_small {w : World} {base n k : Nat} {t : TypeId} {v : Value} {xs : List Value} (h : w.ownsRow base t k v n xs) : n ≤ 9223372036854775807 := by
  rcases h.2 with ⟨_, h0⟩ | ⟨g, cap, cur, _, _, _, hn, hm, _⟩
  · omega
  · unfold maxLen at hm; omega
/-- bytes that may be written over, or none -/
def BytesO (B : Nat) (w : World) (A : Option Addr) (n : Nat) : Prop := 0 < n → ∃ g, A = some ⟨g, 0, none⟩ ∧ B ≤ g ∧ BytesN w g n
theorem BytesO.below {B : Nat} {w w2 : World} {A : Option Addr} {n : Nat} (h : BytesO B w A n) (hb : Below w.heap.size w w2) : BytesO B w2 A n := fun h0 => by
  obtain ⟨g, h1, h2, h3⟩ := h h0
  exact ⟨g, h1, h2, h3.below hb⟩
theorem BytesO.of_own {w : World} {base : Nat} {v : Value} {b : ByteArray} (h : w.ownsRow base 5 1 v b.size (ucells b)) : ∃ A c, v = .slice A b.size c ∧ BytesO base w A b.size := by
  rcases BytesN.of_own h with ⟨h1, h2⟩ | ⟨g, c, h1, h2, h3, h4⟩
  · exact ⟨none, 0, by rw [h1, h2], fun h0 => by omega⟩
  · exact ⟨_, c, h1, fun _ => ⟨g, rfl, h2, h4⟩⟩
section
variable {w wr : World} {p q gs gr : Nat} {v : Value} {D : DiskD} {R : RDisk} (a : PlC w wr p q v D R 0 (.pointer (some ⟨gs, 0, none⟩)) (.pointer (some ⟨gr, 0, none⟩)))
include a
theorem PlC.ptrs : CkSt wr gs p ∧ RcSt wr gr q := by
  rcases a.sto with ⟨h, _⟩ | ⟨_, g1, g2, h1, h2, h3, h4⟩
  · exact absurd rfl h
  · injection h1 with h1
    injection h1 with h1
    injection h1 with h1
    injection h2 with h2
    injection h2 with h2
    injection h2 with h2
    subst h1 h2
    exact ⟨h3, h4⟩
theorem pc_drop (hf : FitN D ((allC D).length + 1)) (hnm : ∀ f ∈ D.files, f.name.size ≤ 1000) (hal : (allC D).length ≤ 100000000) (hT : Tb w.heap.size w) (hV : Ev w.heap.size w) (step : Int) :
    Calls Tryz.prog 13 #[.pointer (some ⟨gs, 0, none⟩), .int .i64 step] wr fun e w' => e = .returned (.int .i64 (dropC D step).1) ∧ ∃ v', PlC w w' p q v' (dropC D step).2 R 0 (.pointer (some ⟨gs, 0, none⟩)) (.pointer (some ⟨gr, 0, none⟩)) ∧ KpX wr w' :=
  (cdrop_any wr w.heap.size p gs v D a.is a.hB a.ptrs.1 hf hnm (hT.on a.below) (hV.at_ a.below) step hal).mono fun _ _ ⟨he, v1, o, _⟩ => ⟨he, v1, a.out o, o.kpX⟩
theorem pc_rdrop {D0 : DiskD} (hsim : Sim D0 R) (hf : FitN D0 ((allRC R).length + 5)) (step : Int) :
    Calls Tryz.prog 75 #[.pointer (some ⟨gr, 0, none⟩), .int .i64 step] wr fun e w' => e = .returned (.int .i64 (dropRC R step).1) ∧ PlC w w' p q v D (dropRC R step).2 0 (.pointer (some ⟨gs, 0, none⟩)) (.pointer (some ⟨gr, 0, none⟩)) ∧ KpX wr w' :=
  (rcdrop_any wr w.heap.size q gr D0 R a.rk a.ptrs.2 hsim hf step).mono fun _ _ ⟨he, o, _⟩ => ⟨he, a.rout o, o.kpX a.rk⟩
/-- the bytes that are handed in are laid out -/
theorem PlC.start {gX : Nat} {C cs : Array Value} {n : Nat} (hx : Blk wr gX 36 cs) (hC : BytesW (wr.alloc (.cells C 5 (C.size, C.size + 1))).drew wr.heap.size n) :
    DzW w (wr.alloc (.cells C 5 (C.size, C.size + 1))).drew p q gs gr gX wr.heap.size n v D R cs := by
  have hb : Below wr.heap.size wr (wr.alloc (.cells C 5 (C.size, C.size + 1))).drew := ((Below.refl _ _).alloc (Nat.le_refl _) _).drew
  have hF : @DiskIs (Forb.at wr.heap.size) wr w.heap.size p v D := DiskIs.toF a.is fun k hk => by have hk : k = wr.heap.size := hk; omega
  have hR : @RkIs (Forb.at wr.heap.size) wr w.heap.size q R := RkIs.toF a.rk fun k hk => by have hk : k = wr.heap.size := hk; omega
  exact ⟨@DiskIs.below (Forb.at wr.heap.size) _ _ _ _ _ _ _ hF hb (Nat.le_refl _), @RkIs.below _ _ _ _ _ (Forb.at wr.heap.size) hR hb, a.below.trans (hb.mono a.hB), a.ptrs.1.below hb, a.ptrs.2.below hb, hx.below hb hx.lt, hC.toN, a.hB⟩
end
section
variable {w wx : World} {p q gs gr gX g n : Nat} {v : Value} {D : DiskD} {R : RDisk} {cs : Array Value} (a : DzW w wx p q gs gr gX g n v D R cs)
include a
theorem dz_write (hf : FitN D 50000) (hT : Tb w.heap.size w) (step : Int) {bv : Value} {b : ByteArray} (hb : Bt wx bv b) {E : Int} {D1 : DiskD} (hq : writeC D step b = (E, D1)) :
    Calls Tryz.prog 12 #[.pointer (some ⟨gs, 0, none⟩), .int .i64 step, bv] wx fun e w' => e = .returned (.int .i64 E) ∧ ∃ v', DzW w w' p q gs gr gX g n v' D1 R cs ∧ (∀ y s, Bt wx y s → Bt w' y s) := by
  refine (@cwrite_any (Forb.at g) wx w.heap.size p gs v D a.is a.below.size a.st a.b.lt hf step bv b (BtX.of_bt hb) (hT.on a.below)).mono fun e w' hP => ?_
  rw [hq] at hP
  obtain ⟨he, v1, o, _⟩ := hP
  exact ⟨he, v1, a.out o, by obtain ⟨_, _, o3, _, _⟩ := o; exact o3⟩
theorem dz_rwrite {D0 : DiskD} (hsim : Sim D0 R) (hf : FitN D0 200) (step : Int) {b : ByteArray} (hb : b.size ≤ 9900) {E : Int} {R1 : RDisk} (hq : writeRC R step b = (E, R1)) :
    Calls Tryz.prog 77 #[.pointer (some ⟨gr, 0, none⟩), .int .i64 step, .string b] wx fun e w' => e = .returned (.int .i64 E) ∧ DzW w w' p q gs gr gX g n v D R1 cs ∧ (∀ y s, Bt wx y s → Bt w' y s) := by
  refine (@rcwrite_any (Forb.at g) wx w.heap.size q gr D0 R a.rk a.rt hsim hf a.b.lt step b hb).mono fun e w' hP => ?_
  rw [hq] at hP
  obtain ⟨he, o, _⟩ := hP
  exact ⟨he, a.rout o, fun y s hy => @RkOut.bt _ _ _ _ _ _ (Forb.at g) o a.rk _ _ hy⟩
end
set_option maxRecDepth 100000 in
set_option maxHeartbeats 16000000 in
theorem cdoes_any {w wr : World} {p q gs gr : Nat} {v : Value} {D : DiskD} {R : RDisk} (a : PlC w wr p q v D R 0 (.pointer (some ⟨gs, 0, none⟩)) (.pointer (some ⟨gr, 0, none⟩))) (hsim : Sim D R) (hf : FitN D 50000) (hal : (allC D).length ≤ 10000) (hz : ∀ t, (R.read t).2.size ≤ 9900) (hT : Tb w.heap.size w) (hV : Ev w.heap.size w)
    (x : CallC) (hkb : 0 ≤ x.kind ∧ x.kind ≤ 255) (hbs : x.b.size ≤ 5000) (A1 A2 : Option Addr) (cc1 cc2 : Nat) (hbt : BtR w (.slice A1 x.b.size cc1) x.b) :
    Calls Tryz.prog 32 #[.pointer (some ⟨gs, 0, none⟩), .pointer (some ⟨gr, 0, none⟩), .agg #[.int .u8 x.kind, .int .i64 x.step, .string x.name, .slice A1 x.b.size cc1, .int .i64 x.n, .slice A2 x.keep.length cc2]] wr fun e w' => e = .returned (.bool true) ∧ ∃ v', PlC w w' p q v' (doesC D x) (doesRC R x) 0 (.pointer (some ⟨gs, 0, none⟩)) (.pointer (some ⟨gr, 0, none⟩)) := by
  have hb1 := (Below.refl wr.heap.size wr).alloc (Nat.le_refl _) (.cells #[.int .u8 x.kind, .int .i64 x.step, .string x.name, .slice A1 x.b.size cc1, .int .i64 x.n, .slice A2 x.keep.length cc2] 36)
  have hbk := Blk.new wr 36 #[.int .u8 x.kind, .int .i64 x.step, .string x.name, .slice A1 x.b.size cc1, .int .i64 x.n, .slice A2 x.keep.length cc2]
  obtain ⟨w1, hw1⟩ : ∃ w1, wr.alloc (.cells #[.int .u8 x.kind, .int .i64 x.step, .string x.name, .slice A1 x.b.size cc1, .int .i64 x.n, .slice A2 x.keep.length cc2] 36) = w1 := ⟨_, rfl⟩
  obtain ⟨gX, hgX⟩ : ∃ gX, wr.heap.size = gX := ⟨_, rfl⟩
  rw [hw1] at hb1 hbk
  have hgX2 := hgX
  rw [hgX] at hbk
  have a1 := a.below_ hb1
  have hcv1 := (hbt.below a1.below).conv
  have c3 := hbk.cell 3
  simp only [List.getElem?_toArray, List.getElem?_cons_zero, List.getElem?_cons_succ] at c3
  obtain ⟨C, cap, hcv2, hcap, hC⟩ := text_bytes x.b w1
  have hC2 := hC (w1.alloc (.cells C 5 (C.size, C.size + 1))).drew (heap_alloc_new w1 _)
  have hz2 := a1.start (n := x.b.size) hbk hC2.1
  have hbt2 := hC2.2
  have hnm := sim_names hsim
  have hsm := sim_doesC hsim x
  have HW1 := Lib.hid hw1; have HZ2 := Lib.hid hz2; have HBT2 := Lib.hid hbt2; have HBT := Lib.hid hbt; have HSIM := Lib.hid hsim; have HF := Lib.hid hf; have HNM := Lib.hid hnm; have HRZ := Lib.hid hz; have HT := Lib.hid hT; have HV := Lib.hid hV; have HGX := Lib.hid hgX
  clear a hsim hf hz hT hV hbt hb1 hbk hw1 a1 hC hC2 hz2 hbt2 hnm hsm hgX2
  go_enter Tryz.func32, Tryz.ntmps32
  go_upto_region 1 with (fail)
  rw [HW1.out]
  clear hgX
  go_upto_region 2 with (fail)
  obtain ⟨w2, hw2⟩ : ∃ w2, (w1.alloc (.cells C 5 (C.size, C.size + 1))).drew = w2 := ⟨_, rfl⟩
  obtain ⟨g, hg⟩ : ∃ g, w1.heap.size = g := ⟨_, rfl⟩
  have hz2 := HZ2.out; have hbt2 := HBT2.out
  rw [hw2, hg] at hz2 hbt2
  rw [hw2, hg]
  have HZ2 := Lib.hid hz2; have HBT2 := Lib.hid hbt2
  have k0 := hz2.x.cell 0; have k1 := hz2.x.cell 1; have k3 := hz2.x.cell 3
  simp only [List.getElem?_toArray, List.getElem?_cons_zero, List.getElem?_cons_succ] at k0 k1 k3
  clear hw2 hg hz2 hbt2 hcv1 hcv2 hcap c3 HW1
  by_cases h4 : x.kind % 10 = 4
  · have hb4 : (x.kind % 10 == 4) = true := by simpa using h4
    have hd1 : doesC D x = (dropC D x.step).2 := by unfold doesC; rw [if_pos h4]
    have hd2 : doesRC R x = (dropRC R x.step).2 := by unfold doesRC; rw [if_pos h4]
    have HD1 := Lib.hid hd1; have HD2 := Lib.hid hd2
    clear h4 hd1 hd2
    have hxd := HZ2.out.below_ (show Below w2.heap.size w2 w2.drew from (Below.refl _ _).drew)
    have hDR := pc_drop hxd.done (HF.out.less (by omega)) HNM.out (by omega) HT.out HV.out x.step
    have hRD : ∀ (w3 : World) (v3 : Value) (D3 : DiskD), PlC w w3 p q v3 D3 R 0 (.pointer (some ⟨gs, 0, none⟩)) (.pointer (some ⟨gr, 0, none⟩)) → Calls Tryz.prog 75 #[.pointer (some ⟨gr, 0, none⟩), .int .i64 x.step] w3 fun e w' => e = .returned (.int .i64 (dropRC R x.step).1) ∧ PlC w w' p q v3 D3 (dropRC R x.step).2 0 (.pointer (some ⟨gs, 0, none⟩)) (.pointer (some ⟨gr, 0, none⟩)) ∧ KpX w3 w' :=
      fun w3 v3 D3 h3 => pc_rdrop h3 HSIM.out (HF.out.less (by rw [← sim_allC HSIM.out]; omega)) x.step
    rw [← (sim_dropC HSIM.out x.step).1] at hRD
    obtain ⟨E, hE⟩ : ∃ E, (dropC D x.step).1 = E := ⟨_, rfl⟩
    rw [hE] at hDR
    simp only [hE] at hRD
    have kx1 : w2.drew.cell? ⟨gX, 1, none⟩ = some (.int .i64 x.step) := k1
    have HDR := Lib.hid hDR; have HRD := Lib.hid hRD; have HXD := Lib.hid hxd.x; have HKX := Lib.hid kx1
    clear hxd hDR hRD hE kx1
    go_upto_region 4 with (fail)
    refine wp_region_noPanic ?_
    refine wp_region_held_drew (S := (fun wx => wx.cell? ⟨gX, 1, none⟩ = some (.int .i64 x.step))) (by kernel_rfl) ?_ (fun hHeld => ?_)
    · exact HKX.out
    refine wpT (i := 0) (v := ?v0g1_) rfl (Or.inl ⟨by rfl, ?y0g1_⟩) (by assumption) ?r0g1_
    case y0g1_ => (intro w hSw; (try dsimp only at hSw); go_simp; try with_reducible rfl)
    change wpAnyH _ _ _ _ _ _ _ (Act.put _ (some 27) _) _; simp only [Act.put, List.setIfInBounds_toArray, List.set_cons_zero, List.set_cons_succ]
    refine wpT (i := 1) (v := ?v1g1_) rfl (Or.inl ⟨by rfl, ?y1g1_⟩) (by assumption) ?r1g1_
    case y1g1_ => (intro w hSw; (try dsimp only at hSw); go_simp; try with_reducible rfl)
    change wpAnyH _ _ _ _ _ _ _ (Act.put _ (some 28) _) _; simp only [Act.put, List.setIfInBounds_toArray, List.set_cons_zero, List.set_cons_succ]
    refine wpT (i := 2) (v := ?v2g1_) rfl (Or.inl ⟨by rfl, ?y2g1_⟩) (by assumption) ?r2g1_
    case y2g1_ => (intro w hSw; (try dsimp only at hSw); go_simp; try with_reducible rfl)
    change wpAnyH _ _ _ _ _ _ _ (Act.put _ (some 29) _) _; simp only [Act.put, List.setIfInBounds_toArray, List.set_cons_zero, List.set_cons_succ]
    refine wpT (i := 4) (v := ?v4g1_) rfl (Or.inl ⟨by rfl, ?y4g1_⟩) (by assumption) ?r4g1_
    case y4g1_ => (intro w hSw; (try dsimp only at hSw); go_simp; try with_reducible rfl)
    change wpAnyH _ _ _ _ _ _ _ (Act.put _ (some 31) _) _; simp only [Act.put, List.setIfInBounds_toArray, List.set_cons_zero, List.set_cons_succ]
    refine wpT (i := 5) (v := ?v5g1_) rfl (Or.inl ⟨by rfl, ?y5g1_⟩) (by assumption) ?r5g1_
    case y5g1_ => (intro w hSw; (try dsimp only at hSw); go_simp; try with_reducible rfl)
    change wpAnyH _ _ _ _ _ _ _ (Act.put _ (some 32) _) _; simp only [Act.put, List.setIfInBounds_toArray, List.set_cons_zero, List.set_cons_succ]
    refine wpT (i := 6) (v := ?v6g1_) rfl (Or.inl ⟨by rfl, ?y6g1_⟩) (by assumption) ?r6g1_
    case y6g1_ => (intro w hSw; (try dsimp only at hSw); go_simp; try with_reducible rfl)
    change wpAnyH _ _ _ _ _ _ _ (Act.put _ (some 33) _) _; simp only [Act.put, List.setIfInBounds_toArray, List.set_cons_zero, List.set_cons_succ]
    refine wpAnyH_ready (rs := [3]) (by kernel_rfl) (by simp) ?_
    refine AllReadyH.cons rfl (fun K hK => ?_) AllReadyH.nil
    go_simp
    refine (HDR.out).mono ?_
    rintro e w3 ⟨rfl, v3, hpl3, hk3⟩
    have hx3 := hk3 _ _ HXD.out
    have kx3 := hx3.cell 1
    simp only [List.getElem?_toArray, List.getElem?_cons_zero, List.getElem?_cons_succ] at kx3
    have HRD3 := Lib.hid (HRD.out _ _ _ hpl3); have HX3 := Lib.hid hx3; have HK3 := Lib.hid kx3
    clear hpl3 hk3 hx3 kx3
    dsimp only
    refine hK.out _ _ ?_ (fun hHeld => ?_)
    · exact HK3.out
    clear hK K
    try simp only [Act.put, List.setIfInBounds_toArray, List.set_cons_zero, List.set_cons_succ]
    refine wpAnyH_ready (rs := [7]) (by kernel_rfl) (by simp) ?_
    refine AllReadyH.cons rfl (fun K hK => ?_) AllReadyH.nil
    go_simp
    refine (HRD3.out).mono ?_
    rintro e w4 ⟨rfl, hpl4, hk4⟩
    have hx4 := hk4 _ _ HX3.out
    have kx4 := hx4.cell 1
    simp only [List.getElem?_toArray, List.getElem?_cons_zero, List.getElem?_cons_succ] at kx4
    have HP4 := Lib.hid hpl4; have HK4 := Lib.hid kx4
    clear hpl4 hk4 hx4 kx4
    dsimp only
    refine hK.out _ _ ?_ (fun hHeld => ?_)
    · exact HK4.out
    clear hK K
    try simp only [Act.put, List.setIfInBounds_toArray, List.set_cons_zero, List.set_cons_succ]
    refine wpT (i := 8) (v := ?v8g1_) rfl (Or.inl ⟨by rfl, ?y8g1_⟩) (by assumption) ?r8g1_
    case y8g1_ => (intro w hSw; (try dsimp only at hSw); go_simp; try with_reducible rfl)
    change wpAnyH _ _ _ _ _ _ _ (Act.put _ (some 35) _) _; simp only [Act.put, List.setIfInBounds_toArray, List.set_cons_zero, List.set_cons_succ]
    refine wpT (i := 9) (v := ?v9g1_) rfl (Or.inl ⟨by rfl, ?y9g1_⟩) (by assumption) ?r9g1_
    case y9g1_ => (intro w hSw; (try dsimp only at hSw); go_simp; try with_reducible rfl)
    change wpAnyH _ _ _ _ _ _ _ (Act.put _ (some 6) _) _; simp only [Act.put, List.setIfInBounds_toArray, List.set_cons_zero, List.set_cons_succ]
    refine wpAnyH_done (by kernel_rfl) ?_ _
    refine NoPanic.normal ?_
    go_wp2
    go_ret
    exact ⟨rfl, v3, by rw [HD1.out, HD2.out]; exact HP4.out⟩
  have hb4 : (x.kind % 10 == 4) = false := by simpa using h4
  by_cases h5 : x.kind % 10 = 5
  · have hb5 : (x.kind % 10 == 5) = true := by simpa using h5
    have hd1 : doesC D x = D := by unfold doesC; rw [if_neg h4, if_pos h5]
    have hd2 : doesRC R x = R := by unfold doesRC; rw [if_neg h4, if_pos h5]
    have HD1 := Lib.hid hd1; have HD2 := Lib.hid hd2
    clear h4 h5 hd1 hd2
    have hpl := HZ2.out.done
    have hR1 := cread_any w2 w.heap.size p gs v D hpl.is hpl.ptrs.1 HF.out.fit x.step (HT.out.at_ hpl.below)
    have hR2 : ∀ w3, Below w2.heap.size w2 w3 → Calls Tryz.prog 76 #[.pointer (some ⟨gr, 0, none⟩), .int .i64 x.step] w3 (RReadC w3 (readC D x.step)) := fun w3 h3 => by
      have hp3 := hpl.below_ h3
      have := rcread_any w3 w.heap.size q gr R hp3.rk (sim_fit HSIM.out (HF.out.less (k := 1) (by decide))) hp3.ptrs.2 x.step HRZ.out
      rw [← sim_readC HSIM.out] at this
      exact this
    obtain ⟨qq, hqq⟩ : ∃ qq, readC D x.step = qq := ⟨_, rfl⟩
    rw [hqq] at hR1
    simp only [hqq] at hR2
    obtain ⟨E, T⟩ := qq
    have HPL := Lib.hid hpl; have HR1 := Lib.hid hR1; have HR2 := Lib.hid hR2
    clear hpl hR1 hR2 hqq
    go_wp2_with fail
    refine HR1.out.mono ?_
    rintro e w3 ⟨bv, rfl, hown, hb3⟩
    obtain ⟨A5, c5, rfl, hbo⟩ := BytesO.of_own hown
    have hbt3 := Bt.of_own hown
    have hTs := own_small hown
    dsimp only at hTs
    have k1 := (hb3.cell (p := ⟨gX, 1, none⟩) HZ2.out.x.lt).trans k1
    have HO := Lib.hid hbo; have HBT3 := Lib.hid hbt3; have HB3 := Lib.hid hb3; have HRR := Lib.hid (HR2.out w3 hb3)
    clear hown hbo hbt3 hb3 HR1 HR2 k0 k3
    dsimp only
    go_wp2_with fail
    refine HRR.out.mono ?_
    rintro e w4 ⟨rfl, hb4w⟩
    dsimp only
    have hb24 := HB3.out.trans (hb4w.mono HB3.out.size)
    have hcv := (HBT3.out.below hb4w).conv
    have hTT : (T.toList == T.toList) = true := by simp
    have HO4 := Lib.hid (HO.out.below hb4w); have HB24 := Lib.hid hb24
    clear hb4w hb24 HO HB3 HRR HBT3 k1
    go_upto_region 9 with (fail)
    clear hcv hTT
    go_wp2
    go_loopg [13] T.size (fun gf vk wy => ∃ k : Nat, vk = .int .i64 k ∧ k + gf = T.size ∧ BytesO w2.heap.size wy A5 T.size ∧ Below w2.heap.size w2 wy)
    case atStart => exact ⟨0, rfl, by omega, HO4.out, HB24.out⟩
    case round =>
      clear HO4 HB24
      obtain ⟨k, rfl, hk, hbo, hby⟩ := hrel
      cases gk with
      | zero =>
        obtain rfl : k = T.size := by omega
        have HFIN := Lib.hid (HPL.out.below_ hby)
        clear hbo hby
        go_wp2
        go_ret
        exact ⟨rfl, v, by rw [HD1.out, HD2.out]; exact HFIN.out⟩
      | succ gf =>
        have hkI : (k : Int) < (T.size : Int) := by omega
        obtain ⟨g5, rfl, hg5, hbn⟩ := hbo (by omega)
        obtain ⟨z, hz0, hz1, hzc, hzf⟩ := hbn.at_ (k := k) (by omega)
        have HBN := Lib.hid hbn; have HBY := Lib.hid hby
        clear hbo hbn hby
        go_wp2
        go_roundg gf
        case measure => omega
        case rel => exact ⟨k + 1, by go_num, by omega, fun _ => ⟨g5, rfl, hg5, HBN.out.set_ (wrap_u8W z).1 (wrap_u8W z).2⟩, HBY.out.setCell (p := ⟨g5, k, none⟩) hg5 _⟩
  have hb5 : (x.kind % 10 == 5) = false := by simpa using h5
  have hd1 : doesC D x = (writeC D x.step x.b).2 := by unfold doesC; rw [if_neg h4, if_neg h5]
  have hd2 : doesRC R x = (writeRC R x.step x.b).2 := by unfold doesRC; rw [if_neg h4, if_neg h5]
  obtain ⟨E, D1, hq⟩ : ∃ E D1, writeC D x.step x.b = (E, D1) := ⟨_, _, rfl⟩
  obtain ⟨R1, hr⟩ : ∃ R1, writeRC R x.step x.b = (E, R1) := ⟨(writeRC R x.step x.b).2, Prod.ext (by rw [← (sim_writeC HSIM.out x.step x.b).1, hq]) rfl⟩
  rw [hq] at hd1
  rw [hr] at hd2
  dsimp only at hd1 hd2
  have hbd : Below w2.heap.size w2 w2.drew := (Below.refl _ _).drew
  have hxd := HZ2.out.below_ hbd
  have hWR := dz_write hxd HF.out HT.out x.step (HBT2.out.below hbd) hq
  have hRW : ∀ (w3 : World) (v3 : Value), DzW w w3 p q gs gr gX g x.b.size v3 D1 R #[.int .u8 x.kind, .int .i64 x.step, .string x.name, .slice A1 x.b.size cc1, .int .i64 x.n, .slice A2 x.keep.length cc2] → Calls Tryz.prog 77 #[.pointer (some ⟨gr, 0, none⟩), .int .i64 x.step, .string x.b] w3 fun e w' => e = .returned (.int .i64 E) ∧ DzW w w' p q gs gr gX g x.b.size v3 D1 R1 #[.int .u8 x.kind, .int .i64 x.step, .string x.name, .slice A1 x.b.size cc1, .int .i64 x.n, .slice A2 x.keep.length cc2] ∧ (∀ y s, Bt w3 y s → Bt w' y s) :=
    fun w3 v3 h3 => dz_rwrite h3 HSIM.out (HF.out.less (by decide)) x.step (by omega) hr
  have hS : ∀ (wx : World) (v' : Value) (D' : DiskD) (R' : RDisk), DzW w wx p q gs gr gX g x.b.size v' D' R' #[.int .u8 x.kind, .int .i64 x.step, .string x.name, .slice A1 x.b.size cc1, .int .i64 x.n, .slice A2 x.keep.length cc2] → wx.cell? ⟨gX, 1, none⟩ = some (.int .i64 x.step) ∧ wx.cell? ⟨gX, 3, none⟩ = some (.slice A1 x.b.size cc1) ∧ (convert 33 9 (.slice A1 x.b.size cc1)).run Tryz.prog wx = .ok (.string x.b) wx := fun wx v' D' R' h => by
    have e1 := h.x.cell 1; have e3 := h.x.cell 3
    simp only [List.getElem?_toArray, List.getElem?_cons_zero, List.getElem?_cons_succ] at e1 e3
    exact ⟨e1, e3, (HBT.out.below h.below).conv⟩
  have HD1 := Lib.hid hd1; have HD2 := Lib.hid hd2; have HWR := Lib.hid hWR; have HRW := Lib.hid hRW; have HS := Lib.hid hS; have HSD := Lib.hid (hS _ _ _ _ hxd)
  clear h4 h5 hd1 hd2 hq hr hxd hWR hRW hS hbd
  go_upto_region 14 with (fail)
  refine wp_region_noPanic ?_
  refine wp_region_held_drew (S := (fun wx => wx.cell? ⟨gX, 1, none⟩ = some (.int .i64 x.step) ∧ wx.cell? ⟨gX, 3, none⟩ = some (.slice A1 x.b.size cc1) ∧ (convert 33 9 (.slice A1 x.b.size cc1)).run Tryz.prog wx = .ok (.string x.b) wx)) (by kernel_rfl) ?_ (fun hHeld => ?_)
  · exact HSD.out
  refine wpT (i := 0) (v := ?v0g2_) rfl (Or.inl ⟨by rfl, ?y0g2_⟩) (by assumption) ?r0g2_
  case y0g2_ => (intro w hSw; (try dsimp only at hSw); go_simp; try with_reducible rfl)
  change wpAnyH _ _ _ _ _ _ _ (Act.put _ (some 76) _) _; simp only [Act.put, List.setIfInBounds_toArray, List.set_cons_zero, List.set_cons_succ]
  refine wpT (i := 1) (v := ?v1g2_) rfl (Or.inl ⟨by rfl, ?y1g2_⟩) (by assumption) ?r1g2_
  case y1g2_ => (intro w hSw; (try dsimp only at hSw); go_simp; try with_reducible rfl)
  change wpAnyH _ _ _ _ _ _ _ (Act.put _ (some 77) _) _; simp only [Act.put, List.setIfInBounds_toArray, List.set_cons_zero, List.set_cons_succ]
  refine wpT (i := 2) (v := ?v2g2_) rfl (Or.inl ⟨by rfl, ?y2g2_⟩) (by assumption) ?r2g2_
  case y2g2_ => (intro w hSw; (try dsimp only at hSw); obtain ⟨s1, s2, s3⟩ := hSw; go_simp; try with_reducible rfl)
  change wpAnyH _ _ _ _ _ _ _ (Act.put _ (some 78) _) _; simp only [Act.put, List.setIfInBounds_toArray, List.set_cons_zero, List.set_cons_succ]
  refine wpT (i := 3) (v := ?v3g2_) rfl (Or.inl ⟨by rfl, ?y3g2_⟩) (by assumption) ?r3g2_
  case y3g2_ => (intro w hSw; (try dsimp only at hSw); go_simp; try with_reducible rfl)
  change wpAnyH _ _ _ _ _ _ _ (Act.put _ (some 79) _) _; simp only [Act.put, List.setIfInBounds_toArray, List.set_cons_zero, List.set_cons_succ]
  refine wpT (i := 5) (v := ?v5g2_) rfl (Or.inl ⟨by rfl, ?y5g2_⟩) (by assumption) ?r5g2_
  case y5g2_ => (intro w hSw; (try dsimp only at hSw); go_simp; try with_reducible rfl)
  change wpAnyH _ _ _ _ _ _ _ (Act.put _ (some 81) _) _; simp only [Act.put, List.setIfInBounds_toArray, List.set_cons_zero, List.set_cons_succ]
  refine wpT (i := 6) (v := ?v6g2_) rfl (Or.inl ⟨by rfl, ?y6g2_⟩) (by assumption) ?r6g2_
  case y6g2_ => (intro w hSw; (try dsimp only at hSw); go_simp; try with_reducible rfl)
  change wpAnyH _ _ _ _ _ _ _ (Act.put _ (some 82) _) _; simp only [Act.put, List.setIfInBounds_toArray, List.set_cons_zero, List.set_cons_succ]
  refine wpT (i := 7) (v := ?v7g2_) rfl (Or.inl ⟨by rfl, ?y7g2_⟩) (by assumption) ?r7g2_
  case y7g2_ => (intro w hSw; (try dsimp only at hSw); obtain ⟨s1, s2, s3⟩ := hSw; go_simp; try with_reducible rfl)
  change wpAnyH _ _ _ _ _ _ _ (Act.put _ (some 83) _) _; simp only [Act.put, List.setIfInBounds_toArray, List.set_cons_zero, List.set_cons_succ]
  refine wpT (i := 8) (v := ?v8g2_) rfl (Or.inl ⟨by rfl, ?y8g2_⟩) (by assumption) ?r8g2_
  case y8g2_ => (intro w hSw; (try dsimp only at hSw); go_simp; try with_reducible rfl)
  change wpAnyH _ _ _ _ _ _ _ (Act.put _ (some 84) _) _; simp only [Act.put, List.setIfInBounds_toArray, List.set_cons_zero, List.set_cons_succ]
  refine wpT (i := 9) (v := ?v9g2_) rfl (Or.inl ⟨by rfl, ?y9g2_⟩) (by assumption) ?r9g2_
  case y9g2_ => (intro w hSw; (try dsimp only at hSw); obtain ⟨s1, s2, s3⟩ := hSw; go_simp; try with_reducible rfl)
  change wpAnyH _ _ _ _ _ _ _ (Act.put _ (some 85) _) _; simp only [Act.put, List.setIfInBounds_toArray, List.set_cons_zero, List.set_cons_succ]
  refine wpT (i := 10) (v := ?v10g2_) rfl (Or.inl ⟨by rfl, ?y10g2_⟩) (by assumption) ?r10g2_
  case y10g2_ => (intro w hSw; (try dsimp only at hSw); obtain ⟨s1, s2, s3⟩ := hSw; go_simp; try with_reducible rfl)
  change wpAnyH _ _ _ _ _ _ _ (Act.put _ (some 86) _) _; simp only [Act.put, List.setIfInBounds_toArray, List.set_cons_zero, List.set_cons_succ]
  refine wpAnyH_ready (rs := [4]) (by kernel_rfl) (by simp) ?_
  refine AllReadyH.cons rfl (fun K hK => ?_) AllReadyH.nil
  go_simp
  refine (HWR.out).mono ?_
  rintro e w3 ⟨rfl, v3, hz3, ht3⟩
  have HZ3 := Lib.hid hz3; have HBT3 := Lib.hid (ht3 _ _ HBT2.out); have HS3 := Lib.hid (HS.out _ _ _ _ hz3); have HRW3 := Lib.hid (HRW.out _ _ hz3)
  clear hz3 ht3
  dsimp only
  refine hK.out _ _ ?_ (fun hHeld => ?_)
  · exact HS3.out
  clear hK K
  try simp only [Act.put, List.setIfInBounds_toArray, List.set_cons_zero, List.set_cons_succ]
  refine wpAnyH_ready (rs := [11]) (by kernel_rfl) (by simp) ?_
  refine AllReadyH.cons rfl (fun K hK => ?_) AllReadyH.nil
  go_simp
  refine (HRW3.out).mono ?_
  rintro e w4 ⟨rfl, hz4, ht4⟩
  have HZ4 := Lib.hid hz4; have HBT4 := Lib.hid (ht4 _ _ HBT3.out); have HS4 := Lib.hid (HS.out _ _ _ _ hz4)
  clear hz4 ht4
  dsimp only
  refine hK.out _ _ ?_ (fun hHeld => ?_)
  · exact HS4.out
  clear hK K
  try simp only [Act.put, List.setIfInBounds_toArray, List.set_cons_zero, List.set_cons_succ]
  refine wpT (i := 12) (v := ?v12g2_) rfl (Or.inl ⟨by rfl, ?y12g2_⟩) (by assumption) ?r12g2_
  case y12g2_ => (intro w hSw; (try dsimp only at hSw); go_simp; try with_reducible rfl)
  change wpAnyH _ _ _ _ _ _ _ (Act.put _ (some 14) _) _; simp only [Act.put, List.setIfInBounds_toArray, List.set_cons_zero, List.set_cons_succ]
  refine wpT (i := 13) (v := ?v13g2_) rfl (Or.inl ⟨by rfl, ?y13g2_⟩) (by assumption) ?r13g2_
  case y13g2_ => (intro w hSw; (try dsimp only at hSw); go_simp; try with_reducible rfl)
  change wpAnyH _ _ _ _ _ _ _ (Act.put _ (some 15) _) _; simp only [Act.put, List.setIfInBounds_toArray, List.set_cons_zero, List.set_cons_succ]
  refine wpAnyH_done (by kernel_rfl) ?_ _
  refine NoPanic.normal ?_
  clear k0 k1 k3
  obtain ⟨k1, k3, hcv3⟩ := HS.out _ _ _ _ HZ4.out
  have hcv4 := HBT4.out.conv
  have hTT : (x.b.toList == x.b.toList) = true := by simp
  go_upto_region 16 with (fail)
  clear k1 k3 hcv3 hcv4 hTT
  go_wp2
  go_loopg [17] x.b.size (fun gf vk wy => ∃ k : Nat, vk = .int .i64 k ∧ k + gf = x.b.size ∧ DzW w wy p q gs gr gX g x.b.size v3 D1 R1 #[.int .u8 x.kind, .int .i64 x.step, .string x.name, .slice A1 x.b.size cc1, .int .i64 x.n, .slice A2 x.keep.length cc2])
  case atStart => exact ⟨0, rfl, by omega, HZ4.out⟩
  case round =>
    clear HZ4 HBT4
    obtain ⟨k, rfl, hk, hdz⟩ := hrel
    cases gk with
    | zero =>
      obtain rfl : k = x.b.size := by omega
      have HFIN := Lib.hid hdz.done
      clear hdz
      go_wp2
      go_ret
      exact ⟨rfl, v3, by rw [HD1.out, HD2.out]; exact HFIN.out⟩
    | succ gf =>
      have hkI : (k : Int) < (x.b.size : Int) := by omega
      obtain ⟨z, hz0, hz1, hzc, hzf⟩ := hdz.b.at_ (k := k) (by omega)
      have HDZ := Lib.hid hdz
      clear hdz
      go_wp2
      go_roundg gf
      case measure => omega
      case rel => exact ⟨k + 1, by go_num, by omega, HDZ.out.put (wrap_u8W z).1 (wrap_u8W z).2⟩
end Go.Proofs.YthmcimpdehgaoaaGreatDoor
