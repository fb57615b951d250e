/- A store of checkpoints: Write. -/
import Derived.Test.YthmcimpdehgaoaaGreatDoorCkC
import Derived.Deep.DeepCutAuto
import Derived.Laws.Tables
namespace Go.Proofs.YthmcimpdehgaoaaGreatDoor
open Go.RowKit Go.Maps

theorem ix4_0 (f0 f1 f2 f3 : Value) (W : World) : (Instr.index 76 (.agg #[f0, f1, f2, f3]) (.int .i64 0)).run Tryz.prog W = .ok f0 W := by kernel_rfl
theorem ix4_1 (f0 f1 f2 f3 : Value) (W : World) : (Instr.index 76 (.agg #[f0, f1, f2, f3]) (.int .i64 1)).run Tryz.prog W = .ok f1 W := by kernel_rfl
theorem ix4_2 (f0 f1 f2 f3 : Value) (W : World) : (Instr.index 76 (.agg #[f0, f1, f2, f3]) (.int .i64 2)).run Tryz.prog W = .ok f2 W := by kernel_rfl
theorem ix4_3 (f0 f1 f2 f3 : Value) (W : World) : (Instr.index 76 (.agg #[f0, f1, f2, f3]) (.int .i64 3)).run Tryz.prog W = .ok f3 W := by kernel_rfl
theorem cst_clearC {D : DiskD} (h : -1 ≤ D.left) : Cst D (clearC D).2 1 0 0 := by
  unfold clearC
  split
  · exact (Cst.refl h).mono (Nat.zero_le 1) (Nat.le_refl 0) (Nat.le_refl 0)
  · exact cst_step h _ _ _ _ _
theorem FitN.cst {D D' : DiskD} {n m s f u : Nat} (h : FitN D n) (c : Cst D D' s f u) (h1 : s + m ≤ n) (h2 : f + m ≤ n) (h3 : u + 100 * m ≤ 100 * n) : FitN D' m :=
  ⟨by have := h.steps0; have := c.s0; omega, by have := h.steps; have := c.s1; omega, by have := h.files; have := c.f; omega, by have := h.used; have := c.u; omega, c.l0, by have := h.left1; have := c.l1; omega⟩
/-- a write's calls, one by one -/
def callK (n : Nat) (b : ByteArray) (k : Nat) (D : DiskD) : Int × DiskD :=
  match k with
  | 0 => clearC D
  | 1 => D.append tmpC (fileC n b)
  | 2 => D.step 0 tmpC tmpC 0 true
  | _ => D.step 2 tmpC (nameC n) 0 true
def wFrom (n : Nat) (b : ByteArray) : Nat → Nat → DiskD → Int × DiskD
  | 0, _, D => (0, D)
  | f + 1, k, D => if (callK n b k D).1 ≠ 0 then outC (callK n b k D).1 (callK n b k D).2 else wFrom n b f (k + 1) (callK n b k D).2
theorem writeC_eq {D : DiskD} {n : Nat} {b : ByteArray} (hn : n ≤ 1073741824) (hb : b.size ≤ 4194304) (ho : D.off = false) : writeC D (n : Int) b = wFrom n b 4 0 D := by
  unfold writeC
  rw [if_neg (by omega), if_neg (by omega), if_neg (by simp [ho])]
  rfl
/-- the room that is left ahead of each call -/
def roomK (k : Nat) : Nat := if k = 0 then 50000 else if k = 1 then 49999 else if k = 2 then 8000 else if k = 3 then 7999 else 7998
theorem room_call {D : DiskD} {n k : Nat} {b : ByteArray} (h : FitN D (roomK k)) (hk : k < 4) (hb : b.size ≤ 4194304) : FitN (callK n b k D).2 (roomK (k + 1)) := by
  have hs := fileC_size n b
  match k, hk with
  | 0, _ => exact h.cst (cst_clearC h.left) (by decide) (by decide) (by decide)
  | 1, _ =>
    refine h.cst (cst_append h.left tmpC (fileC n b)) (by decide) (by decide) ?_
    show (fileC n b).size + 100 * 8000 ≤ 100 * 49999
    omega
  | 2, _ => exact h.cst (cst_step h.left _ _ _ _ _) (by decide) (by decide) (by decide)
  | 3, _ => exact h.cst (cst_step h.left _ _ _ _ _) (by decide) (by decide) (by decide)
theorem room_fit {D : DiskD} {k : Nat} (h : FitN D (roomK k)) : Fit D ∧ D.used ≤ 1000000000000 := ⟨h.fit, by have := h.used; omega⟩
theorem Tb.up {B B' : Nat} {w : World} (h : Tb B w) (hB : B ≤ B') : Tb B' w := fun w' hb => h w' (hb.mono hB)
theorem infoFun4 : (Tryz.prog.info? 76).map (·.size) = some 4 := by kernel_rfl
/-- the loop's state: behind k calls -/
structure CwL [Forb] (B : Nat) (w wr : World) (p gs g3 g4 g5 : Nat) (v0 v : Value) (D0 D : DiskD) (n : Nat) (bv : Value) (b : ByteArray) (k : Nat) : Prop where
  s : CwS B w wr p gs g3 g4 g5 v0 v D n bv b
  room : FitN D (roomK k)
  left : k ≤ 4
  eq : wFrom n b 4 0 D0 = wFrom n b (4 - k) k D
theorem CwL.next [Forb] {B : Nat} {w wr w2 : World} {p gs g3 g4 g5 : Nat} {v0 v v2 : Value} {D0 D : DiskD} {n : Nat} {bv : Value} {b : ByteArray} {k : Nat} (a : CwL B w wr p gs g3 g4 g5 v0 v D0 D n bv b k) (hk : k < 4) (hb : b.size ≤ 4194304)
    (h0 : (callK n b k D).1 = 0) (s2 : CwS B w w2 p gs g3 g4 g5 v0 v2 (callK n b k D).2 n bv b) : CwL B w w2 p gs g3 g4 g5 v0 v2 D0 (callK n b k D).2 n bv b (k + 1) := by
  refine ⟨s2, room_call a.room hk hb, by omega, a.eq.trans ?_⟩
  rw [show 4 - k = (4 - (k + 1)) + 1 by omega, wFrom, if_neg (by simp [h0])]
theorem CwL.stop [Forb] {B : Nat} {w wr : World} {p gs g3 g4 g5 : Nat} {v0 v : Value} {D0 D : DiskD} {n : Nat} {bv : Value} {b : ByteArray} {k : Nat} (a : CwL B w wr p gs g3 g4 g5 v0 v D0 D n bv b k) (hk : k < 4)
    (h0 : (callK n b k D).1 ≠ 0) : wFrom n b 4 0 D0 = outC (callK n b k D).1 (callK n b k D).2 := by
  rw [a.eq, show 4 - k = (4 - (k + 1)) + 1 by omega, wFrom, if_pos h0]
/-- what a write leaves -/
def CWriteP [Forb] (B : Nat) (w : World) (p gs : Nat) (v : Value) (q : Int × DiskD) (e : Ending) (w' : World) : Prop :=
  e = .returned (.int .i64 q.1) ∧ ∃ v1, Out B w w' p v q.2 v1 ∧ CkSt w' gs p
set_option maxHeartbeats 2000000 in
theorem cwrite_nil (w : World) (step : Int) (bv : Value) (A : Option Addr) (m c : Nat) (hbv : bv = .slice A m c) : Calls Tryz.prog 12 #[.pointer none, .int .i64 step, bv] w fun e w' => e = .returned (.int .i64 1) ∧ Below w.heap.size w w' := by
  subst hbv
  have HB := Lib.hid ((((Below.refl w.heap.size w).alloc (Nat.le_refl _) (.cells #[.pointer none] 27)).alloc (by simp) (.cells #[.int .i64 step] 3)).alloc (by simp; omega) (.cells #[.slice A m c] 33))
  go_enter Tryz.func12, Tryz.ntmps12
  go_wp2
  go_ret
  exact ⟨rfl, HB.out⟩
set_option maxRecDepth 100000 in
set_option maxHeartbeats 8000000 in
theorem cwrite_yes [Forb] (w : World) (B p gs : Nat) (v : Value) (D : DiskD) (h : DiskIs w B p v D) (hB : B ≤ w.heap.size) (hs : CkSt w gs p) (ht : Forb.top ≤ w.heap.size) (hf : FitN D 50000) (n : Nat) (hn : n ≤ 1073741824) (bv : Value) (b : ByteArray) (hbs : b.size ≤ 4194304) (hbx : BtX B w bv b) (hT : Tb B w) (hoff : D.off = false) :
    Calls Tryz.prog 12 #[.pointer (some ⟨gs, 0, none⟩), .int .i64 n, bv] w (CWriteP B w p gs v (wFrom n b 4 0 D)) := by
  obtain ⟨A, c, rfl, hc, -⟩ := hbx.here
  have ha3 := (Below.refl w.heap.size w).alloc (Nat.le_refl _) (.cells #[.pointer (some ⟨gs, 0, none⟩)] 27)
  have hk3 := Blk.new w 27 #[.pointer (some ⟨gs, 0, none⟩)]
  obtain ⟨w3, hw3⟩ : ∃ w3, w.alloc (.cells #[.pointer (some ⟨gs, 0, none⟩)] 27) = w3 := ⟨_, rfl⟩
  rw [hw3] at ha3 hk3
  have ha4 := (Below.refl w3.heap.size w3).alloc (Nat.le_refl _) (.cells #[.int .i64 n] 3)
  have hk4 := Blk.new w3 3 #[.int .i64 n]
  obtain ⟨w4, hw4⟩ : ∃ w4, w3.alloc (.cells #[.int .i64 n] 3) = w4 := ⟨_, rfl⟩
  rw [hw4] at ha4 hk4
  have ha5 := (Below.refl w4.heap.size w4).alloc (Nat.le_refl _) (.cells #[.slice A b.size c] 33)
  have hk5 := Blk.new w4 33 #[.slice A b.size c]
  obtain ⟨w5, hw5⟩ : ∃ w5, w4.alloc (.cells #[.slice A b.size c] 33) = w5 := ⟨_, rfl⟩
  rw [hw5] at ha5 hk5
  have s3 : w3.heap.size = w.heap.size + 1 := by rw [← hw3]; simp
  have s4 : w4.heap.size = w.heap.size + 1 + 1 := by rw [← hw4]; simp [s3]
  have h35 := ha4.trans (ha5.mono ha4.size)
  have h25 := ha3.trans (h35.mono ha3.size)
  have hS : CwS B w w5 p gs w.heap.size w3.heap.size w4.heap.size v v D n (.slice A b.size c) b :=
    ⟨Out.of_below h hB h25, hs.below h25, hk3.below h35 hk3.lt, hk4.below ha5 hk4.lt, hk5, hbx.below hB h25, h25.size, hB⟩
  rw [s3, s4] at hS
  have hw5e : ((w.alloc (.cells #[.pointer (some ⟨gs, 0, none⟩)] 27)).alloc (.cells #[.int .i64 n] 3)).alloc (.cells #[.slice A b.size c] 33) = w5 := by rw [hw3, hw4, hw5]
  obtain ⟨g3, hg3⟩ : ∃ g3, w.heap.size = g3 := ⟨_, rfl⟩
  have HO := Lib.hid (off_any w5 B p v D hS.is)
  rw [hoff] at HO
  have hL : CwL B w w5 p gs w.heap.size (w.heap.size + 1) (w.heap.size + 1 + 1) v v D D n (.slice A b.size c) b 0 := ⟨hS, hf, by omega, rfl⟩
  have HT := Lib.hid (fun (W : World) (hb : Below B w W) => (hT.on hb).up (Nat.le_trans hB hb.size))
  have hcs := hS.cells
  have HL := Lib.hid hL; have HW5 := Lib.hid hw5e
  have hnI : (n : Int) ≤ 1073741824 := by omega
  have hbI : ¬ (4194304 : Int) < (b.size : Int) := by omega
  have HTT := Lib.hid ht
  obtain ⟨c3, cs, c4, c5⟩ := hcs
  clear h hs hf hbx hT hoff ha3 hk3 hw3 ha4 hk4 hw4 ha5 hk5 hw5 s3 s4 h35 h25 hS hL hw5e hg3 ht
  go_enter Tryz.func12, Tryz.ntmps12
  go_upto_region 1 with (fail)
  rw [HW5.out]
  clear HW5
  go_wp2_with fail
  refine HO.out.mono ?_
  rintro e w6 ⟨rfl, rfl⟩
  clear HO
  obtain ⟨q3, hq3⟩ : ∃ q3, w.heap.size = q3 := ⟨_, rfl⟩
  have hkz := Blk.new w6 76 #[.nilFunc, .nilFunc, .nilFunc, .nilFunc]
  have hkc := hkz.setRow #[.func (.func 36) #[.pointer (some ⟨gs, 0, none⟩)] #[], .func (.func 37) #[] #[.pointer (some ⟨q3, 0, none⟩), .pointer (some ⟨q3 + 1, 0, none⟩), .pointer (some ⟨q3 + 1 + 1, 0, none⟩)], .func (.func 39) #[] #[.pointer (some ⟨q3, 0, none⟩)], .func (.func 41) #[] #[.pointer (some ⟨q3, 0, none⟩), .pointer (some ⟨q3 + 1, 0, none⟩)]]
  have hone : (#[.func (.func 36) #[.pointer (some ⟨gs, 0, none⟩)] #[], .func (.func 37) #[] #[.pointer (some ⟨q3, 0, none⟩), .pointer (some ⟨q3 + 1, 0, none⟩), .pointer (some ⟨q3 + 1 + 1, 0, none⟩)], .func (.func 39) #[] #[.pointer (some ⟨q3, 0, none⟩)], .func (.func 41) #[] #[.pointer (some ⟨q3, 0, none⟩), .pointer (some ⟨q3 + 1, 0, none⟩)]] : Array Value).all (·.oneCell') = true := by simp [Value.oneCell']
  have hbc := below_row ((Below.refl w6.heap.size w6).alloc (Nat.le_refl _) (.cells #[.nilFunc, .nilFunc, .nilFunc, .nilFunc] 76)) (Nat.le_refl _) #[.func (.func 36) #[.pointer (some ⟨gs, 0, none⟩)] #[], .func (.func 37) #[] #[.pointer (some ⟨q3, 0, none⟩), .pointer (some ⟨q3 + 1, 0, none⟩), .pointer (some ⟨q3 + 1 + 1, 0, none⟩)], .func (.func 39) #[] #[.pointer (some ⟨q3, 0, none⟩)], .func (.func 41) #[] #[.pointer (some ⟨q3, 0, none⟩), .pointer (some ⟨q3 + 1, 0, none⟩)]]
  have HL := HL.out
  rw [hq3] at HL
  have HKZ := Lib.hid hkz; have HKC := Lib.hid hkc; have HONE := Lib.hid hone; have HBC := Lib.hid hbc; have HL := Lib.hid HL
  rw [hq3] at c3 c4 c5 ⊢
  have HQ3 := Lib.hid hq3
  clear hkz hkc hone hbc hq3
  go_upto_region 10 with (first | (refine wpList_store_row rfl 76 (.tmp 7) (.tmp 36) rfl w6.heap.size #[.func (.func 36) #[.pointer (some ⟨gs, 0, none⟩)] #[], .func (.func 37) #[] #[.pointer (some ⟨q3, 0, none⟩), .pointer (some ⟨q3 + 1, 0, none⟩), .pointer (some ⟨q3 + 1 + 1, 0, none⟩)], .func (.func 39) #[] #[.pointer (some ⟨q3, 0, none⟩)], .func (.func 41) #[] #[.pointer (some ⟨q3, 0, none⟩), .pointer (some ⟨q3 + 1, 0, none⟩)]] rfl rfl 76 _ HKZ.out infoFun4 rfl HONE.out ?_))
  clear HKZ HONE c3 cs c4 c5
  obtain ⟨w7, hw7⟩ : ∃ w7, (w6.alloc (.cells #[.nilFunc, .nilFunc, .nilFunc, .nilFunc] 76)).setRow w6.heap.size #[.func (.func 36) #[.pointer (some ⟨gs, 0, none⟩)] #[], .func (.func 37) #[] #[.pointer (some ⟨q3, 0, none⟩), .pointer (some ⟨q3 + 1, 0, none⟩), .pointer (some ⟨q3 + 1 + 1, 0, none⟩)], .func (.func 39) #[] #[.pointer (some ⟨q3, 0, none⟩)], .func (.func 41) #[] #[.pointer (some ⟨q3, 0, none⟩), .pointer (some ⟨q3 + 1, 0, none⟩)]] = w7 := ⟨_, rfl⟩
  obtain ⟨g7, hg7⟩ : ∃ g7, w6.heap.size = g7 := ⟨_, rfl⟩
  rw [hw7] at HKC HBC ⊢
  rw [hg7] at HKC ⊢
  clear hw7 hg7
  have k0 := HKC.out.cell 0; have k1 := HKC.out.cell 1; have k2 := HKC.out.cell 2; have k3 := HKC.out.cell 3
  simp only [List.getElem?_toArray, List.getElem?_cons_zero, List.getElem?_cons_succ] at k0 k1 k2 k3
  have HL7 := Lib.hid (⟨HL.out.s.below_ HBC.out, HL.out.room, HL.out.left, HL.out.eq⟩ : CwL B w w7 p gs q3 (q3 + 1) (q3 + 1 + 1) v v D D n (.slice A b.size c) b 0)
  dsimp only [Act.put]
  go_upto_region 11 with (fail)
  clear k0 k1 k2 k3 HL HBC HKC
  go_loopg [38] 4 (fun gf vk wr => ∃ (k : Nat) (v1 : Value) (D1 : DiskD), vk = .int .i64 k ∧ k + gf = 4 ∧ CwL B w wr p gs q3 (q3 + 1) (q3 + 1 + 1) v v1 D D1 n (.slice A b.size c) b k)
  case atStart => exact ⟨0, v, D, rfl, rfl, HL7.out⟩
  case round =>
    clear HL7
    obtain ⟨k, v1, D1, rfl, hk, hl⟩ := hrel
    have HL := Lib.hid hl
    have hfit := room_fit hl.room
    clear hl
    cases gk with
    | zero =>
      obtain rfl : k = 4 := by omega
      have HFIN := Lib.hid (show CWriteP B w p gs v (wFrom n b 4 0 D) (.returned (.int .i64 0)) wr from ⟨by rw [HL.out.eq]; rfl, v1, by rw [HL.out.eq]; exact HL.out.s.o, HL.out.s.st⟩)
      clear HL hfit hk
      go_wp2
      go_ret
      exact HFIN.out
    | succ gf =>
      have hk4 : k < 4 := by omega
      have hkI : (k : Int) < 4 := by omega
      rcases (show k = 0 ∨ k = 1 ∨ k = 2 ∨ k = 3 by omega) with rfl | rfl | rfl | rfl
      · as_aux_lemma =>
        have hix : ∀ W, (Instr.index 76 (.agg #[.func (.func 36) #[.pointer (some ⟨gs, 0, none⟩)] #[], .func (.func 37) #[] #[.pointer (some ⟨q3, 0, none⟩), .pointer (some ⟨q3 + 1, 0, none⟩), .pointer (some ⟨q3 + 1 + 1, 0, none⟩)], .func (.func 39) #[] #[.pointer (some ⟨q3, 0, none⟩)], .func (.func 41) #[] #[.pointer (some ⟨q3, 0, none⟩), .pointer (some ⟨q3 + 1, 0, none⟩)]]) (.int .i64 0)).run Tryz.prog W = .ok (.func (.func 36) #[.pointer (some ⟨gs, 0, none⟩)] #[]) W := ix4_0 _ _ _ _
        have hcal : callK n b 0 D1 = clearC D1 := rfl
        have hc := cw_clear HL.out.s hfit.1
        rw [← hcal] at hc
        have hroom := room_call (n := n) HL.out.room hk4 hbs
        obtain ⟨E, hE⟩ : ∃ E, (callK n b 0 D1).1 = E := ⟨_, rfl⟩
        obtain ⟨D2, hD2⟩ : ∃ D2, (callK n b 0 D1).2 = D2 := ⟨_, rfl⟩
        have hnx := fun (h0 : E = 0) (W : World) (v2 : Value) (s2 : CwS B w W p gs q3 (q3 + 1) (q3 + 1 + 1) v v2 D2 n (.slice A b.size c) b) => HL.out.next (v2 := v2) (w2 := W) hk4 hbs (by rw [hE]; exact h0) (by rw [hD2]; exact s2)
        have hsp := fun (h0 : E ≠ 0) => HL.out.stop hk4 (by rw [hE]; exact h0)
        unfold CwP at hc
        rw [hE, hD2] at hc hsp
        rw [hD2] at hnx hroom
        have HC := Lib.hid hc; have HNX := Lib.hid hnx; have HSP := Lib.hid hsp; have HRM := Lib.hid hroom
        clear hc hnx hsp hroom hE hD2 hcal HL hfit
        go_wp2_with fail
        refine HC.out.mono ?_
        rintro e w8 ⟨rfl, -, v2, s2⟩
        have HS2 := Lib.hid s2
        clear s2 HC
        by_cases h0 : E = 0
        · have HN := Lib.hid (HNX.out h0 w8 v2 HS2.out)
          have hb0 : (E != 0) = false := by simp [h0]
          clear h0 HNX HSP
          go_wp2
          go_roundg gf
          case measure => omega
          case rel => exact ⟨1, v2, D2, by go_num, by omega, HN.out⟩
        · have hsp := HSP.out h0
          have hb0 : (E != 0) = true := by simp [h0]
          by_cases h61 : E = 161 ∨ E = 3
          · have ho : outC E D2 = (E, (clearC D2).2) := by unfold outC; rw [if_pos h61]
            rw [ho] at hsp
            have HCL := Lib.hid (cw_clear HS2.out (room_fit HRM.out).1)
            have HFIN := Lib.hid (fun (w9 : World) (v9 : Value) (s9 : CwS B w w9 p gs q3 (q3 + 1) (q3 + 1 + 1) v v9 (clearC D2).2 n (.slice A b.size c) b) => show CWriteP B w p gs v (wFrom n b 4 0 D) (.returned (.int .i64 E)) w9 from ⟨by rw [hsp], v9, by rw [hsp]; exact s9.o, s9.st⟩)
            have h3c := HS2.out.cells.1
            rcases h61 with rfl | rfl
            · clear hsp ho h0 HNX HSP HRM
              go_wp2_with fail
              refine HCL.out.mono ?_
              rintro e w9 ⟨rfl, -, v9, s9⟩
              have HF := Lib.hid (HFIN.out w9 v9 s9)
              clear s9 HFIN HCL
              go_wp2
              go_ret
              exact HF.out
            · clear hsp ho h0 HNX HSP HRM
              go_wp2_with fail
              refine HCL.out.mono ?_
              rintro e w9 ⟨rfl, -, v9, s9⟩
              have HF := Lib.hid (HFIN.out w9 v9 s9)
              clear s9 HFIN HCL
              go_wp2
              go_ret
              exact HF.out
          · have ho : outC E D2 = (E, D2) := by unfold outC; rw [if_neg h61]
            rw [ho] at hsp
            have HFIN := Lib.hid (show CWriteP B w p gs v (wFrom n b 4 0 D) (.returned (.int .i64 E)) w8 from ⟨by rw [hsp], v2, by rw [hsp]; exact HS2.out.o, HS2.out.st⟩)
            have hb1 : (E == 161) = false := by simp; exact fun h => h61 (.inl h)
            have hb2 : (E == 3) = false := by simp; exact fun h => h61 (.inr h)
            clear hsp ho h0 h61 HNX HSP HRM
            go_wp2
            go_ret
            exact HFIN.out
      · as_aux_lemma =>
        have hix : ∀ W, (Instr.index 76 (.agg #[.func (.func 36) #[.pointer (some ⟨gs, 0, none⟩)] #[], .func (.func 37) #[] #[.pointer (some ⟨q3, 0, none⟩), .pointer (some ⟨q3 + 1, 0, none⟩), .pointer (some ⟨q3 + 1 + 1, 0, none⟩)], .func (.func 39) #[] #[.pointer (some ⟨q3, 0, none⟩)], .func (.func 41) #[] #[.pointer (some ⟨q3, 0, none⟩), .pointer (some ⟨q3 + 1, 0, none⟩)]]) (.int .i64 1)).run Tryz.prog W = .ok (.func (.func 37) #[] #[.pointer (some ⟨q3, 0, none⟩), .pointer (some ⟨q3 + 1, 0, none⟩), .pointer (some ⟨q3 + 1 + 1, 0, none⟩)]) W := ix4_1 _ _ _ _
        have hcal : callK n b 1 D1 = D1.append tmpC (fileC n b) := rfl
        have hc := cw_append HL.out.s hfit.1 HTT.out hfit.2 hn hbs
        rw [← hcal] at hc
        have hroom := room_call (n := n) HL.out.room hk4 hbs
        obtain ⟨E, hE⟩ : ∃ E, (callK n b 1 D1).1 = E := ⟨_, rfl⟩
        obtain ⟨D2, hD2⟩ : ∃ D2, (callK n b 1 D1).2 = D2 := ⟨_, rfl⟩
        have hnx := fun (h0 : E = 0) (W : World) (v2 : Value) (s2 : CwS B w W p gs q3 (q3 + 1) (q3 + 1 + 1) v v2 D2 n (.slice A b.size c) b) => HL.out.next (v2 := v2) (w2 := W) hk4 hbs (by rw [hE]; exact h0) (by rw [hD2]; exact s2)
        have hsp := fun (h0 : E ≠ 0) => HL.out.stop hk4 (by rw [hE]; exact h0)
        unfold CwP at hc
        rw [hE, hD2] at hc hsp
        rw [hD2] at hnx hroom
        have HC := Lib.hid hc; have HNX := Lib.hid hnx; have HSP := Lib.hid hsp; have HRM := Lib.hid hroom
        clear hc hnx hsp hroom hE hD2 hcal HL hfit
        go_wp2_with fail
        refine HC.out.mono ?_
        rintro e w8 ⟨rfl, -, v2, s2⟩
        have HS2 := Lib.hid s2
        clear s2 HC
        by_cases h0 : E = 0
        · have HN := Lib.hid (HNX.out h0 w8 v2 HS2.out)
          have hb0 : (E != 0) = false := by simp [h0]
          clear h0 HNX HSP
          go_wp2
          go_roundg gf
          case measure => omega
          case rel => exact ⟨2, v2, D2, by go_num, by omega, HN.out⟩
        · have hsp := HSP.out h0
          have hb0 : (E != 0) = true := by simp [h0]
          by_cases h61 : E = 161 ∨ E = 3
          · have ho : outC E D2 = (E, (clearC D2).2) := by unfold outC; rw [if_pos h61]
            rw [ho] at hsp
            have HCL := Lib.hid (cw_clear HS2.out (room_fit HRM.out).1)
            have HFIN := Lib.hid (fun (w9 : World) (v9 : Value) (s9 : CwS B w w9 p gs q3 (q3 + 1) (q3 + 1 + 1) v v9 (clearC D2).2 n (.slice A b.size c) b) => show CWriteP B w p gs v (wFrom n b 4 0 D) (.returned (.int .i64 E)) w9 from ⟨by rw [hsp], v9, by rw [hsp]; exact s9.o, s9.st⟩)
            have h3c := HS2.out.cells.1
            rcases h61 with rfl | rfl
            · clear hsp ho h0 HNX HSP HRM
              go_wp2_with fail
              refine HCL.out.mono ?_
              rintro e w9 ⟨rfl, -, v9, s9⟩
              have HF := Lib.hid (HFIN.out w9 v9 s9)
              clear s9 HFIN HCL
              go_wp2
              go_ret
              exact HF.out
            · clear hsp ho h0 HNX HSP HRM
              go_wp2_with fail
              refine HCL.out.mono ?_
              rintro e w9 ⟨rfl, -, v9, s9⟩
              have HF := Lib.hid (HFIN.out w9 v9 s9)
              clear s9 HFIN HCL
              go_wp2
              go_ret
              exact HF.out
          · have ho : outC E D2 = (E, D2) := by unfold outC; rw [if_neg h61]
            rw [ho] at hsp
            have HFIN := Lib.hid (show CWriteP B w p gs v (wFrom n b 4 0 D) (.returned (.int .i64 E)) w8 from ⟨by rw [hsp], v2, by rw [hsp]; exact HS2.out.o, HS2.out.st⟩)
            have hb1 : (E == 161) = false := by simp; exact fun h => h61 (.inl h)
            have hb2 : (E == 3) = false := by simp; exact fun h => h61 (.inr h)
            clear hsp ho h0 h61 HNX HSP HRM
            go_wp2
            go_ret
            exact HFIN.out
      · as_aux_lemma =>
        have hix : ∀ W, (Instr.index 76 (.agg #[.func (.func 36) #[.pointer (some ⟨gs, 0, none⟩)] #[], .func (.func 37) #[] #[.pointer (some ⟨q3, 0, none⟩), .pointer (some ⟨q3 + 1, 0, none⟩), .pointer (some ⟨q3 + 1 + 1, 0, none⟩)], .func (.func 39) #[] #[.pointer (some ⟨q3, 0, none⟩)], .func (.func 41) #[] #[.pointer (some ⟨q3, 0, none⟩), .pointer (some ⟨q3 + 1, 0, none⟩)]]) (.int .i64 2)).run Tryz.prog W = .ok (.func (.func 39) #[] #[.pointer (some ⟨q3, 0, none⟩)]) W := ix4_2 _ _ _ _
        have hcal : callK n b 2 D1 = D1.step 0 tmpC tmpC 0 true := rfl
        have hc := cw_sync HL.out.s hfit.1
        rw [← hcal] at hc
        have hroom := room_call (n := n) HL.out.room hk4 hbs
        obtain ⟨E, hE⟩ : ∃ E, (callK n b 2 D1).1 = E := ⟨_, rfl⟩
        obtain ⟨D2, hD2⟩ : ∃ D2, (callK n b 2 D1).2 = D2 := ⟨_, rfl⟩
        have hnx := fun (h0 : E = 0) (W : World) (v2 : Value) (s2 : CwS B w W p gs q3 (q3 + 1) (q3 + 1 + 1) v v2 D2 n (.slice A b.size c) b) => HL.out.next (v2 := v2) (w2 := W) hk4 hbs (by rw [hE]; exact h0) (by rw [hD2]; exact s2)
        have hsp := fun (h0 : E ≠ 0) => HL.out.stop hk4 (by rw [hE]; exact h0)
        unfold CwP at hc
        rw [hE, hD2] at hc hsp
        rw [hD2] at hnx hroom
        have HC := Lib.hid hc; have HNX := Lib.hid hnx; have HSP := Lib.hid hsp; have HRM := Lib.hid hroom
        clear hc hnx hsp hroom hE hD2 hcal HL hfit
        go_wp2_with fail
        refine HC.out.mono ?_
        rintro e w8 ⟨rfl, -, v2, s2⟩
        have HS2 := Lib.hid s2
        clear s2 HC
        by_cases h0 : E = 0
        · have HN := Lib.hid (HNX.out h0 w8 v2 HS2.out)
          have hb0 : (E != 0) = false := by simp [h0]
          clear h0 HNX HSP
          go_wp2
          go_roundg gf
          case measure => omega
          case rel => exact ⟨3, v2, D2, by go_num, by omega, HN.out⟩
        · have hsp := HSP.out h0
          have hb0 : (E != 0) = true := by simp [h0]
          by_cases h61 : E = 161 ∨ E = 3
          · have ho : outC E D2 = (E, (clearC D2).2) := by unfold outC; rw [if_pos h61]
            rw [ho] at hsp
            have HCL := Lib.hid (cw_clear HS2.out (room_fit HRM.out).1)
            have HFIN := Lib.hid (fun (w9 : World) (v9 : Value) (s9 : CwS B w w9 p gs q3 (q3 + 1) (q3 + 1 + 1) v v9 (clearC D2).2 n (.slice A b.size c) b) => show CWriteP B w p gs v (wFrom n b 4 0 D) (.returned (.int .i64 E)) w9 from ⟨by rw [hsp], v9, by rw [hsp]; exact s9.o, s9.st⟩)
            have h3c := HS2.out.cells.1
            rcases h61 with rfl | rfl
            · clear hsp ho h0 HNX HSP HRM
              go_wp2_with fail
              refine HCL.out.mono ?_
              rintro e w9 ⟨rfl, -, v9, s9⟩
              have HF := Lib.hid (HFIN.out w9 v9 s9)
              clear s9 HFIN HCL
              go_wp2
              go_ret
              exact HF.out
            · clear hsp ho h0 HNX HSP HRM
              go_wp2_with fail
              refine HCL.out.mono ?_
              rintro e w9 ⟨rfl, -, v9, s9⟩
              have HF := Lib.hid (HFIN.out w9 v9 s9)
              clear s9 HFIN HCL
              go_wp2
              go_ret
              exact HF.out
          · have ho : outC E D2 = (E, D2) := by unfold outC; rw [if_neg h61]
            rw [ho] at hsp
            have HFIN := Lib.hid (show CWriteP B w p gs v (wFrom n b 4 0 D) (.returned (.int .i64 E)) w8 from ⟨by rw [hsp], v2, by rw [hsp]; exact HS2.out.o, HS2.out.st⟩)
            have hb1 : (E == 161) = false := by simp; exact fun h => h61 (.inl h)
            have hb2 : (E == 3) = false := by simp; exact fun h => h61 (.inr h)
            clear hsp ho h0 h61 HNX HSP HRM
            go_wp2
            go_ret
            exact HFIN.out
      · as_aux_lemma =>
        have hix : ∀ W, (Instr.index 76 (.agg #[.func (.func 36) #[.pointer (some ⟨gs, 0, none⟩)] #[], .func (.func 37) #[] #[.pointer (some ⟨q3, 0, none⟩), .pointer (some ⟨q3 + 1, 0, none⟩), .pointer (some ⟨q3 + 1 + 1, 0, none⟩)], .func (.func 39) #[] #[.pointer (some ⟨q3, 0, none⟩)], .func (.func 41) #[] #[.pointer (some ⟨q3, 0, none⟩), .pointer (some ⟨q3 + 1, 0, none⟩)]]) (.int .i64 3)).run Tryz.prog W = .ok (.func (.func 41) #[] #[.pointer (some ⟨q3, 0, none⟩), .pointer (some ⟨q3 + 1, 0, none⟩)]) W := ix4_3 _ _ _ _
        have hcal : callK n b 3 D1 = D1.step 2 tmpC (nameC n) 0 true := rfl
        have hc := cw_rename HL.out.s hfit.1 (HT.out wr HL.out.s.below) hn
        rw [← hcal] at hc
        have hroom := room_call (n := n) HL.out.room hk4 hbs
        obtain ⟨E, hE⟩ : ∃ E, (callK n b 3 D1).1 = E := ⟨_, rfl⟩
        obtain ⟨D2, hD2⟩ : ∃ D2, (callK n b 3 D1).2 = D2 := ⟨_, rfl⟩
        have hnx := fun (h0 : E = 0) (W : World) (v2 : Value) (s2 : CwS B w W p gs q3 (q3 + 1) (q3 + 1 + 1) v v2 D2 n (.slice A b.size c) b) => HL.out.next (v2 := v2) (w2 := W) hk4 hbs (by rw [hE]; exact h0) (by rw [hD2]; exact s2)
        have hsp := fun (h0 : E ≠ 0) => HL.out.stop hk4 (by rw [hE]; exact h0)
        unfold CwP at hc
        rw [hE, hD2] at hc hsp
        rw [hD2] at hnx hroom
        have HC := Lib.hid hc; have HNX := Lib.hid hnx; have HSP := Lib.hid hsp; have HRM := Lib.hid hroom
        clear hc hnx hsp hroom hE hD2 hcal HL hfit
        go_wp2_with fail
        refine HC.out.mono ?_
        rintro e w8 ⟨rfl, -, v2, s2⟩
        have HS2 := Lib.hid s2
        clear s2 HC
        by_cases h0 : E = 0
        · have HN := Lib.hid (HNX.out h0 w8 v2 HS2.out)
          have hb0 : (E != 0) = false := by simp [h0]
          clear h0 HNX HSP
          go_wp2
          go_roundg gf
          case measure => omega
          case rel => exact ⟨4, v2, D2, by go_num, by omega, HN.out⟩
        · have hsp := HSP.out h0
          have hb0 : (E != 0) = true := by simp [h0]
          by_cases h61 : E = 161 ∨ E = 3
          · have ho : outC E D2 = (E, (clearC D2).2) := by unfold outC; rw [if_pos h61]
            rw [ho] at hsp
            have HCL := Lib.hid (cw_clear HS2.out (room_fit HRM.out).1)
            have HFIN := Lib.hid (fun (w9 : World) (v9 : Value) (s9 : CwS B w w9 p gs q3 (q3 + 1) (q3 + 1 + 1) v v9 (clearC D2).2 n (.slice A b.size c) b) => show CWriteP B w p gs v (wFrom n b 4 0 D) (.returned (.int .i64 E)) w9 from ⟨by rw [hsp], v9, by rw [hsp]; exact s9.o, s9.st⟩)
            have h3c := HS2.out.cells.1
            rcases h61 with rfl | rfl
            · clear hsp ho h0 HNX HSP HRM
              go_wp2_with fail
              refine HCL.out.mono ?_
              rintro e w9 ⟨rfl, -, v9, s9⟩
              have HF := Lib.hid (HFIN.out w9 v9 s9)
              clear s9 HFIN HCL
              go_wp2
              go_ret
              exact HF.out
            · clear hsp ho h0 HNX HSP HRM
              go_wp2_with fail
              refine HCL.out.mono ?_
              rintro e w9 ⟨rfl, -, v9, s9⟩
              have HF := Lib.hid (HFIN.out w9 v9 s9)
              clear s9 HFIN HCL
              go_wp2
              go_ret
              exact HF.out
          · have ho : outC E D2 = (E, D2) := by unfold outC; rw [if_neg h61]
            rw [ho] at hsp
            have HFIN := Lib.hid (show CWriteP B w p gs v (wFrom n b 4 0 D) (.returned (.int .i64 E)) w8 from ⟨by rw [hsp], v2, by rw [hsp]; exact HS2.out.o, HS2.out.st⟩)
            have hb1 : (E == 161) = false := by simp; exact fun h => h61 (.inl h)
            have hb2 : (E == 3) = false := by simp; exact fun h => h61 (.inr h)
            clear hsp ho h0 h61 HNX HSP HRM
            go_wp2
            go_ret
            exact HFIN.out
end Go.Proofs.YthmcimpdehgaoaaGreatDoor
