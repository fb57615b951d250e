/- The manifest of bytes, as the program reads it: Get. -/
import Derived.Test.YtlcgkcafelpglaaGreatDoorPk27
import Derived.Test.YtlcgkcafelpglaaGreatDoorPk28
namespace Go.Proofs.YtlcgkcafelpglaaGreatDoor
open Go.RowKit Go.Maps

theorem next_ok {r : RdD} {n : Nat} (hb : r.bad = false) (h : r.at_ + n ≤ r.b.size) : r.next (n : Int) = (r.b.extract r.at_ (r.at_ + n), ⟨r.b, r.at_ + n, false⟩) := by
  unfold RdD.next
  rw [if_neg (by unfold RdD.falls; simp [hb]; omega), hb]
  simp
theorem next_num_lt (r : RdD) (W : Nat) : numB (r.next (W : Int)).1 < 256 ^ W := by
  rcases next_size r W with h | h
  · have := numB_lt (r.next (W : Int)).1
    rw [h] at this
    exact Nat.lt_of_lt_of_le this (Nat.pow_le_pow_right (by decide) (Nat.zero_le _))
  · have := numB_lt (r.next (W : Int)).1
    rwa [h] at this
/-- what the reader reads, in its order -/
def rs0 (b : ByteArray) : RdD := ⟨b, 0, false⟩
def rs1 (b : ByteArray) : RdD := ((rs0 b).next 1).2
def rs2 (b : ByteArray) : RdD := ((rs1 b).next 8).2
def rs3 (b : ByteArray) : RdD := ((rs2 b).next 8).2
def rs4 (b : ByteArray) : RdD := ((rs3 b).next 8).2
def rs5 (b : ByteArray) : RdD := ((rs4 b).next 8).2
def rs6 (b : ByteArray) : RdD := ((rs5 b).next 8).2
def rs7 (b : ByteArray) : RdD := ((rs6 b).next 1).2
def readM (b : ByteArray) : ManM := ⟨i64 (numB ((rs1 b).next 8).1), i64 (numB ((rs2 b).next 8).1), i64 (numB ((rs3 b).next 8).1), i64 (numB ((rs4 b).next 8).1), i64 (numB ((rs5 b).next 8).1), numB ((rs6 b).next 1).1 == 1, numB ((rs7 b).next 4).1⟩
theorem readM_50 {b : ByteArray} (h : b.size = 50) : readM b = ofB b := by
  have e1 : rs1 b = ⟨b, 1, false⟩ := by unfold rs1; rw [show (1 : Int) = ((1 : Nat) : Int) from rfl, next_ok rfl (by show 0 + 1 ≤ b.size; omega)]; rfl
  have e2' : (rs1 b).next 8 = (b.extract 1 9, ⟨b, 9, false⟩) := by rw [e1, show (8 : Int) = ((8 : Nat) : Int) from rfl, next_ok rfl (by show 1 + 8 ≤ b.size; omega)]
  have e2 : rs2 b = ⟨b, 9, false⟩ := by unfold rs2; rw [e2']
  have e3' : (rs2 b).next 8 = (b.extract 9 17, ⟨b, 17, false⟩) := by rw [e2, show (8 : Int) = ((8 : Nat) : Int) from rfl, next_ok rfl (by show 9 + 8 ≤ b.size; omega)]
  have e3 : rs3 b = ⟨b, 17, false⟩ := by unfold rs3; rw [e3']
  have e4' : (rs3 b).next 8 = (b.extract 17 25, ⟨b, 25, false⟩) := by rw [e3, show (8 : Int) = ((8 : Nat) : Int) from rfl, next_ok rfl (by show 17 + 8 ≤ b.size; omega)]
  have e4 : rs4 b = ⟨b, 25, false⟩ := by unfold rs4; rw [e4']
  have e5' : (rs4 b).next 8 = (b.extract 25 33, ⟨b, 33, false⟩) := by rw [e4, show (8 : Int) = ((8 : Nat) : Int) from rfl, next_ok rfl (by show 25 + 8 ≤ b.size; omega)]
  have e5 : rs5 b = ⟨b, 33, false⟩ := by unfold rs5; rw [e5']
  have e6' : (rs5 b).next 8 = (b.extract 33 41, ⟨b, 41, false⟩) := by rw [e5, show (8 : Int) = ((8 : Nat) : Int) from rfl, next_ok rfl (by show 33 + 8 ≤ b.size; omega)]
  have e6 : rs6 b = ⟨b, 41, false⟩ := by unfold rs6; rw [e6']
  have e7' : (rs6 b).next 1 = (b.extract 41 42, ⟨b, 42, false⟩) := by rw [e6, show (1 : Int) = ((1 : Nat) : Int) from rfl, next_ok rfl (by show 41 + 1 ≤ b.size; omega)]
  have e7 : rs7 b = ⟨b, 42, false⟩ := by unfold rs7; rw [e7']
  have e8' : (rs7 b).next 4 = (b.extract 42 46, ⟨b, 46, false⟩) := by rw [e7, show (4 : Int) = ((4 : Nat) : Int) from rfl, next_ok rfl (by show 42 + 4 ≤ b.size; omega)]
  unfold readM ofB
  rw [e2', e3', e4', e5', e6', e7', e8']
theorem wrap64_i64 {n : Nat} (h : n < 18446744073709551616) : wrap64 (n : Int) = i64 n := by
  unfold i64 wrap64
  split <;> omega
theorem undrew {B : Nat} {a b : World} (h : Below B a.drew b) : Below B a b := ⟨h.os, h.tape, h.output, h.size, h.block⟩
/-- what Get answers -/
def getV (o : Option ManM) : ManM := o.getD zeroM
def getE (o : Option ManM) : Int := if o.isSome = true then 0 else 200
/-- the blocks of Get: the answer's, the reader -/
structure GtS (w x : World) (g : Nat) (r : RdD) : Prop where
  rd : RdIs x g r
  ans : Blk x w.heap.size 38 (mCells zeroM)
  below : Below w.heap.size w x
  gt : w.heap.size < g
theorem GtS.moved {w x y : World} {g : Nat} {r r2 : RdD} (h : GtS w x g r) (hr : RdIs y g r2) (hm : Moved x y g none) : GtS w y g r2 :=
  ⟨hr, moved_blk h.ans hm (by have := h.gt; omega) (by simp), h.below.trans (hm.below (by have := h.gt; omega) (by simp) h.below.size), h.gt⟩
set_option maxRecDepth 100000 in
set_option maxHeartbeats 16000000 in
theorem mGet_any (w : World) (v : Value) (b : ByteArray) (h : BtR w v b) (hb : b.size ≤ 1000000000) :
    Calls Tryz.prog 32 #[v] w fun e w' => e = .returned (.tuple #[.agg (mCells (getV (getM b))), .int .i64 (getE (getM b))]) ∧ Below w.heap.size w w' := by
  have ha := (Below.refl w.heap.size w).alloc (Nat.le_refl _) (.cells (mCells zeroM) 38)
  have hk := Blk.new w 38 (mCells zeroM)
  have hR := h.below ha
  have ho := ropen_any (w.alloc (.cells (mCells zeroM) 38)) v b hR hb
  have HO := Lib.hid ho; have HK := Lib.hid hk; have HA := Lib.hid ha; have HH := Lib.hid h
  obtain ⟨A, c, rfl, hc, -⟩ := id h
  have hrdm : readM b = readM b := rfl
  conv at hrdm => rhs; unfold readM
  have q2 : numB ((rs1 b).next 8).1 < 18446744073709551616 := next_num_lt _ 8
  obtain ⟨n2, hn2⟩ : ∃ n, numB ((rs1 b).next 8).1 = n := ⟨_, rfl⟩
  rw [hn2] at q2 hrdm
  have hw2 : wrap64 (n2 : Int) = i64 n2 := wrap64_i64 q2
  obtain ⟨z2, hz2⟩ : ∃ z, i64 n2 = z := ⟨_, rfl⟩
  rw [hz2] at hw2 hrdm
  have HN2 := Lib.hid hn2
  clear hn2
  have q3 : numB ((rs2 b).next 8).1 < 18446744073709551616 := next_num_lt _ 8
  obtain ⟨n3, hn3⟩ : ∃ n, numB ((rs2 b).next 8).1 = n := ⟨_, rfl⟩
  rw [hn3] at q3 hrdm
  have hw3 : wrap64 (n3 : Int) = i64 n3 := wrap64_i64 q3
  obtain ⟨z3, hz3⟩ : ∃ z, i64 n3 = z := ⟨_, rfl⟩
  rw [hz3] at hw3 hrdm
  have HN3 := Lib.hid hn3
  clear hn3
  have q4 : numB ((rs3 b).next 8).1 < 18446744073709551616 := next_num_lt _ 8
  obtain ⟨n4, hn4⟩ : ∃ n, numB ((rs3 b).next 8).1 = n := ⟨_, rfl⟩
  rw [hn4] at q4 hrdm
  have hw4 : wrap64 (n4 : Int) = i64 n4 := wrap64_i64 q4
  obtain ⟨z4, hz4⟩ : ∃ z, i64 n4 = z := ⟨_, rfl⟩
  rw [hz4] at hw4 hrdm
  have HN4 := Lib.hid hn4
  clear hn4
  have q5 : numB ((rs4 b).next 8).1 < 18446744073709551616 := next_num_lt _ 8
  obtain ⟨n5, hn5⟩ : ∃ n, numB ((rs4 b).next 8).1 = n := ⟨_, rfl⟩
  rw [hn5] at q5 hrdm
  have hw5 : wrap64 (n5 : Int) = i64 n5 := wrap64_i64 q5
  obtain ⟨z5, hz5⟩ : ∃ z, i64 n5 = z := ⟨_, rfl⟩
  rw [hz5] at hw5 hrdm
  have HN5 := Lib.hid hn5
  clear hn5
  have q6 : numB ((rs5 b).next 8).1 < 18446744073709551616 := next_num_lt _ 8
  obtain ⟨n6, hn6⟩ : ∃ n, numB ((rs5 b).next 8).1 = n := ⟨_, rfl⟩
  rw [hn6] at q6 hrdm
  have hw6 : wrap64 (n6 : Int) = i64 n6 := wrap64_i64 q6
  obtain ⟨z6, hz6⟩ : ∃ z, i64 n6 = z := ⟨_, rfl⟩
  rw [hz6] at hw6 hrdm
  have HN6 := Lib.hid hn6
  clear hn6
  have q7 : numB ((rs6 b).next 1).1 < 256 := next_num_lt _ 1
  obtain ⟨n7, hn7⟩ : ∃ n, numB ((rs6 b).next 1).1 = n := ⟨_, rfl⟩
  rw [hn7] at q7 hrdm
  have HN7 := Lib.hid hn7
  clear hn7
  have q8 : numB ((rs7 b).next 4).1 < 4294967296 := next_num_lt _ 4
  obtain ⟨n8, hn8⟩ : ∃ n, numB ((rs7 b).next 4).1 = n := ⟨_, rfl⟩
  rw [hn8] at q8 hrdm
  have HN8 := Lib.hid hn8
  clear hn8
  have HRD := Lib.hid hrdm
  clear ho hk ha hR h hrdm hz2 hz3 hz4 hz5 hz6
  have hz : mCells zeroM = #[.int .i64 0, .int .i64 0, .int .i64 0, .int .i64 0, .int .i64 0, .bool false, .int .u32 0] := rfl
  have HZ := Lib.hid hz
  rw [hz] at HO HK HA
  clear hz
  have hb7 : ((n7 : Int) == 1) = (n7 == 1) := by
    cases h1 : (n7 == 1)
    · simp at h1 ⊢; omega
    · simp at h1 ⊢; omega
  go_enter Tryz.func32, Tryz.ntmps32
  go_wp2_with fail
  refine HO.out.mono ?_
  rintro e w0 ⟨g, rfl, hr, hb2, hg⟩
  have h2 : GtS w w0 g (rs0 b) := ⟨hr, by rw [HZ.out]; exact HK.out.below hb2 HK.out.lt, HA.out.trans (hb2.mono HA.out.size), by simp at hg; omega⟩
  have HS0 := Lib.hid h2; have HC0 := Lib.hid (rByte_any w0 g (rs0 b) h2.rd)
  clear h2 hr hb2 HO HK HA hg
  go_wp2_with fail
  refine HC0.out.mono ?_
  rintro e w1 ⟨rfl, hr, hm⟩
  have h3 : GtS w w1 g (rs1 b) := HS0.out.moved hr hm
  have hc3 := rLong_any w1 g (rs1 b) h3.rd
  rw [HN2.out] at hc3
  have HS1 := Lib.hid h3; have HC1 := Lib.hid hc3
  clear h3 hr hm HS0 HC0 hc3
  go_wp2_with fail
  refine HC1.out.mono ?_
  rintro e w2 ⟨rfl, hr, hm⟩
  have h3 : GtS w w2 g (rs2 b) := HS1.out.moved hr hm
  have hc3 := rLong_any w2 g (rs2 b) h3.rd
  rw [HN3.out] at hc3
  have HS2 := Lib.hid h3; have HC2 := Lib.hid hc3
  clear h3 hr hm HS1 HC1 hc3
  go_wp2_with fail
  refine HC2.out.mono ?_
  rintro e w3 ⟨rfl, hr, hm⟩
  have h3 : GtS w w3 g (rs3 b) := HS2.out.moved hr hm
  have hc3 := rLong_any w3 g (rs3 b) h3.rd
  rw [HN4.out] at hc3
  have HS3 := Lib.hid h3; have HC3 := Lib.hid hc3
  clear h3 hr hm HS2 HC2 hc3
  go_wp2_with fail
  refine HC3.out.mono ?_
  rintro e w4 ⟨rfl, hr, hm⟩
  have h3 : GtS w w4 g (rs4 b) := HS3.out.moved hr hm
  have hc3 := rLong_any w4 g (rs4 b) h3.rd
  rw [HN5.out] at hc3
  have HS4 := Lib.hid h3; have HC4 := Lib.hid hc3
  clear h3 hr hm HS3 HC3 hc3
  go_wp2_with fail
  refine HC4.out.mono ?_
  rintro e w5 ⟨rfl, hr, hm⟩
  have h3 : GtS w w5 g (rs5 b) := HS4.out.moved hr hm
  have hc3 := rLong_any w5 g (rs5 b) h3.rd
  rw [HN6.out] at hc3
  have HS5 := Lib.hid h3; have HC5 := Lib.hid hc3
  clear h3 hr hm HS4 HC4 hc3
  go_wp2_with fail
  refine HC5.out.mono ?_
  rintro e w6 ⟨rfl, hr, hm⟩
  have h3 : GtS w w6 g (rs6 b) := HS5.out.moved hr hm
  have hc3 := rByte_any w6 g (rs6 b) h3.rd
  rw [HN7.out] at hc3
  have HS6 := Lib.hid h3; have HC6 := Lib.hid hc3
  clear h3 hr hm HS5 HC5 hc3
  go_wp2_with fail
  refine HC6.out.mono ?_
  rintro e w7 ⟨rfl, hr, hm⟩
  have h3 : GtS w w7 g (rs7 b) := HS6.out.moved hr hm
  have hc3 := rWord_any w7 g (rs7 b) h3.rd
  rw [HN8.out] at hc3
  have HS7 := Lib.hid h3; have HC7 := Lib.hid hc3
  clear h3 hr hm HS6 HC6 hc3
  go_wp2_with fail
  refine HC7.out.mono ?_
  rintro e w8 ⟨rfl, hr, hm⟩
  have h8 : GtS w w8 g ((rs7 b).next 4).2 := HS7.out.moved hr hm
  obtain ⟨M, hM⟩ : ∃ M : ManM, (⟨z2, z3, z4, z5, z6, n7 == 1, n8⟩ : ManM) = M := ⟨_, rfl⟩
  have ha := (Below.refl w8.heap.size w8).alloc (Nat.le_refl _) (.cells #[.int .i64 z2, .int .i64 z3, .int .i64 z4, .int .i64 z5, .int .i64 z6, .bool (n7 == 1), .int .u32 n8] 38)
  have hk9 := Blk.new w8 38 #[.int .i64 z2, .int .i64 z3, .int .i64 z4, .int .i64 z5, .int .i64 z6, .bool (n7 == 1), .int .u32 n8]
  have HA := Lib.hid ha; have HK9 := Lib.hid hk9; have HS8 := Lib.hid h8; have HM := Lib.hid hM
  clear ha hk9 h8 hM hr hm HS7 HC7
  go_wp2_with fail
  obtain ⟨w9, hw9⟩ : ∃ w9, w8.alloc (.cells #[.int .i64 z2, .int .i64 z3, .int .i64 z4, .int .i64 z5, .int .i64 z6, .bool (n7 == 1), .int .u32 n8] 38) = w9 := ⟨_, rfl⟩
  rw [hw9] at HA HK9 ⊢
  have hS9 : GtS w w9 g ((rs7 b).next 4).2 := ⟨HS8.out.rd.below HA.out, HS8.out.ans.below HA.out HS8.out.ans.lt, HS8.out.below.trans (HA.out.mono HS8.out.below.size), HS8.out.gt⟩
  have HS9 := Lib.hid hS9
  obtain ⟨g5, hg5⟩ : ∃ g5, w8.heap.size = g5 := ⟨_, rfl⟩
  rw [hg5] at HK9 ⊢
  have hcells : ∀ w', Below w9.heap.size w9 w' → w'.cell? ⟨g5, 0, none⟩ = some (.int .i64 z2) ∧ w'.cell? ⟨g5, 1, none⟩ = some (.int .i64 z3) ∧ w'.cell? ⟨g5, 2, none⟩ = some (.int .i64 z4) ∧ w'.cell? ⟨g5, 3, none⟩ = some (.int .i64 z5) ∧ w'.cell? ⟨g5, 4, none⟩ = some (.int .i64 z6) ∧ w'.cell? ⟨g5, 5, none⟩ = some (.bool (n7 == 1)) ∧ w'.cell? ⟨g5, 6, none⟩ = some (.int .u32 n8) := fun w' hb' => by
    have hk := HK9.out.below hb' HK9.out.lt
    exact ⟨hk.cell 0, hk.cell 1, hk.cell 2, hk.cell 3, hk.cell 4, hk.cell 5, hk.cell 6⟩
  have hagg : mCells M = #[.int .i64 z2, .int .i64 z3, .int .i64 z4, .int .i64 z5, .int .i64 z6, .bool (n7 == 1), .int .u32 n8] := by rw [← HM.out]; rfl
  have hmay : ∀ W, Calls Tryz.prog 68 #[.agg #[.int .i64 z2, .int .i64 z3, .int .i64 z4, .int .i64 z5, .int .i64 z6, .bool (n7 == 1), .int .u32 n8]] W fun e w' => e = .returned (.bool M.may) ∧ Below W.heap.size W w' := fun W => by rw [← hagg]; exact may_any M W
  have hbyt : b.size = 50 → ∀ W, Calls Tryz.prog 69 #[.agg #[.int .i64 z2, .int .i64 z3, .int .i64 z4, .int .i64 z5, .int .i64 z6, .bool (n7 == 1), .int .u32 n8]] W fun e w' => e = .returned (.agg (ucells M.bytes).toArray) ∧ Below W.heap.size W w' := fun h50 W => by
    have hMo : M = ofB b := by rw [← HM.out, ← HRD.out, readM_50 h50]
    rw [← hagg]; exact bytes_any M (by rw [hMo]; exact ofB_ok b) W
  have HK5 := HK9
  have HCL := Lib.hid hcells; have HMAY := Lib.hid hmay; have HBY := Lib.hid hbyt; have HAGG := Lib.hid hagg
  clear hw9 hg5 hS9 hcells hagg hmay hbyt HS8 HA HK9 hb7
  clear hw2 hw3 hw4 hw5 hw6
  go_cut [46] (fun s46 wx => s46 = .bool (getM b).isNone ∧ Below w9.heap.size w9 wx)
  case first =>
    by_cases h50 : b.size = 50
    · have hMo : M = ofB b := by rw [← HM.out, ← HRD.out, readM_50 h50]
      have t50 : ((b.size : Int) != 50) = false := by simp; omega
      have HBY2 := Lib.hid (HBY.out h50)
      cases hmy : M.may with
      | false =>
        have hg : (getM b).isNone = true := by unfold getM; rw [← hMo, if_neg (by simp [hmy])]; rfl
        have HG := Lib.hid hg
        have HSS := Lib.hid HCL.out
        rw [hmy] at HMAY
        clear hg hmy hMo h50 HM HRD HS9 HAGG
        refine wp_region_noPanic ?_
        refine wp_region_held_drew (S := (fun w' => w'.cell? ⟨g5, 0, none⟩ = some (.int .i64 z2) ∧ w'.cell? ⟨g5, 1, none⟩ = some (.int .i64 z3) ∧ w'.cell? ⟨g5, 2, none⟩ = some (.int .i64 z4) ∧ w'.cell? ⟨g5, 3, none⟩ = some (.int .i64 z5) ∧ w'.cell? ⟨g5, 4, none⟩ = some (.int .i64 z6) ∧ w'.cell? ⟨g5, 5, none⟩ = some (.bool (n7 == 1)) ∧ w'.cell? ⟨g5, 6, none⟩ = some (.int .u32 n8))) (by kernel_rfl) ?_ (fun hHeld => ?_)
        · exact HSS.out _ (below_drewN (Below.refl _ _) 1)
        refine wpT (i := 0) (v := ?v0g2_) rfl (Or.inl ⟨by rfl, ?y0g2_⟩) (by assumption) ?r0g2_
        case y0g2_ => (intro w hSw; (try dsimp only at hSw); go_simp; try with_reducible rfl)
        change wpAnyH _ _ _ _ _ _ _ (Act.put _ (some 31) _) _; simp only [Act.put, List.setIfInBounds_toArray, List.set_cons_zero, List.set_cons_succ]
        refine wpT (i := 1) (v := ?v1g2_) rfl (Or.inl ⟨by rfl, ?y1g2_⟩) (by assumption) ?r1g2_
        case y1g2_ => (intro w hSw; (try dsimp only at hSw); go_simp; try with_reducible rfl)
        change wpAnyH _ _ _ _ _ _ _ (Act.put _ (some 32) _) _; simp only [Act.put, List.setIfInBounds_toArray, List.set_cons_zero, List.set_cons_succ]
        refine wpT (i := 2) (v := ?v2g2_) rfl (Or.inl ⟨by rfl, ?y2g2_⟩) (by assumption) ?r2g2_
        case y2g2_ => (intro w hSw; (try dsimp only at hSw); go_simp; try with_reducible rfl)
        change wpAnyH _ _ _ _ _ _ _ (Act.put _ (some 33) _) _; simp only [Act.put, List.setIfInBounds_toArray, List.set_cons_zero, List.set_cons_succ]
        refine wpT (i := 3) (v := ?v3g2_) rfl (Or.inl ⟨by rfl, ?y3g2_⟩) (by assumption) ?r3g2_
        case y3g2_ => (intro w hSw; (try dsimp only at hSw); go_simp; try with_reducible rfl)
        change wpAnyH _ _ _ _ _ _ _ (Act.put _ (some 34) _) _; simp only [Act.put, List.setIfInBounds_toArray, List.set_cons_zero, List.set_cons_succ]
        refine wpT (i := 4) (v := ?v4g2_) rfl (Or.inl ⟨by rfl, ?y4g2_⟩) (by assumption) ?r4g2_
        case y4g2_ => (intro w hSw; (try dsimp only at hSw); go_simp; try with_reducible rfl)
        change wpAnyH _ _ _ _ _ _ _ (Act.put _ (some 35) _) _; simp only [Act.put, List.setIfInBounds_toArray, List.set_cons_zero, List.set_cons_succ]
        refine wpAnyH_ready (rs := [5]) (by kernel_rfl) (by simp) ?_
        refine AllReadyH.cons rfl (fun K hK => ?_) AllReadyH.nil
        go_simp
        refine (HMAY.out _).mono ?_
        rintro e w2 ⟨rfl, hb2⟩
        have HB2 := Lib.hid (undrew hb2)
        clear hb2
        dsimp only
        refine hK.out _ _ ?_ (fun hHeld => ?_)
        · exact HSS.out _ HB2.out
        clear hK K
        try simp only [Act.put, List.setIfInBounds_toArray, List.set_cons_zero, List.set_cons_succ]
        refine wpT (i := 6) (v := ?v6g2_) rfl (Or.inl ⟨by rfl, ?y6g2_⟩) (by assumption) ?r6g2_
        case y6g2_ => (intro w hSw; (try dsimp only at hSw); go_simp; try with_reducible rfl)
        change wpAnyH _ _ _ _ _ _ _ (Act.put _ (some 37) _) _; simp only [Act.put, List.setIfInBounds_toArray, List.set_cons_zero, List.set_cons_succ]
        refine wpT (i := 7) (v := ?v7g2_) rfl (Or.inl ⟨by rfl, ?y7g2_⟩) (by assumption) ?r7g2_
        case y7g2_ => (intro w hSw; (try dsimp only at hSw); go_simp; try with_reducible rfl)
        change wpAnyH _ _ _ _ _ _ _ (Act.put _ (some 38) _) _; simp only [Act.put, List.setIfInBounds_toArray, List.set_cons_zero, List.set_cons_succ]
        refine wpT (i := 8) (v := ?v8g2_) rfl (Or.inl ⟨by rfl, ?y8g2_⟩) (by assumption) ?r8g2_
        case y8g2_ => (intro w hSw; (try dsimp only at hSw); go_simp; try with_reducible rfl)
        change wpAnyH _ _ _ _ _ _ _ (Act.put _ (some 39) _) _; simp only [Act.put, List.setIfInBounds_toArray, List.set_cons_zero, List.set_cons_succ]
        refine wpT (i := 9) (v := undef) rfl (Or.inr ⟨by rfl, rfl⟩) (by assumption) ?_
        change wpAnyH _ _ _ _ _ _ _ (Act.put _ (some 40) _) _; simp only [Act.put, List.setIfInBounds_toArray, List.set_cons_zero, List.set_cons_succ]
        refine wpT (i := 10) (v := undef) rfl (Or.inr ⟨by rfl, rfl⟩) (by assumption) ?_
        change wpAnyH _ _ _ _ _ _ _ (Act.put _ (some 41) _) _; simp only [Act.put, List.setIfInBounds_toArray, List.set_cons_zero, List.set_cons_succ]
        refine wpT (i := 11) (v := undef) rfl (Or.inr ⟨by rfl, rfl⟩) (by assumption) ?_
        change wpAnyH _ _ _ _ _ _ _ (Act.put _ (some 42) _) _; simp only [Act.put, List.setIfInBounds_toArray, List.set_cons_zero, List.set_cons_succ]
        refine wpT (i := 12) (v := undef) rfl (Or.inr ⟨by rfl, rfl⟩) (by assumption) ?_
        change wpAnyH _ _ _ _ _ _ _ (Act.put _ (some 43) _) _; simp only [Act.put, List.setIfInBounds_toArray, List.set_cons_zero, List.set_cons_succ]
        refine wpT (i := 13) (v := undef) rfl (Or.inr ⟨by rfl, rfl⟩) (by assumption) ?_
        change wpAnyH _ _ _ _ _ _ _ (Act.put _ (some 44) _) _; simp only [Act.put, List.setIfInBounds_toArray, List.set_cons_zero, List.set_cons_succ]
        refine wpT (i := 14) (v := undef) rfl (Or.inr ⟨by rfl, rfl⟩) (by assumption) ?_
        change wpAnyH _ _ _ _ _ _ _ (Act.put _ (some 45) _) _; simp only [Act.put, List.setIfInBounds_toArray, List.set_cons_zero, List.set_cons_succ]
        refine wpT (i := 15) (v := ?v15g2_) rfl (Or.inl ⟨by rfl, ?y15g2_⟩) (by assumption) ?r15g2_
        case y15g2_ => (intro w hSw; (try dsimp only at hSw); go_simp; try with_reducible rfl)
        change wpAnyH _ _ _ _ _ _ _ (Act.put _ (some 46) _) _; simp only [Act.put, List.setIfInBounds_toArray, List.set_cons_zero, List.set_cons_succ]
        refine wpAnyH_done (by kernel_rfl) ?_ _
        refine NoPanic.normal ?_
        go_wp2_with fail
        go_meet
        exact ⟨by rw [HG.out], HB2.out⟩
      | true =>
        have HG : Hid ((getM b).isNone = decide (M.bytes ≠ b)) := Lib.hid (by
          unfold getM
          rw [← hMo]
          by_cases he : M.bytes = b
          · rw [if_pos ⟨h50, hmy, he⟩]; simp [he]
          · rw [if_neg (fun e => he e.2.2)]; simp [he])
        have hne : ∀ W, (binOp .neq 111 (.agg (ucells M.bytes).toArray) (.agg (ucells b).toArray)).run Tryz.prog W = .ok (.bool (decide (M.bytes ≠ b))) W := fun W => run_neq_raw W M.bytes b M.bytes_size h50
        obtain ⟨ad, rfl, -⟩ := HH.out.cell (k := 0) (by omega)
        have har : ∀ W, (Instr.arrayAt 111 (.slice (some ad) b.size c)).run Tryz.prog W = .ok (.pointer (some ad)) W := fun W => run_arrayAt W 111 5 50 (some ad) b.size c Tryz.underlying111 (by omega)
        have hld : ∀ W, Below w9.heap.size w9 W → (Instr.loadAt 111 (.pointer (some ad))).run Tryz.prog W = .ok (.agg (ucells b).toArray) W := fun W hW => run_load_raw W ad b h50 (fun j u hu => by
          have hj : j < b.size := by rw [← ucells_length]; exact (List.getElem?_eq_some_iff.1 hu).1
          have hR := HH.out.below (HS9.out.below.trans (hW.mono HS9.out.below.size))
          obtain ⟨ad2, he, hc2⟩ := hR.cell hj
          injection he with he
          subst he
          rw [hc2, ← ucells_at b j hj, hu])
        obtain ⟨q, hq⟩ : ∃ q, decide (M.bytes ≠ b) = q := ⟨_, rfl⟩
        rw [hq] at HG hne
        have hss : ∀ w', Below w9.heap.size w9 w' → (w'.cell? ⟨g5, 0, none⟩ = some (.int .i64 z2) ∧ w'.cell? ⟨g5, 1, none⟩ = some (.int .i64 z3) ∧ w'.cell? ⟨g5, 2, none⟩ = some (.int .i64 z4) ∧ w'.cell? ⟨g5, 3, none⟩ = some (.int .i64 z5) ∧ w'.cell? ⟨g5, 4, none⟩ = some (.int .i64 z6) ∧ w'.cell? ⟨g5, 5, none⟩ = some (.bool (n7 == 1)) ∧ w'.cell? ⟨g5, 6, none⟩ = some (.int .u32 n8)) ∧ (Instr.loadAt 111 (.pointer (some ad))).run Tryz.prog w' = .ok (.agg (ucells b).toArray) w' := fun w' hb' => ⟨HCL.out w' hb', hld w' hb'⟩
        have HSS := Lib.hid hss
        rw [hmy] at HMAY
        clear hmy hMo h50 HM HRD HS9 HAGG hld hss hq
        refine wp_region_noPanic ?_
        refine wp_region_held_drew (S := (fun w' => (w'.cell? ⟨g5, 0, none⟩ = some (.int .i64 z2) ∧ w'.cell? ⟨g5, 1, none⟩ = some (.int .i64 z3) ∧ w'.cell? ⟨g5, 2, none⟩ = some (.int .i64 z4) ∧ w'.cell? ⟨g5, 3, none⟩ = some (.int .i64 z5) ∧ w'.cell? ⟨g5, 4, none⟩ = some (.int .i64 z6) ∧ w'.cell? ⟨g5, 5, none⟩ = some (.bool (n7 == 1)) ∧ w'.cell? ⟨g5, 6, none⟩ = some (.int .u32 n8)) ∧ (Instr.loadAt 111 (.pointer (some ad))).run Tryz.prog w' = .ok (.agg (ucells b).toArray) w')) (by kernel_rfl) ?_ (fun hHeld => ?_)
        · exact HSS.out _ (below_drewN (Below.refl _ _) 1)
        refine wpT (i := 0) (v := ?v0g3_) rfl (Or.inl ⟨by rfl, ?y0g3_⟩) (by assumption) ?r0g3_
        case y0g3_ => (intro w hSw; (try dsimp only at hSw); go_simp; try with_reducible rfl)
        change wpAnyH _ _ _ _ _ _ _ (Act.put _ (some 31) _) _; simp only [Act.put, List.setIfInBounds_toArray, List.set_cons_zero, List.set_cons_succ]
        refine wpT (i := 1) (v := ?v1g3_) rfl (Or.inl ⟨by rfl, ?y1g3_⟩) (by assumption) ?r1g3_
        case y1g3_ => (intro w hSw; (try dsimp only at hSw); go_simp; try with_reducible rfl)
        change wpAnyH _ _ _ _ _ _ _ (Act.put _ (some 32) _) _; simp only [Act.put, List.setIfInBounds_toArray, List.set_cons_zero, List.set_cons_succ]
        refine wpT (i := 2) (v := ?v2g3_) rfl (Or.inl ⟨by rfl, ?y2g3_⟩) (by assumption) ?r2g3_
        case y2g3_ => (intro w hSw; (try dsimp only at hSw); go_simp; try with_reducible rfl)
        change wpAnyH _ _ _ _ _ _ _ (Act.put _ (some 33) _) _; simp only [Act.put, List.setIfInBounds_toArray, List.set_cons_zero, List.set_cons_succ]
        refine wpT (i := 3) (v := ?v3g3_) rfl (Or.inl ⟨by rfl, ?y3g3_⟩) (by assumption) ?r3g3_
        case y3g3_ => (intro w hSw; (try dsimp only at hSw); go_simp; try with_reducible rfl)
        change wpAnyH _ _ _ _ _ _ _ (Act.put _ (some 34) _) _; simp only [Act.put, List.setIfInBounds_toArray, List.set_cons_zero, List.set_cons_succ]
        refine wpT (i := 4) (v := ?v4g3_) rfl (Or.inl ⟨by rfl, ?y4g3_⟩) (by assumption) ?r4g3_
        case y4g3_ => (intro w hSw; (try dsimp only at hSw); go_simp; try with_reducible rfl)
        change wpAnyH _ _ _ _ _ _ _ (Act.put _ (some 35) _) _; simp only [Act.put, List.setIfInBounds_toArray, List.set_cons_zero, List.set_cons_succ]
        refine wpAnyH_ready (rs := [5]) (by kernel_rfl) (by simp) ?_
        refine AllReadyH.cons rfl (fun K hK => ?_) AllReadyH.nil
        go_simp
        refine (HMAY.out _).mono ?_
        rintro e w2 ⟨rfl, hb2⟩
        have HB2 := Lib.hid (undrew hb2)
        clear hb2
        dsimp only
        refine hK.out _ _ ?_ (fun hHeld => ?_)
        · exact HSS.out _ HB2.out
        clear hK K
        try simp only [Act.put, List.setIfInBounds_toArray, List.set_cons_zero, List.set_cons_succ]
        refine wpT (i := 6) (v := ?v6g3_) rfl (Or.inl ⟨by rfl, ?y6g3_⟩) (by assumption) ?r6g3_
        case y6g3_ => (intro w hSw; (try dsimp only at hSw); go_simp; try with_reducible rfl)
        change wpAnyH _ _ _ _ _ _ _ (Act.put _ (some 37) _) _; simp only [Act.put, List.setIfInBounds_toArray, List.set_cons_zero, List.set_cons_succ]
        refine wpT (i := 7) (v := ?v7g3_) rfl (Or.inl ⟨by rfl, ?y7g3_⟩) (by assumption) ?r7g3_
        case y7g3_ => (intro w hSw; (try dsimp only at hSw); go_simp; try with_reducible rfl)
        change wpAnyH _ _ _ _ _ _ _ (Act.put _ (some 38) _) _; simp only [Act.put, List.setIfInBounds_toArray, List.set_cons_zero, List.set_cons_succ]
        refine wpT (i := 8) (v := ?v8g3_) rfl (Or.inl ⟨by rfl, ?y8g3_⟩) (by assumption) ?r8g3_
        case y8g3_ => (intro w hSw; (try dsimp only at hSw); go_simp; try with_reducible rfl)
        change wpAnyH _ _ _ _ _ _ _ (Act.put _ (some 39) _) _; simp only [Act.put, List.setIfInBounds_toArray, List.set_cons_zero, List.set_cons_succ]
        refine wpT (i := 9) (v := ?v9g3_) rfl (Or.inl ⟨by rfl, ?y9g3_⟩) (by assumption) ?r9g3_
        case y9g3_ => (intro w hSw; (try dsimp only at hSw); go_simp; try with_reducible rfl)
        change wpAnyH _ _ _ _ _ _ _ (Act.put _ (some 40) _) _; simp only [Act.put, List.setIfInBounds_toArray, List.set_cons_zero, List.set_cons_succ]
        refine wpT (i := 11) (v := ?v11g3_) rfl (Or.inl ⟨by rfl, ?y11g3_⟩) (by assumption) ?r11g3_
        case y11g3_ => (intro w hSw; (try dsimp only at hSw); go_simp; try with_reducible rfl)
        change wpAnyH _ _ _ _ _ _ _ (Act.put _ (some 42) _) _; simp only [Act.put, List.setIfInBounds_toArray, List.set_cons_zero, List.set_cons_succ]
        refine wpT (i := 12) (v := ?v12g3_) rfl (Or.inl ⟨by rfl, ?y12g3_⟩) (by assumption) ?r12g3_
        case y12g3_ => (intro w hSw; (try dsimp only at hSw); go_simp; try with_reducible rfl)
        change wpAnyH _ _ _ _ _ _ _ (Act.put _ (some 43) _) _; simp only [Act.put, List.setIfInBounds_toArray, List.set_cons_zero, List.set_cons_succ]
        refine wpT (i := 13) (v := ?v13g3_) rfl (Or.inl ⟨by rfl, ?y13g3_⟩) (by assumption) ?r13g3_
        case y13g3_ => (intro w hSw; exact run_execOp_load (x := .tmp 43) rfl (by have hs := hSw.2; simpa [Act.eval] using hs))
        change wpAnyH _ _ _ _ _ _ _ (Act.put _ (some 44) _) _; simp only [Act.put, List.setIfInBounds_toArray, List.set_cons_zero, List.set_cons_succ]
        refine wpAnyH_ready (rs := [10]) (by kernel_rfl) (by simp) ?_
        refine AllReadyH.cons rfl (fun K hK => ?_) AllReadyH.nil
        go_simp
        refine (HBY2.out _).mono ?_
        rintro e w3 ⟨rfl, hb3⟩
        have HB3 := Lib.hid (HB2.out.trans (hb3.mono HB2.out.size))
        clear hb3
        dsimp only
        refine hK.out _ _ ?_ (fun hHeld => ?_)
        · exact HSS.out _ HB3.out
        clear hK K
        try simp only [Act.put, List.setIfInBounds_toArray, List.set_cons_zero, List.set_cons_succ]
        refine wpT (i := 14) (v := ?v14g3_) rfl (Or.inl ⟨by rfl, ?y14g3_⟩) (by assumption) ?r14g3_
        case y14g3_ => (intro w hSw; (try dsimp only at hSw); go_simp; try with_reducible rfl)
        change wpAnyH _ _ _ _ _ _ _ (Act.put _ (some 45) _) _; simp only [Act.put, List.setIfInBounds_toArray, List.set_cons_zero, List.set_cons_succ]
        refine wpT (i := 15) (v := ?v15g3_) rfl (Or.inl ⟨by rfl, ?y15g3_⟩) (by assumption) ?r15g3_
        case y15g3_ => (intro w hSw; (try dsimp only at hSw); go_simp; try with_reducible rfl)
        change wpAnyH _ _ _ _ _ _ _ (Act.put _ (some 46) _) _; simp only [Act.put, List.setIfInBounds_toArray, List.set_cons_zero, List.set_cons_succ]
        refine wpAnyH_done (by kernel_rfl) ?_ _
        refine NoPanic.normal ?_
        go_wp2_with fail
        go_meet
        exact ⟨by rw [HG.out], HB3.out⟩
    · have hg : (getM b).isNone = true := by rw [getM_size h50]; rfl
      have t50 : ((b.size : Int) != 50) = true := by simp; omega
      have HG := Lib.hid hg
      have HSS : Hid (∀ w', Below w9.heap.size w9 w' → True) := Lib.hid (fun _ _ => trivial)
      clear hg h50 HM HRD HS9 HAGG HMAY HBY
      refine wp_region_noPanic ?_
      refine wp_region_held_drew (S := (fun _ => True)) (by kernel_rfl) ?_ (fun hHeld => ?_)
      · exact HSS.out _ (below_drewN (Below.refl _ _) 1)
      refine wpT (i := 0) (v := ?v0g1_) rfl (Or.inl ⟨by rfl, ?y0g1_⟩) (by assumption) ?r0g1_
      case y0g1_ => (intro w hSw; (try dsimp only at hSw); go_simp; try with_reducible rfl)
      change wpAnyH _ _ _ _ _ _ _ (Act.put _ (some 31) _) _; simp only [Act.put, List.setIfInBounds_toArray, List.set_cons_zero, List.set_cons_succ]
      refine wpT (i := 1) (v := ?v1g1_) rfl (Or.inl ⟨by rfl, ?y1g1_⟩) (by assumption) ?r1g1_
      case y1g1_ => (intro w hSw; (try dsimp only at hSw); go_simp; try with_reducible rfl)
      change wpAnyH _ _ _ _ _ _ _ (Act.put _ (some 32) _) _; simp only [Act.put, List.setIfInBounds_toArray, List.set_cons_zero, List.set_cons_succ]
      refine wpT (i := 2) (v := ?v2g1_) rfl (Or.inl ⟨by rfl, ?y2g1_⟩) (by assumption) ?r2g1_
      case y2g1_ => (intro w hSw; (try dsimp only at hSw); go_simp; try with_reducible rfl)
      change wpAnyH _ _ _ _ _ _ _ (Act.put _ (some 33) _) _; simp only [Act.put, List.setIfInBounds_toArray, List.set_cons_zero, List.set_cons_succ]
      refine wpT (i := 3) (v := ?v3g1_) rfl (Or.inl ⟨by rfl, ?y3g1_⟩) (by assumption) ?r3g1_
      case y3g1_ => (intro w hSw; (try dsimp only at hSw); go_simp; try with_reducible rfl)
      change wpAnyH _ _ _ _ _ _ _ (Act.put _ (some 34) _) _; simp only [Act.put, List.setIfInBounds_toArray, List.set_cons_zero, List.set_cons_succ]
      refine wpT (i := 4) (v := undef) rfl (Or.inr ⟨by rfl, rfl⟩) (by assumption) ?_
      change wpAnyH _ _ _ _ _ _ _ (Act.put _ (some 35) _) _; simp only [Act.put, List.setIfInBounds_toArray, List.set_cons_zero, List.set_cons_succ]
      refine wpT (i := 5) (v := undef) rfl (Or.inr ⟨by rfl, rfl⟩) (by assumption) ?_
      change wpAnyH _ _ _ _ _ _ _ (Act.put _ (some 36) _) _; simp only [Act.put, List.setIfInBounds_toArray, List.set_cons_zero, List.set_cons_succ]
      refine wpT (i := 6) (v := undef) rfl (Or.inr ⟨by rfl, rfl⟩) (by assumption) ?_
      change wpAnyH _ _ _ _ _ _ _ (Act.put _ (some 37) _) _; simp only [Act.put, List.setIfInBounds_toArray, List.set_cons_zero, List.set_cons_succ]
      refine wpT (i := 7) (v := ?v7g1_) rfl (Or.inl ⟨by rfl, ?y7g1_⟩) (by assumption) ?r7g1_
      case y7g1_ => (intro w hSw; (try dsimp only at hSw); go_simp; try with_reducible rfl)
      change wpAnyH _ _ _ _ _ _ _ (Act.put _ (some 38) _) _; simp only [Act.put, List.setIfInBounds_toArray, List.set_cons_zero, List.set_cons_succ]
      refine wpT (i := 8) (v := ?v8g1_) rfl (Or.inl ⟨by rfl, ?y8g1_⟩) (by assumption) ?r8g1_
      case y8g1_ => (intro w hSw; (try dsimp only at hSw); go_simp; try with_reducible rfl)
      change wpAnyH _ _ _ _ _ _ _ (Act.put _ (some 39) _) _; simp only [Act.put, List.setIfInBounds_toArray, List.set_cons_zero, List.set_cons_succ]
      refine wpT (i := 9) (v := undef) rfl (Or.inr ⟨by rfl, rfl⟩) (by assumption) ?_
      change wpAnyH _ _ _ _ _ _ _ (Act.put _ (some 40) _) _; simp only [Act.put, List.setIfInBounds_toArray, List.set_cons_zero, List.set_cons_succ]
      refine wpT (i := 10) (v := undef) rfl (Or.inr ⟨by rfl, rfl⟩) (by assumption) ?_
      change wpAnyH _ _ _ _ _ _ _ (Act.put _ (some 41) _) _; simp only [Act.put, List.setIfInBounds_toArray, List.set_cons_zero, List.set_cons_succ]
      refine wpT (i := 11) (v := undef) rfl (Or.inr ⟨by rfl, rfl⟩) (by assumption) ?_
      change wpAnyH _ _ _ _ _ _ _ (Act.put _ (some 42) _) _; simp only [Act.put, List.setIfInBounds_toArray, List.set_cons_zero, List.set_cons_succ]
      refine wpT (i := 12) (v := undef) rfl (Or.inr ⟨by rfl, rfl⟩) (by assumption) ?_
      change wpAnyH _ _ _ _ _ _ _ (Act.put _ (some 43) _) _; simp only [Act.put, List.setIfInBounds_toArray, List.set_cons_zero, List.set_cons_succ]
      refine wpT (i := 13) (v := undef) rfl (Or.inr ⟨by rfl, rfl⟩) (by assumption) ?_
      change wpAnyH _ _ _ _ _ _ _ (Act.put _ (some 44) _) _; simp only [Act.put, List.setIfInBounds_toArray, List.set_cons_zero, List.set_cons_succ]
      refine wpT (i := 14) (v := undef) rfl (Or.inr ⟨by rfl, rfl⟩) (by assumption) ?_
      change wpAnyH _ _ _ _ _ _ _ (Act.put _ (some 45) _) _; simp only [Act.put, List.setIfInBounds_toArray, List.set_cons_zero, List.set_cons_succ]
      refine wpT (i := 15) (v := ?v15g1_) rfl (Or.inl ⟨by rfl, ?y15g1_⟩) (by assumption) ?r15g1_
      case y15g1_ => (intro w hSw; (try dsimp only at hSw); go_simp; try with_reducible rfl)
      change wpAnyH _ _ _ _ _ _ _ (Act.put _ (some 46) _) _; simp only [Act.put, List.setIfInBounds_toArray, List.set_cons_zero, List.set_cons_succ]
      refine wpAnyH_done (by kernel_rfl) ?_ _
      refine NoPanic.normal ?_
      go_wp2_with fail
      go_meet
      exact ⟨by rw [HG.out], below_drewN (Below.refl _ _) 1⟩
  case rest =>
  obtain ⟨rfl, hbx⟩ := hcut
  have hS := HS9.out.below.trans (hbx.mono HS9.out.below.size)
  have hans := HS9.out.ans.below hbx HS9.out.ans.lt
  have hcl := HCL.out wc hbx
  obtain ⟨c0, c1, c2, c3, c4, c5, c6⟩ := hcl
  have hk5 := HK5.out.below hbx HK5.out.lt
  cases hgm : getM b with
  | none =>
    have HGM := Lib.hid hgm
    clear hgm
    simp only [Option.isNone_none]
    have hz7 : mCells zeroM = #[.int .i64 0, .int .i64 0, .int .i64 0, .int .i64 0, .int .i64 0, .bool false, .int .u32 0] := rfl
    have hk2 := hans.setRow (mCells zeroM)
    have hb2 := below_row hS (Nat.le_refl w.heap.size) (mCells zeroM)
    have HK := Lib.hid hans; have HK2 := Lib.hid hk2; have HB2 := Lib.hid hb2; have hone := mCells_oneA zeroM
    rw [hz7] at HK HK2 HB2 hone
    have HONE := Lib.hid hone; have HZ7 := Lib.hid hz7
    clear hk2 hb2 hans hS hbx hz7 hone hk5 HS9 HCL HM HRD HAGG HMAY HBY HH
    go_wp2_with (first | (refine wpList_store_row rfl 38 (.tmp 2) (.tmp 47) rfl w.heap.size #[.int .i64 0, .int .i64 0, .int .i64 0, .int .i64 0, .int .i64 0, .bool false, .int .u32 0] rfl rfl 38 _ HK.out infoMf rfl HONE.out ?_))
    refine bodyPost_ret (results_row_tmp (Tryz.results32) _ _ w.heap.size 38 _ (0, 0) _ rfl HK2.out Tryz.underlying38 rfl infoMf) rfl ?_
    exact ⟨by rw [HGM.out, show getV none = zeroM from rfl, HZ7.out]; rfl, HB2.out⟩
  | some m =>
    have HGM := Lib.hid hgm
    simp only [Option.isNone_some]
    have hMm : M = m := by
      obtain ⟨-, -, -, h50, hm⟩ := getM_some hgm
      rw [← HM.out, ← HRD.out, readM_50 h50, hm]
    have hcs := HAGG.out
    rw [hMm] at hcs
    have hk2 := hans.setRow (mCells m)
    have hb2 := below_row hS (Nat.le_refl w.heap.size) (mCells m)
    have HK := Lib.hid hans; have HK2 := Lib.hid hk2; have HB2 := Lib.hid hb2; have hone := mCells_oneA m
    have HK5' := Lib.hid hk5
    rw [hcs] at HK2 HB2 hone
    have HONE := Lib.hid hone; have HCS := Lib.hid hcs
    clear hk2 hb2 hans hS hbx hcs hone hk5 HS9 HCL HM HRD HAGG HMAY HBY HH hMm hgm
    go_wp2_with (first | (refine wpList_store_row rfl 38 (.tmp 2) (.tmp 48) rfl w.heap.size #[.int .i64 z2, .int .i64 z3, .int .i64 z4, .int .i64 z5, .int .i64 z6, .bool (n7 == 1), .int .u32 n8] rfl rfl 38 _ HK.out infoMf rfl HONE.out ?_))
    refine bodyPost_ret (results_row_tmp (Tryz.results32) _ _ w.heap.size 38 _ (0, 0) _ rfl HK2.out Tryz.underlying38 rfl infoMf) rfl ?_
    exact ⟨by rw [HGM.out, show getV (some m) = m from rfl, HCS.out]; rfl, HB2.out⟩
end Go.Proofs.YtlcgkcafelpglaaGreatDoor
