/- The reference's manifest: May, Bytes. -/
import Derived.Test.YtlcgkcafelpglaaGreatDoorPk22
import Derived.Test.YtlcgkcafelpglaaGreatDoorPk25
namespace Go.Proofs.YtlcgkcafelpglaaGreatDoor
open Go.RowKit Go.Maps

set_option maxRecDepth 100000 in
set_option maxHeartbeats 8000000 in
theorem rfMay_any (m : ManM) (w : World) : Calls Tryz.prog 56 #[.agg (mCells m)] w fun e w' => e = .returned (.bool m.may) ∧ Below w.heap.size w w' := by
  have HB := Lib.hid ((Below.refl w.heap.size w).alloc (Nat.le_refl _) (.cells (mCells m) 46))
  obtain ⟨b, hb⟩ : ∃ b, m.may = b := ⟨_, rfl⟩
  rw [hb]
  unfold ManM.may at hb
  unfold mCells at HB ⊢
  by_cases c0 : 1 ≤ m.n
  case neg =>
    obtain rfl : b = false := by rw [← hb]; simp [c0]
    have d0 : m.n < 1 := by omega
    clear c0
    clear hb
    go_enter Tryz.func56, Tryz.ntmps56
    go_wp2
    go_ret
    exact ⟨rfl, HB.out⟩
  by_cases c1 : m.n ≤ 4611686018427387904
  case neg =>
    obtain rfl : b = false := by rw [← hb]; simp [c1]
    have d1 : 4611686018427387904 < m.n := by omega
    clear c1
    clear hb
    go_enter Tryz.func56, Tryz.ntmps56
    go_wp2
    go_ret
    exact ⟨rfl, HB.out⟩
  by_cases c2 : 1 ≤ m.epoch
  case neg =>
    obtain rfl : b = false := by rw [← hb]; simp [c2]
    have d2 : m.epoch < 1 := by omega
    clear c2
    clear hb
    go_enter Tryz.func56, Tryz.ntmps56
    go_wp2
    go_ret
    exact ⟨rfl, HB.out⟩
  by_cases c3 : m.epoch ≤ 4611686018427387904
  case neg =>
    obtain rfl : b = false := by rw [← hb]; simp [c3]
    have d3 : 4611686018427387904 < m.epoch := by omega
    clear c3
    clear hb
    go_enter Tryz.func56, Tryz.ntmps56
    go_wp2
    go_ret
    exact ⟨rfl, HB.out⟩
  by_cases c4 : -1 ≤ m.step
  case neg =>
    obtain rfl : b = false := by rw [← hb]; simp [c4]
    have d4 : m.step < -1 := by omega
    clear c4
    clear hb
    go_enter Tryz.func56, Tryz.ntmps56
    go_wp2
    go_ret
    exact ⟨rfl, HB.out⟩
  by_cases c5 : m.step ≤ 1073741824
  case neg =>
    obtain rfl : b = false := by rw [← hb]; simp [c5]
    have d5 : 1073741824 < m.step := by omega
    have q5 : decide (m.step ≤ 1073741824) = false := by simp [c5]
    clear c5
    clear hb
    go_enter Tryz.func56, Tryz.ntmps56
    go_wp2
    go_ret
    exact ⟨rfl, HB.out⟩
  obtain rfl : b = true := by rw [← hb]; simp [c0, c1, c2, c3, c4, c5]
  have q5 : decide (m.step ≤ 1073741824) = true := by simp [c5]
  clear hb
  go_enter Tryz.func56, Tryz.ntmps56
  go_wp2
  go_ret
  exact ⟨rfl, HB.out⟩
/-- what the reference's own blocks are in Bytes -/
structure RyS (w x : World) (m : ManM) (T : ByteArray) (v : Value) : Prop where
  own : x.ownsRow (w.heap.size + 1) 5 1 v T.size (ucells T)
  m : Blk x w.heap.size 46 (mCells m)
  below : Below w.heap.size w x
  size : w.heap.size + 1 ≤ x.heap.size
theorem RyS.below_ {w x y : World} {m : ManM} {T : ByteArray} {v : Value} (h : RyS w x m T v) (hb : Below x.heap.size x y) : RyS w y m T v :=
  ⟨own_below h.own hb, h.m.below hb h.m.lt, h.below.trans (hb.mono h.below.size), Nat.le_trans h.size hb.size⟩
theorem RyS.put {w x y : World} {m : ManM} {T s : ByteArray} {v v' : Value} (h : RyS w x m T v) (ho : y.ownsRow (w.heap.size + 1) 5 1 v' (T.size + s.size) (ucells T ++ ucells s)) (hb : Below (w.heap.size + 1) x y) : RyS w y m (T ++ s) v' :=
  ⟨by rw [ByteArray.size_append, ucells_append]; exact ho, h.m.below hb (by omega), h.below.trans (hb.mono (by omega)), Nat.le_trans h.size hb.size⟩
theorem RyS.sl {x : World} {b n : Nat} {v : Value} {s : ByteArray} (h : x.ownsRow b 5 1 v n (ucells s)) : ∃ A c, v = .slice A n c ∧ Sl x 1 A n (ucells s) := by
  obtain ⟨A, c, rfl, _⟩ := own_parts h
  exact ⟨A, c, rfl, Sl.of_own h⟩
theorem RyS.start (w : World) (m : ManM) : RyS w ((w.alloc (.cells (mCells m) 46)).alloc (.cells #[.int .u8 77] 5)) m m.b1 (.slice (some ⟨w.heap.size + 1, 0, none⟩) 1 1) := by
  refine ⟨?_, (Blk.new w 46 (mCells m)).alloc _, ((Below.refl _ _).alloc (Nat.le_refl _) _).alloc (by simp) _, by simp⟩
  have hk := Blk.new (w.alloc (.cells (mCells m) 46)) 5 #[.int .u8 77]
  rw [World.size_alloc] at hk
  exact ⟨rfl, .inr ⟨w.heap.size + 1, 1, _, rfl, Nat.le_refl _, hk, Nat.le_refl _, by unfold maxLen; omega, rfl, rfl⟩⟩
set_option maxRecDepth 100000 in
set_option maxHeartbeats 16000000 in
theorem rfBytes_any (m : ManM) (hm : m.Ok) (w : World) : Calls Tryz.prog 24 #[.agg (mCells m)] w fun e w' => ∃ v, e = .returned v ∧ Bt w' v m.bytes ∧ w'.ownsRow (w.heap.size + 1) 5 1 v m.bytes.size (ucells m.bytes) ∧ Below w.heap.size w w' := by
  obtain ⟨i0, hi0, hz0, hz1, hz2⟩ := parts infoU
  have hS := RyS.start w m
  unfold mCells at hS
  have HI0 := Lib.hid hi0; have HZ0 := Lib.hid hz0; have HS0 := Lib.hid hS
  have hcn := u64_int m.n; have hce := u64_int m.epoch; have hcs := u64_int m.step; have hcu := u64_int m.sum; have hco := u64_int m.most
  have HCN := Lib.hid hcn; have HCE := Lib.hid hce; have HCS := Lib.hid hcs; have HCU := Lib.hid hcu; have HCO := Lib.hid hco
  clear hi0 hz0 hS hcn hce hcs hcu hco
  unfold mCells
  go_enter Tryz.func24, Tryz.ntmps24
  go_wp2_with fail
  obtain ⟨x0, hX0⟩ : ∃ x0, ((w.alloc (.cells #[.int .i64 m.n, .int .i64 m.epoch, .int .i64 m.step, .int .i64 m.sum, .int .i64 m.most, .bool m.done, .int .u32 m.job] 46)).alloc (.cells #[.int .u8 77] 5)) = x0 := ⟨_, rfl⟩
  rw [hX0] at HS0 ⊢
  clear hX0
  have hc := rfDigits_any x0 (u64 m.n) 8 (u64_lt _) (by decide)
  rw [HCN.out] at hc
  have HC := Lib.hid hc
  clear hc
  refine HC.out.mono ?_
  rintro e y0 ⟨vd, rfl, hod, hbd⟩
  have hs2 := HS0.out.below_ hbd
  obtain ⟨Ad, cd, rfl, hsd⟩ := RyS.sl hod
  have HO := Lib.hid hs2.own; have HSD : Hid (Sl y0 1 Ad 8 (ucells (digB 8 (u64 m.n)))) := Lib.hid hsd; have HQ2 := Lib.hid hs2; have hsz := hs2.size; have HTS := Lib.hid m.s1
  clear hs2 hod hbd hsd HC
  go_upto_region 3 with (at_builtin; refine wpList_cat _ rfl (.tmp 6) (.tmp 10) 39 rfl (w.heap.size + 1) 5 i0 (.int .u8 0) 1 1 Tryz.underlying39 HI0.out HZ0.out hz1 hz2 rfl (by decide) (by decide) _ _ _ rfl HO _ 8 _ (ucells (digB 8 (u64 m.n))) rfl HSD (ucells_one _) (by rw [HTS.out]; decide) hsz ?_; intro v1 x1 h2 h3 h4; have HO2 := Lib.hid h2.out; have HB2 := Lib.hid h4.out; clear h2 h3 h4)
  have hs3 : RyS w x1 m m.b2 v1 := HQ2.out.put (by rw [digB_size]; exact HO2.out) HB2.out
  have HS1 := Lib.hid hs3
  have c1 := hs3.m.cell 1
  simp only [mCells, List.getElem?_toArray, List.getElem?_cons_zero, List.getElem?_cons_succ] at c1
  clear hs3 HS0 HQ2 HO HSD HO2 HB2 HTS hsz
  go_wp2_with fail
  have hc := rfDigits_any x1 (u64 m.epoch) 8 (u64_lt _) (by decide)
  rw [HCE.out] at hc
  have HC := Lib.hid hc
  clear hc
  refine HC.out.mono ?_
  rintro e y1 ⟨vd, rfl, hod, hbd⟩
  have hs2 := HS1.out.below_ hbd
  obtain ⟨Ad, cd, rfl, hsd⟩ := RyS.sl hod
  have HO := Lib.hid hs2.own; have HSD : Hid (Sl y1 1 Ad 8 (ucells (digB 8 (u64 m.epoch)))) := Lib.hid hsd; have HQ2 := Lib.hid hs2; have hsz := hs2.size; have HTS := Lib.hid m.s2
  obtain ⟨Ab, cb, hve, hcb⟩ := own_parts hs2.own
  subst hve
  clear hcb
  clear hs2 hod hbd hsd HC
  go_upto_region 4 with (at_builtin; refine wpList_cat _ rfl (.tmp 12) (.tmp 16) 39 rfl (w.heap.size + 1) 5 i0 (.int .u8 0) 1 1 Tryz.underlying39 HI0.out HZ0.out hz1 hz2 rfl (by decide) (by decide) _ _ _ rfl HO _ 8 _ (ucells (digB 8 (u64 m.epoch))) rfl HSD (ucells_one _) (by rw [HTS.out]; decide) hsz ?_; intro v2 x2 h2 h3 h4; have HO2 := Lib.hid h2.out; have HB2 := Lib.hid h4.out; clear h2 h3 h4)
  have hs3 : RyS w x2 m m.b3 v2 := HQ2.out.put (by rw [digB_size]; exact HO2.out) HB2.out
  have HS2 := Lib.hid hs3
  have c2 := hs3.m.cell 2
  simp only [mCells, List.getElem?_toArray, List.getElem?_cons_zero, List.getElem?_cons_succ] at c2
  clear hs3 HS1 HQ2 HO HSD HO2 HB2 HTS hsz
  go_wp2_with fail
  have hc := rfDigits_any x2 (u64 m.step) 8 (u64_lt _) (by decide)
  rw [HCS.out] at hc
  have HC := Lib.hid hc
  clear hc
  refine HC.out.mono ?_
  rintro e y2 ⟨vd, rfl, hod, hbd⟩
  have hs2 := HS2.out.below_ hbd
  obtain ⟨Ad, cd, rfl, hsd⟩ := RyS.sl hod
  have HO := Lib.hid hs2.own; have HSD : Hid (Sl y2 1 Ad 8 (ucells (digB 8 (u64 m.step)))) := Lib.hid hsd; have HQ2 := Lib.hid hs2; have hsz := hs2.size; have HTS := Lib.hid m.s3
  obtain ⟨Ab, cb, hve, hcb⟩ := own_parts hs2.own
  subst hve
  clear hcb
  clear hs2 hod hbd hsd HC
  go_upto_region 5 with (at_builtin; refine wpList_cat _ rfl (.tmp 18) (.tmp 22) 39 rfl (w.heap.size + 1) 5 i0 (.int .u8 0) 1 1 Tryz.underlying39 HI0.out HZ0.out hz1 hz2 rfl (by decide) (by decide) _ _ _ rfl HO _ 8 _ (ucells (digB 8 (u64 m.step))) rfl HSD (ucells_one _) (by rw [HTS.out]; decide) hsz ?_; intro v3 x3 h2 h3 h4; have HO2 := Lib.hid h2.out; have HB2 := Lib.hid h4.out; clear h2 h3 h4)
  have hs3 : RyS w x3 m m.b4 v3 := HQ2.out.put (by rw [digB_size]; exact HO2.out) HB2.out
  have HS3 := Lib.hid hs3
  have c3 := hs3.m.cell 3
  simp only [mCells, List.getElem?_toArray, List.getElem?_cons_zero, List.getElem?_cons_succ] at c3
  clear hs3 HS2 HQ2 HO HSD HO2 HB2 HTS hsz
  go_wp2_with fail
  have hc := rfDigits_any x3 (u64 m.sum) 8 (u64_lt _) (by decide)
  rw [HCU.out] at hc
  have HC := Lib.hid hc
  clear hc
  refine HC.out.mono ?_
  rintro e y3 ⟨vd, rfl, hod, hbd⟩
  have hs2 := HS3.out.below_ hbd
  obtain ⟨Ad, cd, rfl, hsd⟩ := RyS.sl hod
  have HO := Lib.hid hs2.own; have HSD : Hid (Sl y3 1 Ad 8 (ucells (digB 8 (u64 m.sum)))) := Lib.hid hsd; have HQ2 := Lib.hid hs2; have hsz := hs2.size; have HTS := Lib.hid m.s4
  obtain ⟨Ab, cb, hve, hcb⟩ := own_parts hs2.own
  subst hve
  clear hcb
  clear hs2 hod hbd hsd HC
  go_upto_region 6 with (at_builtin; refine wpList_cat _ rfl (.tmp 24) (.tmp 28) 39 rfl (w.heap.size + 1) 5 i0 (.int .u8 0) 1 1 Tryz.underlying39 HI0.out HZ0.out hz1 hz2 rfl (by decide) (by decide) _ _ _ rfl HO _ 8 _ (ucells (digB 8 (u64 m.sum))) rfl HSD (ucells_one _) (by rw [HTS.out]; decide) hsz ?_; intro v4 x4 h2 h3 h4; have HO2 := Lib.hid h2.out; have HB2 := Lib.hid h4.out; clear h2 h3 h4)
  have hs3 : RyS w x4 m m.b5 v4 := HQ2.out.put (by rw [digB_size]; exact HO2.out) HB2.out
  have HS4 := Lib.hid hs3
  have c4 := hs3.m.cell 4
  simp only [mCells, List.getElem?_toArray, List.getElem?_cons_zero, List.getElem?_cons_succ] at c4
  clear hs3 HS3 HQ2 HO HSD HO2 HB2 HTS hsz
  go_wp2_with fail
  have hc := rfDigits_any x4 (u64 m.most) 8 (u64_lt _) (by decide)
  rw [HCO.out] at hc
  have HC := Lib.hid hc
  clear hc
  refine HC.out.mono ?_
  rintro e y4 ⟨vd, rfl, hod, hbd⟩
  have hs2 := HS4.out.below_ hbd
  obtain ⟨Ad, cd, rfl, hsd⟩ := RyS.sl hod
  have HO := Lib.hid hs2.own; have HSD : Hid (Sl y4 1 Ad 8 (ucells (digB 8 (u64 m.most)))) := Lib.hid hsd; have HQ2 := Lib.hid hs2; have hsz := hs2.size; have HTS := Lib.hid m.s5
  obtain ⟨Ab, cb, hve, hcb⟩ := own_parts hs2.own
  subst hve
  clear hcb
  clear hs2 hod hbd hsd HC
  go_upto_region 7 with (at_builtin; refine wpList_cat _ rfl (.tmp 30) (.tmp 34) 39 rfl (w.heap.size + 1) 5 i0 (.int .u8 0) 1 1 Tryz.underlying39 HI0.out HZ0.out hz1 hz2 rfl (by decide) (by decide) _ _ _ rfl HO _ 8 _ (ucells (digB 8 (u64 m.most))) rfl HSD (ucells_one _) (by rw [HTS.out]; decide) hsz ?_; intro v5 x5 h2 h3 h4; have HO2 := Lib.hid h2.out; have HB2 := Lib.hid h4.out; clear h2 h3 h4)
  have hs3 : RyS w x5 m m.b6 v5 := HQ2.out.put (by rw [digB_size]; exact HO2.out) HB2.out
  have HS5 := Lib.hid hs3
  have c5 := hs3.m.cell 5
  simp only [mCells, List.getElem?_toArray, List.getElem?_cons_zero, List.getElem?_cons_succ] at c5
  clear hs3 HS4 HQ2 HO HSD HO2 HB2 HTS hsz
  cases hd : m.done
  all_goals
    rw [hd] at c5
    have hb7 : m.b7 = m.b6 ++ digB 1 (if m.done = true then 1 else 0) := rfl
    rw [hd] at hb7
    simp only [if_true, Bool.false_eq_true, if_false] at hb7
    obtain ⟨D, k, hD, hDu, hDs⟩ : ∃ (D : ByteArray) (k : Int), m.b7 = m.b6 ++ D ∧ ucells D = [.int .u8 k] ∧ k = (if m.done = true then 1 else 0) := ⟨_, (if m.done = true then 1 else 0), hb7, by rw [hd]; rfl, rfl⟩
    rw [hd] at hDs
    simp only [if_true, Bool.false_eq_true, if_false] at hDs
    subst hDs
    have HDU := Lib.hid hDu; have HD := Lib.hid hD
    have hs2 := HS5.out.below_ ((Below.refl x5.heap.size x5).alloc (Nat.le_refl _) (.cells (ucells D).toArray 5))
    have hsd := Sl.new x5 (ucells D) 5 1 1 (by rw [hDu]; rfl) x5.heap.size rfl
    rw [hDu] at hs2 hsd
    have HO := Lib.hid hs2.own; have HSD := Lib.hid hsd; have HQ2 := Lib.hid hs2; have hsz := hs2.size; have HTS := Lib.hid m.s6
    obtain ⟨Ab, cb, hve, hcb⟩ := own_parts hs2.own
    subst hve
    clear hd hb7 hD hDu hs2 hsd hcb HS5
    go_upto_region 11 with (at_builtin; refine wpList_cat _ rfl (.tmp 38) (.tmp 40) 39 rfl (w.heap.size + 1) 5 i0 (.int .u8 0) 1 1 Tryz.underlying39 HI0.out HZ0.out hz1 hz2 rfl (by decide) (by decide) _ _ _ rfl HO _ 1 _ _ rfl HSD (by intro u hu; simp at hu; subst hu; rfl) (by rw [HTS.out]; decide) hsz ?_; intro v6 x6 h2 h3 h4; have HO2 := Lib.hid h2.out; have HB2 := Lib.hid h4.out; clear h2 h3 h4)
    have hs3 : RyS w x6 m m.b7 v6 := by
      rw [HD.out]
      have hDs1 : D.size = 1 := by
        have := congrArg List.length HDU.out
        rw [ucells_length] at this
        exact this
      exact HQ2.out.put (by rw [hDs1, HDU.out]; exact HO2.out) HB2.out
    have HS6 := Lib.hid hs3
    have c6 := hs3.m.cell 6
    simp only [mCells, List.getElem?_toArray, List.getElem?_cons_zero, List.getElem?_cons_succ] at c6
    have hjI : (m.job : Int) < 18446744073709551616 := by have := hm.job; omega
    clear hs3 HQ2 HO HSD HO2 HB2 HTS hsz HDU HD
    go_wp2_with fail
    have hc := rfDigits_any x6 m.job 4 (by have := hm.job; omega) (by decide)
    have HC := Lib.hid hc
    clear hc
    refine HC.out.mono ?_
    rintro e y6 ⟨vd, rfl, hod, hbd⟩
    have hs2 := HS6.out.below_ hbd
    obtain ⟨Ad, cd, rfl, hsd⟩ := RyS.sl hod
    have HO := Lib.hid hs2.own; have HSD : Hid (Sl y6 1 Ad 4 (ucells (digB 4 m.job))) := Lib.hid hsd; have HQ2 := Lib.hid hs2; have hsz := hs2.size; have HTS := Lib.hid m.s7
    obtain ⟨Ab, cb, hve, hcb⟩ := own_parts hs2.own
    subst hve
    clear hcb
    clear hs2 hod hbd hsd HC
    go_upto_region 12 with (at_builtin; refine wpList_cat _ rfl (.tmp 42) (.tmp 46) 39 rfl (w.heap.size + 1) 5 i0 (.int .u8 0) 1 1 Tryz.underlying39 HI0.out HZ0.out hz1 hz2 rfl (by decide) (by decide) _ _ _ rfl HO _ 4 _ (ucells (digB 4 m.job)) rfl HSD (ucells_one _) (by rw [HTS.out]; decide) hsz ?_; intro v7 x7 h2 h3 h4; have HO2 := Lib.hid h2.out; have HB2 := Lib.hid h4.out; clear h2 h3 h4)
    have hs3 : RyS w x7 m m.head v7 := HQ2.out.put (by rw [digB_size]; exact HO2.out) HB2.out
    have HS7 := Lib.hid hs3
    clear hs3 HS6 HQ2 HO HSD HO2 HB2 HTS hsz c6 hjI
    obtain ⟨A7, c7, hve, hcb⟩ := own_parts HS7.out.own
    subst hve
    have hSm := rfSum_any x7 _ m.head (Bt.of_own HS7.out.own).btr (by rw [m.s8]; decide)
    have HSm := Lib.hid hSm
    have hcI : (crcN m.head : Int) < 18446744073709551616 := by have := crcN_lt m.head; omega
    clear hSm hcb
    go_wp2_with fail
    refine HSm.out.mono ?_
    rintro e x8 ⟨rfl, hb8⟩
    have HS8 := Lib.hid (HS7.out.below_ hb8)
    clear hb8 HSm HS7
    go_wp2_with fail
    have hc := rfDigits_any x8 (crcN m.head) 4 (by have := crcN_lt m.head; omega) (by decide)
    have HC := Lib.hid hc
    clear hc
    refine HC.out.mono ?_
    rintro e y8 ⟨vd, rfl, hod, hbd⟩
    have hs2 := HS8.out.below_ hbd
    obtain ⟨Ad, cd, rfl, hsd⟩ := RyS.sl hod
    have HO := Lib.hid hs2.own; have HSD : Hid (Sl y8 1 Ad 4 (ucells (digB 4 (crcN m.head)))) := Lib.hid hsd; have HQ2 := Lib.hid hs2; have hsz := hs2.size; have HTS := Lib.hid m.s8
    clear hs2 hod hbd hsd HC
    go_wp2_with (at_builtin; refine wpList_cat _ rfl (.tmp 48) (.tmp 52) 39 rfl (w.heap.size + 1) 5 i0 (.int .u8 0) 1 1 Tryz.underlying39 HI0.out HZ0.out hz1 hz2 rfl (by decide) (by decide) _ _ _ rfl HO _ 4 _ (ucells (digB 4 (crcN m.head))) rfl HSD (ucells_one _) (by rw [HTS.out]; decide) hsz ?_; intro v9 x9 h2 h3 h4; have HO2 := Lib.hid h2.out; have HB2 := Lib.hid h4.out; clear h2 h3 h4)
    have hs3 : RyS w x9 m m.bytes v9 := HQ2.out.put (by rw [digB_size]; exact HO2.out) HB2.out
    have HS9 := Lib.hid hs3
    have HB := Lib.hid hs3.own; have HBL := Lib.hid hs3.below
    clear hs3 HS8 HQ2 HO HSD HO2 HB2 HTS hsz hcI
    go_ret
    exact ⟨v9, rfl, Bt.of_own HB.out, HB.out, HBL.out⟩
end Go.Proofs.YtlcgkcafelpglaaGreatDoor
