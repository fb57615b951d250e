/- The reference's manifest: Get. -/
import Derived.Test.YtlcgkcafelpglaaGreatDoorRfM
import Derived.Test.YtlcgkcafelpglaaGreatDoorMaO
import Derived.Deep.RegionWith
import Derived.Deep.DeepCutAuto
import Derived.IntWalk
namespace Go.Proofs.YtlcgkcafelpglaaGreatDoor
open Go.RowKit Go.Maps

theorem BtR.piece {w : World} {A : Option Addr} {c : Nat} {s : ByteArray} (h : BtR w (.slice A s.size c) s) (i j : Nat) (hij : i ≤ j) (hj : j ≤ s.size) :
    ∃ v, (∀ W : World, (Instr.sliceAt 39 (.slice A s.size c) (some (.int .i64 (i : Int))) (some (.int .i64 (j : Int))) none).run Tryz.prog W = .ok v W) ∧ BtR w v (s.extract i j) := by
  obtain ⟨A2, c2, he, hc, hr⟩ := h
  simp only [Value.slice.injEq] at he
  obtain ⟨rfl, -, rfl⟩ := he
  obtain ⟨i0, hi0, hz0, hz1, hz2⟩ := parts infoU
  have hsz : (s.extract i j).size = j - i := by rw [ByteArray.size_extract]; omega
  refine ⟨_, run_fromto Tryz.underlying39 hi0 hz1 A s.size c i j hij (by omega), if c = i then A else A.map (·.add i), c - i, by rw [hsz], by rw [hsz]; omega, by rw [ucells_length, Nat.mul_one], fun h0 => ?_⟩
  rw [hsz] at h0
  rw [if_neg (by omega)]
  obtain ⟨ad, rfl, hb, hx⟩ := hr.2 (by omega)
  refine ⟨ad.add i, rfl, by rw [block_of_add]; exact hb, fun k u hu => ?_⟩
  have hk : k < j - i := by have := (List.getElem?_eq_some_iff.1 hu).1; rwa [ucells_length, hsz] at this
  rw [ucells_at _ k (by rw [hsz]; exact hk), ext_get s i j k hj hk] at hu
  rw [add_of_add]
  exact hx (i + k) u (by rw [ucells_at s (i + k) (by omega)]; exact hu)
theorem numB_one (b : ByteArray) (i : Nat) (hi : i < b.size) : numB (b.extract i (i + 1)) = (b.get! i).toNat := by
  have hsz : (b.extract i (i + 1)).size = 1 := by rw [ByteArray.size_extract]; omega
  have h := numL_take_succ (b.extract i (i + 1)) 0 (by omega)
  rw [ext_get b i (i + 1) 0 (by omega) (by omega)] at h
  have h2 := numL_all (b.extract i (i + 1))
  rw [hsz] at h2
  rw [← h2, h]
  simp [numL]
theorem wrapI_i64 {n : Nat} (h : n < 18446744073709551616) : IntKind.i64.wrap (n : Int) = i64 n := (IntWalk.i64_left _).trans (wrap64_i64 h)
def getB (o : Option ManM) : Bool := o.isSome
theorem infoRf : (Tryz.prog.info? 46).map (·.size) = some 7 := by kernel_rfl
set_option maxRecDepth 100000 in
set_option maxHeartbeats 16000000 in
theorem rfGet_any (w : World) (v : Value) (b : ByteArray) (h : BtR w v b) :
    Calls Tryz.prog 35 #[v] w fun e w' => e = .returned (.tuple #[.agg (mCells (getV (getM b))), .bool (getB (getM b))]) ∧ Below w.heap.size w w' := by
  have hz7 : mCells zeroM = #[.int .i64 0, .int .i64 0, .int .i64 0, .int .i64 0, .int .i64 0, .bool false, .int .u32 0] := rfl
  have ha := (Below.refl w.heap.size w).alloc (Nat.le_refl _) (.cells (mCells zeroM) 46)
  have hk := Blk.new w 46 (mCells zeroM)
  obtain ⟨A, c, rfl, hc, -⟩ := id h
  by_cases h50 : b.size = 50
  case neg =>
    have HGM := Lib.hid (getM_size h50)
    have t50 : ((b.size : Int) != 50) = true := by simp; omega
    have hk2 := hk.setRow (mCells zeroM)
    have hb2 := below_row ha (Nat.le_refl w.heap.size) (mCells zeroM)
    have hone := mCells_oneA zeroM
    rw [hz7] at hk hk2 hb2 hone
    have HK := Lib.hid hk; have HK2 := Lib.hid hk2; have HB2 := Lib.hid hb2; have HONE := Lib.hid hone; have HZ7 := Lib.hid hz7
    clear hk2 hb2 hone hk ha hz7 h h50
    go_enter Tryz.func35, Tryz.ntmps35
    go_wp2_with (first | (refine wpList_store_row rfl 46 (.tmp 2) (.tmp 8) rfl w.heap.size #[.int .i64 0, .int .i64 0, .int .i64 0, .int .i64 0, .int .i64 0, .bool false, .int .u32 0] rfl rfl 46 _ HK.out infoRf rfl HONE.out ?_))
    refine bodyPost_ret (results_row_tmp (Tryz.results35) _ _ w.heap.size 46 _ (0, 0) _ rfl HK2.out Tryz.underlying46 rfl infoRf) rfl ?_
    exact ⟨by rw [HGM.out, show getV none = zeroM from rfl, HZ7.out]; rfl, HB2.out⟩
  have t50 : ((b.size : Int) != 50) = false := by simp; omega
  obtain ⟨v2, e2, r2⟩ := h.piece 1 9 (by decide) (by omega)
  obtain ⟨v3, e3, r3⟩ := h.piece 9 17 (by decide) (by omega)
  obtain ⟨v4, e4, r4⟩ := h.piece 17 25 (by decide) (by omega)
  obtain ⟨v5, e5, r5⟩ := h.piece 25 33 (by decide) (by omega)
  obtain ⟨v6, e6, r6⟩ := h.piece 33 41 (by decide) (by omega)
  obtain ⟨v8, e8, r8⟩ := h.piece 42 46 (by decide) (by omega)
  obtain ⟨ad, rfl, c41⟩ := h.cell (k := 41) (by omega)
  have hrdm : ofB b = ofB b := rfl
  conv at hrdm => rhs; unfold ofB
  have q2 : numB (b.extract 1 9) < 18446744073709551616 := ext_num (by decide)
  have q3 : numB (b.extract 9 17) < 18446744073709551616 := ext_num (by decide)
  have q4 : numB (b.extract 17 25) < 18446744073709551616 := ext_num (by decide)
  have q5 : numB (b.extract 25 33) < 18446744073709551616 := ext_num (by decide)
  have q6 : numB (b.extract 33 41) < 18446744073709551616 := ext_num (by decide)
  have q8 : numB (b.extract 42 46) < 4294967296 := (ofB_ok b).job
  have q7 := numB_one b 41 (by omega)
  rw [show 41 + 1 = 42 from rfl] at q7
  rw [q7] at hrdm
  obtain ⟨n7, hn7⟩ : ∃ n : UInt8, b.get! 41 = n := ⟨_, rfl⟩
  rw [hn7] at hrdm c41
  have l7 := n7.toNat_lt
  obtain ⟨n2, hn2⟩ : ∃ n, numB (b.extract 1 9) = n := ⟨_, rfl⟩
  rw [hn2] at q2 hrdm
  have hw2 : wrap64 (n2 : Int) = i64 n2 := wrap64_i64 q2
  have hx2 : IntKind.i64.wrap (n2 : Int) = i64 n2 := wrapI_i64 q2
  obtain ⟨z2, hz2⟩ : ∃ z, i64 n2 = z := ⟨_, rfl⟩
  rw [hz2] at hw2 hx2 hrdm
  obtain ⟨n3, hn3⟩ : ∃ n, numB (b.extract 9 17) = n := ⟨_, rfl⟩
  rw [hn3] at q3 hrdm
  have hw3 : wrap64 (n3 : Int) = i64 n3 := wrap64_i64 q3
  have hx3 : IntKind.i64.wrap (n3 : Int) = i64 n3 := wrapI_i64 q3
  obtain ⟨z3, hz3⟩ : ∃ z, i64 n3 = z := ⟨_, rfl⟩
  rw [hz3] at hw3 hx3 hrdm
  obtain ⟨n4, hn4⟩ : ∃ n, numB (b.extract 17 25) = n := ⟨_, rfl⟩
  rw [hn4] at q4 hrdm
  have hw4 : wrap64 (n4 : Int) = i64 n4 := wrap64_i64 q4
  have hx4 : IntKind.i64.wrap (n4 : Int) = i64 n4 := wrapI_i64 q4
  obtain ⟨z4, hz4⟩ : ∃ z, i64 n4 = z := ⟨_, rfl⟩
  rw [hz4] at hw4 hx4 hrdm
  obtain ⟨n5, hn5⟩ : ∃ n, numB (b.extract 25 33) = n := ⟨_, rfl⟩
  rw [hn5] at q5 hrdm
  have hw5 : wrap64 (n5 : Int) = i64 n5 := wrap64_i64 q5
  have hx5 : IntKind.i64.wrap (n5 : Int) = i64 n5 := wrapI_i64 q5
  obtain ⟨z5, hz5⟩ : ∃ z, i64 n5 = z := ⟨_, rfl⟩
  rw [hz5] at hw5 hx5 hrdm
  obtain ⟨n6, hn6⟩ : ∃ n, numB (b.extract 33 41) = n := ⟨_, rfl⟩
  rw [hn6] at q6 hrdm
  have hw6 : wrap64 (n6 : Int) = i64 n6 := wrap64_i64 q6
  have hx6 : IntKind.i64.wrap (n6 : Int) = i64 n6 := wrapI_i64 q6
  obtain ⟨z6, hz6⟩ : ∃ z, i64 n6 = z := ⟨_, rfl⟩
  rw [hz6] at hw6 hx6 hrdm
  obtain ⟨n8, hn8⟩ : ∃ n, numB (b.extract 42 46) = n := ⟨_, rfl⟩
  rw [hn8] at q8 hrdm
  have hx8 : IntKind.u32.wrap (n8 : Int) = (n8 : Int) := IntWalk.u32_in _ (by omega)
  have HRD := Lib.hid hrdm
  have HH := Lib.hid h
  have hsz9 : ∀ i j, j - i ≤ 8 → (b.extract i j).size ≤ 8 := fun i j hij => by rw [ByteArray.size_extract]; omega
  have hc2 : ∀ W, Below w.heap.size w W → Calls Tryz.prog 72 #[v2] W fun e w' => e = .returned (.int .u64 n2) ∧ w' = W := fun W hW => by rw [← hn2]; exact rfNumber_any W v2 _ (r2.below hW) (hsz9 _ _ (by decide))
  have HC2 := Lib.hid hc2
  clear hc2 hn2 r2
  have hc3 : ∀ W, Below w.heap.size w W → Calls Tryz.prog 72 #[v3] W fun e w' => e = .returned (.int .u64 n3) ∧ w' = W := fun W hW => by rw [← hn3]; exact rfNumber_any W v3 _ (r3.below hW) (hsz9 _ _ (by decide))
  have HC3 := Lib.hid hc3
  clear hc3 hn3 r3
  have hc4 : ∀ W, Below w.heap.size w W → Calls Tryz.prog 72 #[v4] W fun e w' => e = .returned (.int .u64 n4) ∧ w' = W := fun W hW => by rw [← hn4]; exact rfNumber_any W v4 _ (r4.below hW) (hsz9 _ _ (by decide))
  have HC4 := Lib.hid hc4
  clear hc4 hn4 r4
  have hc5 : ∀ W, Below w.heap.size w W → Calls Tryz.prog 72 #[v5] W fun e w' => e = .returned (.int .u64 n5) ∧ w' = W := fun W hW => by rw [← hn5]; exact rfNumber_any W v5 _ (r5.below hW) (hsz9 _ _ (by decide))
  have HC5 := Lib.hid hc5
  clear hc5 hn5 r5
  have hc6 : ∀ W, Below w.heap.size w W → Calls Tryz.prog 72 #[v6] W fun e w' => e = .returned (.int .u64 n6) ∧ w' = W := fun W hW => by rw [← hn6]; exact rfNumber_any W v6 _ (r6.below hW) (hsz9 _ _ (by decide))
  have HC6 := Lib.hid hc6
  clear hc6 hn6 r6
  have hc8 : ∀ W, Below w.heap.size w W → Calls Tryz.prog 72 #[v8] W fun e w' => e = .returned (.int .u64 n8) ∧ w' = W := fun W hW => by rw [← hn8]; exact rfNumber_any W v8 _ (r8.below hW) (hsz9 _ _ (by decide))
  have HC8 := Lib.hid hc8
  clear hc8 hn8 r8
  clear hz2 hz3 hz4 hz5 hz6 hrdm q7 hn7 h hsz9
  rw [hz7] at ha hk
  have HA := Lib.hid ha; have HK := Lib.hid hk; have HZ := Lib.hid hz7
  clear ha hk hz7
  have hb7 : ((n7.toNat : Int) == 1) = (n7.toNat == 1) := by
    cases h1 : (n7.toNat == 1)
    · simp at h1 ⊢; omega
    · simp at h1 ⊢; omega
  have c41' : ∀ W, Below w.heap.size w W → W.cell? ⟨ad.block, ad.off + 41, none⟩ = some (.int .u8 n7.toNat) := fun W hW => by
    have hb : (ad.add 41).block < w.heap.size := World.block_lt_of_cell? _ _ c41
    have h2 : W.cell? (ad.add 41) = some (.int .u8 n7.toNat) := by rw [hW.cell hb]; exact c41
    exact h2
  have C41 := Lib.hid c41'; have H50 := Lib.hid h50
  clear c41' c41 h50
  go_enter Tryz.func35, Tryz.ntmps35
  go_wp2_with fail
  obtain ⟨w1, hw1⟩ : ∃ w1, w.alloc (.cells #[.int .i64 0, .int .i64 0, .int .i64 0, .int .i64 0, .int .i64 0, .bool false, .int .u32 0] 46) = w1 := ⟨_, rfl⟩
  rw [hw1] at HA HK ⊢
  have HB0 := Lib.hid HA.out.drew
  have HBX := HB0
  clear hw1 t50
  have hz50 : (41 : Int) < (b.size : Int) := by have := H50.out; omega
  go_cut [4] (fun s4 wx => s4 = .pointer (some ⟨w1.heap.size, 0, none⟩) ∧ wx = (w1.alloc (.cells #[.int .i64 z2, .int .i64 z3, .int .i64 z4, .int .i64 z5, .int .i64 z6, .bool (n7.toNat == 1), .int .u32 n8] 46)).drew)
  case first =>
    refine wp_region_noPanic ?_
    refine wp_region_held_drew (S := (fun w' => w'.cell? ⟨ad.block, ad.off + 41, none⟩ = some (.int .u8 n7.toNat) ∧ Below w.heap.size w w')) (by kernel_rfl) ?_ (fun hHeld => ?_)
    · exact ⟨C41.out _ HBX.out, HBX.out⟩
    refine wpT (i := 0) (v := ?v0g1_) rfl (Or.inl ⟨by rfl, ?y0g1_⟩) (by assumption) ?r0g1_
    case y0g1_ => (intro w hSw; (try dsimp only at hSw); go_simp; try with_reducible rfl)
    change wpAnyH _ _ _ _ _ _ _ (Act.put _ (some 9) _) _; simp only [Act.put, List.setIfInBounds_toArray, List.set_cons_zero, List.set_cons_succ]
    refine wpT (i := 1) (v := ?v1g1_) rfl (Or.inl ⟨by rfl, ?y1g1_⟩) (by assumption) ?r1g1_
    case y1g1_ => (intro w hSw; exact run_execOp_slice rfl (by have hs := e2 w; simpa [Act.eval] using hs))
    change wpAnyH _ _ _ _ _ _ _ (Act.put _ (some 10) _) _; simp only [Act.put, List.setIfInBounds_toArray, List.set_cons_zero, List.set_cons_succ]
    refine wpT (i := 4) (v := ?v4g1_) rfl (Or.inl ⟨by rfl, ?y4g1_⟩) (by assumption) ?r4g1_
    case y4g1_ => (intro w hSw; (try dsimp only at hSw); go_simp; try with_reducible rfl)
    change wpAnyH _ _ _ _ _ _ _ (Act.put _ (some 13) _) _; simp only [Act.put, List.setIfInBounds_toArray, List.set_cons_zero, List.set_cons_succ]
    refine wpT (i := 5) (v := ?v5g1_) rfl (Or.inl ⟨by rfl, ?y5g1_⟩) (by assumption) ?r5g1_
    case y5g1_ => (intro w hSw; exact run_execOp_slice rfl (by have hs := e3 w; simpa [Act.eval] using hs))
    change wpAnyH _ _ _ _ _ _ _ (Act.put _ (some 14) _) _; simp only [Act.put, List.setIfInBounds_toArray, List.set_cons_zero, List.set_cons_succ]
    refine wpT (i := 8) (v := ?v8g1_) rfl (Or.inl ⟨by rfl, ?y8g1_⟩) (by assumption) ?r8g1_
    case y8g1_ => (intro w hSw; (try dsimp only at hSw); go_simp; try with_reducible rfl)
    change wpAnyH _ _ _ _ _ _ _ (Act.put _ (some 17) _) _; simp only [Act.put, List.setIfInBounds_toArray, List.set_cons_zero, List.set_cons_succ]
    refine wpT (i := 9) (v := ?v9g1_) rfl (Or.inl ⟨by rfl, ?y9g1_⟩) (by assumption) ?r9g1_
    case y9g1_ => (intro w hSw; exact run_execOp_slice rfl (by have hs := e4 w; simpa [Act.eval] using hs))
    change wpAnyH _ _ _ _ _ _ _ (Act.put _ (some 18) _) _; simp only [Act.put, List.setIfInBounds_toArray, List.set_cons_zero, List.set_cons_succ]
    refine wpT (i := 12) (v := ?v12g1_) rfl (Or.inl ⟨by rfl, ?y12g1_⟩) (by assumption) ?r12g1_
    case y12g1_ => (intro w hSw; (try dsimp only at hSw); go_simp; try with_reducible rfl)
    change wpAnyH _ _ _ _ _ _ _ (Act.put _ (some 21) _) _; simp only [Act.put, List.setIfInBounds_toArray, List.set_cons_zero, List.set_cons_succ]
    refine wpT (i := 13) (v := ?v13g1_) rfl (Or.inl ⟨by rfl, ?y13g1_⟩) (by assumption) ?r13g1_
    case y13g1_ => (intro w hSw; exact run_execOp_slice rfl (by have hs := e5 w; simpa [Act.eval] using hs))
    change wpAnyH _ _ _ _ _ _ _ (Act.put _ (some 22) _) _; simp only [Act.put, List.setIfInBounds_toArray, List.set_cons_zero, List.set_cons_succ]
    refine wpT (i := 16) (v := ?v16g1_) rfl (Or.inl ⟨by rfl, ?y16g1_⟩) (by assumption) ?r16g1_
    case y16g1_ => (intro w hSw; (try dsimp only at hSw); go_simp; try with_reducible rfl)
    change wpAnyH _ _ _ _ _ _ _ (Act.put _ (some 25) _) _; simp only [Act.put, List.setIfInBounds_toArray, List.set_cons_zero, List.set_cons_succ]
    refine wpT (i := 17) (v := ?v17g1_) rfl (Or.inl ⟨by rfl, ?y17g1_⟩) (by assumption) ?r17g1_
    case y17g1_ => (intro w hSw; exact run_execOp_slice rfl (by have hs := e6 w; simpa [Act.eval] using hs))
    change wpAnyH _ _ _ _ _ _ _ (Act.put _ (some 26) _) _; simp only [Act.put, List.setIfInBounds_toArray, List.set_cons_zero, List.set_cons_succ]
    refine wpT (i := 20) (v := ?v20g1_) rfl (Or.inl ⟨by rfl, ?y20g1_⟩) (by assumption) ?r20g1_
    case y20g1_ => (intro w hSw; (try dsimp only at hSw); go_simp; try with_reducible rfl)
    change wpAnyH _ _ _ _ _ _ _ (Act.put _ (some 29) _) _; simp only [Act.put, List.setIfInBounds_toArray, List.set_cons_zero, List.set_cons_succ]
    refine wpT (i := 21) (v := ?v21g1_) rfl (Or.inl ⟨by rfl, ?y21g1_⟩) (by assumption) ?r21g1_
    case y21g1_ => (intro w hSw; (try dsimp only at hSw); go_simp; try with_reducible rfl)
    change wpAnyH _ _ _ _ _ _ _ (Act.put _ (some 30) _) _; simp only [Act.put, List.setIfInBounds_toArray, List.set_cons_zero, List.set_cons_succ]
    refine wpT (i := 22) (v := ?v22g1_) rfl (Or.inl ⟨by rfl, ?y22g1_⟩) (by assumption) ?r22g1_
    case y22g1_ => (intro w hSw; (try dsimp only at hSw); go_simp; try with_reducible rfl)
    change wpAnyH _ _ _ _ _ _ _ (Act.put _ (some 31) _) _; simp only [Act.put, List.setIfInBounds_toArray, List.set_cons_zero, List.set_cons_succ]
    refine wpT (i := 23) (v := ?v23g1_) rfl (Or.inl ⟨by rfl, ?y23g1_⟩) (by assumption) ?r23g1_
    case y23g1_ => (intro w hSw; (try dsimp only at hSw); go_simp; try with_reducible rfl)
    change wpAnyH _ _ _ _ _ _ _ (Act.put _ (some 32) _) _; simp only [Act.put, List.setIfInBounds_toArray, List.set_cons_zero, List.set_cons_succ]
    refine wpT (i := 24) (v := ?v24g1_) rfl (Or.inl ⟨by rfl, ?y24g1_⟩) (by assumption) ?r24g1_
    case y24g1_ => (intro w hSw; (try dsimp only at hSw); go_simp; try with_reducible rfl)
    change wpAnyH _ _ _ _ _ _ _ (Act.put _ (some 33) _) _; simp only [Act.put, List.setIfInBounds_toArray, List.set_cons_zero, List.set_cons_succ]
    refine wpT (i := 25) (v := ?v25g1_) rfl (Or.inl ⟨by rfl, ?y25g1_⟩) (by assumption) ?r25g1_
    case y25g1_ => (intro w hSw; exact run_execOp_slice rfl (by have hs := e8 w; simpa [Act.eval] using hs))
    change wpAnyH _ _ _ _ _ _ _ (Act.put _ (some 34) _) _; simp only [Act.put, List.setIfInBounds_toArray, List.set_cons_zero, List.set_cons_succ]
    refine wpAnyH_ready (rs := [2, 29]) (by kernel_rfl) (by simp) ?_
    refine AllReadyH.cons rfl (fun K hK => ?_) (AllReadyH.cons rfl (fun K hK => ?_) AllReadyH.nil)
    · go_simp
      refine (HC2.out _ HBX.out).mono ?_
      rintro e w2 ⟨rfl, rfl⟩
      dsimp only
      refine hK.out _ _ ?_ (fun hHeld => ?_)
      · exact ⟨C41.out _ HBX.out, HBX.out⟩
      clear hK K
      try simp only [Act.put, List.setIfInBounds_toArray, List.set_cons_zero, List.set_cons_succ]
      refine wpT (i := 3) (v := ?v3g1_a) rfl (Or.inl ⟨by rfl, ?y3g1_a⟩) (by assumption) ?r3g1_a
      case y3g1_a => (intro w hSw; (try dsimp only at hSw); go_simp; try with_reducible rfl)
      change wpAnyH _ _ _ _ _ _ _ (Act.put _ (some 12) _) _; simp only [Act.put, List.setIfInBounds_toArray, List.set_cons_zero, List.set_cons_succ]
      refine wpAnyH_ready (rs := [6, 29]) (by kernel_rfl) (by simp) ?_
      refine AllReadyH.cons rfl (fun K hK => ?_) (AllReadyH.cons rfl (fun K hK => ?_) AllReadyH.nil)
      · go_simp
        refine (HC3.out _ HBX.out).mono ?_
        rintro e w2 ⟨rfl, rfl⟩
        dsimp only
        refine hK.out _ _ ?_ (fun hHeld => ?_)
        · exact ⟨C41.out _ HBX.out, HBX.out⟩
        clear hK K
        try simp only [Act.put, List.setIfInBounds_toArray, List.set_cons_zero, List.set_cons_succ]
        refine wpT (i := 7) (v := ?v7g1_aa) rfl (Or.inl ⟨by rfl, ?y7g1_aa⟩) (by assumption) ?r7g1_aa
        case y7g1_aa => (intro w hSw; (try dsimp only at hSw); go_simp; try with_reducible rfl)
        change wpAnyH _ _ _ _ _ _ _ (Act.put _ (some 16) _) _; simp only [Act.put, List.setIfInBounds_toArray, List.set_cons_zero, List.set_cons_succ]
        refine wpAnyH_ready (rs := [10, 29]) (by kernel_rfl) (by simp) ?_
        refine AllReadyH.cons rfl (fun K hK => ?_) (AllReadyH.cons rfl (fun K hK => ?_) AllReadyH.nil)
        · go_simp
          refine (HC4.out _ HBX.out).mono ?_
          rintro e w2 ⟨rfl, rfl⟩
          dsimp only
          refine hK.out _ _ ?_ (fun hHeld => ?_)
          · exact ⟨C41.out _ HBX.out, HBX.out⟩
          clear hK K
          try simp only [Act.put, List.setIfInBounds_toArray, List.set_cons_zero, List.set_cons_succ]
          refine wpT (i := 11) (v := ?v11g1_aaa) rfl (Or.inl ⟨by rfl, ?y11g1_aaa⟩) (by assumption) ?r11g1_aaa
          case y11g1_aaa => (intro w hSw; (try dsimp only at hSw); go_simp; try with_reducible rfl)
          change wpAnyH _ _ _ _ _ _ _ (Act.put _ (some 20) _) _; simp only [Act.put, List.setIfInBounds_toArray, List.set_cons_zero, List.set_cons_succ]
          refine wpAnyH_ready (rs := [14, 29]) (by kernel_rfl) (by simp) ?_
          refine AllReadyH.cons rfl (fun K hK => ?_) (AllReadyH.cons rfl (fun K hK => ?_) AllReadyH.nil)
          · go_simp
            refine (HC5.out _ HBX.out).mono ?_
            rintro e w2 ⟨rfl, rfl⟩
            dsimp only
            refine hK.out _ _ ?_ (fun hHeld => ?_)
            · exact ⟨C41.out _ HBX.out, HBX.out⟩
            clear hK K
            try simp only [Act.put, List.setIfInBounds_toArray, List.set_cons_zero, List.set_cons_succ]
            refine wpT (i := 15) (v := ?v15g1_aaaa) rfl (Or.inl ⟨by rfl, ?y15g1_aaaa⟩) (by assumption) ?r15g1_aaaa
            case y15g1_aaaa => (intro w hSw; (try dsimp only at hSw); go_simp; try with_reducible rfl)
            change wpAnyH _ _ _ _ _ _ _ (Act.put _ (some 24) _) _; simp only [Act.put, List.setIfInBounds_toArray, List.set_cons_zero, List.set_cons_succ]
            refine wpAnyH_ready (rs := [18, 29]) (by kernel_rfl) (by simp) ?_
            refine AllReadyH.cons rfl (fun K hK => ?_) (AllReadyH.cons rfl (fun K hK => ?_) AllReadyH.nil)
            · go_simp
              refine (HC6.out _ HBX.out).mono ?_
              rintro e w2 ⟨rfl, rfl⟩
              dsimp only
              refine hK.out _ _ ?_ (fun hHeld => ?_)
              · exact ⟨C41.out _ HBX.out, HBX.out⟩
              clear hK K
              try simp only [Act.put, List.setIfInBounds_toArray, List.set_cons_zero, List.set_cons_succ]
              refine wpT (i := 19) (v := ?v19g1_aaaaa) rfl (Or.inl ⟨by rfl, ?y19g1_aaaaa⟩) (by assumption) ?r19g1_aaaaa
              case y19g1_aaaaa => (intro w hSw; (try dsimp only at hSw); go_simp; try with_reducible rfl)
              change wpAnyH _ _ _ _ _ _ _ (Act.put _ (some 28) _) _; simp only [Act.put, List.setIfInBounds_toArray, List.set_cons_zero, List.set_cons_succ]
              refine wpAnyH_ready (rs := [26, 29]) (by kernel_rfl) (by simp) ?_
              refine AllReadyH.cons rfl (fun K hK => ?_) (AllReadyH.cons rfl (fun K hK => ?_) AllReadyH.nil)
              · go_simp
                refine (HC8.out _ HBX.out).mono ?_
                rintro e w2 ⟨rfl, rfl⟩
                dsimp only
                refine hK.out _ _ ?_ (fun hHeld => ?_)
                · exact ⟨C41.out _ HBX.out, HBX.out⟩
                clear hK K
                try simp only [Act.put, List.setIfInBounds_toArray, List.set_cons_zero, List.set_cons_succ]
                refine wpT (i := 27) (v := ?v27g1_aaaaaa) rfl (Or.inl ⟨by rfl, ?y27g1_aaaaaa⟩) (by assumption) ?r27g1_aaaaaa
                case y27g1_aaaaaa => (intro w hSw; (try dsimp only at hSw); go_simp; try with_reducible rfl)
                change wpAnyH _ _ _ _ _ _ _ (Act.put _ (some 36) _) _; simp only [Act.put, List.setIfInBounds_toArray, List.set_cons_zero, List.set_cons_succ]
                refine wpT (i := 28) (v := ?v28g1_aaaaaa) rfl (Or.inl ⟨by rfl, ?y28g1_aaaaaa⟩) (by assumption) ?r28g1_aaaaaa
                case y28g1_aaaaaa => (intro w hSw; (try dsimp only at hSw); go_simp; try with_reducible rfl)
                change wpAnyH _ _ _ _ _ _ _ (Act.put _ (some 37) _) _; simp only [Act.put, List.setIfInBounds_toArray, List.set_cons_zero, List.set_cons_succ]
                refine wpAnyH_ready (rs := [29]) (by kernel_rfl) (by simp) ?_
                refine AllReadyH.cons rfl (fun K hK => ?_) AllReadyH.nil
                go_simp
                have HBX := Lib.hid (HBX.out.alloc HBX.out.size (.cells #[.int .i64 0, .int .i64 0, .int .i64 0, .int .i64 0, .int .i64 0, .bool false, .int .u32 0] 46))
                refine hK.out _ _ ?_ (fun hHeld => ?_)
                · exact ⟨C41.out _ HBX.out, HBX.out⟩
                clear hK K
                try simp only [Act.put, List.setIfInBounds_toArray, List.set_cons_zero, List.set_cons_succ]
                refine wpAnyH_ready (rs := [30]) (by kernel_rfl) (by simp) ?_
                refine AllReadyH.cons rfl (fun K hK => ?_) AllReadyH.nil
                go_simp
                have HBX := Lib.hid (HB0.out.alloc HB0.out.size (.cells #[.int .i64 z2, .int .i64 z3, .int .i64 z4, .int .i64 z5, .int .i64 z6, .bool (n7.toNat == 1), .int .u32 n8] 46))
                refine hK.out _ _ ?_ (fun hHeld => ?_)
                · exact ⟨C41.out _ HBX.out, HBX.out⟩
                clear hK K
                try simp only [Act.put, List.setIfInBounds_toArray, List.set_cons_zero, List.set_cons_succ]
                refine wpAnyH_done (by kernel_rfl) ?_ _
                refine NoPanic.normal ?_
                go_wp2_with fail
                go_meet
                exact ⟨rfl, rfl⟩
              · go_simp
                have HBX := Lib.hid (HBX.out.alloc HBX.out.size (.cells #[.int .i64 0, .int .i64 0, .int .i64 0, .int .i64 0, .int .i64 0, .bool false, .int .u32 0] 46))
                refine hK.out _ _ ?_ (fun hHeld => ?_)
                · exact ⟨C41.out _ HBX.out, HBX.out⟩
                clear hK K
                try simp only [Act.put, List.setIfInBounds_toArray, List.set_cons_zero, List.set_cons_succ]
                refine wpAnyH_ready (rs := [26]) (by kernel_rfl) (by simp) ?_
                refine AllReadyH.cons rfl (fun K hK => ?_) AllReadyH.nil
                go_simp
                refine (HC8.out _ HBX.out).mono ?_
                rintro e w2 ⟨rfl, rfl⟩
                dsimp only
                refine hK.out _ _ ?_ (fun hHeld => ?_)
                · exact ⟨C41.out _ HBX.out, HBX.out⟩
                clear hK K
                try simp only [Act.put, List.setIfInBounds_toArray, List.set_cons_zero, List.set_cons_succ]
                refine wpT (i := 27) (v := ?v27g1_aaaaab) rfl (Or.inl ⟨by rfl, ?y27g1_aaaaab⟩) (by assumption) ?r27g1_aaaaab
                case y27g1_aaaaab => (intro w hSw; (try dsimp only at hSw); go_simp; try with_reducible rfl)
                change wpAnyH _ _ _ _ _ _ _ (Act.put _ (some 36) _) _; simp only [Act.put, List.setIfInBounds_toArray, List.set_cons_zero, List.set_cons_succ]
                refine wpT (i := 28) (v := ?v28g1_aaaaab) rfl (Or.inl ⟨by rfl, ?y28g1_aaaaab⟩) (by assumption) ?r28g1_aaaaab
                case y28g1_aaaaab => (intro w hSw; (try dsimp only at hSw); go_simp; try with_reducible rfl)
                change wpAnyH _ _ _ _ _ _ _ (Act.put _ (some 37) _) _; simp only [Act.put, List.setIfInBounds_toArray, List.set_cons_zero, List.set_cons_succ]
                refine wpAnyH_ready (rs := [30]) (by kernel_rfl) (by simp) ?_
                refine AllReadyH.cons rfl (fun K hK => ?_) AllReadyH.nil
                go_simp
                have HBX := Lib.hid (HB0.out.alloc HB0.out.size (.cells #[.int .i64 z2, .int .i64 z3, .int .i64 z4, .int .i64 z5, .int .i64 z6, .bool (n7.toNat == 1), .int .u32 n8] 46))
                refine hK.out _ _ ?_ (fun hHeld => ?_)
                · exact ⟨C41.out _ HBX.out, HBX.out⟩
                clear hK K
                try simp only [Act.put, List.setIfInBounds_toArray, List.set_cons_zero, List.set_cons_succ]
                refine wpAnyH_done (by kernel_rfl) ?_ _
                refine NoPanic.normal ?_
                go_wp2_with fail
                go_meet
                exact ⟨rfl, rfl⟩
            · go_simp
              have HBX := Lib.hid (HBX.out.alloc HBX.out.size (.cells #[.int .i64 0, .int .i64 0, .int .i64 0, .int .i64 0, .int .i64 0, .bool false, .int .u32 0] 46))
              refine hK.out _ _ ?_ (fun hHeld => ?_)
              · exact ⟨C41.out _ HBX.out, HBX.out⟩
              clear hK K
              try simp only [Act.put, List.setIfInBounds_toArray, List.set_cons_zero, List.set_cons_succ]
              refine wpAnyH_ready (rs := [18]) (by kernel_rfl) (by simp) ?_
              refine AllReadyH.cons rfl (fun K hK => ?_) AllReadyH.nil
              go_simp
              refine (HC6.out _ HBX.out).mono ?_
              rintro e w2 ⟨rfl, rfl⟩
              dsimp only
              refine hK.out _ _ ?_ (fun hHeld => ?_)
              · exact ⟨C41.out _ HBX.out, HBX.out⟩
              clear hK K
              try simp only [Act.put, List.setIfInBounds_toArray, List.set_cons_zero, List.set_cons_succ]
              refine wpT (i := 19) (v := ?v19g1_aaaab) rfl (Or.inl ⟨by rfl, ?y19g1_aaaab⟩) (by assumption) ?r19g1_aaaab
              case y19g1_aaaab => (intro w hSw; (try dsimp only at hSw); go_simp; try with_reducible rfl)
              change wpAnyH _ _ _ _ _ _ _ (Act.put _ (some 28) _) _; simp only [Act.put, List.setIfInBounds_toArray, List.set_cons_zero, List.set_cons_succ]
              refine wpAnyH_ready (rs := [26]) (by kernel_rfl) (by simp) ?_
              refine AllReadyH.cons rfl (fun K hK => ?_) AllReadyH.nil
              go_simp
              refine (HC8.out _ HBX.out).mono ?_
              rintro e w2 ⟨rfl, rfl⟩
              dsimp only
              refine hK.out _ _ ?_ (fun hHeld => ?_)
              · exact ⟨C41.out _ HBX.out, HBX.out⟩
              clear hK K
              try simp only [Act.put, List.setIfInBounds_toArray, List.set_cons_zero, List.set_cons_succ]
              refine wpT (i := 27) (v := ?v27g1_aaaab) rfl (Or.inl ⟨by rfl, ?y27g1_aaaab⟩) (by assumption) ?r27g1_aaaab
              case y27g1_aaaab => (intro w hSw; (try dsimp only at hSw); go_simp; try with_reducible rfl)
              change wpAnyH _ _ _ _ _ _ _ (Act.put _ (some 36) _) _; simp only [Act.put, List.setIfInBounds_toArray, List.set_cons_zero, List.set_cons_succ]
              refine wpT (i := 28) (v := ?v28g1_aaaab) rfl (Or.inl ⟨by rfl, ?y28g1_aaaab⟩) (by assumption) ?r28g1_aaaab
              case y28g1_aaaab => (intro w hSw; (try dsimp only at hSw); go_simp; try with_reducible rfl)
              change wpAnyH _ _ _ _ _ _ _ (Act.put _ (some 37) _) _; simp only [Act.put, List.setIfInBounds_toArray, List.set_cons_zero, List.set_cons_succ]
              refine wpAnyH_ready (rs := [30]) (by kernel_rfl) (by simp) ?_
              refine AllReadyH.cons rfl (fun K hK => ?_) AllReadyH.nil
              go_simp
              have HBX := Lib.hid (HB0.out.alloc HB0.out.size (.cells #[.int .i64 z2, .int .i64 z3, .int .i64 z4, .int .i64 z5, .int .i64 z6, .bool (n7.toNat == 1), .int .u32 n8] 46))
              refine hK.out _ _ ?_ (fun hHeld => ?_)
              · exact ⟨C41.out _ HBX.out, HBX.out⟩
              clear hK K
              try simp only [Act.put, List.setIfInBounds_toArray, List.set_cons_zero, List.set_cons_succ]
              refine wpAnyH_done (by kernel_rfl) ?_ _
              refine NoPanic.normal ?_
              go_wp2_with fail
              go_meet
              exact ⟨rfl, rfl⟩
          · go_simp
            have HBX := Lib.hid (HBX.out.alloc HBX.out.size (.cells #[.int .i64 0, .int .i64 0, .int .i64 0, .int .i64 0, .int .i64 0, .bool false, .int .u32 0] 46))
            refine hK.out _ _ ?_ (fun hHeld => ?_)
            · exact ⟨C41.out _ HBX.out, HBX.out⟩
            clear hK K
            try simp only [Act.put, List.setIfInBounds_toArray, List.set_cons_zero, List.set_cons_succ]
            refine wpAnyH_ready (rs := [14]) (by kernel_rfl) (by simp) ?_
            refine AllReadyH.cons rfl (fun K hK => ?_) AllReadyH.nil
            go_simp
            refine (HC5.out _ HBX.out).mono ?_
            rintro e w2 ⟨rfl, rfl⟩
            dsimp only
            refine hK.out _ _ ?_ (fun hHeld => ?_)
            · exact ⟨C41.out _ HBX.out, HBX.out⟩
            clear hK K
            try simp only [Act.put, List.setIfInBounds_toArray, List.set_cons_zero, List.set_cons_succ]
            refine wpT (i := 15) (v := ?v15g1_aaab) rfl (Or.inl ⟨by rfl, ?y15g1_aaab⟩) (by assumption) ?r15g1_aaab
            case y15g1_aaab => (intro w hSw; (try dsimp only at hSw); go_simp; try with_reducible rfl)
            change wpAnyH _ _ _ _ _ _ _ (Act.put _ (some 24) _) _; simp only [Act.put, List.setIfInBounds_toArray, List.set_cons_zero, List.set_cons_succ]
            refine wpAnyH_ready (rs := [18]) (by kernel_rfl) (by simp) ?_
            refine AllReadyH.cons rfl (fun K hK => ?_) AllReadyH.nil
            go_simp
            refine (HC6.out _ HBX.out).mono ?_
            rintro e w2 ⟨rfl, rfl⟩
            dsimp only
            refine hK.out _ _ ?_ (fun hHeld => ?_)
            · exact ⟨C41.out _ HBX.out, HBX.out⟩
            clear hK K
            try simp only [Act.put, List.setIfInBounds_toArray, List.set_cons_zero, List.set_cons_succ]
            refine wpT (i := 19) (v := ?v19g1_aaab) rfl (Or.inl ⟨by rfl, ?y19g1_aaab⟩) (by assumption) ?r19g1_aaab
            case y19g1_aaab => (intro w hSw; (try dsimp only at hSw); go_simp; try with_reducible rfl)
            change wpAnyH _ _ _ _ _ _ _ (Act.put _ (some 28) _) _; simp only [Act.put, List.setIfInBounds_toArray, List.set_cons_zero, List.set_cons_succ]
            refine wpAnyH_ready (rs := [26]) (by kernel_rfl) (by simp) ?_
            refine AllReadyH.cons rfl (fun K hK => ?_) AllReadyH.nil
            go_simp
            refine (HC8.out _ HBX.out).mono ?_
            rintro e w2 ⟨rfl, rfl⟩
            dsimp only
            refine hK.out _ _ ?_ (fun hHeld => ?_)
            · exact ⟨C41.out _ HBX.out, HBX.out⟩
            clear hK K
            try simp only [Act.put, List.setIfInBounds_toArray, List.set_cons_zero, List.set_cons_succ]
            refine wpT (i := 27) (v := ?v27g1_aaab) rfl (Or.inl ⟨by rfl, ?y27g1_aaab⟩) (by assumption) ?r27g1_aaab
            case y27g1_aaab => (intro w hSw; (try dsimp only at hSw); go_simp; try with_reducible rfl)
            change wpAnyH _ _ _ _ _ _ _ (Act.put _ (some 36) _) _; simp only [Act.put, List.setIfInBounds_toArray, List.set_cons_zero, List.set_cons_succ]
            refine wpT (i := 28) (v := ?v28g1_aaab) rfl (Or.inl ⟨by rfl, ?y28g1_aaab⟩) (by assumption) ?r28g1_aaab
            case y28g1_aaab => (intro w hSw; (try dsimp only at hSw); go_simp; try with_reducible rfl)
            change wpAnyH _ _ _ _ _ _ _ (Act.put _ (some 37) _) _; simp only [Act.put, List.setIfInBounds_toArray, List.set_cons_zero, List.set_cons_succ]
            refine wpAnyH_ready (rs := [30]) (by kernel_rfl) (by simp) ?_
            refine AllReadyH.cons rfl (fun K hK => ?_) AllReadyH.nil
            go_simp
            have HBX := Lib.hid (HB0.out.alloc HB0.out.size (.cells #[.int .i64 z2, .int .i64 z3, .int .i64 z4, .int .i64 z5, .int .i64 z6, .bool (n7.toNat == 1), .int .u32 n8] 46))
            refine hK.out _ _ ?_ (fun hHeld => ?_)
            · exact ⟨C41.out _ HBX.out, HBX.out⟩
            clear hK K
            try simp only [Act.put, List.setIfInBounds_toArray, List.set_cons_zero, List.set_cons_succ]
            refine wpAnyH_done (by kernel_rfl) ?_ _
            refine NoPanic.normal ?_
            go_wp2_with fail
            go_meet
            exact ⟨rfl, rfl⟩
        · go_simp
          have HBX := Lib.hid (HBX.out.alloc HBX.out.size (.cells #[.int .i64 0, .int .i64 0, .int .i64 0, .int .i64 0, .int .i64 0, .bool false, .int .u32 0] 46))
          refine hK.out _ _ ?_ (fun hHeld => ?_)
          · exact ⟨C41.out _ HBX.out, HBX.out⟩
          clear hK K
          try simp only [Act.put, List.setIfInBounds_toArray, List.set_cons_zero, List.set_cons_succ]
          refine wpAnyH_ready (rs := [10]) (by kernel_rfl) (by simp) ?_
          refine AllReadyH.cons rfl (fun K hK => ?_) AllReadyH.nil
          go_simp
          refine (HC4.out _ HBX.out).mono ?_
          rintro e w2 ⟨rfl, rfl⟩
          dsimp only
          refine hK.out _ _ ?_ (fun hHeld => ?_)
          · exact ⟨C41.out _ HBX.out, HBX.out⟩
          clear hK K
          try simp only [Act.put, List.setIfInBounds_toArray, List.set_cons_zero, List.set_cons_succ]
          refine wpT (i := 11) (v := ?v11g1_aab) rfl (Or.inl ⟨by rfl, ?y11g1_aab⟩) (by assumption) ?r11g1_aab
          case y11g1_aab => (intro w hSw; (try dsimp only at hSw); go_simp; try with_reducible rfl)
          change wpAnyH _ _ _ _ _ _ _ (Act.put _ (some 20) _) _; simp only [Act.put, List.setIfInBounds_toArray, List.set_cons_zero, List.set_cons_succ]
          refine wpAnyH_ready (rs := [14]) (by kernel_rfl) (by simp) ?_
          refine AllReadyH.cons rfl (fun K hK => ?_) AllReadyH.nil
          go_simp
          refine (HC5.out _ HBX.out).mono ?_
          rintro e w2 ⟨rfl, rfl⟩
          dsimp only
          refine hK.out _ _ ?_ (fun hHeld => ?_)
          · exact ⟨C41.out _ HBX.out, HBX.out⟩
          clear hK K
          try simp only [Act.put, List.setIfInBounds_toArray, List.set_cons_zero, List.set_cons_succ]
          refine wpT (i := 15) (v := ?v15g1_aab) rfl (Or.inl ⟨by rfl, ?y15g1_aab⟩) (by assumption) ?r15g1_aab
          case y15g1_aab => (intro w hSw; (try dsimp only at hSw); go_simp; try with_reducible rfl)
          change wpAnyH _ _ _ _ _ _ _ (Act.put _ (some 24) _) _; simp only [Act.put, List.setIfInBounds_toArray, List.set_cons_zero, List.set_cons_succ]
          refine wpAnyH_ready (rs := [18]) (by kernel_rfl) (by simp) ?_
          refine AllReadyH.cons rfl (fun K hK => ?_) AllReadyH.nil
          go_simp
          refine (HC6.out _ HBX.out).mono ?_
          rintro e w2 ⟨rfl, rfl⟩
          dsimp only
          refine hK.out _ _ ?_ (fun hHeld => ?_)
          · exact ⟨C41.out _ HBX.out, HBX.out⟩
          clear hK K
          try simp only [Act.put, List.setIfInBounds_toArray, List.set_cons_zero, List.set_cons_succ]
          refine wpT (i := 19) (v := ?v19g1_aab) rfl (Or.inl ⟨by rfl, ?y19g1_aab⟩) (by assumption) ?r19g1_aab
          case y19g1_aab => (intro w hSw; (try dsimp only at hSw); go_simp; try with_reducible rfl)
          change wpAnyH _ _ _ _ _ _ _ (Act.put _ (some 28) _) _; simp only [Act.put, List.setIfInBounds_toArray, List.set_cons_zero, List.set_cons_succ]
          refine wpAnyH_ready (rs := [26]) (by kernel_rfl) (by simp) ?_
          refine AllReadyH.cons rfl (fun K hK => ?_) AllReadyH.nil
          go_simp
          refine (HC8.out _ HBX.out).mono ?_
          rintro e w2 ⟨rfl, rfl⟩
          dsimp only
          refine hK.out _ _ ?_ (fun hHeld => ?_)
          · exact ⟨C41.out _ HBX.out, HBX.out⟩
          clear hK K
          try simp only [Act.put, List.setIfInBounds_toArray, List.set_cons_zero, List.set_cons_succ]
          refine wpT (i := 27) (v := ?v27g1_aab) rfl (Or.inl ⟨by rfl, ?y27g1_aab⟩) (by assumption) ?r27g1_aab
          case y27g1_aab => (intro w hSw; (try dsimp only at hSw); go_simp; try with_reducible rfl)
          change wpAnyH _ _ _ _ _ _ _ (Act.put _ (some 36) _) _; simp only [Act.put, List.setIfInBounds_toArray, List.set_cons_zero, List.set_cons_succ]
          refine wpT (i := 28) (v := ?v28g1_aab) rfl (Or.inl ⟨by rfl, ?y28g1_aab⟩) (by assumption) ?r28g1_aab
          case y28g1_aab => (intro w hSw; (try dsimp only at hSw); go_simp; try with_reducible rfl)
          change wpAnyH _ _ _ _ _ _ _ (Act.put _ (some 37) _) _; simp only [Act.put, List.setIfInBounds_toArray, List.set_cons_zero, List.set_cons_succ]
          refine wpAnyH_ready (rs := [30]) (by kernel_rfl) (by simp) ?_
          refine AllReadyH.cons rfl (fun K hK => ?_) AllReadyH.nil
          go_simp
          have HBX := Lib.hid (HB0.out.alloc HB0.out.size (.cells #[.int .i64 z2, .int .i64 z3, .int .i64 z4, .int .i64 z5, .int .i64 z6, .bool (n7.toNat == 1), .int .u32 n8] 46))
          refine hK.out _ _ ?_ (fun hHeld => ?_)
          · exact ⟨C41.out _ HBX.out, HBX.out⟩
          clear hK K
          try simp only [Act.put, List.setIfInBounds_toArray, List.set_cons_zero, List.set_cons_succ]
          refine wpAnyH_done (by kernel_rfl) ?_ _
          refine NoPanic.normal ?_
          go_wp2_with fail
          go_meet
          exact ⟨rfl, rfl⟩
      · go_simp
        have HBX := Lib.hid (HBX.out.alloc HBX.out.size (.cells #[.int .i64 0, .int .i64 0, .int .i64 0, .int .i64 0, .int .i64 0, .bool false, .int .u32 0] 46))
        refine hK.out _ _ ?_ (fun hHeld => ?_)
        · exact ⟨C41.out _ HBX.out, HBX.out⟩
        clear hK K
        try simp only [Act.put, List.setIfInBounds_toArray, List.set_cons_zero, List.set_cons_succ]
        refine wpAnyH_ready (rs := [6]) (by kernel_rfl) (by simp) ?_
        refine AllReadyH.cons rfl (fun K hK => ?_) AllReadyH.nil
        go_simp
        refine (HC3.out _ HBX.out).mono ?_
        rintro e w2 ⟨rfl, rfl⟩
        dsimp only
        refine hK.out _ _ ?_ (fun hHeld => ?_)
        · exact ⟨C41.out _ HBX.out, HBX.out⟩
        clear hK K
        try simp only [Act.put, List.setIfInBounds_toArray, List.set_cons_zero, List.set_cons_succ]
        refine wpT (i := 7) (v := ?v7g1_ab) rfl (Or.inl ⟨by rfl, ?y7g1_ab⟩) (by assumption) ?r7g1_ab
        case y7g1_ab => (intro w hSw; (try dsimp only at hSw); go_simp; try with_reducible rfl)
        change wpAnyH _ _ _ _ _ _ _ (Act.put _ (some 16) _) _; simp only [Act.put, List.setIfInBounds_toArray, List.set_cons_zero, List.set_cons_succ]
        refine wpAnyH_ready (rs := [10]) (by kernel_rfl) (by simp) ?_
        refine AllReadyH.cons rfl (fun K hK => ?_) AllReadyH.nil
        go_simp
        refine (HC4.out _ HBX.out).mono ?_
        rintro e w2 ⟨rfl, rfl⟩
        dsimp only
        refine hK.out _ _ ?_ (fun hHeld => ?_)
        · exact ⟨C41.out _ HBX.out, HBX.out⟩
        clear hK K
        try simp only [Act.put, List.setIfInBounds_toArray, List.set_cons_zero, List.set_cons_succ]
        refine wpT (i := 11) (v := ?v11g1_ab) rfl (Or.inl ⟨by rfl, ?y11g1_ab⟩) (by assumption) ?r11g1_ab
        case y11g1_ab => (intro w hSw; (try dsimp only at hSw); go_simp; try with_reducible rfl)
        change wpAnyH _ _ _ _ _ _ _ (Act.put _ (some 20) _) _; simp only [Act.put, List.setIfInBounds_toArray, List.set_cons_zero, List.set_cons_succ]
        refine wpAnyH_ready (rs := [14]) (by kernel_rfl) (by simp) ?_
        refine AllReadyH.cons rfl (fun K hK => ?_) AllReadyH.nil
        go_simp
        refine (HC5.out _ HBX.out).mono ?_
        rintro e w2 ⟨rfl, rfl⟩
        dsimp only
        refine hK.out _ _ ?_ (fun hHeld => ?_)
        · exact ⟨C41.out _ HBX.out, HBX.out⟩
        clear hK K
        try simp only [Act.put, List.setIfInBounds_toArray, List.set_cons_zero, List.set_cons_succ]
        refine wpT (i := 15) (v := ?v15g1_ab) rfl (Or.inl ⟨by rfl, ?y15g1_ab⟩) (by assumption) ?r15g1_ab
        case y15g1_ab => (intro w hSw; (try dsimp only at hSw); go_simp; try with_reducible rfl)
        change wpAnyH _ _ _ _ _ _ _ (Act.put _ (some 24) _) _; simp only [Act.put, List.setIfInBounds_toArray, List.set_cons_zero, List.set_cons_succ]
        refine wpAnyH_ready (rs := [18]) (by kernel_rfl) (by simp) ?_
        refine AllReadyH.cons rfl (fun K hK => ?_) AllReadyH.nil
        go_simp
        refine (HC6.out _ HBX.out).mono ?_
        rintro e w2 ⟨rfl, rfl⟩
        dsimp only
        refine hK.out _ _ ?_ (fun hHeld => ?_)
        · exact ⟨C41.out _ HBX.out, HBX.out⟩
        clear hK K
        try simp only [Act.put, List.setIfInBounds_toArray, List.set_cons_zero, List.set_cons_succ]
        refine wpT (i := 19) (v := ?v19g1_ab) rfl (Or.inl ⟨by rfl, ?y19g1_ab⟩) (by assumption) ?r19g1_ab
        case y19g1_ab => (intro w hSw; (try dsimp only at hSw); go_simp; try with_reducible rfl)
        change wpAnyH _ _ _ _ _ _ _ (Act.put _ (some 28) _) _; simp only [Act.put, List.setIfInBounds_toArray, List.set_cons_zero, List.set_cons_succ]
        refine wpAnyH_ready (rs := [26]) (by kernel_rfl) (by simp) ?_
        refine AllReadyH.cons rfl (fun K hK => ?_) AllReadyH.nil
        go_simp
        refine (HC8.out _ HBX.out).mono ?_
        rintro e w2 ⟨rfl, rfl⟩
        dsimp only
        refine hK.out _ _ ?_ (fun hHeld => ?_)
        · exact ⟨C41.out _ HBX.out, HBX.out⟩
        clear hK K
        try simp only [Act.put, List.setIfInBounds_toArray, List.set_cons_zero, List.set_cons_succ]
        refine wpT (i := 27) (v := ?v27g1_ab) rfl (Or.inl ⟨by rfl, ?y27g1_ab⟩) (by assumption) ?r27g1_ab
        case y27g1_ab => (intro w hSw; (try dsimp only at hSw); go_simp; try with_reducible rfl)
        change wpAnyH _ _ _ _ _ _ _ (Act.put _ (some 36) _) _; simp only [Act.put, List.setIfInBounds_toArray, List.set_cons_zero, List.set_cons_succ]
        refine wpT (i := 28) (v := ?v28g1_ab) rfl (Or.inl ⟨by rfl, ?y28g1_ab⟩) (by assumption) ?r28g1_ab
        case y28g1_ab => (intro w hSw; (try dsimp only at hSw); go_simp; try with_reducible rfl)
        change wpAnyH _ _ _ _ _ _ _ (Act.put _ (some 37) _) _; simp only [Act.put, List.setIfInBounds_toArray, List.set_cons_zero, List.set_cons_succ]
        refine wpAnyH_ready (rs := [30]) (by kernel_rfl) (by simp) ?_
        refine AllReadyH.cons rfl (fun K hK => ?_) AllReadyH.nil
        go_simp
        have HBX := Lib.hid (HB0.out.alloc HB0.out.size (.cells #[.int .i64 z2, .int .i64 z3, .int .i64 z4, .int .i64 z5, .int .i64 z6, .bool (n7.toNat == 1), .int .u32 n8] 46))
        refine hK.out _ _ ?_ (fun hHeld => ?_)
        · exact ⟨C41.out _ HBX.out, HBX.out⟩
        clear hK K
        try simp only [Act.put, List.setIfInBounds_toArray, List.set_cons_zero, List.set_cons_succ]
        refine wpAnyH_done (by kernel_rfl) ?_ _
        refine NoPanic.normal ?_
        go_wp2_with fail
        go_meet
        exact ⟨rfl, rfl⟩
    · go_simp
      have HBX := Lib.hid (HBX.out.alloc HBX.out.size (.cells #[.int .i64 0, .int .i64 0, .int .i64 0, .int .i64 0, .int .i64 0, .bool false, .int .u32 0] 46))
      refine hK.out _ _ ?_ (fun hHeld => ?_)
      · exact ⟨C41.out _ HBX.out, HBX.out⟩
      clear hK K
      try simp only [Act.put, List.setIfInBounds_toArray, List.set_cons_zero, List.set_cons_succ]
      refine wpAnyH_ready (rs := [2]) (by kernel_rfl) (by simp) ?_
      refine AllReadyH.cons rfl (fun K hK => ?_) AllReadyH.nil
      go_simp
      refine (HC2.out _ HBX.out).mono ?_
      rintro e w2 ⟨rfl, rfl⟩
      dsimp only
      refine hK.out _ _ ?_ (fun hHeld => ?_)
      · exact ⟨C41.out _ HBX.out, HBX.out⟩
      clear hK K
      try simp only [Act.put, List.setIfInBounds_toArray, List.set_cons_zero, List.set_cons_succ]
      refine wpT (i := 3) (v := ?v3g1_b) rfl (Or.inl ⟨by rfl, ?y3g1_b⟩) (by assumption) ?r3g1_b
      case y3g1_b => (intro w hSw; (try dsimp only at hSw); go_simp; try with_reducible rfl)
      change wpAnyH _ _ _ _ _ _ _ (Act.put _ (some 12) _) _; simp only [Act.put, List.setIfInBounds_toArray, List.set_cons_zero, List.set_cons_succ]
      refine wpAnyH_ready (rs := [6]) (by kernel_rfl) (by simp) ?_
      refine AllReadyH.cons rfl (fun K hK => ?_) AllReadyH.nil
      go_simp
      refine (HC3.out _ HBX.out).mono ?_
      rintro e w2 ⟨rfl, rfl⟩
      dsimp only
      refine hK.out _ _ ?_ (fun hHeld => ?_)
      · exact ⟨C41.out _ HBX.out, HBX.out⟩
      clear hK K
      try simp only [Act.put, List.setIfInBounds_toArray, List.set_cons_zero, List.set_cons_succ]
      refine wpT (i := 7) (v := ?v7g1_b) rfl (Or.inl ⟨by rfl, ?y7g1_b⟩) (by assumption) ?r7g1_b
      case y7g1_b => (intro w hSw; (try dsimp only at hSw); go_simp; try with_reducible rfl)
      change wpAnyH _ _ _ _ _ _ _ (Act.put _ (some 16) _) _; simp only [Act.put, List.setIfInBounds_toArray, List.set_cons_zero, List.set_cons_succ]
      refine wpAnyH_ready (rs := [10]) (by kernel_rfl) (by simp) ?_
      refine AllReadyH.cons rfl (fun K hK => ?_) AllReadyH.nil
      go_simp
      refine (HC4.out _ HBX.out).mono ?_
      rintro e w2 ⟨rfl, rfl⟩
      dsimp only
      refine hK.out _ _ ?_ (fun hHeld => ?_)
      · exact ⟨C41.out _ HBX.out, HBX.out⟩
      clear hK K
      try simp only [Act.put, List.setIfInBounds_toArray, List.set_cons_zero, List.set_cons_succ]
      refine wpT (i := 11) (v := ?v11g1_b) rfl (Or.inl ⟨by rfl, ?y11g1_b⟩) (by assumption) ?r11g1_b
      case y11g1_b => (intro w hSw; (try dsimp only at hSw); go_simp; try with_reducible rfl)
      change wpAnyH _ _ _ _ _ _ _ (Act.put _ (some 20) _) _; simp only [Act.put, List.setIfInBounds_toArray, List.set_cons_zero, List.set_cons_succ]
      refine wpAnyH_ready (rs := [14]) (by kernel_rfl) (by simp) ?_
      refine AllReadyH.cons rfl (fun K hK => ?_) AllReadyH.nil
      go_simp
      refine (HC5.out _ HBX.out).mono ?_
      rintro e w2 ⟨rfl, rfl⟩
      dsimp only
      refine hK.out _ _ ?_ (fun hHeld => ?_)
      · exact ⟨C41.out _ HBX.out, HBX.out⟩
      clear hK K
      try simp only [Act.put, List.setIfInBounds_toArray, List.set_cons_zero, List.set_cons_succ]
      refine wpT (i := 15) (v := ?v15g1_b) rfl (Or.inl ⟨by rfl, ?y15g1_b⟩) (by assumption) ?r15g1_b
      case y15g1_b => (intro w hSw; (try dsimp only at hSw); go_simp; try with_reducible rfl)
      change wpAnyH _ _ _ _ _ _ _ (Act.put _ (some 24) _) _; simp only [Act.put, List.setIfInBounds_toArray, List.set_cons_zero, List.set_cons_succ]
      refine wpAnyH_ready (rs := [18]) (by kernel_rfl) (by simp) ?_
      refine AllReadyH.cons rfl (fun K hK => ?_) AllReadyH.nil
      go_simp
      refine (HC6.out _ HBX.out).mono ?_
      rintro e w2 ⟨rfl, rfl⟩
      dsimp only
      refine hK.out _ _ ?_ (fun hHeld => ?_)
      · exact ⟨C41.out _ HBX.out, HBX.out⟩
      clear hK K
      try simp only [Act.put, List.setIfInBounds_toArray, List.set_cons_zero, List.set_cons_succ]
      refine wpT (i := 19) (v := ?v19g1_b) rfl (Or.inl ⟨by rfl, ?y19g1_b⟩) (by assumption) ?r19g1_b
      case y19g1_b => (intro w hSw; (try dsimp only at hSw); go_simp; try with_reducible rfl)
      change wpAnyH _ _ _ _ _ _ _ (Act.put _ (some 28) _) _; simp only [Act.put, List.setIfInBounds_toArray, List.set_cons_zero, List.set_cons_succ]
      refine wpAnyH_ready (rs := [26]) (by kernel_rfl) (by simp) ?_
      refine AllReadyH.cons rfl (fun K hK => ?_) AllReadyH.nil
      go_simp
      refine (HC8.out _ HBX.out).mono ?_
      rintro e w2 ⟨rfl, rfl⟩
      dsimp only
      refine hK.out _ _ ?_ (fun hHeld => ?_)
      · exact ⟨C41.out _ HBX.out, HBX.out⟩
      clear hK K
      try simp only [Act.put, List.setIfInBounds_toArray, List.set_cons_zero, List.set_cons_succ]
      refine wpT (i := 27) (v := ?v27g1_b) rfl (Or.inl ⟨by rfl, ?y27g1_b⟩) (by assumption) ?r27g1_b
      case y27g1_b => (intro w hSw; (try dsimp only at hSw); go_simp; try with_reducible rfl)
      change wpAnyH _ _ _ _ _ _ _ (Act.put _ (some 36) _) _; simp only [Act.put, List.setIfInBounds_toArray, List.set_cons_zero, List.set_cons_succ]
      refine wpT (i := 28) (v := ?v28g1_b) rfl (Or.inl ⟨by rfl, ?y28g1_b⟩) (by assumption) ?r28g1_b
      case y28g1_b => (intro w hSw; (try dsimp only at hSw); go_simp; try with_reducible rfl)
      change wpAnyH _ _ _ _ _ _ _ (Act.put _ (some 37) _) _; simp only [Act.put, List.setIfInBounds_toArray, List.set_cons_zero, List.set_cons_succ]
      refine wpAnyH_ready (rs := [30]) (by kernel_rfl) (by simp) ?_
      refine AllReadyH.cons rfl (fun K hK => ?_) AllReadyH.nil
      go_simp
      have HBX := Lib.hid (HB0.out.alloc HB0.out.size (.cells #[.int .i64 z2, .int .i64 z3, .int .i64 z4, .int .i64 z5, .int .i64 z6, .bool (n7.toNat == 1), .int .u32 n8] 46))
      refine hK.out _ _ ?_ (fun hHeld => ?_)
      · exact ⟨C41.out _ HBX.out, HBX.out⟩
      clear hK K
      try simp only [Act.put, List.setIfInBounds_toArray, List.set_cons_zero, List.set_cons_succ]
      refine wpAnyH_done (by kernel_rfl) ?_ _
      refine NoPanic.normal ?_
      go_wp2_with fail
      go_meet
      exact ⟨rfl, rfl⟩
  case rest =>
  obtain ⟨rfl, rfl⟩ := hcut
  have hk5 := Blk.new w1.drew 46 #[.int .i64 z2, .int .i64 z3, .int .i64 z4, .int .i64 z5, .int .i64 z6, .bool (n7.toNat == 1), .int .u32 n8]
  have hb5 := HB0.out.alloc HB0.out.size (.cells #[.int .i64 z2, .int .i64 z3, .int .i64 z4, .int .i64 z5, .int .i64 z6, .bool (n7.toNat == 1), .int .u32 n8] 46)
  have hkA := (HK.out.drew).alloc (.cells #[.int .i64 z2, .int .i64 z3, .int .i64 z4, .int .i64 z5, .int .i64 z6, .bool (n7.toNat == 1), .int .u32 n8] 46)
  obtain ⟨g5, hg5⟩ : ∃ g5, w1.heap.size = g5 := ⟨_, rfl⟩
  rw [show w1.drew.heap.size = g5 from hg5] at hk5
  rw [hg5]
  obtain ⟨w9, hw9⟩ : ∃ w9, (w1.alloc (.cells #[.int .i64 z2, .int .i64 z3, .int .i64 z4, .int .i64 z5, .int .i64 z6, .bool (n7.toNat == 1), .int .u32 n8] 46)).drew = w9 := ⟨_, rfl⟩
  have hw9' : w1.drew.alloc (.cells #[.int .i64 z2, .int .i64 z3, .int .i64 z4, .int .i64 z5, .int .i64 z6, .bool (n7.toNat == 1), .int .u32 n8] 46) = w9 := hw9
  rw [hw9'] at hk5 hb5
  rw [hw9]
  have hkA' : Blk w9 w.heap.size 46 #[.int .i64 0, .int .i64 0, .int .i64 0, .int .i64 0, .int .i64 0, .bool false, .int .u32 0] := by rw [← hw9']; exact hkA
  obtain ⟨M, hM⟩ : ∃ M : ManM, (⟨z2, z3, z4, z5, z6, n7.toNat == 1, n8⟩ : ManM) = M := ⟨_, rfl⟩
  have hMo : M = ofB b := by rw [← hM, ← HRD.out]
  have hagg : mCells M = #[.int .i64 z2, .int .i64 z3, .int .i64 z4, .int .i64 z5, .int .i64 z6, .bool (n7.toNat == 1), .int .u32 n8] := by rw [← hM]; rfl
  have hmay : ∀ W, Calls Tryz.prog 56 #[.agg #[.int .i64 z2, .int .i64 z3, .int .i64 z4, .int .i64 z5, .int .i64 z6, .bool (n7.toNat == 1), .int .u32 n8]] W fun e w' => e = .returned (.bool M.may) ∧ Below W.heap.size W w' := fun W => by rw [← hagg]; exact rfMay_any M W
  have hbyt : ∀ W, Calls Tryz.prog 24 #[.agg #[.int .i64 z2, .int .i64 z3, .int .i64 z4, .int .i64 z5, .int .i64 z6, .bool (n7.toNat == 1), .int .u32 n8]] W fun e w' => ∃ v, e = .returned v ∧ Bt w' v M.bytes ∧ Below W.heap.size W w' := fun W => by
    rw [← hagg]; exact (rfBytes_any M (by rw [hMo]; exact ofB_ok b) W).mono fun e w' ⟨v, h1, h2, _, h4⟩ => ⟨v, h1, h2, h4⟩
  have hcells : ∀ w', Below w9.heap.size w9 w' → w'.cell? ⟨g5, 0, none⟩ = some (.int .i64 z2) ∧ w'.cell? ⟨g5, 1, none⟩ = some (.int .i64 z3) ∧ w'.cell? ⟨g5, 2, none⟩ = some (.int .i64 z4) ∧ w'.cell? ⟨g5, 3, none⟩ = some (.int .i64 z5) ∧ w'.cell? ⟨g5, 4, none⟩ = some (.int .i64 z6) ∧ w'.cell? ⟨g5, 5, none⟩ = some (.bool (n7.toNat == 1)) ∧ w'.cell? ⟨g5, 6, none⟩ = some (.int .u32 n8) := fun w' hb' => by
    have hk := hk5.below hb' hk5.lt
    exact ⟨hk.cell 0, hk.cell 1, hk.cell 2, hk.cell 3, hk.cell 4, hk.cell 5, hk.cell 6⟩
  have hcv : ∀ W, Below w9.heap.size w9 W → (convert 39 9 (.slice (some ad) b.size c)).run Tryz.prog W = .ok (.string b) W := fun W hW => (HH.out.below (hb5.trans (hW.mono hb5.size))).conv
  have HCL := Lib.hid hcells; have HMAY := Lib.hid hmay; have HBY := Lib.hid hbyt; have HAGG := Lib.hid hagg; have HB5 := Lib.hid hb5; have HK5 := Lib.hid hk5; have HKA := Lib.hid hkA'; have HMO := Lib.hid hMo; have HCV := Lib.hid hcv
  clear hcells hmay hbyt hagg hb5 hk5 hkA hkA' hMo hM hw9 hw9' hg5 HB0 HBX HA HK HC2 HC3 HC4 HC5 HC6 HC8 e2 e3 e4 e5 e6 e8 hb7 hz50 hcv C41
  clear hw2 hw3 hw4 hw5 hw6 hx2 hx3 hx4 hx5 hx6 hx8
  go_wp2_with fail
  go_cut [48] (fun s48 wx => s48 = .bool (getM b).isNone ∧ Below w9.heap.size w9 wx)
  case first =>
    have HS1 := Lib.hid HCL.out
    cases hmy : M.may with
    | false =>
      have hg : (getM b).isNone = true := by unfold getM; rw [← HMO.out, if_neg (by simp [hmy])]; rfl
      have HG := Lib.hid hg
      rw [hmy] at HMAY
      have HSS := HS1
      clear hg hmy HMO HRD HAGG
      refine wp_region_noPanic ?_
      refine wp_region_held_drew (S := (fun w' => w'.cell? ⟨g5, 0, none⟩ = some (.int .i64 z2) ∧ w'.cell? ⟨g5, 1, none⟩ = some (.int .i64 z3) ∧ w'.cell? ⟨g5, 2, none⟩ = some (.int .i64 z4) ∧ w'.cell? ⟨g5, 3, none⟩ = some (.int .i64 z5) ∧ w'.cell? ⟨g5, 4, none⟩ = some (.int .i64 z6) ∧ w'.cell? ⟨g5, 5, none⟩ = some (.bool (n7.toNat == 1)) ∧ w'.cell? ⟨g5, 6, none⟩ = some (.int .u32 n8))) (by kernel_rfl) ?_ (fun hHeld => ?_)
      · exact HSS.out _ (below_drewN (Below.refl _ _) 1)
      refine wpT (i := 0) (v := ?v0g2_) rfl (Or.inl ⟨by rfl, ?y0g2_⟩) (by assumption) ?r0g2_
      case y0g2_ => (intro w hSw; (try dsimp only at hSw); go_simp; try with_reducible rfl)
      change wpAnyH _ _ _ _ _ _ _ (Act.put _ (some 38) _) _; simp only [Act.put, List.setIfInBounds_toArray, List.set_cons_zero, List.set_cons_succ]
      refine wpAnyH_ready (rs := [1]) (by kernel_rfl) (by simp) ?_
      refine AllReadyH.cons rfl (fun K hK => ?_) AllReadyH.nil
      go_simp
      refine (HMAY.out _).mono ?_
      rintro e w2 ⟨rfl, hb2⟩
      have HB2 := Lib.hid (undrew hb2)
      clear hb2
      dsimp only
      refine hK.out _ _ ?_ (fun hHeld => ?_)
      · exact HSS.out _ HB2.out
      clear hK K
      try simp only [Act.put, List.setIfInBounds_toArray, List.set_cons_zero, List.set_cons_succ]
      refine wpT (i := 2) (v := ?v2g2_) rfl (Or.inl ⟨by rfl, ?y2g2_⟩) (by assumption) ?r2g2_
      case y2g2_ => (intro w hSw; (try dsimp only at hSw); go_simp; try with_reducible rfl)
      change wpAnyH _ _ _ _ _ _ _ (Act.put _ (some 40) _) _; simp only [Act.put, List.setIfInBounds_toArray, List.set_cons_zero, List.set_cons_succ]
      refine wpT (i := 3) (v := ?v3g2_) rfl (Or.inl ⟨by rfl, ?y3g2_⟩) (by assumption) ?r3g2_
      case y3g2_ => (intro w hSw; (try dsimp only at hSw); go_simp; try with_reducible rfl)
      change wpAnyH _ _ _ _ _ _ _ (Act.put _ (some 41) _) _; simp only [Act.put, List.setIfInBounds_toArray, List.set_cons_zero, List.set_cons_succ]
      refine wpT (i := 4) (v := undef) rfl (Or.inr ⟨by rfl, rfl⟩) (by assumption) ?_
      change wpAnyH _ _ _ _ _ _ _ (Act.put _ (some 42) _) _; simp only [Act.put, List.setIfInBounds_toArray, List.set_cons_zero, List.set_cons_succ]
      refine wpT (i := 5) (v := undef) rfl (Or.inr ⟨by rfl, rfl⟩) (by assumption) ?_
      change wpAnyH _ _ _ _ _ _ _ (Act.put _ (some 43) _) _; simp only [Act.put, List.setIfInBounds_toArray, List.set_cons_zero, List.set_cons_succ]
      refine wpT (i := 6) (v := undef) rfl (Or.inr ⟨by rfl, rfl⟩) (by assumption) ?_
      change wpAnyH _ _ _ _ _ _ _ (Act.put _ (some 44) _) _; simp only [Act.put, List.setIfInBounds_toArray, List.set_cons_zero, List.set_cons_succ]
      refine wpT (i := 7) (v := undef) rfl (Or.inr ⟨by rfl, rfl⟩) (by assumption) ?_
      change wpAnyH _ _ _ _ _ _ _ (Act.put _ (some 45) _) _; simp only [Act.put, List.setIfInBounds_toArray, List.set_cons_zero, List.set_cons_succ]
      refine wpT (i := 8) (v := undef) rfl (Or.inr ⟨by rfl, rfl⟩) (by assumption) ?_
      change wpAnyH _ _ _ _ _ _ _ (Act.put _ (some 46) _) _; simp only [Act.put, List.setIfInBounds_toArray, List.set_cons_zero, List.set_cons_succ]
      refine wpT (i := 9) (v := undef) rfl (Or.inr ⟨by rfl, rfl⟩) (by assumption) ?_
      change wpAnyH _ _ _ _ _ _ _ (Act.put _ (some 47) _) _; simp only [Act.put, List.setIfInBounds_toArray, List.set_cons_zero, List.set_cons_succ]
      refine wpT (i := 10) (v := ?v10g2_) rfl (Or.inl ⟨by rfl, ?y10g2_⟩) (by assumption) ?r10g2_
      case y10g2_ => (intro w hSw; (try dsimp only at hSw); go_simp; try with_reducible rfl)
      change wpAnyH _ _ _ _ _ _ _ (Act.put _ (some 48) _) _; simp only [Act.put, List.setIfInBounds_toArray, List.set_cons_zero, List.set_cons_succ]
      refine wpAnyH_done (by kernel_rfl) ?_ _
      refine NoPanic.normal ?_
      go_wp2_with fail
      go_meet
      exact ⟨by rw [HG.out], HB2.out⟩
    | true =>
      have HG : Hid ((getM b).isNone = decide (M.bytes ≠ b)) := Lib.hid (by
        unfold getM
        rw [← HMO.out]
        by_cases he : M.bytes = b
        · rw [if_pos ⟨H50.out, hmy, he⟩]; simp [he]
        · rw [if_neg (fun e => he e.2.2)]; simp [he])
      obtain ⟨q, hq⟩ : ∃ q, decide (M.bytes ≠ b) = q := ⟨_, rfl⟩
      have hq1 : (M.bytes.toList == b.toList) = !q := by
        rw [← hq]
        by_cases he : M.bytes = b
        · simp [he]
        · have : M.bytes.toList ≠ b.toList := fun e => he (by rw [ByteArray.toList_eq, ByteArray.toList_eq] at e; exact ByteArray.ext (Array.ext' e))
          simp [he, this]
      have hq2 : (M.bytes.toList != b.toList) = q := by rw [bne, hq1, Bool.not_not]
      rw [hq] at HG
      have hss : ∀ w', Below w9.heap.size w9 w' → (w'.cell? ⟨g5, 0, none⟩ = some (.int .i64 z2) ∧ w'.cell? ⟨g5, 1, none⟩ = some (.int .i64 z3) ∧ w'.cell? ⟨g5, 2, none⟩ = some (.int .i64 z4) ∧ w'.cell? ⟨g5, 3, none⟩ = some (.int .i64 z5) ∧ w'.cell? ⟨g5, 4, none⟩ = some (.int .i64 z6) ∧ w'.cell? ⟨g5, 5, none⟩ = some (.bool (n7.toNat == 1)) ∧ w'.cell? ⟨g5, 6, none⟩ = some (.int .u32 n8)) ∧ (convert 39 9 (.slice (some ad) b.size c)).run Tryz.prog w' = .ok (.string b) w' := fun w' hb' => ⟨HCL.out w' hb', HCV.out w' hb'⟩
      have HSS := Lib.hid hss
      rw [hmy] at HMAY
      clear hmy HMO HRD HAGG hss hq HS1
      refine wp_region_noPanic ?_
      refine wp_region_held_drew (S := (fun w' => (w'.cell? ⟨g5, 0, none⟩ = some (.int .i64 z2) ∧ w'.cell? ⟨g5, 1, none⟩ = some (.int .i64 z3) ∧ w'.cell? ⟨g5, 2, none⟩ = some (.int .i64 z4) ∧ w'.cell? ⟨g5, 3, none⟩ = some (.int .i64 z5) ∧ w'.cell? ⟨g5, 4, none⟩ = some (.int .i64 z6) ∧ w'.cell? ⟨g5, 5, none⟩ = some (.bool (n7.toNat == 1)) ∧ w'.cell? ⟨g5, 6, none⟩ = some (.int .u32 n8)) ∧ (convert 39 9 (.slice (some ad) b.size c)).run Tryz.prog w' = .ok (.string b) w')) (by kernel_rfl) ?_ (fun hHeld => ?_)
      · exact HSS.out _ (below_drewN (Below.refl _ _) 1)
      refine wpT (i := 0) (v := ?v0g3_) rfl (Or.inl ⟨by rfl, ?y0g3_⟩) (by assumption) ?r0g3_
      case y0g3_ => (intro w hSw; (try dsimp only at hSw); go_simp; try with_reducible rfl)
      change wpAnyH _ _ _ _ _ _ _ (Act.put _ (some 38) _) _; simp only [Act.put, List.setIfInBounds_toArray, List.set_cons_zero, List.set_cons_succ]
      refine wpAnyH_ready (rs := [1]) (by kernel_rfl) (by simp) ?_
      refine AllReadyH.cons rfl (fun K hK => ?_) AllReadyH.nil
      go_simp
      refine (HMAY.out _).mono ?_
      rintro e w2 ⟨rfl, hb2⟩
      have HB2 := Lib.hid (undrew hb2)
      clear hb2
      dsimp only
      refine hK.out _ _ ?_ (fun hHeld => ?_)
      · exact HSS.out _ HB2.out
      clear hK K
      try simp only [Act.put, List.setIfInBounds_toArray, List.set_cons_zero, List.set_cons_succ]
      refine wpT (i := 2) (v := ?v2g3_) rfl (Or.inl ⟨by rfl, ?y2g3_⟩) (by assumption) ?r2g3_
      case y2g3_ => (intro w hSw; (try dsimp only at hSw); go_simp; try with_reducible rfl)
      change wpAnyH _ _ _ _ _ _ _ (Act.put _ (some 40) _) _; simp only [Act.put, List.setIfInBounds_toArray, List.set_cons_zero, List.set_cons_succ]
      refine wpT (i := 3) (v := ?v3g3_) rfl (Or.inl ⟨by rfl, ?y3g3_⟩) (by assumption) ?r3g3_
      case y3g3_ => (intro w hSw; (try dsimp only at hSw); go_simp; try with_reducible rfl)
      change wpAnyH _ _ _ _ _ _ _ (Act.put _ (some 41) _) _; simp only [Act.put, List.setIfInBounds_toArray, List.set_cons_zero, List.set_cons_succ]
      refine wpT (i := 4) (v := ?v4g3_) rfl (Or.inl ⟨by rfl, ?y4g3_⟩) (by assumption) ?r4g3_
      case y4g3_ => (intro w hSw; (try dsimp only at hSw); go_simp; try with_reducible rfl)
      change wpAnyH _ _ _ _ _ _ _ (Act.put _ (some 42) _) _; simp only [Act.put, List.setIfInBounds_toArray, List.set_cons_zero, List.set_cons_succ]
      refine wpT (i := 7) (v := ?v7g3_) rfl (Or.inl ⟨by rfl, ?y7g3_⟩) (by assumption) ?r7g3_
      case y7g3_ => (intro w hSw; (try dsimp only at hSw); go_simp; try with_reducible rfl)
      change wpAnyH _ _ _ _ _ _ _ (Act.put _ (some 45) _) _; simp only [Act.put, List.setIfInBounds_toArray, List.set_cons_zero, List.set_cons_succ]
      refine wpT (i := 8) (v := ?v8g3_) rfl (Or.inl ⟨by rfl, ?y8g3_⟩) (by assumption) ?r8g3_
      case y8g3_ => (intro w hSw; exact run_execOp_conv rfl (by have hs := hSw.2; simpa [Act.eval] using hs))
      change wpAnyH _ _ _ _ _ _ _ (Act.put _ (some 46) _) _; simp only [Act.put, List.setIfInBounds_toArray, List.set_cons_zero, List.set_cons_succ]
      refine wpAnyH_ready (rs := [5]) (by kernel_rfl) (by simp) ?_
      refine AllReadyH.cons rfl (fun K hK => ?_) AllReadyH.nil
      go_simp
      refine (HBY.out _).mono ?_
      rintro e w3 ⟨v3, rfl, hbt3, hb3⟩
      have HB3 := Lib.hid (HB2.out.trans (hb3.mono HB2.out.size))
      have hcv3 := hbt3.conv
      obtain ⟨A3, c3, rfl, -, -⟩ := hbt3
      clear hb3
      dsimp only
      refine hK.out _ _ ?_ (fun hHeld => ?_)
      · exact HSS.out _ HB3.out
      clear hK K
      try simp only [Act.put, List.setIfInBounds_toArray, List.set_cons_zero, List.set_cons_succ]
      refine wpAnyH_ready (rs := [6]) (by kernel_rfl) (by simp) ?_
      refine AllReadyH.cons rfl (fun K hK => ?_) AllReadyH.nil
      go_simp
      clear hcv3
      refine hK.out _ _ ?_ (fun hHeld => ?_)
      · exact HSS.out _ HB3.out
      clear hK K
      try simp only [Act.put, List.setIfInBounds_toArray, List.set_cons_zero, List.set_cons_succ]
      refine wpT (i := 9) (v := ?v9g3_) rfl (Or.inl ⟨by rfl, ?y9g3_⟩) (by assumption) ?r9g3_
      case y9g3_ => (intro w hSw; (try dsimp only at hSw); go_simp; try with_reducible rfl)
      change wpAnyH _ _ _ _ _ _ _ (Act.put _ (some 47) _) _; simp only [Act.put, List.setIfInBounds_toArray, List.set_cons_zero, List.set_cons_succ]
      refine wpT (i := 10) (v := ?v10g3_) rfl (Or.inl ⟨by rfl, ?y10g3_⟩) (by assumption) ?r10g3_
      case y10g3_ => (intro w hSw; (try dsimp only at hSw); go_simp; try with_reducible rfl)
      change wpAnyH _ _ _ _ _ _ _ (Act.put _ (some 48) _) _; simp only [Act.put, List.setIfInBounds_toArray, List.set_cons_zero, List.set_cons_succ]
      refine wpAnyH_done (by kernel_rfl) ?_ _
      refine NoPanic.normal ?_
      go_wp2_with fail
      go_meet
      exact ⟨by rw [HG.out], HB3.out⟩
  case rest =>
  obtain ⟨rfl, hbx⟩ := hcut
  have hS := HB5.out.trans (hbx.mono HB5.out.size)
  have hans := HKA.out.below hbx HKA.out.lt
  obtain ⟨c0, c1, c2, c3, c4, c5, c6⟩ := HCL.out wc hbx
  have hk5 := HK5.out.below hbx HK5.out.lt
  cases hgm : getM b with
  | none =>
    have HGM := Lib.hid hgm
    clear hgm
    simp only [Option.isNone_none]
    have hk2 := hans.setRow (mCells zeroM)
    have hb2 := below_row hS (Nat.le_refl w.heap.size) (mCells zeroM)
    have HK := Lib.hid hans; have HK2 := Lib.hid hk2; have HB2 := Lib.hid hb2; have hone := mCells_oneA zeroM
    rw [HZ.out] at HK2 HB2 hone
    have HONE := Lib.hid hone
    clear hk2 hb2 hans hS hbx hone hk5 HCL HRD HAGG HMAY HBY HH HCV
    go_wp2_with (first | (refine wpList_store_row rfl 46 (.tmp 2) (.tmp 49) rfl w.heap.size #[.int .i64 0, .int .i64 0, .int .i64 0, .int .i64 0, .int .i64 0, .bool false, .int .u32 0] rfl rfl 46 _ HK.out infoRf rfl HONE.out ?_))
    refine bodyPost_ret (results_row_tmp (Tryz.results35) _ _ w.heap.size 46 _ (0, 0) _ rfl HK2.out Tryz.underlying46 rfl infoRf) rfl ?_
    exact ⟨by rw [HGM.out, show getV none = zeroM from rfl, HZ.out]; rfl, HB2.out⟩
  | some m =>
    have HGM := Lib.hid hgm
    simp only [Option.isNone_some]
    have hMm : M = m := by
      obtain ⟨-, -, -, h50, hm⟩ := getM_some hgm
      rw [HMO.out, hm]
    have hcs := HAGG.out
    rw [hMm] at hcs
    have hk2 := hans.setRow (mCells m)
    have hb2 := below_row hS (Nat.le_refl w.heap.size) (mCells m)
    have HK := Lib.hid hans; have HK2 := Lib.hid hk2; have HB2 := Lib.hid hb2; have hone := mCells_oneA m
    rw [hcs] at HK2 HB2 hone
    have HONE := Lib.hid hone; have HCS := Lib.hid hcs
    clear hk2 hb2 hans hS hbx hcs hone hk5 HCL HRD HAGG HMAY HBY HH hMm hgm HCV HMO
    go_wp2_with (first | (refine wpList_store_row rfl 46 (.tmp 2) (.tmp 50) rfl w.heap.size #[.int .i64 z2, .int .i64 z3, .int .i64 z4, .int .i64 z5, .int .i64 z6, .bool (n7.toNat == 1), .int .u32 n8] rfl rfl 46 _ HK.out infoRf rfl HONE.out ?_))
    refine bodyPost_ret (results_row_tmp (Tryz.results35) _ _ w.heap.size 46 _ (0, 0) _ rfl HK2.out Tryz.underlying46 rfl infoRf) rfl ?_
    exact ⟨by rw [HGM.out, show getV (some m) = m from rfl, HCS.out]; rfl, HB2.out⟩
end Go.Proofs.YtlcgkcafelpglaaGreatDoor
