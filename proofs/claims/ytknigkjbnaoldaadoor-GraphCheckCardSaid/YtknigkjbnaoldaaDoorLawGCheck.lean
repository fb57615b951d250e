/- GraphCheck: of any graph it is told whether it may be; it is printed, and turned, as the document says. -/
import Derived.Test.YtknigkjbnaoldaaDoorGrPr
import Derived.Test.YtknigkjbnaoldaaDoorGrTu
namespace Go.Proofs.YtknigkjbnaoldaaDoor
open Go.RowKit

theorem light_at (n : Int) (A : Option Addr) (k c : Nat) (top : Int) (b : Bool) (w : World) (h : decide ((k : Int) ≤ top) = b) : Calls Tryd.prog 13 #[.agg #[.int .i64 n, .slice A k c], .int .i64 top] w fun r w' => r = .returned (.bool b) ∧ Below w.heap.size w w' := by
  have := light_any n A k c top w
  rwa [h] at this
theorem turn_few {g : Gr} (hl : g.2.length ≤ 8192) : (turnG g).2.length ≤ 1000000000 := by
  unfold turnG
  split
  · rename_i h
    have := turnR_len g.2 g.1.toNat
    have h2 := (check_ok h).2.1
    have h3 : g.1.toNat * g.2.length ≤ 512 * 8192 := Nat.mul_le_mul (by omega) hl
    show (turnR g.2 g.1.toNat).length ≤ _
    omega
  · simp
/-- what Turn hands back, its graph written out -/
def TurnQ (w : World) (n' : Int) (l' : List Edg) (k : Int) (R : Ending) (w' : World) : Prop :=
  ∃ (A : Option Addr) (c : Nat), R = .returned (.tuple #[.agg #[.int .i64 n', .slice A l'.length c], .int .i64 k]) ∧ Rs edgC 3 w' A l' ∧ Below w.heap.size w w'
theorem same_true' (w : World) (n : Int) (A B : Option Addr) (c d : Nat) (xs : List Edg) (ha : Rs edgC 3 w A xs) (hb : Rs edgC 3 w B xs) (hn : xs.length ≤ 1000000000) :
    Calls Tryd.prog 12 #[.agg #[.int .i64 n, .slice A xs.length c], .agg #[.int .i64 n, .slice B xs.length d]] w fun e w' => e = .returned (.bool true) ∧ Below w.heap.size w w' := by
  have := refSame_any w n n A B c d xs xs ha hb hn
  rwa [decide_eq_true (show n = n ∧ xs = xs from ⟨rfl, rfl⟩)] at this
set_option maxRecDepth 100000 in
set_option maxHeartbeats 4000000 in
theorem lawCheck_any (w : World) (n : Int) (A : Option Addr) (c : Nat) (l : List Edg) (ha : Rs edgC 3 w A l) (hF : Firsts w) :
    Calls Tryd.prog 6 #[.agg #[.int .i64 n, .slice A l.length c]] w fun e w' => e = .returned (.bool true) ∧ Below w.heap.size w w' := by
  have hz := firsts_lt hF
  have hS := GBox.start w n A c l
  by_cases h1 : (l.length : Int) ≤ 300
  · have hs1 := fun W => light_at n A l.length c 300 true W (decide_eq_true h1)
    have hPP := fun W (hW : Below w.heap.size w W) => pPrint_any W n A c l (ha.below hW) (firsts_below hF hW hz)
    have hRP := fun W (hW : Below w.heap.size w W) => rPrint_any W n A c l (ha.below hW)
    have hPC := fun W (hW : Below w.heap.size w W) => check_any W n A c l (ha.below hW)
    have hRC := fun W (hW : Below w.heap.size w W) => refCheck_any W n A c l (ha.below hW)
    have hPT : ∀ W, Below w.heap.size w W → Calls Tryd.prog 23 #[.agg #[.int .i64 n, .slice A l.length c]] W (TurnQ W (turnG (n, l)).1 (turnG (n, l)).2 (checkL (n, l))) := fun W hW =>
      (turn_any W n A c l (ha.below hW)).mono fun R w' ⟨hb, A', c', hR, hr⟩ => ⟨A', c', hR, hr, hb⟩
    have hRT : ∀ W, Below w.heap.size w W → Calls Tryd.prog 24 #[.agg #[.int .i64 n, .slice A l.length c]] W (TurnQ W (turnG (n, l)).1 (turnG (n, l)).2 (checkL (n, l))) := fun W hW =>
      (rturn_any W n A c l (ha.below hW)).mono fun R w' ⟨hb, A', c', hR, hr⟩ => ⟨A', c', hR, hr, hb⟩
    have hfew := turn_few (g := (n, l)) (by show l.length ≤ 8192; omega)
    unfold PrintP at hPP hRP
    generalize (turnG (n, l)).1 = n' at hPT hRT
    generalize (turnG (n, l)).2 = l' at hPT hRT hfew
    generalize checkL (n, l) = k at hPP hRP hPC hRC hPT hRT
    generalize printE (n, l) = t at hPP hRP
    have hkk : (k == k) = true := beq_self_eq_true k
    have htt : (t.toList == t.toList) = true := beq_self_eq_true _
    have HS := Lib.hid hS; have H1 := Lib.hid hs1; have HPP := Lib.hid hPP; have HRP := Lib.hid hRP; have HPC := Lib.hid hPC; have HRC := Lib.hid hRC; have HPT := Lib.hid hPT; have HRT := Lib.hid hRT; have HF := Lib.hid hF
    clear hS hs1 hPP hRP hPC hRC hPT hRT ha hF h1
    go_enter Tryd.func6, Tryd.ntmps6
    go_wp2_with fail
    refine (H1.out _).mono ?_
    rintro e x1 ⟨rfl, hb1⟩
    have HS1 := Lib.hid (HS.out.step hb1)
    clear hb1 HS
    obtain ⟨g0, g1⟩ := HS1.out.cells
    go_wp2_with fail
    refine (HPP.out _ HS1.out.below).mono ?_
    clear g0 g1
    rintro e x2 ⟨rfl, hb2⟩
    have HS2 := Lib.hid (HS1.out.step hb2)
    clear hb2 HS1
    obtain ⟨g0, g1⟩ := HS2.out.cells
    go_wp2_with fail
    refine (HRP.out _ HS2.out.below).mono ?_
    clear g0 g1
    rintro e x3 ⟨rfl, hb3⟩
    have HS3 := Lib.hid (HS2.out.step hb3)
    clear hb3 HS2
    obtain ⟨g0, g1⟩ := HS3.out.cells
    go_wp2_with fail
    refine (HPT.out _ HS3.out.below).mono ?_
    clear g0 g1
    rintro e x4 ⟨A4, c4, rfl, hr4, hb4⟩
    have HS4 := Lib.hid ((HS3.out.step hb4).alloc (.cells #[.int .i64 n', .slice A4 l'.length c4] 25))
    have HR4 := Lib.hid (hr4.alloc (.cells #[.int .i64 n', .slice A4 l'.length c4] 25))
    have HK4 := Lib.hid (Blk.new x4 25 #[.int .i64 n', .slice A4 l'.length c4])
    clear hb4 hr4 HS3
    obtain ⟨g0, g1⟩ := HS4.out.cells
    go_wp2_with fail
    refine (HRT.out _ HS4.out.below).mono ?_
    clear g0 g1
    rintro e x5 ⟨A5, c5, rfl, hr5, hb5⟩
    have HS5 := Lib.hid ((HS4.out.step hb5).alloc (.cells #[.int .i64 n', .slice A5 l'.length c5] 25))
    have HR5 := Lib.hid (hr5.alloc (.cells #[.int .i64 n', .slice A5 l'.length c5] 25))
    have HK5 := Lib.hid (Blk.new x5 25 #[.int .i64 n', .slice A5 l'.length c5])
    have HR4' := Lib.hid ((HR4.out.below hb5).alloc (.cells #[.int .i64 n', .slice A5 l'.length c5] 25))
    have HK4' := Lib.hid ((HK4.out.below hb5 HK4.out.lt).alloc (.cells #[.int .i64 n', .slice A5 l'.length c5] 25))
    clear hb5 hr5 HS4 HR4 HK4
    have hss : ∀ w', Below (x5.alloc (.cells #[.int .i64 n', .slice A5 l'.length c5] 25)).heap.size (x5.alloc (.cells #[.int .i64 n', .slice A5 l'.length c5] 25)) w' → w'.cell? ⟨w.heap.size, 0, none⟩ = some (.int .i64 n) ∧ w'.cell? ⟨w.heap.size, 1, none⟩ = some (.slice A l.length c) ∧ w'.cell? ⟨x4.heap.size, 0, none⟩ = some (.int .i64 n') ∧ w'.cell? ⟨x4.heap.size, 1, none⟩ = some (.slice A4 l'.length c4) ∧ w'.cell? ⟨x5.heap.size, 0, none⟩ = some (.int .i64 n') ∧ w'.cell? ⟨x5.heap.size, 1, none⟩ = some (.slice A5 l'.length c5) := fun w' hb' => ⟨(HS5.out.step hb').cells.1, (HS5.out.step hb').cells.2, (HK4'.out.below hb' HK4'.out.lt).cell 0, (HK4'.out.below hb' HK4'.out.lt).cell 1, (HK5.out.below hb' HK5.out.lt).cell 0, (HK5.out.below hb' HK5.out.lt).cell 1⟩
    have HSS := Lib.hid hss
    clear hss
    go_wp2_with fail
    refine wp_region_noPanic ?_
    refine wp_region_held_drew (S := (fun w' => w'.cell? ⟨w.heap.size, 0, none⟩ = some (.int .i64 n) ∧ w'.cell? ⟨w.heap.size, 1, none⟩ = some (.slice A l.length c) ∧ w'.cell? ⟨x4.heap.size, 0, none⟩ = some (.int .i64 n') ∧ w'.cell? ⟨x4.heap.size, 1, none⟩ = some (.slice A4 l'.length c4) ∧ w'.cell? ⟨x5.heap.size, 0, none⟩ = some (.int .i64 n') ∧ w'.cell? ⟨x5.heap.size, 1, none⟩ = some (.slice A5 l'.length c5))) (by kernel_rfl) ?_ (fun hHeld => ?_)
    · exact HSS.out _ (below_drewN (Below.refl _ _) 1)
    refine wpAnyH_take (i := 0) (v := ?v0g1_) rfl (by kernel_rfl) (by kernel_rfl) (by kernel_rfl) (fun _ _ _ h => h) (Or.inl ⟨by rfl, ?y0g1_⟩) (by assumption) ?r0g1_
    case y0g1_ => (intro w hSw; (try dsimp only at hSw); go_simp; try with_reducible rfl)
    change wpAnyH _ _ _ _ _ _ _ (Act.put _ (some 35) _) _; simp only [Act.put, List.setIfInBounds_toArray, List.set_cons_zero, List.set_cons_succ]
    refine wpAnyH_take (i := 2) (v := ?v2g1_) rfl (by kernel_rfl) (by kernel_rfl) (by kernel_rfl) (fun _ _ _ h => h) (Or.inl ⟨by rfl, ?y2g1_⟩) (by assumption) ?r2g1_
    case y2g1_ => (intro w hSw; (try dsimp only at hSw); go_simp; try with_reducible rfl)
    change wpAnyH _ _ _ _ _ _ _ (Act.put _ (some 37) _) _; simp only [Act.put, List.setIfInBounds_toArray, List.set_cons_zero, List.set_cons_succ]
    refine wpAnyH_ready (rs := [1]) (by kernel_rfl) (by simp) ?_
    refine AllReadyH.cons rfl (fun K hK => ?_) AllReadyH.nil
    go_simp
    refine (HPC.out _ (below_drewN HS5.out.below 1)).mono ?_
    rintro e x6 ⟨rfl, hb6⟩
    have HB6 := Lib.hid (undrew hb6)
    clear hb6
    dsimp only
    refine hK.out _ _ ?_ (fun hHeld => ?_)
    · exact HSS.out _ HB6.out
    clear hK K
    try simp only [Act.put, List.setIfInBounds_toArray, List.set_cons_zero, List.set_cons_succ]
    refine wpAnyH_ready (rs := [3]) (by kernel_rfl) (by simp) ?_
    refine AllReadyH.cons rfl (fun K hK => ?_) AllReadyH.nil
    go_simp
    refine (HRC.out _ (HS5.out.step HB6.out).below).mono ?_
    rintro e x7 ⟨rfl, hb7⟩
    have HB7 := Lib.hid (HB6.out.trans (hb7.mono HB6.out.size))
    clear hb7
    dsimp only
    refine hK.out _ _ ?_ (fun hHeld => ?_)
    · exact HSS.out _ HB7.out
    clear hK K
    try simp only [Act.put, List.setIfInBounds_toArray, List.set_cons_zero, List.set_cons_succ]
    refine wpAnyH_take (i := 4) (v := ?v4g1_) rfl (by kernel_rfl) (by kernel_rfl) (by kernel_rfl) (fun _ _ _ h => h) (Or.inl ⟨by rfl, ?y4g1_⟩) (by assumption) ?r4g1_
    case y4g1_ => (intro w hSw; (try dsimp only at hSw); go_simp; try with_reducible rfl)
    change wpAnyH _ _ _ _ _ _ _ (Act.put _ (some 39) _) _; simp only [Act.put, List.setIfInBounds_toArray, List.set_cons_zero, List.set_cons_succ]
    refine wpAnyH_take (i := 5) (v := ?v5g1_) rfl (by kernel_rfl) (by kernel_rfl) (by kernel_rfl) (fun _ _ _ h => h) (Or.inl ⟨by rfl, ?y5g1_⟩) (by assumption) ?r5g1_
    case y5g1_ => (intro w hSw; (try dsimp only at hSw); go_simp; try with_reducible rfl)
    change wpAnyH _ _ _ _ _ _ _ (Act.put _ (some 40) _) _; simp only [Act.put, List.setIfInBounds_toArray, List.set_cons_zero, List.set_cons_succ]
    refine wpAnyH_take (i := 6) (v := ?v6g1_) rfl (by kernel_rfl) (by kernel_rfl) (by kernel_rfl) (fun _ _ _ h => h) (Or.inl ⟨by rfl, ?y6g1_⟩) (by assumption) ?r6g1_
    case y6g1_ => (intro w hSw; (try dsimp only at hSw); go_simp; try with_reducible rfl)
    change wpAnyH _ _ _ _ _ _ _ (Act.put _ (some 41) _) _; simp only [Act.put, List.setIfInBounds_toArray, List.set_cons_zero, List.set_cons_succ]
    refine wpAnyH_take (i := 7) (v := ?v7g1_) rfl (by kernel_rfl) (by kernel_rfl) (by kernel_rfl) (fun _ _ _ h => h) (Or.inl ⟨by rfl, ?y7g1_⟩) (by assumption) ?r7g1_
    case y7g1_ => (intro w hSw; (try dsimp only at hSw); go_simp; try with_reducible rfl)
    change wpAnyH _ _ _ _ _ _ _ (Act.put _ (some 42) _) _; simp only [Act.put, List.setIfInBounds_toArray, List.set_cons_zero, List.set_cons_succ]
    refine wpAnyH_take (i := 8) (v := ?v8g1_) rfl (by kernel_rfl) (by kernel_rfl) (by kernel_rfl) (fun _ _ _ h => h) (Or.inl ⟨by rfl, ?y8g1_⟩) (by assumption) ?r8g1_
    case y8g1_ => (intro w hSw; (try dsimp only at hSw); go_simp; try with_reducible rfl)
    change wpAnyH _ _ _ _ _ _ _ (Act.put _ (some 43) _) _; simp only [Act.put, List.setIfInBounds_toArray, List.set_cons_zero, List.set_cons_succ]
    refine wpAnyH_take (i := 9) (v := ?v9g1_) rfl (by kernel_rfl) (by kernel_rfl) (by kernel_rfl) (fun _ _ _ h => h) (Or.inl ⟨by rfl, ?y9g1_⟩) (by assumption) ?r9g1_
    case y9g1_ => (intro w hSw; (try dsimp only at hSw); go_simp; try with_reducible rfl)
    change wpAnyH _ _ _ _ _ _ _ (Act.put _ (some 44) _) _; simp only [Act.put, List.setIfInBounds_toArray, List.set_cons_zero, List.set_cons_succ]
    refine wpAnyH_take (i := 10) (v := ?v10g1_) rfl (by kernel_rfl) (by kernel_rfl) (by kernel_rfl) (fun _ _ _ h => h) (Or.inl ⟨by rfl, ?y10g1_⟩) (by assumption) ?r10g1_
    case y10g1_ => (intro w hSw; (try dsimp only at hSw); go_simp; try with_reducible rfl)
    change wpAnyH _ _ _ _ _ _ _ (Act.put _ (some 45) _) _; simp only [Act.put, List.setIfInBounds_toArray, List.set_cons_zero, List.set_cons_succ]
    refine wpAnyH_take (i := 11) (v := ?v11g1_) rfl (by kernel_rfl) (by kernel_rfl) (by kernel_rfl) (fun _ _ _ h => h) (Or.inl ⟨by rfl, ?y11g1_⟩) (by assumption) ?r11g1_
    case y11g1_ => (intro w hSw; (try dsimp only at hSw); go_simp; try with_reducible rfl)
    change wpAnyH _ _ _ _ _ _ _ (Act.put _ (some 46) _) _; simp only [Act.put, List.setIfInBounds_toArray, List.set_cons_zero, List.set_cons_succ]
    refine wpAnyH_take (i := 12) (v := ?v12g1_) rfl (by kernel_rfl) (by kernel_rfl) (by kernel_rfl) (fun _ _ _ h => h) (Or.inl ⟨by rfl, ?y12g1_⟩) (by assumption) ?r12g1_
    case y12g1_ => (intro w hSw; (try dsimp only at hSw); go_simp; try with_reducible rfl)
    change wpAnyH _ _ _ _ _ _ _ (Act.put _ (some 47) _) _; simp only [Act.put, List.setIfInBounds_toArray, List.set_cons_zero, List.set_cons_succ]
    refine wpAnyH_take (i := 13) (v := ?v13g1_) rfl (by kernel_rfl) (by kernel_rfl) (by kernel_rfl) (fun _ _ _ h => h) (Or.inl ⟨by rfl, ?y13g1_⟩) (by assumption) ?r13g1_
    case y13g1_ => (intro w hSw; (try dsimp only at hSw); go_simp; try with_reducible rfl)
    change wpAnyH _ _ _ _ _ _ _ (Act.put _ (some 48) _) _; simp only [Act.put, List.setIfInBounds_toArray, List.set_cons_zero, List.set_cons_succ]
    refine wpAnyH_take (i := 14) (v := ?v14g1_) rfl (by kernel_rfl) (by kernel_rfl) (by kernel_rfl) (fun _ _ _ h => h) (Or.inl ⟨by rfl, ?y14g1_⟩) (by assumption) ?r14g1_
    case y14g1_ => (intro w hSw; (try dsimp only at hSw); go_simp; try with_reducible rfl)
    change wpAnyH _ _ _ _ _ _ _ (Act.put _ (some 49) _) _; simp only [Act.put, List.setIfInBounds_toArray, List.set_cons_zero, List.set_cons_succ]
    refine wpAnyH_take (i := 15) (v := ?v15g1_) rfl (by kernel_rfl) (by kernel_rfl) (by kernel_rfl) (fun _ _ _ h => h) (Or.inl ⟨by rfl, ?y15g1_⟩) (by assumption) ?r15g1_
    case y15g1_ => (intro w hSw; (try dsimp only at hSw); go_simp; try with_reducible rfl)
    change wpAnyH _ _ _ _ _ _ _ (Act.put _ (some 50) _) _; simp only [Act.put, List.setIfInBounds_toArray, List.set_cons_zero, List.set_cons_succ]
    refine wpAnyH_take (i := 16) (v := ?v16g1_) rfl (by kernel_rfl) (by kernel_rfl) (by kernel_rfl) (fun _ _ _ h => h) (Or.inl ⟨by rfl, ?y16g1_⟩) (by assumption) ?r16g1_
    case y16g1_ => (intro w hSw; (try dsimp only at hSw); go_simp; try with_reducible rfl)
    change wpAnyH _ _ _ _ _ _ _ (Act.put _ (some 51) _) _; simp only [Act.put, List.setIfInBounds_toArray, List.set_cons_zero, List.set_cons_succ]
    refine wpAnyH_take (i := 17) (v := ?v17g1_) rfl (by kernel_rfl) (by kernel_rfl) (by kernel_rfl) (fun _ _ _ h => h) (Or.inl ⟨by rfl, ?y17g1_⟩) (by assumption) ?r17g1_
    case y17g1_ => (intro w hSw; (try dsimp only at hSw); go_simp; try with_reducible rfl)
    change wpAnyH _ _ _ _ _ _ _ (Act.put _ (some 52) _) _; simp only [Act.put, List.setIfInBounds_toArray, List.set_cons_zero, List.set_cons_succ]
    refine wpAnyH_ready (rs := [18]) (by kernel_rfl) (by simp) ?_
    refine AllReadyH.cons rfl (fun K hK => ?_) AllReadyH.nil
    go_simp
    refine (same_true' _ n' A4 A5 c4 c5 l' (HR4'.out.below HB7.out) (HR5.out.below HB7.out) hfew).mono ?_
    rintro e x8 ⟨rfl, hb8⟩
    have HB8 := Lib.hid (HB7.out.trans (hb8.mono HB7.out.size))
    clear hb8
    dsimp only
    refine hK.out _ _ ?_ (fun hHeld => ?_)
    · exact HSS.out _ HB8.out
    clear hK K
    try simp only [Act.put, List.setIfInBounds_toArray, List.set_cons_zero, List.set_cons_succ]
    refine wpAnyH_take (i := 19) (v := ?v19g1_) rfl (by kernel_rfl) (by kernel_rfl) (by kernel_rfl) (fun _ _ _ h => h) (Or.inl ⟨by rfl, ?y19g1_⟩) (by assumption) ?r19g1_
    case y19g1_ => (intro w hSw; (try dsimp only at hSw); go_simp; try with_reducible rfl)
    change wpAnyH _ _ _ _ _ _ _ (Act.put _ (some 54) _) _; simp only [Act.put, List.setIfInBounds_toArray, List.set_cons_zero, List.set_cons_succ]
    refine wpAnyH_take (i := 20) (v := ?v20g1_) rfl (by kernel_rfl) (by kernel_rfl) (by kernel_rfl) (fun _ _ _ h => h) (Or.inl ⟨by rfl, ?y20g1_⟩) (by assumption) ?r20g1_
    case y20g1_ => (intro w hSw; (try dsimp only at hSw); go_simp; try with_reducible rfl)
    change wpAnyH _ _ _ _ _ _ _ (Act.put _ (some 55) _) _; simp only [Act.put, List.setIfInBounds_toArray, List.set_cons_zero, List.set_cons_succ]
    refine wpAnyH_take (i := 21) (v := ?v21g1_) rfl (by kernel_rfl) (by kernel_rfl) (by kernel_rfl) (fun _ _ _ h => h) (Or.inl ⟨by rfl, ?y21g1_⟩) (by assumption) ?r21g1_
    case y21g1_ => (intro w hSw; (try dsimp only at hSw); go_simp; try with_reducible rfl)
    change wpAnyH _ _ _ _ _ _ _ (Act.put _ (some 56) _) _; simp only [Act.put, List.setIfInBounds_toArray, List.set_cons_zero, List.set_cons_succ]
    refine wpAnyH_take (i := 22) (v := ?v22g1_) rfl (by kernel_rfl) (by kernel_rfl) (by kernel_rfl) (fun _ _ _ h => h) (Or.inl ⟨by rfl, ?y22g1_⟩) (by assumption) ?r22g1_
    case y22g1_ => (intro w hSw; (try dsimp only at hSw); go_simp; try with_reducible rfl)
    change wpAnyH _ _ _ _ _ _ _ (Act.put _ (some 57) _) _; simp only [Act.put, List.setIfInBounds_toArray, List.set_cons_zero, List.set_cons_succ]
    refine wpAnyH_take (i := 23) (v := ?v23g1_) rfl (by kernel_rfl) (by kernel_rfl) (by kernel_rfl) (fun _ _ _ h => h) (Or.inl ⟨by rfl, ?y23g1_⟩) (by assumption) ?r23g1_
    case y23g1_ => (intro w hSw; (try dsimp only at hSw); go_simp; try with_reducible rfl)
    change wpAnyH _ _ _ _ _ _ _ (Act.put _ (some 58) _) _; simp only [Act.put, List.setIfInBounds_toArray, List.set_cons_zero, List.set_cons_succ]
    refine wpAnyH_take (i := 24) (v := ?v24g1_) rfl (by kernel_rfl) (by kernel_rfl) (by kernel_rfl) (fun _ _ _ h => h) (Or.inl ⟨by rfl, ?y24g1_⟩) (by assumption) ?r24g1_
    case y24g1_ => (intro w hSw; (try dsimp only at hSw); go_simp; try with_reducible rfl)
    change wpAnyH _ _ _ _ _ _ _ (Act.put _ (some 59) _) _; simp only [Act.put, List.setIfInBounds_toArray, List.set_cons_zero, List.set_cons_succ]
    refine wpAnyH_take (i := 25) (v := ?v25g1_) rfl (by kernel_rfl) (by kernel_rfl) (by kernel_rfl) (fun _ _ _ h => h) (Or.inl ⟨by rfl, ?y25g1_⟩) (by assumption) ?r25g1_
    case y25g1_ => (intro w hSw; (try dsimp only at hSw); go_simp; try with_reducible rfl)
    change wpAnyH _ _ _ _ _ _ _ (Act.put _ (some 60) _) _; simp only [Act.put, List.setIfInBounds_toArray, List.set_cons_zero, List.set_cons_succ]
    refine wpAnyH_ready (rs := [26]) (by kernel_rfl) (by simp) ?_
    refine AllReadyH.cons rfl (fun K hK => ?_) AllReadyH.nil
    go_simp
    refine (works_any _ (firsts_below HF.out (HS5.out.step HB8.out).below hz)).mono ?_
    rintro e x9 ⟨rfl, hb9⟩
    have HB9 := Lib.hid (HB8.out.trans (hb9.mono HB8.out.size))
    clear hb9
    dsimp only
    refine hK.out _ _ ?_ (fun hHeld => ?_)
    · exact HSS.out _ HB9.out
    clear hK K
    try simp only [Act.put, List.setIfInBounds_toArray, List.set_cons_zero, List.set_cons_succ]
    refine wpAnyH_take (i := 27) (v := ?v27g1_) rfl (by kernel_rfl) (by kernel_rfl) (by kernel_rfl) (fun _ _ _ h => h) (Or.inl ⟨by rfl, ?y27g1_⟩) (by assumption) ?r27g1_
    case y27g1_ => (intro w hSw; (try dsimp only at hSw); go_simp; try with_reducible rfl)
    change wpAnyH _ _ _ _ _ _ _ (Act.put _ (some 62) _) _; simp only [Act.put, List.setIfInBounds_toArray, List.set_cons_zero, List.set_cons_succ]
    refine wpAnyH_take (i := 28) (v := ?v28g1_) rfl (by kernel_rfl) (by kernel_rfl) (by kernel_rfl) (fun _ _ _ h => h) (Or.inl ⟨by rfl, ?y28g1_⟩) (by assumption) ?r28g1_
    case y28g1_ => (intro w hSw; (try dsimp only at hSw); go_simp; try with_reducible rfl)
    change wpAnyH _ _ _ _ _ _ _ (Act.put _ (some 2) _) _; simp only [Act.put, List.setIfInBounds_toArray, List.set_cons_zero, List.set_cons_succ]
    refine wpAnyH_done (by kernel_rfl) ?_ _
    refine NoPanic.normal ?_
    have HFIN := Lib.hid (HS5.out.step HB9.out).below
    go_wp2
    go_ret
    exact ⟨rfl, HFIN.out⟩
  · have hs1 := fun W => light_at n A l.length c 300 false W (decide_eq_false h1)
    have HS := Lib.hid hS; have H1 := Lib.hid hs1; have HF := Lib.hid hF
    clear hS hs1 ha hF h1
    go_enter Tryd.func6, Tryd.ntmps6
    go_wp2_with fail
    refine (H1.out _).mono ?_
    rintro e x1 ⟨rfl, hb1⟩
    have HS1 := Lib.hid (HS.out.step hb1)
    clear hb1 HS
    go_wp2_with fail
    refine (works_any _ (firsts_below HF.out HS1.out.below hz)).mono ?_
    rintro e x2 ⟨rfl, hb2⟩
    have HB2 := Lib.hid (HS1.out.step hb2).below
    clear hb2
    go_wp2
    go_ret
    exact ⟨rfl, HB2.out⟩
end Go.Proofs.YtknigkjbnaoldaaDoor
