/- The program's reader of graphs: an edge more. -/
import Derived.Test.YtknigkjbnaoldaaDoorGrG
import Derived.Deep.AppendLies
namespace Go.Proofs.YtknigkjbnaoldaaDoor
open Go.RowKit Go.Maps

/-- what add hands back -/
def AddRP (w : World) (B r mb : Nat) (n : Int) (v : Value) (o : Option (List Edg)) (R : Ending) (w' : World) : Prop :=
  match o with
  | none => R = .returned (.bool false) ∧ Below w.heap.size w w'
  | some m => R = .returned (.bool true) ∧ Below B w w' ∧ ∃ v', RdrIs w' B r mb n v' m ∧ (v'.ownBlock = v.ownBlock ∨ ∃ g, v'.ownBlock = some g ∧ w.heap.size ≤ g) ∧ Stay r mb v.ownBlock w w'
theorem addP_fit {n : Int} {l : List Edg} {e : Edg} (h : fitsE e n = false) : addP n l e = none := by unfold addP; rw [if_pos (.inl h)]
theorem addP_seen {n : Int} {l : List Edg} {e : Edg} (h : hasP l e.1 e.2.1 = true) : addP n l e = none := by unfold addP; rw [if_pos (.inr (.inl (by rw [← hasP_same]; exact h)))]
theorem addP_full {n : Int} {l : List Edg} {e : Edg} (h : l.length = 8192) : addP n l e = none := by unfold addP; rw [if_pos (.inr (.inr h))]
theorem addP_yes {n : Int} {l : List Edg} {e : Edg} (h : fitsE e n = true) (h2 : hasP l e.1 e.2.1 = false) (h3 : l.length ≠ 8192) : addP n l e = some (l ++ [e]) := by
  unfold addP
  rw [if_neg]
  rintro (h' | h' | h')
  · rw [h] at h'; cases h'
  · rw [← hasP_same, h2] at h'; cases h'
  · exact h3 h'
theorem fits_wf {e : Edg} {n : Int} (h : fitsE e n = true) (hn : n ≤ 512) : (Lit.int .i64 e.1).wf = true ∧ (Lit.int .i64 e.2.1).wf = true := by
  unfold fitsE at h
  simp at h
  have hw : ∀ z : Int, 0 ≤ z → z < 512 → (Lit.int .i64 z).wf = true := fun z h1 h2 => by
    simp [Lit.wf, IntKind.min, IntKind.max, IntKind.signed, IntKind.bits]
    omega
  exact ⟨hw _ (by omega) (by omega), hw _ (by omega) (by omega)⟩
theorem grown_drew {a b : World} {row : Option Nat} (h : a.drew.grownBy b row) : a.grownBy b row := ⟨h.os, h.tape, h.output, h.size, h.block⟩
set_option maxRecDepth 100000 in
set_option maxHeartbeats 8000000 in
theorem addR_fit_ (w : World) (B r mb : Nat) (n : Int) (v : Value) (l : List Edg) (e : Edg) (h : RdrIs w B r mb n v l) (hf : fitsE e n = false) :
    Calls Tryd.prog 56 #[.pointer (some ⟨r, 0, none⟩), .agg #[.int .i64 e.1, .int .i64 e.2.1, .int .i64 e.2.2]] w (AddRP w B r mb n v (addP n l e)) := by
  obtain ⟨A, c, rfl, hc⟩ := own_parts h.own
  have hbW : Below w.heap.size w ((w.alloc (.cells #[.int .i64 e.1, .int .i64 e.2.1, .int .i64 e.2.2] 35)).alloc (.cells #[.int .i64 e.1, .int .i64 e.2.1] 104)) := ((Below.refl _ _).alloc (Nat.le_refl _) _).alloc (by simp) _
  have h1 := h.below hbW
  have kE := (Blk.new w 35 #[.int .i64 e.1, .int .i64 e.2.1, .int .i64 e.2.2]).alloc (.cells #[.int .i64 e.1, .int .i64 e.2.1] 104)
  have kP := Blk.new (w.alloc (.cells #[.int .i64 e.1, .int .i64 e.2.1, .int .i64 e.2.2] 35)) 104 #[.int .i64 e.1, .int .i64 e.2.1]
  rw [show (w.alloc (.cells #[.int .i64 e.1, .int .i64 e.2.1, .int .i64 e.2.2] 35)).heap.size = w.heap.size + 1 from by simp] at kP
  have hss : ∀ w', Below ((w.alloc (.cells #[.int .i64 e.1, .int .i64 e.2.1, .int .i64 e.2.2] 35)).alloc (.cells #[.int .i64 e.1, .int .i64 e.2.1] 104)).heap.size ((w.alloc (.cells #[.int .i64 e.1, .int .i64 e.2.1, .int .i64 e.2.2] 35)).alloc (.cells #[.int .i64 e.1, .int .i64 e.2.1] 104)) w' → w'.cell? ⟨w.heap.size, 0, none⟩ = some (.int .i64 e.1) ∧ w'.cell? ⟨w.heap.size, 1, none⟩ = some (.int .i64 e.2.1) ∧ w'.cell? ⟨w.heap.size, 2, none⟩ = some (.int .i64 e.2.2) ∧ w'.cell? ⟨r, 0, none⟩ = some (.int .i64 n) ∧ w'.cell? ⟨r, 1, none⟩ = some (.slice A l.length c) ∧ w'.cell? ⟨r, 2, none⟩ = some (.map (some mb)) ∧ w'.cell? ⟨w.heap.size + 1, 0, none⟩ = some (.int .i64 e.1) ∧ w'.cell? ⟨w.heap.size + 1, 1, none⟩ = some (.int .i64 e.2.1) := fun w' hb' => by
    have g := h1.below hb'
    have k1 := kE.below hb' (by simp; omega)
    have k2 := kP.below hb' (by simp)
    exact ⟨k1.cell 0, k1.cell 1, k1.cell 2, g.blk.cell 0, g.blk.cell 1, g.blk.cell 2, k2.cell 0, k2.cell 1⟩
  rw [addP_fit hf]
  have hfc := fun W => fits_any e n W
  rw [hf] at hfc
  have HFC := Lib.hid hfc; have HSS := Lib.hid hss; have HBW := Lib.hid hbW
  clear hfc hss hbW h h1 kE kP hf hc
  go_enter Tryd.func56, Tryd.ntmps56
  go_wp2_with fail
  refine wp_region_noPanic ?_
  refine wp_region_held_drew (S := (fun w' => w'.cell? ⟨w.heap.size, 0, none⟩ = some (.int .i64 e.1) ∧ w'.cell? ⟨w.heap.size, 1, none⟩ = some (.int .i64 e.2.1) ∧ w'.cell? ⟨w.heap.size, 2, none⟩ = some (.int .i64 e.2.2) ∧ w'.cell? ⟨r, 0, none⟩ = some (.int .i64 n) ∧ w'.cell? ⟨r, 1, none⟩ = some (.slice A l.length c) ∧ w'.cell? ⟨r, 2, none⟩ = some (.map (some mb)) ∧ w'.cell? ⟨w.heap.size + 1, 0, none⟩ = some (.int .i64 e.1) ∧ w'.cell? ⟨w.heap.size + 1, 1, none⟩ = some (.int .i64 e.2.1))) (by kernel_rfl) ?_ (fun hHeld => ?_)
  · exact HSS.out _ (below_drewN (Below.refl _ _) 1)
  refine wpAnyH_take (i := 0) (v := ?v0g1_) rfl (by kernel_rfl) (by kernel_rfl) (by kernel_rfl) (fun _ _ _ h => h) (Or.inl ⟨by rfl, ?y0g1_⟩) (by assumption) ?r0g1_
  case y0g1_ => (intro w hSw; (try dsimp only at hSw); go_simp; try with_reducible rfl)
  change wpAnyH _ _ _ _ _ _ _ (Act.put _ (some 11) _) _; simp only [Act.put, List.setIfInBounds_toArray, List.set_cons_zero, List.set_cons_succ]
  refine wpAnyH_take (i := 1) (v := ?v1g1_) rfl (by kernel_rfl) (by kernel_rfl) (by kernel_rfl) (fun _ _ _ h => h) (Or.inl ⟨by rfl, ?y1g1_⟩) (by assumption) ?r1g1_
  case y1g1_ => (intro w hSw; (try dsimp only at hSw); go_simp; try with_reducible rfl)
  change wpAnyH _ _ _ _ _ _ _ (Act.put _ (some 12) _) _; simp only [Act.put, List.setIfInBounds_toArray, List.set_cons_zero, List.set_cons_succ]
  refine wpAnyH_take (i := 2) (v := ?v2g1_) rfl (by kernel_rfl) (by kernel_rfl) (by kernel_rfl) (fun _ _ _ h => h) (Or.inl ⟨by rfl, ?y2g1_⟩) (by assumption) ?r2g1_
  case y2g1_ => (intro w hSw; (try dsimp only at hSw); go_simp; try with_reducible rfl)
  change wpAnyH _ _ _ _ _ _ _ (Act.put _ (some 13) _) _; simp only [Act.put, List.setIfInBounds_toArray, List.set_cons_zero, List.set_cons_succ]
  refine wpAnyH_take (i := 3) (v := ?v3g1_) rfl (by kernel_rfl) (by kernel_rfl) (by kernel_rfl) (fun _ _ _ h => h) (Or.inl ⟨by rfl, ?y3g1_⟩) (by assumption) ?r3g1_
  case y3g1_ => (intro w hSw; (try dsimp only at hSw); go_simp; try with_reducible rfl)
  change wpAnyH _ _ _ _ _ _ _ (Act.put _ (some 14) _) _; simp only [Act.put, List.setIfInBounds_toArray, List.set_cons_zero, List.set_cons_succ]
  refine wpAnyH_take (i := 4) (v := ?v4g1_) rfl (by kernel_rfl) (by kernel_rfl) (by kernel_rfl) (fun _ _ _ h => h) (Or.inl ⟨by rfl, ?y4g1_⟩) (by assumption) ?r4g1_
  case y4g1_ => (intro w hSw; (try dsimp only at hSw); go_simp; try with_reducible rfl)
  change wpAnyH _ _ _ _ _ _ _ (Act.put _ (some 15) _) _; simp only [Act.put, List.setIfInBounds_toArray, List.set_cons_zero, List.set_cons_succ]
  refine wpAnyH_take (i := 5) (v := ?v5g1_) rfl (by kernel_rfl) (by kernel_rfl) (by kernel_rfl) (fun _ _ _ h => h) (Or.inl ⟨by rfl, ?y5g1_⟩) (by assumption) ?r5g1_
  case y5g1_ => (intro w hSw; (try dsimp only at hSw); go_simp; try with_reducible rfl)
  change wpAnyH _ _ _ _ _ _ _ (Act.put _ (some 16) _) _; simp only [Act.put, List.setIfInBounds_toArray, List.set_cons_zero, List.set_cons_succ]
  refine wpAnyH_ready (rs := [6]) (by kernel_rfl) (by simp) ?_
  refine AllReadyH.cons rfl (fun K hK => ?_) AllReadyH.nil
  go_simp
  refine (HFC.out _).mono ?_
  rintro R2 w2 ⟨rfl, hb2⟩
  have HB2 := Lib.hid (undrew hb2)
  clear hb2
  dsimp only
  refine hK.out _ _ ?_ (fun hHeld => ?_)
  · exact HSS.out _ HB2.out
  clear hK K
  try simp only [Act.put, List.setIfInBounds_toArray, List.set_cons_zero, List.set_cons_succ]
  refine wpAnyH_take (i := 7) (v := ?v7g1_) rfl (by kernel_rfl) (by kernel_rfl) (by kernel_rfl) (fun _ _ _ h => h) (Or.inl ⟨by rfl, ?y7g1_⟩) (by assumption) ?r7g1_
  case y7g1_ => (intro w hSw; (try dsimp only at hSw); go_simp; try with_reducible rfl)
  change wpAnyH _ _ _ _ _ _ _ (Act.put _ (some 18) _) _; simp only [Act.put, List.setIfInBounds_toArray, List.set_cons_zero, List.set_cons_succ]
  refine wpAnyH_take (i := 8) (v := ?v8g1_) rfl (by kernel_rfl) (by kernel_rfl) (by kernel_rfl) (fun _ _ _ h => h) (Or.inl ⟨by rfl, ?y8g1_⟩) (by assumption) ?r8g1_
  case y8g1_ => (intro w hSw; (try dsimp only at hSw); go_simp; try with_reducible rfl)
  change wpAnyH _ _ _ _ _ _ _ (Act.put _ (some 19) _) _; simp only [Act.put, List.setIfInBounds_toArray, List.set_cons_zero, List.set_cons_succ]
  refine wpAnyH_take (i := 9) (v := undef) rfl (by kernel_rfl) (by kernel_rfl) (by kernel_rfl) (fun _ _ _ h => h) (Or.inr ⟨by rfl, rfl⟩) (by assumption) ?_
  change wpAnyH _ _ _ _ _ _ _ (Act.put _ (some 20) _) _; simp only [Act.put, List.setIfInBounds_toArray, List.set_cons_zero, List.set_cons_succ]
  refine wpAnyH_take (i := 10) (v := undef) rfl (by kernel_rfl) (by kernel_rfl) (by kernel_rfl) (fun _ _ _ h => h) (Or.inr ⟨by rfl, rfl⟩) (by assumption) ?_
  change wpAnyH _ _ _ _ _ _ _ (Act.put _ (some 21) _) _; simp only [Act.put, List.setIfInBounds_toArray, List.set_cons_zero, List.set_cons_succ]
  refine wpAnyH_take (i := 11) (v := undef) rfl (by kernel_rfl) (by kernel_rfl) (by kernel_rfl) (fun _ _ _ h => h) (Or.inr ⟨by rfl, rfl⟩) (by assumption) ?_
  change wpAnyH _ _ _ _ _ _ _ (Act.put _ (some 22) _) _; simp only [Act.put, List.setIfInBounds_toArray, List.set_cons_zero, List.set_cons_succ]
  refine wpAnyH_take (i := 12) (v := undef) rfl (by kernel_rfl) (by kernel_rfl) (by kernel_rfl) (fun _ _ _ h => h) (Or.inr ⟨by rfl, rfl⟩) (by assumption) ?_
  change wpAnyH _ _ _ _ _ _ _ (Act.put _ (some 23) _) _; simp only [Act.put, List.setIfInBounds_toArray, List.set_cons_zero, List.set_cons_succ]
  refine wpAnyH_take (i := 13) (v := undef) rfl (by kernel_rfl) (by kernel_rfl) (by kernel_rfl) (fun _ _ _ h => h) (Or.inr ⟨by rfl, rfl⟩) (by assumption) ?_
  change wpAnyH _ _ _ _ _ _ _ (Act.put _ (some 24) _) _; simp only [Act.put, List.setIfInBounds_toArray, List.set_cons_zero, List.set_cons_succ]
  refine wpAnyH_take (i := 14) (v := undef) rfl (by kernel_rfl) (by kernel_rfl) (by kernel_rfl) (fun _ _ _ h => h) (Or.inr ⟨by rfl, rfl⟩) (by assumption) ?_
  change wpAnyH _ _ _ _ _ _ _ (Act.put _ (some 25) _) _; simp only [Act.put, List.setIfInBounds_toArray, List.set_cons_zero, List.set_cons_succ]
  refine wpAnyH_take (i := 15) (v := ?v15g1_) rfl (by kernel_rfl) (by kernel_rfl) (by kernel_rfl) (fun _ _ _ h => h) (Or.inl ⟨by rfl, ?y15g1_⟩) (by assumption) ?r15g1_
  case y15g1_ => (intro w hSw; (try dsimp only at hSw); go_simp; try with_reducible rfl)
  change wpAnyH _ _ _ _ _ _ _ (Act.put _ (some 26) _) _; simp only [Act.put, List.setIfInBounds_toArray, List.set_cons_zero, List.set_cons_succ]
  refine wpAnyH_take (i := 16) (v := ?v16g1_) rfl (by kernel_rfl) (by kernel_rfl) (by kernel_rfl) (fun _ _ _ h => h) (Or.inl ⟨by rfl, ?y16g1_⟩) (by assumption) ?r16g1_
  case y16g1_ => (intro w hSw; (try dsimp only at hSw); go_simp; try with_reducible rfl)
  change wpAnyH _ _ _ _ _ _ _ (Act.put _ (some 27) _) _; simp only [Act.put, List.setIfInBounds_toArray, List.set_cons_zero, List.set_cons_succ]
  refine wpAnyH_take (i := 17) (v := undef) rfl (by kernel_rfl) (by kernel_rfl) (by kernel_rfl) (fun _ _ _ h => h) (Or.inr ⟨by rfl, rfl⟩) (by assumption) ?_
  change wpAnyH _ _ _ _ _ _ _ (Act.put _ (some 28) _) _; simp only [Act.put, List.setIfInBounds_toArray, List.set_cons_zero, List.set_cons_succ]
  refine wpAnyH_take (i := 18) (v := undef) rfl (by kernel_rfl) (by kernel_rfl) (by kernel_rfl) (fun _ _ _ h => h) (Or.inr ⟨by rfl, rfl⟩) (by assumption) ?_
  change wpAnyH _ _ _ _ _ _ _ (Act.put _ (some 29) _) _; simp only [Act.put, List.setIfInBounds_toArray, List.set_cons_zero, List.set_cons_succ]
  refine wpAnyH_take (i := 19) (v := undef) rfl (by kernel_rfl) (by kernel_rfl) (by kernel_rfl) (fun _ _ _ h => h) (Or.inr ⟨by rfl, rfl⟩) (by assumption) ?_
  change wpAnyH _ _ _ _ _ _ _ (Act.put _ (some 30) _) _; simp only [Act.put, List.setIfInBounds_toArray, List.set_cons_zero, List.set_cons_succ]
  refine wpAnyH_take (i := 20) (v := undef) rfl (by kernel_rfl) (by kernel_rfl) (by kernel_rfl) (fun _ _ _ h => h) (Or.inr ⟨by rfl, rfl⟩) (by assumption) ?_
  change wpAnyH _ _ _ _ _ _ _ (Act.put _ (some 31) _) _; simp only [Act.put, List.setIfInBounds_toArray, List.set_cons_zero, List.set_cons_succ]
  refine wpAnyH_take (i := 21) (v := undef) rfl (by kernel_rfl) (by kernel_rfl) (by kernel_rfl) (fun _ _ _ h => h) (Or.inr ⟨by rfl, rfl⟩) (by assumption) ?_
  change wpAnyH _ _ _ _ _ _ _ (Act.put _ (some 32) _) _; simp only [Act.put, List.setIfInBounds_toArray, List.set_cons_zero, List.set_cons_succ]
  refine wpAnyH_take (i := 22) (v := undef) rfl (by kernel_rfl) (by kernel_rfl) (by kernel_rfl) (fun _ _ _ h => h) (Or.inr ⟨by rfl, rfl⟩) (by assumption) ?_
  change wpAnyH _ _ _ _ _ _ _ (Act.put _ (some 33) _) _; simp only [Act.put, List.setIfInBounds_toArray, List.set_cons_zero, List.set_cons_succ]
  refine wpAnyH_take (i := 23) (v := undef) rfl (by kernel_rfl) (by kernel_rfl) (by kernel_rfl) (fun _ _ _ h => h) (Or.inr ⟨by rfl, rfl⟩) (by assumption) ?_
  change wpAnyH _ _ _ _ _ _ _ (Act.put _ (some 34) _) _; simp only [Act.put, List.setIfInBounds_toArray, List.set_cons_zero, List.set_cons_succ]
  refine wpAnyH_take (i := 24) (v := ?v24g1_) rfl (by kernel_rfl) (by kernel_rfl) (by kernel_rfl) (fun _ _ _ h => h) (Or.inl ⟨by rfl, ?y24g1_⟩) (by assumption) ?r24g1_
  case y24g1_ => (intro w hSw; (try dsimp only at hSw); go_simp; try with_reducible rfl)
  change wpAnyH _ _ _ _ _ _ _ (Act.put _ (some 35) _) _; simp only [Act.put, List.setIfInBounds_toArray, List.set_cons_zero, List.set_cons_succ]
  refine wpAnyH_done (by kernel_rfl) ?_ _
  refine NoPanic.normal ?_
  go_wp2
  go_ret
  exact ⟨rfl, HBW.out.trans (HB2.out.mono (by simp; omega))⟩
set_option maxRecDepth 100000 in
set_option maxHeartbeats 8000000 in
theorem addR_seen_ (w : World) (B r mb : Nat) (n : Int) (v : Value) (l : List Edg) (e : Edg) (h : RdrIs w B r mb n v l) (hn : n ≤ 512) (hf : fitsE e n = true) (hsv : hasP l e.1 e.2.1 = true) :
    Calls Tryd.prog 56 #[.pointer (some ⟨r, 0, none⟩), .agg #[.int .i64 e.1, .int .i64 e.2.1, .int .i64 e.2.2]] w (AddRP w B r mb n v (addP n l e)) := by
  obtain ⟨A, c, rfl, hc⟩ := own_parts h.own
  have hbW : Below w.heap.size w ((w.alloc (.cells #[.int .i64 e.1, .int .i64 e.2.1, .int .i64 e.2.2] 35)).alloc (.cells #[.int .i64 e.1, .int .i64 e.2.1] 104)) := ((Below.refl _ _).alloc (Nat.le_refl _) _).alloc (by simp) _
  have h1 := h.below hbW
  have kE := (Blk.new w 35 #[.int .i64 e.1, .int .i64 e.2.1, .int .i64 e.2.2]).alloc (.cells #[.int .i64 e.1, .int .i64 e.2.1] 104)
  have kP := Blk.new (w.alloc (.cells #[.int .i64 e.1, .int .i64 e.2.1, .int .i64 e.2.2] 35)) 104 #[.int .i64 e.1, .int .i64 e.2.1]
  rw [show (w.alloc (.cells #[.int .i64 e.1, .int .i64 e.2.1, .int .i64 e.2.2] 35)).heap.size = w.heap.size + 1 from by simp] at kP
  have hss : ∀ w', Below ((w.alloc (.cells #[.int .i64 e.1, .int .i64 e.2.1, .int .i64 e.2.2] 35)).alloc (.cells #[.int .i64 e.1, .int .i64 e.2.1] 104)).heap.size ((w.alloc (.cells #[.int .i64 e.1, .int .i64 e.2.1, .int .i64 e.2.2] 35)).alloc (.cells #[.int .i64 e.1, .int .i64 e.2.1] 104)) w' → w'.cell? ⟨w.heap.size, 0, none⟩ = some (.int .i64 e.1) ∧ w'.cell? ⟨w.heap.size, 1, none⟩ = some (.int .i64 e.2.1) ∧ w'.cell? ⟨w.heap.size, 2, none⟩ = some (.int .i64 e.2.2) ∧ w'.cell? ⟨r, 0, none⟩ = some (.int .i64 n) ∧ w'.cell? ⟨r, 1, none⟩ = some (.slice A l.length c) ∧ w'.cell? ⟨r, 2, none⟩ = some (.map (some mb)) ∧ w'.cell? ⟨w.heap.size + 1, 0, none⟩ = some (.int .i64 e.1) ∧ w'.cell? ⟨w.heap.size + 1, 1, none⟩ = some (.int .i64 e.2.1) := fun w' hb' => by
    have g := h1.below hb'
    have k1 := kE.below hb' (by simp; omega)
    have k2 := kP.below hb' (by simp)
    exact ⟨k1.cell 0, k1.cell 1, k1.cell 2, g.blk.cell 0, g.blk.cell 1, g.blk.cell 2, k2.cell 0, k2.cell 1⟩
  obtain ⟨hw1, hw2⟩ := fits_wf hf hn
  have hss2 : ∀ w', Below ((w.alloc (.cells #[.int .i64 e.1, .int .i64 e.2.1, .int .i64 e.2.2] 35)).alloc (.cells #[.int .i64 e.1, .int .i64 e.2.1] 104)).heap.size ((w.alloc (.cells #[.int .i64 e.1, .int .i64 e.2.1, .int .i64 e.2.2] 35)).alloc (.cells #[.int .i64 e.1, .int .i64 e.2.1] 104)) w' → w'.cell? ⟨w.heap.size, 0, none⟩ = some (.int .i64 e.1) ∧ w'.cell? ⟨w.heap.size, 1, none⟩ = some (.int .i64 e.2.1) ∧ w'.cell? ⟨w.heap.size, 2, none⟩ = some (.int .i64 e.2.2) ∧ w'.cell? ⟨r, 0, none⟩ = some (.int .i64 n) ∧ w'.cell? ⟨r, 1, none⟩ = some (.slice A l.length c) ∧ w'.cell? ⟨r, 2, none⟩ = some (.map (some mb)) ∧ w'.cell? ⟨w.heap.size + 1, 0, none⟩ = some (.int .i64 e.1) ∧ w'.cell? ⟨w.heap.size + 1, 1, none⟩ = some (.int .i64 e.2.1) ∧ (Instr.lookup 47 (.map (some mb)) (.agg #[.int .i64 e.1, .int .i64 e.2.1]) false).run Tryd.prog w' = .ok (.bool (hasP l e.1 e.2.1)) w' := fun w' hb' => by
    obtain ⟨s1, s2, s3, s4, s5, s6, s7, s8⟩ := hss w' hb'
    exact ⟨s1, s2, s3, s4, s5, s6, s7, s8, (h1.below hb').seen.look hw1 hw2⟩
  have hfc := fun W => fits_any e n W
  rw [hf] at hfc
  rw [addP_seen hsv]
  rw [hsv] at hss2
  have HFC := Lib.hid hfc; have HSS := Lib.hid hss2; have HBW := Lib.hid hbW
  clear hfc hss hss2 hbW h h1 kE kP hf hc hn hsv hw1 hw2
  go_enter Tryd.func56, Tryd.ntmps56
  go_wp2_with fail
  refine wp_region_noPanic ?_
  refine wp_region_held_drew (S := (fun w' => w'.cell? ⟨w.heap.size, 0, none⟩ = some (.int .i64 e.1) ∧ w'.cell? ⟨w.heap.size, 1, none⟩ = some (.int .i64 e.2.1) ∧ w'.cell? ⟨w.heap.size, 2, none⟩ = some (.int .i64 e.2.2) ∧ w'.cell? ⟨r, 0, none⟩ = some (.int .i64 n) ∧ w'.cell? ⟨r, 1, none⟩ = some (.slice A l.length c) ∧ w'.cell? ⟨r, 2, none⟩ = some (.map (some mb)) ∧ w'.cell? ⟨w.heap.size + 1, 0, none⟩ = some (.int .i64 e.1) ∧ w'.cell? ⟨w.heap.size + 1, 1, none⟩ = some (.int .i64 e.2.1) ∧ (Instr.lookup 47 (.map (some mb)) (.agg #[.int .i64 e.1, .int .i64 e.2.1]) false).run Tryd.prog w' = .ok (.bool true) w')) (by kernel_rfl) ?_ (fun hHeld => ?_)
  · exact HSS.out _ (below_drewN (Below.refl _ _) 1)
  refine wpAnyH_take (i := 0) (v := ?v0g2_) rfl (by kernel_rfl) (by kernel_rfl) (by kernel_rfl) (fun _ _ _ h => h) (Or.inl ⟨by rfl, ?y0g2_⟩) (by assumption) ?r0g2_
  case y0g2_ => (intro w hSw; (try dsimp only at hSw); go_simp; try with_reducible rfl)
  change wpAnyH _ _ _ _ _ _ _ (Act.put _ (some 11) _) _; simp only [Act.put, List.setIfInBounds_toArray, List.set_cons_zero, List.set_cons_succ]
  refine wpAnyH_take (i := 1) (v := ?v1g2_) rfl (by kernel_rfl) (by kernel_rfl) (by kernel_rfl) (fun _ _ _ h => h) (Or.inl ⟨by rfl, ?y1g2_⟩) (by assumption) ?r1g2_
  case y1g2_ => (intro w hSw; (try dsimp only at hSw); go_simp; try with_reducible rfl)
  change wpAnyH _ _ _ _ _ _ _ (Act.put _ (some 12) _) _; simp only [Act.put, List.setIfInBounds_toArray, List.set_cons_zero, List.set_cons_succ]
  refine wpAnyH_take (i := 2) (v := ?v2g2_) rfl (by kernel_rfl) (by kernel_rfl) (by kernel_rfl) (fun _ _ _ h => h) (Or.inl ⟨by rfl, ?y2g2_⟩) (by assumption) ?r2g2_
  case y2g2_ => (intro w hSw; (try dsimp only at hSw); go_simp; try with_reducible rfl)
  change wpAnyH _ _ _ _ _ _ _ (Act.put _ (some 13) _) _; simp only [Act.put, List.setIfInBounds_toArray, List.set_cons_zero, List.set_cons_succ]
  refine wpAnyH_take (i := 3) (v := ?v3g2_) rfl (by kernel_rfl) (by kernel_rfl) (by kernel_rfl) (fun _ _ _ h => h) (Or.inl ⟨by rfl, ?y3g2_⟩) (by assumption) ?r3g2_
  case y3g2_ => (intro w hSw; (try dsimp only at hSw); go_simp; try with_reducible rfl)
  change wpAnyH _ _ _ _ _ _ _ (Act.put _ (some 14) _) _; simp only [Act.put, List.setIfInBounds_toArray, List.set_cons_zero, List.set_cons_succ]
  refine wpAnyH_take (i := 4) (v := ?v4g2_) rfl (by kernel_rfl) (by kernel_rfl) (by kernel_rfl) (fun _ _ _ h => h) (Or.inl ⟨by rfl, ?y4g2_⟩) (by assumption) ?r4g2_
  case y4g2_ => (intro w hSw; (try dsimp only at hSw); go_simp; try with_reducible rfl)
  change wpAnyH _ _ _ _ _ _ _ (Act.put _ (some 15) _) _; simp only [Act.put, List.setIfInBounds_toArray, List.set_cons_zero, List.set_cons_succ]
  refine wpAnyH_take (i := 5) (v := ?v5g2_) rfl (by kernel_rfl) (by kernel_rfl) (by kernel_rfl) (fun _ _ _ h => h) (Or.inl ⟨by rfl, ?y5g2_⟩) (by assumption) ?r5g2_
  case y5g2_ => (intro w hSw; (try dsimp only at hSw); go_simp; try with_reducible rfl)
  change wpAnyH _ _ _ _ _ _ _ (Act.put _ (some 16) _) _; simp only [Act.put, List.setIfInBounds_toArray, List.set_cons_zero, List.set_cons_succ]
  refine wpAnyH_ready (rs := [6]) (by kernel_rfl) (by simp) ?_
  refine AllReadyH.cons rfl (fun K hK => ?_) AllReadyH.nil
  go_simp
  refine (HFC.out _).mono ?_
  rintro R2 w2 ⟨rfl, hb2⟩
  have HB2 := Lib.hid (undrew hb2)
  clear hb2
  dsimp only
  refine hK.out _ _ ?_ (fun hHeld => ?_)
  · exact HSS.out _ HB2.out
  clear hK K
  try simp only [Act.put, List.setIfInBounds_toArray, List.set_cons_zero, List.set_cons_succ]
  refine wpAnyH_take (i := 7) (v := ?v7g2_) rfl (by kernel_rfl) (by kernel_rfl) (by kernel_rfl) (fun _ _ _ h => h) (Or.inl ⟨by rfl, ?y7g2_⟩) (by assumption) ?r7g2_
  case y7g2_ => (intro w hSw; (try dsimp only at hSw); go_simp; try with_reducible rfl)
  change wpAnyH _ _ _ _ _ _ _ (Act.put _ (some 18) _) _; simp only [Act.put, List.setIfInBounds_toArray, List.set_cons_zero, List.set_cons_succ]
  refine wpAnyH_take (i := 8) (v := ?v8g2_) rfl (by kernel_rfl) (by kernel_rfl) (by kernel_rfl) (fun _ _ _ h => h) (Or.inl ⟨by rfl, ?y8g2_⟩) (by assumption) ?r8g2_
  case y8g2_ => (intro w hSw; (try dsimp only at hSw); go_simp; try with_reducible rfl)
  change wpAnyH _ _ _ _ _ _ _ (Act.put _ (some 19) _) _; simp only [Act.put, List.setIfInBounds_toArray, List.set_cons_zero, List.set_cons_succ]
  refine wpAnyH_take (i := 9) (v := ?v9g2_) rfl (by kernel_rfl) (by kernel_rfl) (by kernel_rfl) (fun _ _ _ h => h) (Or.inl ⟨by rfl, ?y9g2_⟩) (by assumption) ?r9g2_
  case y9g2_ => (intro w hSw; (try dsimp only at hSw); go_simp; try with_reducible rfl)
  change wpAnyH _ _ _ _ _ _ _ (Act.put _ (some 20) _) _; simp only [Act.put, List.setIfInBounds_toArray, List.set_cons_zero, List.set_cons_succ]
  refine wpAnyH_take (i := 10) (v := ?v10g2_) rfl (by kernel_rfl) (by kernel_rfl) (by kernel_rfl) (fun _ _ _ h => h) (Or.inl ⟨by rfl, ?y10g2_⟩) (by assumption) ?r10g2_
  case y10g2_ => (intro w hSw; (try dsimp only at hSw); go_simp; try with_reducible rfl)
  change wpAnyH _ _ _ _ _ _ _ (Act.put _ (some 21) _) _; simp only [Act.put, List.setIfInBounds_toArray, List.set_cons_zero, List.set_cons_succ]
  refine wpAnyH_take (i := 11) (v := ?v11g2_) rfl (by kernel_rfl) (by kernel_rfl) (by kernel_rfl) (fun _ _ _ h => h) (Or.inl ⟨by rfl, ?y11g2_⟩) (by assumption) ?r11g2_
  case y11g2_ => (intro w hSw; (try dsimp only at hSw); go_simp; try with_reducible rfl)
  change wpAnyH _ _ _ _ _ _ _ (Act.put _ (some 22) _) _; simp only [Act.put, List.setIfInBounds_toArray, List.set_cons_zero, List.set_cons_succ]
  refine wpAnyH_take (i := 12) (v := ?v12g2_) rfl (by kernel_rfl) (by kernel_rfl) (by kernel_rfl) (fun _ _ _ h => h) (Or.inl ⟨by rfl, ?y12g2_⟩) (by assumption) ?r12g2_
  case y12g2_ => (intro w hSw; (try dsimp only at hSw); go_simp; try with_reducible rfl)
  change wpAnyH _ _ _ _ _ _ _ (Act.put _ (some 23) _) _; simp only [Act.put, List.setIfInBounds_toArray, List.set_cons_zero, List.set_cons_succ]
  refine wpAnyH_take (i := 13) (v := ?v13g2_) rfl (by kernel_rfl) (by kernel_rfl) (by kernel_rfl) (fun _ _ _ h => h) (Or.inl ⟨by rfl, ?y13g2_⟩) (by assumption) ?r13g2_
  case y13g2_ => (intro w hSw; (try dsimp only at hSw); go_simp; try with_reducible rfl)
  change wpAnyH _ _ _ _ _ _ _ (Act.put _ (some 24) _) _; simp only [Act.put, List.setIfInBounds_toArray, List.set_cons_zero, List.set_cons_succ]
  refine wpAnyH_take (i := 14) (v := ?v14g2_) rfl (by kernel_rfl) (by kernel_rfl) (by kernel_rfl) (fun _ _ _ h => h) (Or.inl ⟨by rfl, ?y14g2_⟩) (by assumption) ?r14g2_
  case y14g2_ => (intro w hSw; (try dsimp only at hSw); go_simp; try with_reducible rfl)
  change wpAnyH _ _ _ _ _ _ _ (Act.put _ (some 25) _) _; simp only [Act.put, List.setIfInBounds_toArray, List.set_cons_zero, List.set_cons_succ]
  refine wpAnyH_take (i := 15) (v := ?v15g2_) rfl (by kernel_rfl) (by kernel_rfl) (by kernel_rfl) (fun _ _ _ h => h) (Or.inl ⟨by rfl, ?y15g2_⟩) (by assumption) ?r15g2_
  case y15g2_ => (intro w hSw; (try dsimp only at hSw); go_simp; try with_reducible rfl)
  change wpAnyH _ _ _ _ _ _ _ (Act.put _ (some 26) _) _; simp only [Act.put, List.setIfInBounds_toArray, List.set_cons_zero, List.set_cons_succ]
  refine wpAnyH_take (i := 16) (v := ?v16g2_) rfl (by kernel_rfl) (by kernel_rfl) (by kernel_rfl) (fun _ _ _ h => h) (Or.inl ⟨by rfl, ?y16g2_⟩) (by assumption) ?r16g2_
  case y16g2_ => (intro w hSw; (try dsimp only at hSw); go_simp; try with_reducible rfl)
  change wpAnyH _ _ _ _ _ _ _ (Act.put _ (some 27) _) _; simp only [Act.put, List.setIfInBounds_toArray, List.set_cons_zero, List.set_cons_succ]
  refine wpAnyH_take (i := 17) (v := undef) rfl (by kernel_rfl) (by kernel_rfl) (by kernel_rfl) (fun _ _ _ h => h) (Or.inr ⟨by rfl, rfl⟩) (by assumption) ?_
  change wpAnyH _ _ _ _ _ _ _ (Act.put _ (some 28) _) _; simp only [Act.put, List.setIfInBounds_toArray, List.set_cons_zero, List.set_cons_succ]
  refine wpAnyH_take (i := 18) (v := undef) rfl (by kernel_rfl) (by kernel_rfl) (by kernel_rfl) (fun _ _ _ h => h) (Or.inr ⟨by rfl, rfl⟩) (by assumption) ?_
  change wpAnyH _ _ _ _ _ _ _ (Act.put _ (some 29) _) _; simp only [Act.put, List.setIfInBounds_toArray, List.set_cons_zero, List.set_cons_succ]
  refine wpAnyH_take (i := 19) (v := undef) rfl (by kernel_rfl) (by kernel_rfl) (by kernel_rfl) (fun _ _ _ h => h) (Or.inr ⟨by rfl, rfl⟩) (by assumption) ?_
  change wpAnyH _ _ _ _ _ _ _ (Act.put _ (some 30) _) _; simp only [Act.put, List.setIfInBounds_toArray, List.set_cons_zero, List.set_cons_succ]
  refine wpAnyH_take (i := 20) (v := undef) rfl (by kernel_rfl) (by kernel_rfl) (by kernel_rfl) (fun _ _ _ h => h) (Or.inr ⟨by rfl, rfl⟩) (by assumption) ?_
  change wpAnyH _ _ _ _ _ _ _ (Act.put _ (some 31) _) _; simp only [Act.put, List.setIfInBounds_toArray, List.set_cons_zero, List.set_cons_succ]
  refine wpAnyH_take (i := 21) (v := undef) rfl (by kernel_rfl) (by kernel_rfl) (by kernel_rfl) (fun _ _ _ h => h) (Or.inr ⟨by rfl, rfl⟩) (by assumption) ?_
  change wpAnyH _ _ _ _ _ _ _ (Act.put _ (some 32) _) _; simp only [Act.put, List.setIfInBounds_toArray, List.set_cons_zero, List.set_cons_succ]
  refine wpAnyH_take (i := 22) (v := undef) rfl (by kernel_rfl) (by kernel_rfl) (by kernel_rfl) (fun _ _ _ h => h) (Or.inr ⟨by rfl, rfl⟩) (by assumption) ?_
  change wpAnyH _ _ _ _ _ _ _ (Act.put _ (some 33) _) _; simp only [Act.put, List.setIfInBounds_toArray, List.set_cons_zero, List.set_cons_succ]
  refine wpAnyH_take (i := 23) (v := undef) rfl (by kernel_rfl) (by kernel_rfl) (by kernel_rfl) (fun _ _ _ h => h) (Or.inr ⟨by rfl, rfl⟩) (by assumption) ?_
  change wpAnyH _ _ _ _ _ _ _ (Act.put _ (some 34) _) _; simp only [Act.put, List.setIfInBounds_toArray, List.set_cons_zero, List.set_cons_succ]
  refine wpAnyH_take (i := 24) (v := ?v24g2_) rfl (by kernel_rfl) (by kernel_rfl) (by kernel_rfl) (fun _ _ _ h => h) (Or.inl ⟨by rfl, ?y24g2_⟩) (by assumption) ?r24g2_
  case y24g2_ => (intro w hSw; (try dsimp only at hSw); go_simp; try with_reducible rfl)
  change wpAnyH _ _ _ _ _ _ _ (Act.put _ (some 35) _) _; simp only [Act.put, List.setIfInBounds_toArray, List.set_cons_zero, List.set_cons_succ]
  refine wpAnyH_done (by kernel_rfl) ?_ _
  refine NoPanic.normal ?_
  go_wp2
  go_ret
  exact ⟨rfl, HBW.out.trans (HB2.out.mono (by simp; omega))⟩
set_option maxRecDepth 100000 in
set_option maxHeartbeats 8000000 in
theorem addR_full_ (w : World) (B r mb : Nat) (n : Int) (v : Value) (l : List Edg) (e : Edg) (h : RdrIs w B r mb n v l) (hn : n ≤ 512) (hf : fitsE e n = true) (hsv : hasP l e.1 e.2.1 = false) (h8 : l.length = 8192) :
    Calls Tryd.prog 56 #[.pointer (some ⟨r, 0, none⟩), .agg #[.int .i64 e.1, .int .i64 e.2.1, .int .i64 e.2.2]] w (AddRP w B r mb n v (addP n l e)) := by
  obtain ⟨A, c, rfl, hc⟩ := own_parts h.own
  have hbW : Below w.heap.size w ((w.alloc (.cells #[.int .i64 e.1, .int .i64 e.2.1, .int .i64 e.2.2] 35)).alloc (.cells #[.int .i64 e.1, .int .i64 e.2.1] 104)) := ((Below.refl _ _).alloc (Nat.le_refl _) _).alloc (by simp) _
  have h1 := h.below hbW
  have kE := (Blk.new w 35 #[.int .i64 e.1, .int .i64 e.2.1, .int .i64 e.2.2]).alloc (.cells #[.int .i64 e.1, .int .i64 e.2.1] 104)
  have kP := Blk.new (w.alloc (.cells #[.int .i64 e.1, .int .i64 e.2.1, .int .i64 e.2.2] 35)) 104 #[.int .i64 e.1, .int .i64 e.2.1]
  rw [show (w.alloc (.cells #[.int .i64 e.1, .int .i64 e.2.1, .int .i64 e.2.2] 35)).heap.size = w.heap.size + 1 from by simp] at kP
  have hss : ∀ w', Below ((w.alloc (.cells #[.int .i64 e.1, .int .i64 e.2.1, .int .i64 e.2.2] 35)).alloc (.cells #[.int .i64 e.1, .int .i64 e.2.1] 104)).heap.size ((w.alloc (.cells #[.int .i64 e.1, .int .i64 e.2.1, .int .i64 e.2.2] 35)).alloc (.cells #[.int .i64 e.1, .int .i64 e.2.1] 104)) w' → w'.cell? ⟨w.heap.size, 0, none⟩ = some (.int .i64 e.1) ∧ w'.cell? ⟨w.heap.size, 1, none⟩ = some (.int .i64 e.2.1) ∧ w'.cell? ⟨w.heap.size, 2, none⟩ = some (.int .i64 e.2.2) ∧ w'.cell? ⟨r, 0, none⟩ = some (.int .i64 n) ∧ w'.cell? ⟨r, 1, none⟩ = some (.slice A l.length c) ∧ w'.cell? ⟨r, 2, none⟩ = some (.map (some mb)) ∧ w'.cell? ⟨w.heap.size + 1, 0, none⟩ = some (.int .i64 e.1) ∧ w'.cell? ⟨w.heap.size + 1, 1, none⟩ = some (.int .i64 e.2.1) := fun w' hb' => by
    have g := h1.below hb'
    have k1 := kE.below hb' (by simp; omega)
    have k2 := kP.below hb' (by simp)
    exact ⟨k1.cell 0, k1.cell 1, k1.cell 2, g.blk.cell 0, g.blk.cell 1, g.blk.cell 2, k2.cell 0, k2.cell 1⟩
  obtain ⟨hw1, hw2⟩ := fits_wf hf hn
  have hss2 : ∀ w', Below ((w.alloc (.cells #[.int .i64 e.1, .int .i64 e.2.1, .int .i64 e.2.2] 35)).alloc (.cells #[.int .i64 e.1, .int .i64 e.2.1] 104)).heap.size ((w.alloc (.cells #[.int .i64 e.1, .int .i64 e.2.1, .int .i64 e.2.2] 35)).alloc (.cells #[.int .i64 e.1, .int .i64 e.2.1] 104)) w' → w'.cell? ⟨w.heap.size, 0, none⟩ = some (.int .i64 e.1) ∧ w'.cell? ⟨w.heap.size, 1, none⟩ = some (.int .i64 e.2.1) ∧ w'.cell? ⟨w.heap.size, 2, none⟩ = some (.int .i64 e.2.2) ∧ w'.cell? ⟨r, 0, none⟩ = some (.int .i64 n) ∧ w'.cell? ⟨r, 1, none⟩ = some (.slice A l.length c) ∧ w'.cell? ⟨r, 2, none⟩ = some (.map (some mb)) ∧ w'.cell? ⟨w.heap.size + 1, 0, none⟩ = some (.int .i64 e.1) ∧ w'.cell? ⟨w.heap.size + 1, 1, none⟩ = some (.int .i64 e.2.1) ∧ (Instr.lookup 47 (.map (some mb)) (.agg #[.int .i64 e.1, .int .i64 e.2.1]) false).run Tryd.prog w' = .ok (.bool (hasP l e.1 e.2.1)) w' := fun w' hb' => by
    obtain ⟨s1, s2, s3, s4, s5, s6, s7, s8⟩ := hss w' hb'
    exact ⟨s1, s2, s3, s4, s5, s6, s7, s8, (h1.below hb').seen.look hw1 hw2⟩
  have hfc := fun W => fits_any e n W
  rw [hf] at hfc
  rw [addP_full h8]
  rw [hsv] at hss2
  have h8b : ((l.length : Int) == 8192) = true := by rw [beq_iff_eq]; omega
  have HFC := Lib.hid hfc; have HSS := Lib.hid hss2; have HBW := Lib.hid hbW
  clear hfc hss hss2 hbW h h1 kE kP hf hc hn hsv hw1 hw2 h8
  go_enter Tryd.func56, Tryd.ntmps56
  go_wp2_with fail
  refine wp_region_noPanic ?_
  refine wp_region_held_drew (S := (fun w' => w'.cell? ⟨w.heap.size, 0, none⟩ = some (.int .i64 e.1) ∧ w'.cell? ⟨w.heap.size, 1, none⟩ = some (.int .i64 e.2.1) ∧ w'.cell? ⟨w.heap.size, 2, none⟩ = some (.int .i64 e.2.2) ∧ w'.cell? ⟨r, 0, none⟩ = some (.int .i64 n) ∧ w'.cell? ⟨r, 1, none⟩ = some (.slice A l.length c) ∧ w'.cell? ⟨r, 2, none⟩ = some (.map (some mb)) ∧ w'.cell? ⟨w.heap.size + 1, 0, none⟩ = some (.int .i64 e.1) ∧ w'.cell? ⟨w.heap.size + 1, 1, none⟩ = some (.int .i64 e.2.1) ∧ (Instr.lookup 47 (.map (some mb)) (.agg #[.int .i64 e.1, .int .i64 e.2.1]) false).run Tryd.prog w' = .ok (.bool false) w')) (by kernel_rfl) ?_ (fun hHeld => ?_)
  · exact HSS.out _ (below_drewN (Below.refl _ _) 1)
  refine wpAnyH_take (i := 0) (v := ?v0g3_) rfl (by kernel_rfl) (by kernel_rfl) (by kernel_rfl) (fun _ _ _ h => h) (Or.inl ⟨by rfl, ?y0g3_⟩) (by assumption) ?r0g3_
  case y0g3_ => (intro w hSw; (try dsimp only at hSw); go_simp; try with_reducible rfl)
  change wpAnyH _ _ _ _ _ _ _ (Act.put _ (some 11) _) _; simp only [Act.put, List.setIfInBounds_toArray, List.set_cons_zero, List.set_cons_succ]
  refine wpAnyH_take (i := 1) (v := ?v1g3_) rfl (by kernel_rfl) (by kernel_rfl) (by kernel_rfl) (fun _ _ _ h => h) (Or.inl ⟨by rfl, ?y1g3_⟩) (by assumption) ?r1g3_
  case y1g3_ => (intro w hSw; (try dsimp only at hSw); go_simp; try with_reducible rfl)
  change wpAnyH _ _ _ _ _ _ _ (Act.put _ (some 12) _) _; simp only [Act.put, List.setIfInBounds_toArray, List.set_cons_zero, List.set_cons_succ]
  refine wpAnyH_take (i := 2) (v := ?v2g3_) rfl (by kernel_rfl) (by kernel_rfl) (by kernel_rfl) (fun _ _ _ h => h) (Or.inl ⟨by rfl, ?y2g3_⟩) (by assumption) ?r2g3_
  case y2g3_ => (intro w hSw; (try dsimp only at hSw); go_simp; try with_reducible rfl)
  change wpAnyH _ _ _ _ _ _ _ (Act.put _ (some 13) _) _; simp only [Act.put, List.setIfInBounds_toArray, List.set_cons_zero, List.set_cons_succ]
  refine wpAnyH_take (i := 3) (v := ?v3g3_) rfl (by kernel_rfl) (by kernel_rfl) (by kernel_rfl) (fun _ _ _ h => h) (Or.inl ⟨by rfl, ?y3g3_⟩) (by assumption) ?r3g3_
  case y3g3_ => (intro w hSw; (try dsimp only at hSw); go_simp; try with_reducible rfl)
  change wpAnyH _ _ _ _ _ _ _ (Act.put _ (some 14) _) _; simp only [Act.put, List.setIfInBounds_toArray, List.set_cons_zero, List.set_cons_succ]
  refine wpAnyH_take (i := 4) (v := ?v4g3_) rfl (by kernel_rfl) (by kernel_rfl) (by kernel_rfl) (fun _ _ _ h => h) (Or.inl ⟨by rfl, ?y4g3_⟩) (by assumption) ?r4g3_
  case y4g3_ => (intro w hSw; (try dsimp only at hSw); go_simp; try with_reducible rfl)
  change wpAnyH _ _ _ _ _ _ _ (Act.put _ (some 15) _) _; simp only [Act.put, List.setIfInBounds_toArray, List.set_cons_zero, List.set_cons_succ]
  refine wpAnyH_take (i := 5) (v := ?v5g3_) rfl (by kernel_rfl) (by kernel_rfl) (by kernel_rfl) (fun _ _ _ h => h) (Or.inl ⟨by rfl, ?y5g3_⟩) (by assumption) ?r5g3_
  case y5g3_ => (intro w hSw; (try dsimp only at hSw); go_simp; try with_reducible rfl)
  change wpAnyH _ _ _ _ _ _ _ (Act.put _ (some 16) _) _; simp only [Act.put, List.setIfInBounds_toArray, List.set_cons_zero, List.set_cons_succ]
  refine wpAnyH_ready (rs := [6]) (by kernel_rfl) (by simp) ?_
  refine AllReadyH.cons rfl (fun K hK => ?_) AllReadyH.nil
  go_simp
  refine (HFC.out _).mono ?_
  rintro R2 w2 ⟨rfl, hb2⟩
  have HB2 := Lib.hid (undrew hb2)
  clear hb2
  dsimp only
  refine hK.out _ _ ?_ (fun hHeld => ?_)
  · exact HSS.out _ HB2.out
  clear hK K
  try simp only [Act.put, List.setIfInBounds_toArray, List.set_cons_zero, List.set_cons_succ]
  refine wpAnyH_take (i := 7) (v := ?v7g3_) rfl (by kernel_rfl) (by kernel_rfl) (by kernel_rfl) (fun _ _ _ h => h) (Or.inl ⟨by rfl, ?y7g3_⟩) (by assumption) ?r7g3_
  case y7g3_ => (intro w hSw; (try dsimp only at hSw); go_simp; try with_reducible rfl)
  change wpAnyH _ _ _ _ _ _ _ (Act.put _ (some 18) _) _; simp only [Act.put, List.setIfInBounds_toArray, List.set_cons_zero, List.set_cons_succ]
  refine wpAnyH_take (i := 8) (v := ?v8g3_) rfl (by kernel_rfl) (by kernel_rfl) (by kernel_rfl) (fun _ _ _ h => h) (Or.inl ⟨by rfl, ?y8g3_⟩) (by assumption) ?r8g3_
  case y8g3_ => (intro w hSw; (try dsimp only at hSw); go_simp; try with_reducible rfl)
  change wpAnyH _ _ _ _ _ _ _ (Act.put _ (some 19) _) _; simp only [Act.put, List.setIfInBounds_toArray, List.set_cons_zero, List.set_cons_succ]
  refine wpAnyH_take (i := 9) (v := ?v9g3_) rfl (by kernel_rfl) (by kernel_rfl) (by kernel_rfl) (fun _ _ _ h => h) (Or.inl ⟨by rfl, ?y9g3_⟩) (by assumption) ?r9g3_
  case y9g3_ => (intro w hSw; (try dsimp only at hSw); go_simp; try with_reducible rfl)
  change wpAnyH _ _ _ _ _ _ _ (Act.put _ (some 20) _) _; simp only [Act.put, List.setIfInBounds_toArray, List.set_cons_zero, List.set_cons_succ]
  refine wpAnyH_take (i := 10) (v := ?v10g3_) rfl (by kernel_rfl) (by kernel_rfl) (by kernel_rfl) (fun _ _ _ h => h) (Or.inl ⟨by rfl, ?y10g3_⟩) (by assumption) ?r10g3_
  case y10g3_ => (intro w hSw; (try dsimp only at hSw); go_simp; try with_reducible rfl)
  change wpAnyH _ _ _ _ _ _ _ (Act.put _ (some 21) _) _; simp only [Act.put, List.setIfInBounds_toArray, List.set_cons_zero, List.set_cons_succ]
  refine wpAnyH_take (i := 11) (v := ?v11g3_) rfl (by kernel_rfl) (by kernel_rfl) (by kernel_rfl) (fun _ _ _ h => h) (Or.inl ⟨by rfl, ?y11g3_⟩) (by assumption) ?r11g3_
  case y11g3_ => (intro w hSw; (try dsimp only at hSw); go_simp; try with_reducible rfl)
  change wpAnyH _ _ _ _ _ _ _ (Act.put _ (some 22) _) _; simp only [Act.put, List.setIfInBounds_toArray, List.set_cons_zero, List.set_cons_succ]
  refine wpAnyH_take (i := 12) (v := ?v12g3_) rfl (by kernel_rfl) (by kernel_rfl) (by kernel_rfl) (fun _ _ _ h => h) (Or.inl ⟨by rfl, ?y12g3_⟩) (by assumption) ?r12g3_
  case y12g3_ => (intro w hSw; (try dsimp only at hSw); go_simp; try with_reducible rfl)
  change wpAnyH _ _ _ _ _ _ _ (Act.put _ (some 23) _) _; simp only [Act.put, List.setIfInBounds_toArray, List.set_cons_zero, List.set_cons_succ]
  refine wpAnyH_take (i := 13) (v := ?v13g3_) rfl (by kernel_rfl) (by kernel_rfl) (by kernel_rfl) (fun _ _ _ h => h) (Or.inl ⟨by rfl, ?y13g3_⟩) (by assumption) ?r13g3_
  case y13g3_ => (intro w hSw; (try dsimp only at hSw); go_simp; try with_reducible rfl)
  change wpAnyH _ _ _ _ _ _ _ (Act.put _ (some 24) _) _; simp only [Act.put, List.setIfInBounds_toArray, List.set_cons_zero, List.set_cons_succ]
  refine wpAnyH_take (i := 14) (v := ?v14g3_) rfl (by kernel_rfl) (by kernel_rfl) (by kernel_rfl) (fun _ _ _ h => h) (Or.inl ⟨by rfl, ?y14g3_⟩) (by assumption) ?r14g3_
  case y14g3_ => (intro w hSw; (try dsimp only at hSw); go_simp; try with_reducible rfl)
  change wpAnyH _ _ _ _ _ _ _ (Act.put _ (some 25) _) _; simp only [Act.put, List.setIfInBounds_toArray, List.set_cons_zero, List.set_cons_succ]
  refine wpAnyH_take (i := 15) (v := ?v15g3_) rfl (by kernel_rfl) (by kernel_rfl) (by kernel_rfl) (fun _ _ _ h => h) (Or.inl ⟨by rfl, ?y15g3_⟩) (by assumption) ?r15g3_
  case y15g3_ => (intro w hSw; (try dsimp only at hSw); go_simp; try with_reducible rfl)
  change wpAnyH _ _ _ _ _ _ _ (Act.put _ (some 26) _) _; simp only [Act.put, List.setIfInBounds_toArray, List.set_cons_zero, List.set_cons_succ]
  refine wpAnyH_take (i := 16) (v := ?v16g3_) rfl (by kernel_rfl) (by kernel_rfl) (by kernel_rfl) (fun _ _ _ h => h) (Or.inl ⟨by rfl, ?y16g3_⟩) (by assumption) ?r16g3_
  case y16g3_ => (intro w hSw; (try dsimp only at hSw); go_simp; try with_reducible rfl)
  change wpAnyH _ _ _ _ _ _ _ (Act.put _ (some 27) _) _; simp only [Act.put, List.setIfInBounds_toArray, List.set_cons_zero, List.set_cons_succ]
  refine wpAnyH_take (i := 17) (v := ?v17g3_) rfl (by kernel_rfl) (by kernel_rfl) (by kernel_rfl) (fun _ _ _ h => h) (Or.inl ⟨by rfl, ?y17g3_⟩) (by assumption) ?r17g3_
  case y17g3_ => (intro w hSw; (try dsimp only at hSw); go_simp; try with_reducible rfl)
  change wpAnyH _ _ _ _ _ _ _ (Act.put _ (some 28) _) _; simp only [Act.put, List.setIfInBounds_toArray, List.set_cons_zero, List.set_cons_succ]
  refine wpAnyH_take (i := 18) (v := ?v18g3_) rfl (by kernel_rfl) (by kernel_rfl) (by kernel_rfl) (fun _ _ _ h => h) (Or.inl ⟨by rfl, ?y18g3_⟩) (by assumption) ?r18g3_
  case y18g3_ => (intro w hSw; (try dsimp only at hSw); go_simp; try with_reducible rfl)
  change wpAnyH _ _ _ _ _ _ _ (Act.put _ (some 29) _) _; simp only [Act.put, List.setIfInBounds_toArray, List.set_cons_zero, List.set_cons_succ]
  refine wpAnyH_take (i := 19) (v := ?v19g3_) rfl (by kernel_rfl) (by kernel_rfl) (by kernel_rfl) (fun _ _ _ h => h) (Or.inl ⟨by rfl, ?y19g3_⟩) (by assumption) ?r19g3_
  case y19g3_ => (intro w hSw; (try dsimp only at hSw); go_simp; try with_reducible rfl)
  change wpAnyH _ _ _ _ _ _ _ (Act.put _ (some 30) _) _; simp only [Act.put, List.setIfInBounds_toArray, List.set_cons_zero, List.set_cons_succ]
  refine wpAnyH_take (i := 20) (v := ?v20g3_) rfl (by kernel_rfl) (by kernel_rfl) (by kernel_rfl) (fun _ _ _ h => h) (Or.inl ⟨by rfl, ?y20g3_⟩) (by assumption) ?r20g3_
  case y20g3_ => (intro w hSw; (try dsimp only at hSw); go_simp; try with_reducible rfl)
  change wpAnyH _ _ _ _ _ _ _ (Act.put _ (some 31) _) _; simp only [Act.put, List.setIfInBounds_toArray, List.set_cons_zero, List.set_cons_succ]
  refine wpAnyH_take (i := 21) (v := ?v21g3_) rfl (by kernel_rfl) (by kernel_rfl) (by kernel_rfl) (fun _ _ _ h => h) (Or.inl ⟨by rfl, ?y21g3_⟩) (by assumption) ?r21g3_
  case y21g3_ => (intro w hSw; (try dsimp only at hSw); go_simp; try with_reducible rfl)
  change wpAnyH _ _ _ _ _ _ _ (Act.put _ (some 32) _) _; simp only [Act.put, List.setIfInBounds_toArray, List.set_cons_zero, List.set_cons_succ]
  refine wpAnyH_take (i := 22) (v := ?v22g3_) rfl (by kernel_rfl) (by kernel_rfl) (by kernel_rfl) (fun _ _ _ h => h) (Or.inl ⟨by rfl, ?y22g3_⟩) (by assumption) ?r22g3_
  case y22g3_ => (intro w hSw; (try dsimp only at hSw); go_simp; try with_reducible rfl)
  change wpAnyH _ _ _ _ _ _ _ (Act.put _ (some 33) _) _; simp only [Act.put, List.setIfInBounds_toArray, List.set_cons_zero, List.set_cons_succ]
  refine wpAnyH_take (i := 23) (v := ?v23g3_) rfl (by kernel_rfl) (by kernel_rfl) (by kernel_rfl) (fun _ _ _ h => h) (Or.inl ⟨by rfl, ?y23g3_⟩) (by assumption) ?r23g3_
  case y23g3_ => (intro w hSw; (try dsimp only at hSw); go_simp; try with_reducible rfl)
  change wpAnyH _ _ _ _ _ _ _ (Act.put _ (some 34) _) _; simp only [Act.put, List.setIfInBounds_toArray, List.set_cons_zero, List.set_cons_succ]
  refine wpAnyH_take (i := 24) (v := ?v24g3_) rfl (by kernel_rfl) (by kernel_rfl) (by kernel_rfl) (fun _ _ _ h => h) (Or.inl ⟨by rfl, ?y24g3_⟩) (by assumption) ?r24g3_
  case y24g3_ => (intro w hSw; (try dsimp only at hSw); go_simp; try with_reducible rfl)
  change wpAnyH _ _ _ _ _ _ _ (Act.put _ (some 35) _) _; simp only [Act.put, List.setIfInBounds_toArray, List.set_cons_zero, List.set_cons_succ]
  refine wpAnyH_done (by kernel_rfl) ?_ _
  refine NoPanic.normal ?_
  go_wp2
  go_ret
  exact ⟨rfl, HBW.out.trans (HB2.out.mono (by simp; omega))⟩
set_option maxRecDepth 100000 in
set_option maxHeartbeats 8000000 in
theorem addR_yes_ (w : World) (B r mb : Nat) (n : Int) (v : Value) (l : List Edg) (e : Edg) (h : RdrIs w B r mb n v l) (hn : n ≤ 512) (hl : l.length ≤ 8192) (hf : fitsE e n = true) (hsv : hasP l e.1 e.2.1 = false) (h8 : l.length ≠ 8192) :
    Calls Tryd.prog 56 #[.pointer (some ⟨r, 0, none⟩), .agg #[.int .i64 e.1, .int .i64 e.2.1, .int .i64 e.2.2]] w (AddRP w B r mb n v (addP n l e)) := by
  obtain ⟨A, c, rfl, hc⟩ := own_parts h.own
  have hbW : Below w.heap.size w ((w.alloc (.cells #[.int .i64 e.1, .int .i64 e.2.1, .int .i64 e.2.2] 35)).alloc (.cells #[.int .i64 e.1, .int .i64 e.2.1] 104)) := ((Below.refl _ _).alloc (Nat.le_refl _) _).alloc (by simp) _
  have h1 := h.below hbW
  have kE := (Blk.new w 35 #[.int .i64 e.1, .int .i64 e.2.1, .int .i64 e.2.2]).alloc (.cells #[.int .i64 e.1, .int .i64 e.2.1] 104)
  have kP := Blk.new (w.alloc (.cells #[.int .i64 e.1, .int .i64 e.2.1, .int .i64 e.2.2] 35)) 104 #[.int .i64 e.1, .int .i64 e.2.1]
  rw [show (w.alloc (.cells #[.int .i64 e.1, .int .i64 e.2.1, .int .i64 e.2.2] 35)).heap.size = w.heap.size + 1 from by simp] at kP
  have hss : ∀ w', Below ((w.alloc (.cells #[.int .i64 e.1, .int .i64 e.2.1, .int .i64 e.2.2] 35)).alloc (.cells #[.int .i64 e.1, .int .i64 e.2.1] 104)).heap.size ((w.alloc (.cells #[.int .i64 e.1, .int .i64 e.2.1, .int .i64 e.2.2] 35)).alloc (.cells #[.int .i64 e.1, .int .i64 e.2.1] 104)) w' → w'.cell? ⟨w.heap.size, 0, none⟩ = some (.int .i64 e.1) ∧ w'.cell? ⟨w.heap.size, 1, none⟩ = some (.int .i64 e.2.1) ∧ w'.cell? ⟨w.heap.size, 2, none⟩ = some (.int .i64 e.2.2) ∧ w'.cell? ⟨r, 0, none⟩ = some (.int .i64 n) ∧ w'.cell? ⟨r, 1, none⟩ = some (.slice A l.length c) ∧ w'.cell? ⟨r, 2, none⟩ = some (.map (some mb)) ∧ w'.cell? ⟨w.heap.size + 1, 0, none⟩ = some (.int .i64 e.1) ∧ w'.cell? ⟨w.heap.size + 1, 1, none⟩ = some (.int .i64 e.2.1) := fun w' hb' => by
    have g := h1.below hb'
    have k1 := kE.below hb' (by simp; omega)
    have k2 := kP.below hb' (by simp)
    exact ⟨k1.cell 0, k1.cell 1, k1.cell 2, g.blk.cell 0, g.blk.cell 1, g.blk.cell 2, k2.cell 0, k2.cell 1⟩
  obtain ⟨hw1, hw2⟩ := fits_wf hf hn
  have hss2 : ∀ w', Below ((w.alloc (.cells #[.int .i64 e.1, .int .i64 e.2.1, .int .i64 e.2.2] 35)).alloc (.cells #[.int .i64 e.1, .int .i64 e.2.1] 104)).heap.size ((w.alloc (.cells #[.int .i64 e.1, .int .i64 e.2.1, .int .i64 e.2.2] 35)).alloc (.cells #[.int .i64 e.1, .int .i64 e.2.1] 104)) w' → w'.cell? ⟨w.heap.size, 0, none⟩ = some (.int .i64 e.1) ∧ w'.cell? ⟨w.heap.size, 1, none⟩ = some (.int .i64 e.2.1) ∧ w'.cell? ⟨w.heap.size, 2, none⟩ = some (.int .i64 e.2.2) ∧ w'.cell? ⟨r, 0, none⟩ = some (.int .i64 n) ∧ w'.cell? ⟨r, 1, none⟩ = some (.slice A l.length c) ∧ w'.cell? ⟨r, 2, none⟩ = some (.map (some mb)) ∧ w'.cell? ⟨w.heap.size + 1, 0, none⟩ = some (.int .i64 e.1) ∧ w'.cell? ⟨w.heap.size + 1, 1, none⟩ = some (.int .i64 e.2.1) ∧ (Instr.lookup 47 (.map (some mb)) (.agg #[.int .i64 e.1, .int .i64 e.2.1]) false).run Tryd.prog w' = .ok (.bool (hasP l e.1 e.2.1)) w' := fun w' hb' => by
    obtain ⟨s1, s2, s3, s4, s5, s6, s7, s8⟩ := hss w' hb'
    exact ⟨s1, s2, s3, s4, s5, s6, s7, s8, (h1.below hb').seen.look hw1 hw2⟩
  have hfc := fun W => fits_any e n W
  rw [hf] at hfc
  rw [addP_yes hf hsv h8]
  rw [hsv] at hss2
  have h8b : ((l.length : Int) == 8192) = false := by rw [beq_eq_false_iff_ne]; omega
  obtain ⟨i0, hi0, hz0, hz1, hz2, -⟩ := parts infoE
  have HFC := Lib.hid hfc; have HSS := Lib.hid hss2; have HBW := Lib.hid hbW; have H1 := Lib.hid h1; have HKE := Lib.hid kE; have HKP := Lib.hid kP; have HW := Lib.hid (And.intro hw1 hw2); have HI0 := Lib.hid hi0; have HZ0 := Lib.hid hz0
  have hrlt := h.blk.lt
  have HH := Lib.hid h
  clear hfc hss hss2 hbW h h1 kE kP hf hc hn hsv hw1 hw2 h8 hi0 hz0
  go_enter Tryd.func56, Tryd.ntmps56
  go_wp2_with fail
  refine wp_region_noPanic ?_
  refine wp_region_held_drew (S := (fun w' => w'.cell? ⟨w.heap.size, 0, none⟩ = some (.int .i64 e.1) ∧ w'.cell? ⟨w.heap.size, 1, none⟩ = some (.int .i64 e.2.1) ∧ w'.cell? ⟨w.heap.size, 2, none⟩ = some (.int .i64 e.2.2) ∧ w'.cell? ⟨r, 0, none⟩ = some (.int .i64 n) ∧ w'.cell? ⟨r, 1, none⟩ = some (.slice A l.length c) ∧ w'.cell? ⟨r, 2, none⟩ = some (.map (some mb)) ∧ w'.cell? ⟨w.heap.size + 1, 0, none⟩ = some (.int .i64 e.1) ∧ w'.cell? ⟨w.heap.size + 1, 1, none⟩ = some (.int .i64 e.2.1) ∧ (Instr.lookup 47 (.map (some mb)) (.agg #[.int .i64 e.1, .int .i64 e.2.1]) false).run Tryd.prog w' = .ok (.bool false) w')) (by kernel_rfl) ?_ (fun hHeld => ?_)
  · exact HSS.out _ (below_drewN (Below.refl _ _) 1)
  refine wpAnyH_take (i := 0) (v := ?v0g4_) rfl (by kernel_rfl) (by kernel_rfl) (by kernel_rfl) (fun _ _ _ h => h) (Or.inl ⟨by rfl, ?y0g4_⟩) (by assumption) ?r0g4_
  case y0g4_ => (intro w hSw; (try dsimp only at hSw); go_simp; try with_reducible rfl)
  change wpAnyH _ _ _ _ _ _ _ (Act.put _ (some 11) _) _; simp only [Act.put, List.setIfInBounds_toArray, List.set_cons_zero, List.set_cons_succ]
  refine wpAnyH_take (i := 1) (v := ?v1g4_) rfl (by kernel_rfl) (by kernel_rfl) (by kernel_rfl) (fun _ _ _ h => h) (Or.inl ⟨by rfl, ?y1g4_⟩) (by assumption) ?r1g4_
  case y1g4_ => (intro w hSw; (try dsimp only at hSw); go_simp; try with_reducible rfl)
  change wpAnyH _ _ _ _ _ _ _ (Act.put _ (some 12) _) _; simp only [Act.put, List.setIfInBounds_toArray, List.set_cons_zero, List.set_cons_succ]
  refine wpAnyH_take (i := 2) (v := ?v2g4_) rfl (by kernel_rfl) (by kernel_rfl) (by kernel_rfl) (fun _ _ _ h => h) (Or.inl ⟨by rfl, ?y2g4_⟩) (by assumption) ?r2g4_
  case y2g4_ => (intro w hSw; (try dsimp only at hSw); go_simp; try with_reducible rfl)
  change wpAnyH _ _ _ _ _ _ _ (Act.put _ (some 13) _) _; simp only [Act.put, List.setIfInBounds_toArray, List.set_cons_zero, List.set_cons_succ]
  refine wpAnyH_take (i := 3) (v := ?v3g4_) rfl (by kernel_rfl) (by kernel_rfl) (by kernel_rfl) (fun _ _ _ h => h) (Or.inl ⟨by rfl, ?y3g4_⟩) (by assumption) ?r3g4_
  case y3g4_ => (intro w hSw; (try dsimp only at hSw); go_simp; try with_reducible rfl)
  change wpAnyH _ _ _ _ _ _ _ (Act.put _ (some 14) _) _; simp only [Act.put, List.setIfInBounds_toArray, List.set_cons_zero, List.set_cons_succ]
  refine wpAnyH_take (i := 4) (v := ?v4g4_) rfl (by kernel_rfl) (by kernel_rfl) (by kernel_rfl) (fun _ _ _ h => h) (Or.inl ⟨by rfl, ?y4g4_⟩) (by assumption) ?r4g4_
  case y4g4_ => (intro w hSw; (try dsimp only at hSw); go_simp; try with_reducible rfl)
  change wpAnyH _ _ _ _ _ _ _ (Act.put _ (some 15) _) _; simp only [Act.put, List.setIfInBounds_toArray, List.set_cons_zero, List.set_cons_succ]
  refine wpAnyH_take (i := 5) (v := ?v5g4_) rfl (by kernel_rfl) (by kernel_rfl) (by kernel_rfl) (fun _ _ _ h => h) (Or.inl ⟨by rfl, ?y5g4_⟩) (by assumption) ?r5g4_
  case y5g4_ => (intro w hSw; (try dsimp only at hSw); go_simp; try with_reducible rfl)
  change wpAnyH _ _ _ _ _ _ _ (Act.put _ (some 16) _) _; simp only [Act.put, List.setIfInBounds_toArray, List.set_cons_zero, List.set_cons_succ]
  refine wpAnyH_ready (rs := [6]) (by kernel_rfl) (by simp) ?_
  refine AllReadyH.cons rfl (fun K hK => ?_) AllReadyH.nil
  go_simp
  refine (HFC.out _).mono ?_
  rintro R2 w2 ⟨rfl, hb2⟩
  have HB2 := Lib.hid (undrew hb2)
  clear hb2
  dsimp only
  refine hK.out _ _ ?_ (fun hHeld => ?_)
  · exact HSS.out _ HB2.out
  clear hK K
  try simp only [Act.put, List.setIfInBounds_toArray, List.set_cons_zero, List.set_cons_succ]
  refine wpAnyH_take (i := 7) (v := ?v7g4_) rfl (by kernel_rfl) (by kernel_rfl) (by kernel_rfl) (fun _ _ _ h => h) (Or.inl ⟨by rfl, ?y7g4_⟩) (by assumption) ?r7g4_
  case y7g4_ => (intro w hSw; (try dsimp only at hSw); go_simp; try with_reducible rfl)
  change wpAnyH _ _ _ _ _ _ _ (Act.put _ (some 18) _) _; simp only [Act.put, List.setIfInBounds_toArray, List.set_cons_zero, List.set_cons_succ]
  refine wpAnyH_take (i := 8) (v := ?v8g4_) rfl (by kernel_rfl) (by kernel_rfl) (by kernel_rfl) (fun _ _ _ h => h) (Or.inl ⟨by rfl, ?y8g4_⟩) (by assumption) ?r8g4_
  case y8g4_ => (intro w hSw; (try dsimp only at hSw); go_simp; try with_reducible rfl)
  change wpAnyH _ _ _ _ _ _ _ (Act.put _ (some 19) _) _; simp only [Act.put, List.setIfInBounds_toArray, List.set_cons_zero, List.set_cons_succ]
  refine wpAnyH_take (i := 9) (v := ?v9g4_) rfl (by kernel_rfl) (by kernel_rfl) (by kernel_rfl) (fun _ _ _ h => h) (Or.inl ⟨by rfl, ?y9g4_⟩) (by assumption) ?r9g4_
  case y9g4_ => (intro w hSw; (try dsimp only at hSw); go_simp; try with_reducible rfl)
  change wpAnyH _ _ _ _ _ _ _ (Act.put _ (some 20) _) _; simp only [Act.put, List.setIfInBounds_toArray, List.set_cons_zero, List.set_cons_succ]
  refine wpAnyH_take (i := 10) (v := ?v10g4_) rfl (by kernel_rfl) (by kernel_rfl) (by kernel_rfl) (fun _ _ _ h => h) (Or.inl ⟨by rfl, ?y10g4_⟩) (by assumption) ?r10g4_
  case y10g4_ => (intro w hSw; (try dsimp only at hSw); go_simp; try with_reducible rfl)
  change wpAnyH _ _ _ _ _ _ _ (Act.put _ (some 21) _) _; simp only [Act.put, List.setIfInBounds_toArray, List.set_cons_zero, List.set_cons_succ]
  refine wpAnyH_take (i := 11) (v := ?v11g4_) rfl (by kernel_rfl) (by kernel_rfl) (by kernel_rfl) (fun _ _ _ h => h) (Or.inl ⟨by rfl, ?y11g4_⟩) (by assumption) ?r11g4_
  case y11g4_ => (intro w hSw; (try dsimp only at hSw); go_simp; try with_reducible rfl)
  change wpAnyH _ _ _ _ _ _ _ (Act.put _ (some 22) _) _; simp only [Act.put, List.setIfInBounds_toArray, List.set_cons_zero, List.set_cons_succ]
  refine wpAnyH_take (i := 12) (v := ?v12g4_) rfl (by kernel_rfl) (by kernel_rfl) (by kernel_rfl) (fun _ _ _ h => h) (Or.inl ⟨by rfl, ?y12g4_⟩) (by assumption) ?r12g4_
  case y12g4_ => (intro w hSw; (try dsimp only at hSw); go_simp; try with_reducible rfl)
  change wpAnyH _ _ _ _ _ _ _ (Act.put _ (some 23) _) _; simp only [Act.put, List.setIfInBounds_toArray, List.set_cons_zero, List.set_cons_succ]
  refine wpAnyH_take (i := 13) (v := ?v13g4_) rfl (by kernel_rfl) (by kernel_rfl) (by kernel_rfl) (fun _ _ _ h => h) (Or.inl ⟨by rfl, ?y13g4_⟩) (by assumption) ?r13g4_
  case y13g4_ => (intro w hSw; (try dsimp only at hSw); go_simp; try with_reducible rfl)
  change wpAnyH _ _ _ _ _ _ _ (Act.put _ (some 24) _) _; simp only [Act.put, List.setIfInBounds_toArray, List.set_cons_zero, List.set_cons_succ]
  refine wpAnyH_take (i := 14) (v := ?v14g4_) rfl (by kernel_rfl) (by kernel_rfl) (by kernel_rfl) (fun _ _ _ h => h) (Or.inl ⟨by rfl, ?y14g4_⟩) (by assumption) ?r14g4_
  case y14g4_ => (intro w hSw; (try dsimp only at hSw); go_simp; try with_reducible rfl)
  change wpAnyH _ _ _ _ _ _ _ (Act.put _ (some 25) _) _; simp only [Act.put, List.setIfInBounds_toArray, List.set_cons_zero, List.set_cons_succ]
  refine wpAnyH_take (i := 15) (v := ?v15g4_) rfl (by kernel_rfl) (by kernel_rfl) (by kernel_rfl) (fun _ _ _ h => h) (Or.inl ⟨by rfl, ?y15g4_⟩) (by assumption) ?r15g4_
  case y15g4_ => (intro w hSw; (try dsimp only at hSw); go_simp; try with_reducible rfl)
  change wpAnyH _ _ _ _ _ _ _ (Act.put _ (some 26) _) _; simp only [Act.put, List.setIfInBounds_toArray, List.set_cons_zero, List.set_cons_succ]
  refine wpAnyH_take (i := 16) (v := ?v16g4_) rfl (by kernel_rfl) (by kernel_rfl) (by kernel_rfl) (fun _ _ _ h => h) (Or.inl ⟨by rfl, ?y16g4_⟩) (by assumption) ?r16g4_
  case y16g4_ => (intro w hSw; (try dsimp only at hSw); go_simp; try with_reducible rfl)
  change wpAnyH _ _ _ _ _ _ _ (Act.put _ (some 27) _) _; simp only [Act.put, List.setIfInBounds_toArray, List.set_cons_zero, List.set_cons_succ]
  refine wpAnyH_take (i := 17) (v := ?v17g4_) rfl (by kernel_rfl) (by kernel_rfl) (by kernel_rfl) (fun _ _ _ h => h) (Or.inl ⟨by rfl, ?y17g4_⟩) (by assumption) ?r17g4_
  case y17g4_ => (intro w hSw; (try dsimp only at hSw); go_simp; try with_reducible rfl)
  change wpAnyH _ _ _ _ _ _ _ (Act.put _ (some 28) _) _; simp only [Act.put, List.setIfInBounds_toArray, List.set_cons_zero, List.set_cons_succ]
  refine wpAnyH_take (i := 18) (v := ?v18g4_) rfl (by kernel_rfl) (by kernel_rfl) (by kernel_rfl) (fun _ _ _ h => h) (Or.inl ⟨by rfl, ?y18g4_⟩) (by assumption) ?r18g4_
  case y18g4_ => (intro w hSw; (try dsimp only at hSw); go_simp; try with_reducible rfl)
  change wpAnyH _ _ _ _ _ _ _ (Act.put _ (some 29) _) _; simp only [Act.put, List.setIfInBounds_toArray, List.set_cons_zero, List.set_cons_succ]
  refine wpAnyH_take (i := 19) (v := ?v19g4_) rfl (by kernel_rfl) (by kernel_rfl) (by kernel_rfl) (fun _ _ _ h => h) (Or.inl ⟨by rfl, ?y19g4_⟩) (by assumption) ?r19g4_
  case y19g4_ => (intro w hSw; (try dsimp only at hSw); go_simp; try with_reducible rfl)
  change wpAnyH _ _ _ _ _ _ _ (Act.put _ (some 30) _) _; simp only [Act.put, List.setIfInBounds_toArray, List.set_cons_zero, List.set_cons_succ]
  refine wpAnyH_take (i := 20) (v := ?v20g4_) rfl (by kernel_rfl) (by kernel_rfl) (by kernel_rfl) (fun _ _ _ h => h) (Or.inl ⟨by rfl, ?y20g4_⟩) (by assumption) ?r20g4_
  case y20g4_ => (intro w hSw; (try dsimp only at hSw); go_simp; try with_reducible rfl)
  change wpAnyH _ _ _ _ _ _ _ (Act.put _ (some 31) _) _; simp only [Act.put, List.setIfInBounds_toArray, List.set_cons_zero, List.set_cons_succ]
  refine wpAnyH_take (i := 21) (v := ?v21g4_) rfl (by kernel_rfl) (by kernel_rfl) (by kernel_rfl) (fun _ _ _ h => h) (Or.inl ⟨by rfl, ?y21g4_⟩) (by assumption) ?r21g4_
  case y21g4_ => (intro w hSw; (try dsimp only at hSw); go_simp; try with_reducible rfl)
  change wpAnyH _ _ _ _ _ _ _ (Act.put _ (some 32) _) _; simp only [Act.put, List.setIfInBounds_toArray, List.set_cons_zero, List.set_cons_succ]
  refine wpAnyH_take (i := 22) (v := ?v22g4_) rfl (by kernel_rfl) (by kernel_rfl) (by kernel_rfl) (fun _ _ _ h => h) (Or.inl ⟨by rfl, ?y22g4_⟩) (by assumption) ?r22g4_
  case y22g4_ => (intro w hSw; (try dsimp only at hSw); go_simp; try with_reducible rfl)
  change wpAnyH _ _ _ _ _ _ _ (Act.put _ (some 33) _) _; simp only [Act.put, List.setIfInBounds_toArray, List.set_cons_zero, List.set_cons_succ]
  refine wpAnyH_take (i := 23) (v := ?v23g4_) rfl (by kernel_rfl) (by kernel_rfl) (by kernel_rfl) (fun _ _ _ h => h) (Or.inl ⟨by rfl, ?y23g4_⟩) (by assumption) ?r23g4_
  case y23g4_ => (intro w hSw; (try dsimp only at hSw); go_simp; try with_reducible rfl)
  change wpAnyH _ _ _ _ _ _ _ (Act.put _ (some 34) _) _; simp only [Act.put, List.setIfInBounds_toArray, List.set_cons_zero, List.set_cons_succ]
  refine wpAnyH_take (i := 24) (v := ?v24g4_) rfl (by kernel_rfl) (by kernel_rfl) (by kernel_rfl) (fun _ _ _ h => h) (Or.inl ⟨by rfl, ?y24g4_⟩) (by assumption) ?r24g4_
  case y24g4_ => (intro w hSw; (try dsimp only at hSw); go_simp; try with_reducible rfl)
  change wpAnyH _ _ _ _ _ _ _ (Act.put _ (some 35) _) _; simp only [Act.put, List.setIfInBounds_toArray, List.set_cons_zero, List.set_cons_succ]
  refine wpAnyH_done (by kernel_rfl) ?_ _
  refine NoPanic.normal ?_
  have h2 := H1.out.below HB2.out
  obtain ⟨w3, hrun, hseen, hg3⟩ := SeenIs.put (w := w2.drew) h2.seen (by omega) e HW.out.1 HW.out.2
  have hg3 := grown_drew hg3
  have kE2 := HKE.out.below HB2.out (by simp; omega)
  have kP2 := HKP.out.below HB2.out (by simp)
  have hzW : w.heap.size + 2 ≤ w2.heap.size := by have := HB2.out.size; simpa using this
  have hmE : mb ≠ w.heap.size := h2.seen.no_cells kE2
  have hmP : mb ≠ w.heap.size + 1 := h2.seen.no_cells kP2
  have kE3 := kE2.grown hg3 (fun e' => hmE (by injection e' with e'; exact e'.symm))
  have kP3 := kP2.grown hg3 (fun e' => hmP (by injection e' with e'; exact e'.symm))
  have kR3 := h2.blk.grown hg3 (fun e' => h2.ne (by injection e' with e'; exact e'.symm))
  have hs4 : ∀ w', w' = w2.drew ∨ w' = w3 → w'.cell? ⟨r, 2, none⟩ = some (.map (some mb)) ∧ w'.cell? ⟨w.heap.size + 1, 0, none⟩ = some (.int .i64 e.1) ∧ w'.cell? ⟨w.heap.size + 1, 1, none⟩ = some (.int .i64 e.2.1) := fun w' hw' => by
    rcases hw' with rfl | rfl
    · exact ⟨h2.blk.cell 2, kP2.cell 0, kP2.cell 1⟩
    · exact ⟨kR3.cell 2, kP3.cell 0, kP3.cell 1⟩
  have hO3 : w3.ownsRow B 35 3 (.slice A l.length c) l.length (rcs edgC l) := own_keep h2.own fun g cs fz hg => hg3.block g (Array.getElem?_eq_some_iff.1 hg).1 (fun e' => h2.seen.no_cells hg (by injection e' with e'; exact e'.symm))
  have hor : (Value.slice A l.length c).ownBlock ≠ some r := own_blk_ne hO3 kR3 (by decide)
  have hom : (Value.slice A l.length c).ownBlock ≠ some mb := h2.own_mb
  have hrz : r < w3.heap.size := kR3.lt
  have hEz : w.heap.size < w3.heap.size := kE3.lt
  have hBz : B ≤ w3.heap.size := Nat.le_trans h2.r (Nat.le_of_lt hrz)
  have HS4 := Lib.hid hs4; have HG3 := Lib.hid hg3; have HSEEN := Lib.hid hseen; have H2 := Lib.hid h2; have HO3 := Lib.hid hO3; have HKE3 := Lib.hid kE3; have HKR3 := Lib.hid kR3
  have HNE := Lib.hid (And.intro hor (And.intro hom hmE))
  clear hs4 hg3 hseen h2 hO3 kE2 kP2 kE3 kP3 kR3 hor hom hmE hmP HSS HFC HKE HKP H1
  go_wp2_with fail
  refine wp_region_noPanic ?_
  refine wp_region_held_drew (S := (fun w' => w'.cell? ⟨r, 2, none⟩ = some (.map (some mb)) ∧ w'.cell? ⟨w.heap.size + 1, 0, none⟩ = some (.int .i64 e.1) ∧ w'.cell? ⟨w.heap.size + 1, 1, none⟩ = some (.int .i64 e.2.1))) (by kernel_rfl) ?_ (fun hHeld => ?_)
  · exact HS4.out _ (.inl rfl)
  refine wpAnyH_take (i := 0) (v := ?v0g5_) rfl (by kernel_rfl) (by kernel_rfl) (by kernel_rfl) (fun _ _ _ h => h) (Or.inl ⟨by rfl, ?y0g5_⟩) (by assumption) ?r0g5_
  case y0g5_ => (intro w hSw; (try dsimp only at hSw); go_simp; try with_reducible rfl)
  change wpAnyH _ _ _ _ _ _ _ (Act.put _ (some 36) _) _; simp only [Act.put, List.setIfInBounds_toArray, List.set_cons_zero, List.set_cons_succ]
  refine wpAnyH_take (i := 1) (v := ?v1g5_) rfl (by kernel_rfl) (by kernel_rfl) (by kernel_rfl) (fun _ _ _ h => h) (Or.inl ⟨by rfl, ?y1g5_⟩) (by assumption) ?r1g5_
  case y1g5_ => (intro w hSw; (try dsimp only at hSw); go_simp; try with_reducible rfl)
  change wpAnyH _ _ _ _ _ _ _ (Act.put _ (some 37) _) _; simp only [Act.put, List.setIfInBounds_toArray, List.set_cons_zero, List.set_cons_succ]
  refine wpAnyH_take (i := 2) (v := ?v2g5_) rfl (by kernel_rfl) (by kernel_rfl) (by kernel_rfl) (fun _ _ _ h => h) (Or.inl ⟨by rfl, ?y2g5_⟩) (by assumption) ?r2g5_
  case y2g5_ => (intro w hSw; (try dsimp only at hSw); go_simp; try with_reducible rfl)
  change wpAnyH _ _ _ _ _ _ _ (Act.put _ (some 38) _) _; simp only [Act.put, List.setIfInBounds_toArray, List.set_cons_zero, List.set_cons_succ]
  refine wpAnyH_take (i := 3) (v := ?v3g5_) rfl (by kernel_rfl) (by kernel_rfl) (by kernel_rfl) (fun _ _ _ h => h) (Or.inl ⟨by rfl, ?y3g5_⟩) (by assumption) ?r3g5_
  case y3g5_ => (intro w hSw; (try dsimp only at hSw); go_simp; try with_reducible rfl)
  change wpAnyH _ _ _ _ _ _ _ (Act.put _ (some 39) _) _; simp only [Act.put, List.setIfInBounds_toArray, List.set_cons_zero, List.set_cons_succ]
  refine wpAnyH_take (i := 4) (v := ?v4g5_) rfl (by kernel_rfl) (by kernel_rfl) (by kernel_rfl) (fun _ _ _ h => h) (Or.inl ⟨by rfl, ?y4g5_⟩) (by assumption) ?r4g5_
  case y4g5_ => (intro w hSw; (try dsimp only at hSw); go_simp; try with_reducible rfl)
  change wpAnyH _ _ _ _ _ _ _ (Act.put _ (some 40) _) _; simp only [Act.put, List.setIfInBounds_toArray, List.set_cons_zero, List.set_cons_succ]
  refine wpAnyH_ready (rs := [5]) (by kernel_rfl) (by simp) ?_
  refine AllReadyH.cons rfl (fun K hK => ?_) AllReadyH.nil
  go_simp
  refine hK.out _ _ ?_ (fun hHeld => ?_)
  · exact HS4.out _ (.inr rfl)
  clear hK K
  try simp only [Act.put, List.setIfInBounds_toArray, List.set_cons_zero, List.set_cons_succ]
  refine wpAnyH_done (by kernel_rfl) ?_ _
  refine NoPanic.normal ?_
  have p0 := HKR3.out.cell 1; have a0 := HKE3.out.cell 0; have a1 := HKE3.out.cell 1; have a2 := HKE3.out.cell 2
  simp only [List.getElem?_toArray, List.getElem?_cons_zero, List.getElem?_cons_succ] at p0 a0 a1 a2
  have hown := World.ownsRow.alloc HO3.out (.cells #[.int .i64 e.1, .int .i64 e.2.1, .int .i64 e.2.2] 35)
  have hrd := (Sl.new w3 [.int .i64 e.1, .int .i64 e.2.1, .int .i64 e.2.2] 35 3 1 rfl w3.heap.size rfl).rd
  have hq : ∀ w5 : World, (w3.alloc (.cells #[.int .i64 e.1, .int .i64 e.2.1, .int .i64 e.2.2] 35)).drew.grownBy w5 (Value.slice A l.length c).ownBlock → w5.cell? ⟨r, 1, none⟩ = some (.slice A l.length c) ∧ w5.frozen? ⟨r, 1, none⟩ = false := fun w5 hg5 => by
    have hk := (HKR3.out.alloc (.cells #[.int .i64 e.1, .int .i64 e.2.1, .int .i64 e.2.2] 35)).grown (grown_drew hg5) (fun e' => HNE.out.1 e'.symm)
    exact ⟨hk.cell 1, hk.frozen 1⟩
  have HQ := Lib.hid hq; have HOWN := Lib.hid hown; have HRD := Lib.hid hrd
  clear hq hown hrd hrun HS4
  go_wp2_with fail
  go_region_law (first | (refine step_append_any _ rfl (.tmp 46) (.tmp 48) 23 rfl B 35 i0 (.agg #[.int .i64 0, .int .i64 0, .int .i64 0]) 3 24 Tryd.underlying23 HI0.out HZ0.out hz1 hz2 rfl (by decide) (.slice A l.length c) l.length (rcs edgC l) (by simp [Act.eval]) HOWN.out _ (some ⟨w3.heap.size, 0, none⟩) 1 1 [.int .i64 e.1, .int .i64 e.2.1, .int .i64 e.2.2] (by simp [Act.eval]) HRD.out (by simp [Value.oneCell']) (by unfold maxLen; omega) (by omega) (by simp; omega) ?_; intro v5 w5 h2 h3 h4; obtain ⟨A5, c5, rfl, _⟩ := own_parts h2; obtain ⟨q1, q2⟩ := HQ.out w5 h3; have HO5 := Lib.hid h2; have HG5 := Lib.hid h3; have HB5 := Lib.hid h4; clear h2 h3 h4))
  all_goals
    go_wp2
    go_ret
    have hg5 := grown_drew HG5.out
    have hkr := (HKR3.out.alloc (.cells #[.int .i64 e.1, .int .i64 e.2.1, .int .i64 e.2.2] 35)).grown hg5 (fun e' => HNE.out.1 e'.symm)
    have hkr2 := hkr.set_ 1 (.slice A5 (l.length + 1) c5)
    have hlen : (l ++ [e]).length = l.length + 1 := by simp
    have hrc : rcs edgC (l ++ [e]) = rcs edgC l ++ [.int .i64 e.1, .int .i64 e.2.1, .int .i64 e.2.2] := by rw [rcs_append, rcs_one]; rfl
    have hne : ∀ (b' : Nat) xs' fz, w5.heap[b']? = some (.cells xs' 35 fz) → b' ≠ r := fun b' xs' fz hb' e' => by
      subst e'
      have := hkr
      unfold Blk at this
      rw [this] at hb'
      injection hb' with hb'
      injection hb' with _ ht
      exact absurd ht (by decide)
    have ho6 : (w5.setCell ⟨r, 1, none⟩ (.slice A5 (l.length + 1) c5)).ownsRow B 35 3 (.slice A5 (l.length + 1) c5) (l ++ [e]).length (rcs edgC (l ++ [e])) := by
      rw [hlen, hrc]
      exact own_keep HO5.out fun g cs fz hg => Below.heap_setCell _ _ _ _ (hne g cs fz hg)
    have hm3 : mb < w3.heap.size := HSEEN.out.lt
    have hs5 : SeenIs (w5.setCell ⟨r, 1, none⟩ (.slice A5 (l.length + 1) c5)) mb (l ++ [e]) := by
      refine HSEEN.out.kept ?_
      rw [Below.heap_setCell _ _ _ _ H2.out.ne, hg5.block mb (by simp; omega) (fun e' => HNE.out.2.1 e'.symm), Below.heap_alloc _ _ _ hm3]
    have hz2' : w.heap.size ≤ w2.heap.size := by omega
    have hz3 : w2.heap.size ≤ w3.heap.size := HG3.out.size
    have hz5 : w3.heap.size + 1 ≤ w5.heap.size := by have := hg5.size; simpa using this
    have hst : Stay r mb (Value.slice A l.length c).ownBlock w (w5.setCell ⟨r, 1, none⟩ (.slice A5 (l.length + 1) c5)) := by
      refine ⟨?_, ?_, ?_, ?_, fun k hk k1 k2 k3 => ?_⟩
      · show w5.os = w.os
        rw [hg5.os]; exact HG3.out.os.trans (HB2.out.os.trans HBW.out.os)
      · show w5.tape = w.tape
        rw [hg5.tape]; exact HG3.out.tape.trans (HB2.out.tape.trans HBW.out.tape)
      · show w5.output = w.output
        rw [hg5.output]; exact HG3.out.output.trans (HB2.out.output.trans HBW.out.output)
      · simp [World.setCell]; omega
      · rw [Below.heap_setCell _ _ _ _ k1, hg5.block k (by simp; omega) k3, Below.heap_alloc _ _ _ (by omega), HG3.out.block k (by omega) (fun e' => k2 (by injection e')), HB2.out.block k (by simp; omega), HBW.out.block k hk]
    refine ⟨rfl, ?_, .slice A5 (l.length + 1) c5, ⟨hkr2, ho6, hs5, HH.out.r, HH.out.mb⟩, ?_, hst⟩
    · refine ⟨hst.os, hst.tape, hst.output, hst.size, fun k hk => ?_⟩
      by_cases hkw : k < w.heap.size
      · refine hst.block k hkw (fun e' => ?_) (fun e' => ?_) (fun e' => ?_)
        · have := HH.out.r; omega
        · have := HH.out.mb; omega
        · have := (HH.out.own.lt k e'.symm).1; omega
      · have := HH.out.r; omega
    · rcases HB5.out with h | h
      · exact .inl h
      · exact .inr ⟨_, h, by simp; omega⟩
/-- an edge more -/
theorem addR_any_ (w : World) (B r mb : Nat) (n : Int) (v : Value) (l : List Edg) (e : Edg) (h : RdrIs w B r mb n v l) (hn : n ≤ 512) (hl : l.length ≤ 8192) :
    Calls Tryd.prog 56 #[.pointer (some ⟨r, 0, none⟩), .agg #[.int .i64 e.1, .int .i64 e.2.1, .int .i64 e.2.2]] w (AddRP w B r mb n v (addP n l e)) := by
  cases hf : fitsE e n with
  | false => exact addR_fit_ w B r mb n v l e h hf
  | true =>
    cases hs : hasP l e.1 e.2.1 with
    | true => exact addR_seen_ w B r mb n v l e h hn hf hs
    | false =>
      by_cases h8 : l.length = 8192
      · exact addR_full_ w B r mb n v l e h hn hf hs h8
      · exact addR_yes_ w B r mb n v l e h hn hl hf hs h8
end Go.Proofs.YtknigkjbnaoldaaDoor
