/- The reference's store of checkpoints: Read. -/
import Derived.Test.YthmcimpdehgaoaaGreatDoorCmF
import Derived.Test.YthmcimpdehgaoaaGreatDoorPk15
import Derived.Test.YthmcimpdehgaoaaGreatDoorPk17
import Derived.Test.YthmcimpdehgaoaaGreatDoorPk12
import Derived.OrdersHeld
import Derived.Deep.RegionHeld3
import Derived.Deep.DeepCutAuto
namespace Go.Proofs.YthmcimpdehgaoaaGreatDoor
open Go.RowKit Go.Maps

/-- how the reference's Read ends -/
def RReadC (w : World) (q : Int × ByteArray) (e : Ending) (w' : World) : Prop := e = .returned (.tuple #[.string q.2, .int .i64 q.1]) ∧ Below w.heap.size w w'
set_option maxRecDepth 100000 in
set_option maxHeartbeats 16000000 in
theorem rcread_yes (w : World) (B p gs : Nat) (R : RDisk) (h : RkIs w B p R) (hf : RFit R) (hs : RcSt w gs p) (n : Nat) (hn : n ≤ 1073741824) (hb : (R.read (nameC n)).2.size ≤ 9900) :
    Calls Tryz.prog 76 #[.pointer (some ⟨gs, 0, none⟩), .int .i64 n] w (RReadC w (readRC R n)) := by
  have HM := Lib.hid (rcmay_any w n)
  rw [decide_eq_true ⟨by omega, by omega⟩] at HM
  have hdr : Below w.heap.size w w.drew := (Below.refl _ _).drew
  have hnm := fun W : World => rcname_any W n (by omega)
  have hrd := rread_any w.drew B p R (h.below hdr) hf (nameC n)
  have c0 : w.cell? ⟨gs, 0, none⟩ = some (.pointer (some ⟨p, 0, none⟩)) := Blk.cell hs 0
  have hq : readRC R n = if (R.read (nameC n)).1 = 160 then ((160 : Int), ByteArray.empty) else if (R.read (nameC n)).1 ≠ 0 then ((190 : Int), ByteArray.empty) else readF n (R.read (nameC n)).2 := by
    unfold readRC
    rw [if_neg (by omega)]
    rfl
  obtain ⟨Q, hQ⟩ : ∃ Q, readRC R n = Q := ⟨_, rfl⟩
  rw [hQ] at hq ⊢
  obtain ⟨E, hE⟩ : ∃ E, (R.read (nameC n)).1 = E := ⟨_, rfl⟩
  obtain ⟨f, hff⟩ : ∃ f, (R.read (nameC n)).2 = f := ⟨_, rfl⟩
  obtain ⟨T, hTT⟩ : ∃ T, nameC n = T := ⟨_, rfl⟩
  rw [hE, hff] at hrd hq
  rw [hff] at hb
  rw [hTT] at hnm hrd
  have ka : w.drew.cell? ⟨gs, 0, none⟩ = some (.pointer (some ⟨p, 0, none⟩)) := c0
  have HQ := Lib.hid hq; have HNM := Lib.hid hnm; have HRD := Lib.hid hrd; have HKA := Lib.hid ka
  clear h hs hf hdr hq hQ hE hff hTT hnm hrd ka
  go_enter Tryz.func76, Tryz.ntmps76
  go_wp2_with fail
  refine HM.out.mono ?_
  rintro e w1 ⟨rfl, rfl⟩
  clear HM
  go_wp2_with fail
  go_region_held3 (fun w' => w'.cell? ⟨gs, 0, none⟩ = some (.pointer (some ⟨p, 0, none⟩))) (first | exact HKA.out) (first | (go_at_call 110; (with_reducible refine (HNM.out _).mono ?_); rintro e w6 ⟨rfl, rfl⟩) | (go_at_call 97; (with_reducible refine HRD.out.mono ?_); rintro e w6 ⟨bv, rfl, hbt, rfl⟩; obtain ⟨Ab, cb, rfl, -, -⟩ := id hbt; have HBT := Lib.hid hbt; clear hbt))
  clear HNM HRD HKA c0
  by_cases h160 : E = 160
  · obtain rfl := h160
    have HF := Lib.hid (show RReadC w Q (.returned (.tuple #[.string ByteArray.empty, .int .i64 160])) w.drew by rw [HQ.out, if_pos rfl]; exact ⟨rfl, (Below.refl _ _).drew⟩)
    clear HQ
    go_wp2
    go_ret2
    exact HF.out
  have hE160 : (E == 160) = false := by simpa using h160
  have hq2 := HQ.out
  rw [if_neg h160] at hq2
  have HQ2 := Lib.hid hq2
  clear HQ hq2
  obtain ⟨w2, hw2⟩ : ∃ w2, w.drew = w2 := ⟨_, rfl⟩
  have hb2 : Below w.heap.size w w2 := by rw [← hw2]; exact (Below.refl _ _).drew
  rw [hw2] at HBT ⊢
  have HB2 := Lib.hid hb2
  clear hb2 hw2
  go_upto_region 6 with (fail)
  go_cut [50] (fun s50 wx => s50 = .bool (decide (E ≠ 0 ∨ dataC n f = none)) ∧ Below w2.heap.size w2 wx)
  case first =>
    as_aux_lemma =>
    by_cases hE0 : E = 0
    case neg =>
      have hEn : (E != 0) = true := by simpa using hE0
      have HD := Lib.hid (show decide (E ≠ 0 ∨ dataC n f = none) = true from decide_eq_true (.inl hE0))
      clear hE0 HQ2
      refine wp_region_noPanic ?_
      refine wp_region_held_drew (S := (fun _ => True)) (by kernel_rfl) ?_ (fun hHeld => ?_)
      · exact trivial
      refine wpT (i := 0) (v := ?v0a1_) rfl (Or.inl ⟨by rfl, ?y0a1_⟩) (by assumption) ?r0a1_
      case y0a1_ => (intro w hSw; (try dsimp only at hSw); go_simp; try with_reducible rfl)
      change wpAnyH _ _ _ _ _ _ _ (Act.put _ (some 24) _) _; simp only [Act.put, List.setIfInBounds_toArray, List.set_cons_zero, List.set_cons_succ]
      refine wpT (i := 1) (v := ?v1a1_) rfl (Or.inl ⟨by rfl, ?y1a1_⟩) (by assumption) ?r1a1_
      case y1a1_ => (intro w hSw; (try dsimp only at hSw); go_simp; try with_reducible rfl)
      change wpAnyH _ _ _ _ _ _ _ (Act.put _ (some 25) _) _; simp only [Act.put, List.setIfInBounds_toArray, List.set_cons_zero, List.set_cons_succ]
      refine wpT (i := 2) (v := ?v2a1_) rfl (Or.inl ⟨by rfl, ?y2a1_⟩) (by assumption) ?r2a1_
      case y2a1_ => (intro w hSw; (try dsimp only at hSw); go_simp; try with_reducible rfl)
      change wpAnyH _ _ _ _ _ _ _ (Act.put _ (some 26) _) _; simp only [Act.put, List.setIfInBounds_toArray, List.set_cons_zero, List.set_cons_succ]
      refine wpT (i := 3) (v := undef) rfl (Or.inr ⟨by rfl, rfl⟩) (by assumption) ?_
      change wpAnyH _ _ _ _ _ _ _ (Act.put _ (some 27) _) _; simp only [Act.put, List.setIfInBounds_toArray, List.set_cons_zero, List.set_cons_succ]
      refine wpT (i := 4) (v := undef) rfl (Or.inr ⟨by rfl, rfl⟩) (by assumption) ?_
      change wpAnyH _ _ _ _ _ _ _ (Act.put _ (some 28) _) _; simp only [Act.put, List.setIfInBounds_toArray, List.set_cons_zero, List.set_cons_succ]
      refine wpT (i := 5) (v := undef) rfl (Or.inr ⟨by rfl, rfl⟩) (by assumption) ?_
      change wpAnyH _ _ _ _ _ _ _ (Act.put _ (some 29) _) _; simp only [Act.put, List.setIfInBounds_toArray, List.set_cons_zero, List.set_cons_succ]
      refine wpT (i := 6) (v := ?v6a1_) rfl (Or.inl ⟨by rfl, ?y6a1_⟩) (by assumption) ?r6a1_
      case y6a1_ => (intro w hSw; (try dsimp only at hSw); go_simp; try with_reducible rfl)
      change wpAnyH _ _ _ _ _ _ _ (Act.put _ (some 30) _) _; simp only [Act.put, List.setIfInBounds_toArray, List.set_cons_zero, List.set_cons_succ]
      refine wpT (i := 7) (v := ?v7a1_) rfl (Or.inl ⟨by rfl, ?y7a1_⟩) (by assumption) ?r7a1_
      case y7a1_ => (intro w hSw; (try dsimp only at hSw); go_simp; try with_reducible rfl)
      change wpAnyH _ _ _ _ _ _ _ (Act.put _ (some 31) _) _; simp only [Act.put, List.setIfInBounds_toArray, List.set_cons_zero, List.set_cons_succ]
      refine wpT (i := 8) (v := undef) rfl (Or.inr ⟨by rfl, rfl⟩) (by assumption) ?_
      change wpAnyH _ _ _ _ _ _ _ (Act.put _ (some 32) _) _; simp only [Act.put, List.setIfInBounds_toArray, List.set_cons_zero, List.set_cons_succ]
      refine wpT (i := 9) (v := undef) rfl (Or.inr ⟨by rfl, rfl⟩) (by assumption) ?_
      change wpAnyH _ _ _ _ _ _ _ (Act.put _ (some 33) _) _; simp only [Act.put, List.setIfInBounds_toArray, List.set_cons_zero, List.set_cons_succ]
      refine wpT (i := 10) (v := undef) rfl (Or.inr ⟨by rfl, rfl⟩) (by assumption) ?_
      change wpAnyH _ _ _ _ _ _ _ (Act.put _ (some 34) _) _; simp only [Act.put, List.setIfInBounds_toArray, List.set_cons_zero, List.set_cons_succ]
      refine wpT (i := 11) (v := undef) rfl (Or.inr ⟨by rfl, rfl⟩) (by assumption) ?_
      change wpAnyH _ _ _ _ _ _ _ (Act.put _ (some 35) _) _; simp only [Act.put, List.setIfInBounds_toArray, List.set_cons_zero, List.set_cons_succ]
      refine wpT (i := 12) (v := undef) rfl (Or.inr ⟨by rfl, rfl⟩) (by assumption) ?_
      change wpAnyH _ _ _ _ _ _ _ (Act.put _ (some 36) _) _; simp only [Act.put, List.setIfInBounds_toArray, List.set_cons_zero, List.set_cons_succ]
      refine wpT (i := 13) (v := undef) rfl (Or.inr ⟨by rfl, rfl⟩) (by assumption) ?_
      change wpAnyH _ _ _ _ _ _ _ (Act.put _ (some 37) _) _; simp only [Act.put, List.setIfInBounds_toArray, List.set_cons_zero, List.set_cons_succ]
      refine wpT (i := 14) (v := undef) rfl (Or.inr ⟨by rfl, rfl⟩) (by assumption) ?_
      change wpAnyH _ _ _ _ _ _ _ (Act.put _ (some 38) _) _; simp only [Act.put, List.setIfInBounds_toArray, List.set_cons_zero, List.set_cons_succ]
      refine wpT (i := 15) (v := undef) rfl (Or.inr ⟨by rfl, rfl⟩) (by assumption) ?_
      change wpAnyH _ _ _ _ _ _ _ (Act.put _ (some 39) _) _; simp only [Act.put, List.setIfInBounds_toArray, List.set_cons_zero, List.set_cons_succ]
      refine wpT (i := 16) (v := undef) rfl (Or.inr ⟨by rfl, rfl⟩) (by assumption) ?_
      change wpAnyH _ _ _ _ _ _ _ (Act.put _ (some 40) _) _; simp only [Act.put, List.setIfInBounds_toArray, List.set_cons_zero, List.set_cons_succ]
      refine wpT (i := 17) (v := undef) rfl (Or.inr ⟨by rfl, rfl⟩) (by assumption) ?_
      change wpAnyH _ _ _ _ _ _ _ (Act.put _ (some 41) _) _; simp only [Act.put, List.setIfInBounds_toArray, List.set_cons_zero, List.set_cons_succ]
      refine wpT (i := 18) (v := undef) rfl (Or.inr ⟨by rfl, rfl⟩) (by assumption) ?_
      change wpAnyH _ _ _ _ _ _ _ (Act.put _ (some 42) _) _; simp only [Act.put, List.setIfInBounds_toArray, List.set_cons_zero, List.set_cons_succ]
      refine wpT (i := 19) (v := undef) rfl (Or.inr ⟨by rfl, rfl⟩) (by assumption) ?_
      change wpAnyH _ _ _ _ _ _ _ (Act.put _ (some 43) _) _; simp only [Act.put, List.setIfInBounds_toArray, List.set_cons_zero, List.set_cons_succ]
      refine wpT (i := 20) (v := ?v20a1_) rfl (Or.inl ⟨by rfl, ?y20a1_⟩) (by assumption) ?r20a1_
      case y20a1_ => (intro w hSw; (try dsimp only at hSw); go_simp; try with_reducible rfl)
      change wpAnyH _ _ _ _ _ _ _ (Act.put _ (some 44) _) _; simp only [Act.put, List.setIfInBounds_toArray, List.set_cons_zero, List.set_cons_succ]
      refine wpT (i := 21) (v := ?v21a1_) rfl (Or.inl ⟨by rfl, ?y21a1_⟩) (by assumption) ?r21a1_
      case y21a1_ => (intro w hSw; (try dsimp only at hSw); go_simp; try with_reducible rfl)
      change wpAnyH _ _ _ _ _ _ _ (Act.put _ (some 45) _) _; simp only [Act.put, List.setIfInBounds_toArray, List.set_cons_zero, List.set_cons_succ]
      refine wpT (i := 22) (v := undef) rfl (Or.inr ⟨by rfl, rfl⟩) (by assumption) ?_
      change wpAnyH _ _ _ _ _ _ _ (Act.put _ (some 46) _) _; simp only [Act.put, List.setIfInBounds_toArray, List.set_cons_zero, List.set_cons_succ]
      refine wpT (i := 23) (v := undef) rfl (Or.inr ⟨by rfl, rfl⟩) (by assumption) ?_
      change wpAnyH _ _ _ _ _ _ _ (Act.put _ (some 47) _) _; simp only [Act.put, List.setIfInBounds_toArray, List.set_cons_zero, List.set_cons_succ]
      refine wpT (i := 24) (v := undef) rfl (Or.inr ⟨by rfl, rfl⟩) (by assumption) ?_
      change wpAnyH _ _ _ _ _ _ _ (Act.put _ (some 48) _) _; simp only [Act.put, List.setIfInBounds_toArray, List.set_cons_zero, List.set_cons_succ]
      refine wpT (i := 25) (v := undef) rfl (Or.inr ⟨by rfl, rfl⟩) (by assumption) ?_
      change wpAnyH _ _ _ _ _ _ _ (Act.put _ (some 49) _) _; simp only [Act.put, List.setIfInBounds_toArray, List.set_cons_zero, List.set_cons_succ]
      refine wpT (i := 26) (v := ?v26a1_) rfl (Or.inl ⟨by rfl, ?y26a1_⟩) (by assumption) ?r26a1_
      case y26a1_ => (intro w hSw; (try dsimp only at hSw); go_simp; try with_reducible rfl)
      change wpAnyH _ _ _ _ _ _ _ (Act.put _ (some 50) _) _; simp only [Act.put, List.setIfInBounds_toArray, List.set_cons_zero, List.set_cons_succ]
      refine wpAnyH_done (by kernel_rfl) ?_ _
      refine NoPanic.normal ?_
      refine Met.intro ?_
      go_step
      go_meet
      exact ⟨by rw [HD.out], (Below.refl _ _).drew⟩
    obtain rfl := hE0
    have hEn : ((0 : Int) != 0) = false := rfl
    by_cases h17 : f.size < 17
    · have h17I : (f.size : Int) < 17 := by omega
      have h17b : decide ((f.size : Int) < 17) = true := decide_eq_true h17I
      have HD := Lib.hid (show decide ((0 : Int) ≠ 0 ∨ dataC n f = none) = true from decide_eq_true (.inr (by unfold dataC; rw [if_neg (by omega)])))
      clear HQ2
      refine wp_region_noPanic ?_
      refine wp_region_held_drew (S := (fun _ => True)) (by kernel_rfl) ?_ (fun hHeld => ?_)
      · exact trivial
      refine wpT (i := 0) (v := ?v0b2_) rfl (Or.inl ⟨by rfl, ?y0b2_⟩) (by assumption) ?r0b2_
      case y0b2_ => (intro w hSw; (try dsimp only at hSw); go_simp; try with_reducible rfl)
      change wpAnyH _ _ _ _ _ _ _ (Act.put _ (some 24) _) _; simp only [Act.put, List.setIfInBounds_toArray, List.set_cons_zero, List.set_cons_succ]
      refine wpT (i := 1) (v := ?v1b2_) rfl (Or.inl ⟨by rfl, ?y1b2_⟩) (by assumption) ?r1b2_
      case y1b2_ => (intro w hSw; (try dsimp only at hSw); go_simp; try with_reducible rfl)
      change wpAnyH _ _ _ _ _ _ _ (Act.put _ (some 25) _) _; simp only [Act.put, List.setIfInBounds_toArray, List.set_cons_zero, List.set_cons_succ]
      refine wpT (i := 2) (v := ?v2b2_) rfl (Or.inl ⟨by rfl, ?y2b2_⟩) (by assumption) ?r2b2_
      case y2b2_ => (intro w hSw; (try dsimp only at hSw); go_simp; try with_reducible rfl)
      change wpAnyH _ _ _ _ _ _ _ (Act.put _ (some 26) _) _; simp only [Act.put, List.setIfInBounds_toArray, List.set_cons_zero, List.set_cons_succ]
      refine wpT (i := 3) (v := ?v3b2_) rfl (Or.inl ⟨by rfl, ?y3b2_⟩) (by assumption) ?r3b2_
      case y3b2_ => (intro w hSw; (try dsimp only at hSw); go_simp; try with_reducible rfl)
      change wpAnyH _ _ _ _ _ _ _ (Act.put _ (some 27) _) _; simp only [Act.put, List.setIfInBounds_toArray, List.set_cons_zero, List.set_cons_succ]
      refine wpT (i := 4) (v := ?v4b2_) rfl (Or.inl ⟨by rfl, ?y4b2_⟩) (by assumption) ?r4b2_
      case y4b2_ => (intro w hSw; (try dsimp only at hSw); go_simp; try with_reducible rfl)
      change wpAnyH _ _ _ _ _ _ _ (Act.put _ (some 28) _) _; simp only [Act.put, List.setIfInBounds_toArray, List.set_cons_zero, List.set_cons_succ]
      refine wpT (i := 5) (v := ?v5b2_) rfl (Or.inl ⟨by rfl, ?y5b2_⟩) (by assumption) ?r5b2_
      case y5b2_ => (intro w hSw; (try dsimp only at hSw); go_simp; try with_reducible rfl)
      change wpAnyH _ _ _ _ _ _ _ (Act.put _ (some 29) _) _; simp only [Act.put, List.setIfInBounds_toArray, List.set_cons_zero, List.set_cons_succ]
      refine wpT (i := 6) (v := ?v6b2_) rfl (Or.inl ⟨by rfl, ?y6b2_⟩) (by assumption) ?r6b2_
      case y6b2_ => (intro w hSw; (try dsimp only at hSw); go_simp; try with_reducible rfl)
      change wpAnyH _ _ _ _ _ _ _ (Act.put _ (some 30) _) _; simp only [Act.put, List.setIfInBounds_toArray, List.set_cons_zero, List.set_cons_succ]
      refine wpT (i := 7) (v := ?v7b2_) rfl (Or.inl ⟨by rfl, ?y7b2_⟩) (by assumption) ?r7b2_
      case y7b2_ => (intro w hSw; (try dsimp only at hSw); go_simp; try with_reducible rfl)
      change wpAnyH _ _ _ _ _ _ _ (Act.put _ (some 31) _) _; simp only [Act.put, List.setIfInBounds_toArray, List.set_cons_zero, List.set_cons_succ]
      refine wpT (i := 8) (v := undef) rfl (Or.inr ⟨by rfl, rfl⟩) (by assumption) ?_
      change wpAnyH _ _ _ _ _ _ _ (Act.put _ (some 32) _) _; simp only [Act.put, List.setIfInBounds_toArray, List.set_cons_zero, List.set_cons_succ]
      refine wpT (i := 9) (v := undef) rfl (Or.inr ⟨by rfl, rfl⟩) (by assumption) ?_
      change wpAnyH _ _ _ _ _ _ _ (Act.put _ (some 33) _) _; simp only [Act.put, List.setIfInBounds_toArray, List.set_cons_zero, List.set_cons_succ]
      refine wpT (i := 10) (v := undef) rfl (Or.inr ⟨by rfl, rfl⟩) (by assumption) ?_
      change wpAnyH _ _ _ _ _ _ _ (Act.put _ (some 34) _) _; simp only [Act.put, List.setIfInBounds_toArray, List.set_cons_zero, List.set_cons_succ]
      refine wpT (i := 11) (v := undef) rfl (Or.inr ⟨by rfl, rfl⟩) (by assumption) ?_
      change wpAnyH _ _ _ _ _ _ _ (Act.put _ (some 35) _) _; simp only [Act.put, List.setIfInBounds_toArray, List.set_cons_zero, List.set_cons_succ]
      refine wpT (i := 12) (v := undef) rfl (Or.inr ⟨by rfl, rfl⟩) (by assumption) ?_
      change wpAnyH _ _ _ _ _ _ _ (Act.put _ (some 36) _) _; simp only [Act.put, List.setIfInBounds_toArray, List.set_cons_zero, List.set_cons_succ]
      refine wpT (i := 13) (v := undef) rfl (Or.inr ⟨by rfl, rfl⟩) (by assumption) ?_
      change wpAnyH _ _ _ _ _ _ _ (Act.put _ (some 37) _) _; simp only [Act.put, List.setIfInBounds_toArray, List.set_cons_zero, List.set_cons_succ]
      refine wpT (i := 14) (v := undef) rfl (Or.inr ⟨by rfl, rfl⟩) (by assumption) ?_
      change wpAnyH _ _ _ _ _ _ _ (Act.put _ (some 38) _) _; simp only [Act.put, List.setIfInBounds_toArray, List.set_cons_zero, List.set_cons_succ]
      refine wpT (i := 15) (v := undef) rfl (Or.inr ⟨by rfl, rfl⟩) (by assumption) ?_
      change wpAnyH _ _ _ _ _ _ _ (Act.put _ (some 39) _) _; simp only [Act.put, List.setIfInBounds_toArray, List.set_cons_zero, List.set_cons_succ]
      refine wpT (i := 16) (v := undef) rfl (Or.inr ⟨by rfl, rfl⟩) (by assumption) ?_
      change wpAnyH _ _ _ _ _ _ _ (Act.put _ (some 40) _) _; simp only [Act.put, List.setIfInBounds_toArray, List.set_cons_zero, List.set_cons_succ]
      refine wpT (i := 17) (v := undef) rfl (Or.inr ⟨by rfl, rfl⟩) (by assumption) ?_
      change wpAnyH _ _ _ _ _ _ _ (Act.put _ (some 41) _) _; simp only [Act.put, List.setIfInBounds_toArray, List.set_cons_zero, List.set_cons_succ]
      refine wpT (i := 18) (v := undef) rfl (Or.inr ⟨by rfl, rfl⟩) (by assumption) ?_
      change wpAnyH _ _ _ _ _ _ _ (Act.put _ (some 42) _) _; simp only [Act.put, List.setIfInBounds_toArray, List.set_cons_zero, List.set_cons_succ]
      refine wpT (i := 19) (v := undef) rfl (Or.inr ⟨by rfl, rfl⟩) (by assumption) ?_
      change wpAnyH _ _ _ _ _ _ _ (Act.put _ (some 43) _) _; simp only [Act.put, List.setIfInBounds_toArray, List.set_cons_zero, List.set_cons_succ]
      refine wpT (i := 20) (v := ?v20b2_) rfl (Or.inl ⟨by rfl, ?y20b2_⟩) (by assumption) ?r20b2_
      case y20b2_ => (intro w hSw; (try dsimp only at hSw); go_simp; try with_reducible rfl)
      change wpAnyH _ _ _ _ _ _ _ (Act.put _ (some 44) _) _; simp only [Act.put, List.setIfInBounds_toArray, List.set_cons_zero, List.set_cons_succ]
      refine wpT (i := 21) (v := ?v21b2_) rfl (Or.inl ⟨by rfl, ?y21b2_⟩) (by assumption) ?r21b2_
      case y21b2_ => (intro w hSw; (try dsimp only at hSw); go_simp; try with_reducible rfl)
      change wpAnyH _ _ _ _ _ _ _ (Act.put _ (some 45) _) _; simp only [Act.put, List.setIfInBounds_toArray, List.set_cons_zero, List.set_cons_succ]
      refine wpT (i := 22) (v := undef) rfl (Or.inr ⟨by rfl, rfl⟩) (by assumption) ?_
      change wpAnyH _ _ _ _ _ _ _ (Act.put _ (some 46) _) _; simp only [Act.put, List.setIfInBounds_toArray, List.set_cons_zero, List.set_cons_succ]
      refine wpT (i := 23) (v := undef) rfl (Or.inr ⟨by rfl, rfl⟩) (by assumption) ?_
      change wpAnyH _ _ _ _ _ _ _ (Act.put _ (some 47) _) _; simp only [Act.put, List.setIfInBounds_toArray, List.set_cons_zero, List.set_cons_succ]
      refine wpT (i := 24) (v := undef) rfl (Or.inr ⟨by rfl, rfl⟩) (by assumption) ?_
      change wpAnyH _ _ _ _ _ _ _ (Act.put _ (some 48) _) _; simp only [Act.put, List.setIfInBounds_toArray, List.set_cons_zero, List.set_cons_succ]
      refine wpT (i := 25) (v := undef) rfl (Or.inr ⟨by rfl, rfl⟩) (by assumption) ?_
      change wpAnyH _ _ _ _ _ _ _ (Act.put _ (some 49) _) _; simp only [Act.put, List.setIfInBounds_toArray, List.set_cons_zero, List.set_cons_succ]
      refine wpT (i := 26) (v := ?v26b2_) rfl (Or.inl ⟨by rfl, ?y26b2_⟩) (by assumption) ?r26b2_
      case y26b2_ => (intro w hSw; (try dsimp only at hSw); go_simp; try with_reducible rfl)
      change wpAnyH _ _ _ _ _ _ _ (Act.put _ (some 50) _) _; simp only [Act.put, List.setIfInBounds_toArray, List.set_cons_zero, List.set_cons_succ]
      refine wpAnyH_done (by kernel_rfl) ?_ _
      refine NoPanic.normal ?_
      refine Met.intro ?_
      go_step
      go_meet
      exact ⟨by rw [HD.out], (Below.refl _ _).drew⟩
    have h17I : ¬ (f.size : Int) < 17 := by omega
    have h17b : decide ((f.size : Int) < 17) = false := decide_eq_false h17I
    obtain ⟨pv, hsl, hpv⟩ := HBT.out.piece 13 (f.size - 4) (by omega) (by omega)
    have hjs : ((f.size - 4 : Nat) : Int) = (f.size : Int) - 4 := by omega
    have h13 : ((13 : Nat) : Int) = 13 := rfl
    rw [hjs, h13] at hsl
    have hps : (f.extract 13 (f.size - 4)).size ≤ 9900 := by rw [ByteArray.size_extract]; omega
    have hda : (0 : Int) ≠ 0 ∨ dataC n f = none ↔ fileC n (f.extract 13 (f.size - 4)) ≠ f := by
      unfold dataC
      constructor
      · rintro (h | h) h2
        · exact h rfl
        · rw [if_pos ⟨by omega, by omega, h2⟩] at h; cases h
      · intro h
        exact .inr (if_neg (fun h2 => h h2.2.2))
    obtain ⟨P0, hP0⟩ : ∃ P0, f.extract 13 (f.size - 4) = P0 := ⟨_, rfl⟩
    rw [hP0] at hpv hps hda
    obtain ⟨Ap, cp, rfl, -, -⟩ := id hpv
    have HBY := Lib.hid (rcbytes_any w2.drew n hn P0 hps)
    have hc1 : ∀ W, Below w2.heap.size w2 W → (convert 33 9 (.slice Ap P0.size cp)).run Tryz.prog W = .ok (.string P0) W := fun W hW => (hpv.below hW).conv
    have hc2 : ∀ W, Below w2.heap.size w2 W → (convert 33 9 (.slice Ab f.size cb)).run Tryz.prog W = .ok (.string f) W := fun W hW => (HBT.out.below hW).conv
    have HKA := Lib.hid (show (convert 33 9 (.slice Ap P0.size cp)).run Tryz.prog w2.drew = .ok (.string P0) w2.drew ∧ (convert 33 9 (.slice Ab f.size cb)).run Tryz.prog w2.drew = .ok (.string f) w2.drew from ⟨hc1 _ (Below.refl _ _).drew, hc2 _ (Below.refl _ _).drew⟩)
    have HC1 := Lib.hid hc1; have HC2 := Lib.hid hc2; have HDA := Lib.hid hda
    obtain ⟨F0, hF0⟩ : ∃ F0, fileC n P0 = F0 := ⟨_, rfl⟩
    rw [hF0] at HBY HDA
    obtain ⟨eb, heb⟩ : ∃ eb, decide (F0 = f) = eb := ⟨_, rfl⟩
    have hYb : (F0.toList == f.toList) = eb := by rw [cbeq_]; exact heb
    have hD : decide ((0 : Int) ≠ 0 ∨ dataC n f = none) = !eb := by
      rw [← heb]
      by_cases h : F0 = f
      · rw [decide_eq_true h]; exact decide_eq_false (fun h2 => (HDA.out.1 h2) h)
      · rw [decide_eq_false h]; exact decide_eq_true (HDA.out.2 h)
    have HD := Lib.hid hD
    clear hpv hps hda hc1 hc2 hF0 hP0 heb hD HDA HQ2 hjs
    have hwr : IntKind.i64.wrap ((f.size : Int) - 4) = (f.size : Int) - 4 := IntWalk.i64_in _ (by omega)
    have hwr2 : IntKind.i64.wrap ((f.size : Int) - 17) = (f.size : Int) - 17 := IntWalk.i64_in _ (by omega)
    have hgt : decide ((4194304 : Int) < (f.size : Int) - 17) = false := decide_eq_false (by omega)
    cases eb with
    | false =>
      refine wp_region_noPanic ?_
      refine wp_region_held_drew (S := (fun w' => (convert 33 9 (.slice Ap P0.size cp)).run Tryz.prog w' = .ok (.string P0) w' ∧ (convert 33 9 (.slice Ab f.size cb)).run Tryz.prog w' = .ok (.string f) w')) (by kernel_rfl) ?_ (fun hHeld => ?_)
      · exact HKA.out
      refine wpT (i := 0) (v := ?v0c3_) rfl (Or.inl ⟨by rfl, ?y0c3_⟩) (by assumption) ?r0c3_
      case y0c3_ => (intro w hSw; (try dsimp only at hSw); go_simp; try with_reducible rfl)
      change wpAnyH _ _ _ _ _ _ _ (Act.put _ (some 24) _) _; simp only [Act.put, List.setIfInBounds_toArray, List.set_cons_zero, List.set_cons_succ]
      refine wpT (i := 1) (v := ?v1c3_) rfl (Or.inl ⟨by rfl, ?y1c3_⟩) (by assumption) ?r1c3_
      case y1c3_ => (intro w hSw; (try dsimp only at hSw); go_simp; try with_reducible rfl)
      change wpAnyH _ _ _ _ _ _ _ (Act.put _ (some 25) _) _; simp only [Act.put, List.setIfInBounds_toArray, List.set_cons_zero, List.set_cons_succ]
      refine wpT (i := 2) (v := ?v2c3_) rfl (Or.inl ⟨by rfl, ?y2c3_⟩) (by assumption) ?r2c3_
      case y2c3_ => (intro w hSw; (try dsimp only at hSw); go_simp; try with_reducible rfl)
      change wpAnyH _ _ _ _ _ _ _ (Act.put _ (some 26) _) _; simp only [Act.put, List.setIfInBounds_toArray, List.set_cons_zero, List.set_cons_succ]
      refine wpT (i := 3) (v := ?v3c3_) rfl (Or.inl ⟨by rfl, ?y3c3_⟩) (by assumption) ?r3c3_
      case y3c3_ => (intro w hSw; (try dsimp only at hSw); go_simp; try with_reducible rfl)
      change wpAnyH _ _ _ _ _ _ _ (Act.put _ (some 27) _) _; simp only [Act.put, List.setIfInBounds_toArray, List.set_cons_zero, List.set_cons_succ]
      refine wpT (i := 4) (v := ?v4c3_) rfl (Or.inl ⟨by rfl, ?y4c3_⟩) (by assumption) ?r4c3_
      case y4c3_ => (intro w hSw; (try dsimp only at hSw); go_simp; try with_reducible rfl)
      change wpAnyH _ _ _ _ _ _ _ (Act.put _ (some 28) _) _; simp only [Act.put, List.setIfInBounds_toArray, List.set_cons_zero, List.set_cons_succ]
      refine wpT (i := 5) (v := ?v5c3_) rfl (Or.inl ⟨by rfl, ?y5c3_⟩) (by assumption) ?r5c3_
      case y5c3_ => (intro w hSw; (try dsimp only at hSw); go_simp; try with_reducible rfl)
      change wpAnyH _ _ _ _ _ _ _ (Act.put _ (some 29) _) _; simp only [Act.put, List.setIfInBounds_toArray, List.set_cons_zero, List.set_cons_succ]
      refine wpT (i := 6) (v := ?v6c3_) rfl (Or.inl ⟨by rfl, ?y6c3_⟩) (by assumption) ?r6c3_
      case y6c3_ => (intro w hSw; (try dsimp only at hSw); go_simp; try with_reducible rfl)
      change wpAnyH _ _ _ _ _ _ _ (Act.put _ (some 30) _) _; simp only [Act.put, List.setIfInBounds_toArray, List.set_cons_zero, List.set_cons_succ]
      refine wpT (i := 7) (v := ?v7c3_) rfl (Or.inl ⟨by rfl, ?y7c3_⟩) (by assumption) ?r7c3_
      case y7c3_ => (intro w hSw; (try dsimp only at hSw); go_simp; try with_reducible rfl)
      change wpAnyH _ _ _ _ _ _ _ (Act.put _ (some 31) _) _; simp only [Act.put, List.setIfInBounds_toArray, List.set_cons_zero, List.set_cons_succ]
      refine wpT (i := 8) (v := ?v8c3_) rfl (Or.inl ⟨by rfl, ?y8c3_⟩) (by assumption) ?r8c3_
      case y8c3_ => (intro w hSw; (try dsimp only at hSw); go_simp; try with_reducible rfl)
      change wpAnyH _ _ _ _ _ _ _ (Act.put _ (some 32) _) _; simp only [Act.put, List.setIfInBounds_toArray, List.set_cons_zero, List.set_cons_succ]
      refine wpT (i := 9) (v := ?v9c3_) rfl (Or.inl ⟨by rfl, ?y9c3_⟩) (by assumption) ?r9c3_
      case y9c3_ => (intro w hSw; (try dsimp only at hSw); go_simp; try with_reducible rfl)
      change wpAnyH _ _ _ _ _ _ _ (Act.put _ (some 33) _) _; simp only [Act.put, List.setIfInBounds_toArray, List.set_cons_zero, List.set_cons_succ]
      refine wpT (i := 10) (v := ?v10c3_) rfl (Or.inl ⟨by rfl, ?y10c3_⟩) (by assumption) ?r10c3_
      case y10c3_ => (intro w hSw; (try dsimp only at hSw); go_simp; try with_reducible rfl)
      change wpAnyH _ _ _ _ _ _ _ (Act.put _ (some 34) _) _; simp only [Act.put, List.setIfInBounds_toArray, List.set_cons_zero, List.set_cons_succ]
      refine wpT (i := 11) (v := ?v11c3_) rfl (Or.inl ⟨by rfl, ?y11c3_⟩) (by assumption) ?r11c3_
      case y11c3_ => (intro w hSw; (try dsimp only at hSw); go_simp; try with_reducible rfl)
      change wpAnyH _ _ _ _ _ _ _ (Act.put _ (some 35) _) _; simp only [Act.put, List.setIfInBounds_toArray, List.set_cons_zero, List.set_cons_succ]
      refine wpT (i := 12) (v := ?v12c3_) rfl (Or.inl ⟨by rfl, ?y12c3_⟩) (by assumption) ?r12c3_
      case y12c3_ => (intro w hSw; (try dsimp only at hSw); go_simp; try with_reducible rfl)
      change wpAnyH _ _ _ _ _ _ _ (Act.put _ (some 36) _) _; simp only [Act.put, List.setIfInBounds_toArray, List.set_cons_zero, List.set_cons_succ]
      refine wpT (i := 13) (v := ?v13c3_) rfl (Or.inl ⟨by rfl, ?y13c3_⟩) (by assumption) ?r13c3_
      case y13c3_ => (intro w hSw; (try dsimp only at hSw); go_simp; try with_reducible rfl)
      change wpAnyH _ _ _ _ _ _ _ (Act.put _ (some 37) _) _; simp only [Act.put, List.setIfInBounds_toArray, List.set_cons_zero, List.set_cons_succ]
      refine wpT (i := 14) (v := ?v14c3_) rfl (Or.inl ⟨by rfl, ?y14c3_⟩) (by assumption) ?r14c3_
      case y14c3_ => (intro w hSw; have s1 := hSw.1; go_simp; try with_reducible rfl)
      change wpAnyH _ _ _ _ _ _ _ (Act.put _ (some 38) _) _; simp only [Act.put, List.setIfInBounds_toArray, List.set_cons_zero, List.set_cons_succ]
      refine wpT (i := 17) (v := ?v17c3_) rfl (Or.inl ⟨by rfl, ?y17c3_⟩) (by assumption) ?r17c3_
      case y17c3_ => (intro w hSw; (try dsimp only at hSw); go_simp; try with_reducible rfl)
      change wpAnyH _ _ _ _ _ _ _ (Act.put _ (some 41) _) _; simp only [Act.put, List.setIfInBounds_toArray, List.set_cons_zero, List.set_cons_succ]
      refine wpT (i := 18) (v := ?v18c3_) rfl (Or.inl ⟨by rfl, ?y18c3_⟩) (by assumption) ?r18c3_
      case y18c3_ => (intro w hSw; have s1 := hSw.2; go_simp; try with_reducible rfl)
      change wpAnyH _ _ _ _ _ _ _ (Act.put _ (some 42) _) _; simp only [Act.put, List.setIfInBounds_toArray, List.set_cons_zero, List.set_cons_succ]
      refine wpAnyH_ready (rs := [15]) (by kernel_rfl) (by simp) ?_
      refine AllReadyH.cons rfl (fun K hK => ?_) AllReadyH.nil
      go_simp
      refine (HBY.out).mono ?_
      rintro e w4 ⟨bv, rfl, hbt, hb4⟩
      have hb4 : Below w2.heap.size w2 w4 := undrewC hb4
      have HB4 := Lib.hid hb4
      have HKC := Lib.hid (show (convert 33 9 (.slice Ap P0.size cp)).run Tryz.prog w4 = .ok (.string P0) w4 ∧ (convert 33 9 (.slice Ab f.size cb)).run Tryz.prog w4 = .ok (.string f) w4 from ⟨HC1.out _ hb4, HC2.out _ hb4⟩)
      have hcb := (Bt.of_own hbt).conv
      obtain ⟨A4, c4, rfl⟩ := own_shape hbt
      clear hbt hb4
      dsimp only
      refine hK.out _ _ ?_ (fun hHeld => ?_)
      · exact HKC.out
      clear hK K
      try simp only [Act.put, List.setIfInBounds_toArray, List.set_cons_zero, List.set_cons_succ]
      refine wpAnyH_ready (rs := [16]) (by kernel_rfl) (by simp) ?_
      refine AllReadyH.cons rfl (fun K hK => ?_) AllReadyH.nil
      go_simp
      refine hK.out _ _ ?_ (fun hHeld => ?_)
      · exact HKC.out
      clear hK K
      try simp only [Act.put, List.setIfInBounds_toArray, List.set_cons_zero, List.set_cons_succ]
      refine wpT (i := 19) (v := ?v19c3_) rfl (Or.inl ⟨by rfl, ?y19c3_⟩) (by assumption) ?r19c3_
      case y19c3_ => (intro w hSw; (try dsimp only at hSw); go_simp; try with_reducible rfl)
      change wpAnyH _ _ _ _ _ _ _ (Act.put _ (some 43) _) _; simp only [Act.put, List.setIfInBounds_toArray, List.set_cons_zero, List.set_cons_succ]
      refine wpT (i := 20) (v := ?v20c3_) rfl (Or.inl ⟨by rfl, ?y20c3_⟩) (by assumption) ?r20c3_
      case y20c3_ => (intro w hSw; (try dsimp only at hSw); go_simp; try with_reducible rfl)
      change wpAnyH _ _ _ _ _ _ _ (Act.put _ (some 44) _) _; simp only [Act.put, List.setIfInBounds_toArray, List.set_cons_zero, List.set_cons_succ]
      refine wpT (i := 21) (v := ?v21c3_) rfl (Or.inl ⟨by rfl, ?y21c3_⟩) (by assumption) ?r21c3_
      case y21c3_ => (intro w hSw; (try dsimp only at hSw); go_simp; try with_reducible rfl)
      change wpAnyH _ _ _ _ _ _ _ (Act.put _ (some 45) _) _; simp only [Act.put, List.setIfInBounds_toArray, List.set_cons_zero, List.set_cons_succ]
      refine wpT (i := 22) (v := undef) rfl (Or.inr ⟨by rfl, rfl⟩) (by assumption) ?_
      change wpAnyH _ _ _ _ _ _ _ (Act.put _ (some 46) _) _; simp only [Act.put, List.setIfInBounds_toArray, List.set_cons_zero, List.set_cons_succ]
      refine wpT (i := 23) (v := undef) rfl (Or.inr ⟨by rfl, rfl⟩) (by assumption) ?_
      change wpAnyH _ _ _ _ _ _ _ (Act.put _ (some 47) _) _; simp only [Act.put, List.setIfInBounds_toArray, List.set_cons_zero, List.set_cons_succ]
      refine wpT (i := 24) (v := undef) rfl (Or.inr ⟨by rfl, rfl⟩) (by assumption) ?_
      change wpAnyH _ _ _ _ _ _ _ (Act.put _ (some 48) _) _; simp only [Act.put, List.setIfInBounds_toArray, List.set_cons_zero, List.set_cons_succ]
      refine wpT (i := 25) (v := undef) rfl (Or.inr ⟨by rfl, rfl⟩) (by assumption) ?_
      change wpAnyH _ _ _ _ _ _ _ (Act.put _ (some 49) _) _; simp only [Act.put, List.setIfInBounds_toArray, List.set_cons_zero, List.set_cons_succ]
      refine wpT (i := 26) (v := ?v26c3_) rfl (Or.inl ⟨by rfl, ?y26c3_⟩) (by assumption) ?r26c3_
      case y26c3_ => (intro w hSw; (try dsimp only at hSw); go_simp; try with_reducible rfl)
      change wpAnyH _ _ _ _ _ _ _ (Act.put _ (some 50) _) _; simp only [Act.put, List.setIfInBounds_toArray, List.set_cons_zero, List.set_cons_succ]
      refine wpAnyH_done (by kernel_rfl) ?_ _
      refine NoPanic.normal ?_
      refine Met.intro ?_
      go_step
      go_meet
      exact ⟨by rw [HD.out]; rfl, HB4.out⟩
    | true =>
      refine wp_region_noPanic ?_
      refine wp_region_held_drew (S := (fun w' => (convert 33 9 (.slice Ap P0.size cp)).run Tryz.prog w' = .ok (.string P0) w' ∧ (convert 33 9 (.slice Ab f.size cb)).run Tryz.prog w' = .ok (.string f) w')) (by kernel_rfl) ?_ (fun hHeld => ?_)
      · exact HKA.out
      refine wpT (i := 0) (v := ?v0d4_) rfl (Or.inl ⟨by rfl, ?y0d4_⟩) (by assumption) ?r0d4_
      case y0d4_ => (intro w hSw; (try dsimp only at hSw); go_simp; try with_reducible rfl)
      change wpAnyH _ _ _ _ _ _ _ (Act.put _ (some 24) _) _; simp only [Act.put, List.setIfInBounds_toArray, List.set_cons_zero, List.set_cons_succ]
      refine wpT (i := 1) (v := ?v1d4_) rfl (Or.inl ⟨by rfl, ?y1d4_⟩) (by assumption) ?r1d4_
      case y1d4_ => (intro w hSw; (try dsimp only at hSw); go_simp; try with_reducible rfl)
      change wpAnyH _ _ _ _ _ _ _ (Act.put _ (some 25) _) _; simp only [Act.put, List.setIfInBounds_toArray, List.set_cons_zero, List.set_cons_succ]
      refine wpT (i := 2) (v := ?v2d4_) rfl (Or.inl ⟨by rfl, ?y2d4_⟩) (by assumption) ?r2d4_
      case y2d4_ => (intro w hSw; (try dsimp only at hSw); go_simp; try with_reducible rfl)
      change wpAnyH _ _ _ _ _ _ _ (Act.put _ (some 26) _) _; simp only [Act.put, List.setIfInBounds_toArray, List.set_cons_zero, List.set_cons_succ]
      refine wpT (i := 3) (v := ?v3d4_) rfl (Or.inl ⟨by rfl, ?y3d4_⟩) (by assumption) ?r3d4_
      case y3d4_ => (intro w hSw; (try dsimp only at hSw); go_simp; try with_reducible rfl)
      change wpAnyH _ _ _ _ _ _ _ (Act.put _ (some 27) _) _; simp only [Act.put, List.setIfInBounds_toArray, List.set_cons_zero, List.set_cons_succ]
      refine wpT (i := 4) (v := ?v4d4_) rfl (Or.inl ⟨by rfl, ?y4d4_⟩) (by assumption) ?r4d4_
      case y4d4_ => (intro w hSw; (try dsimp only at hSw); go_simp; try with_reducible rfl)
      change wpAnyH _ _ _ _ _ _ _ (Act.put _ (some 28) _) _; simp only [Act.put, List.setIfInBounds_toArray, List.set_cons_zero, List.set_cons_succ]
      refine wpT (i := 5) (v := ?v5d4_) rfl (Or.inl ⟨by rfl, ?y5d4_⟩) (by assumption) ?r5d4_
      case y5d4_ => (intro w hSw; (try dsimp only at hSw); go_simp; try with_reducible rfl)
      change wpAnyH _ _ _ _ _ _ _ (Act.put _ (some 29) _) _; simp only [Act.put, List.setIfInBounds_toArray, List.set_cons_zero, List.set_cons_succ]
      refine wpT (i := 6) (v := ?v6d4_) rfl (Or.inl ⟨by rfl, ?y6d4_⟩) (by assumption) ?r6d4_
      case y6d4_ => (intro w hSw; (try dsimp only at hSw); go_simp; try with_reducible rfl)
      change wpAnyH _ _ _ _ _ _ _ (Act.put _ (some 30) _) _; simp only [Act.put, List.setIfInBounds_toArray, List.set_cons_zero, List.set_cons_succ]
      refine wpT (i := 7) (v := ?v7d4_) rfl (Or.inl ⟨by rfl, ?y7d4_⟩) (by assumption) ?r7d4_
      case y7d4_ => (intro w hSw; (try dsimp only at hSw); go_simp; try with_reducible rfl)
      change wpAnyH _ _ _ _ _ _ _ (Act.put _ (some 31) _) _; simp only [Act.put, List.setIfInBounds_toArray, List.set_cons_zero, List.set_cons_succ]
      refine wpT (i := 8) (v := ?v8d4_) rfl (Or.inl ⟨by rfl, ?y8d4_⟩) (by assumption) ?r8d4_
      case y8d4_ => (intro w hSw; (try dsimp only at hSw); go_simp; try with_reducible rfl)
      change wpAnyH _ _ _ _ _ _ _ (Act.put _ (some 32) _) _; simp only [Act.put, List.setIfInBounds_toArray, List.set_cons_zero, List.set_cons_succ]
      refine wpT (i := 9) (v := ?v9d4_) rfl (Or.inl ⟨by rfl, ?y9d4_⟩) (by assumption) ?r9d4_
      case y9d4_ => (intro w hSw; (try dsimp only at hSw); go_simp; try with_reducible rfl)
      change wpAnyH _ _ _ _ _ _ _ (Act.put _ (some 33) _) _; simp only [Act.put, List.setIfInBounds_toArray, List.set_cons_zero, List.set_cons_succ]
      refine wpT (i := 10) (v := ?v10d4_) rfl (Or.inl ⟨by rfl, ?y10d4_⟩) (by assumption) ?r10d4_
      case y10d4_ => (intro w hSw; (try dsimp only at hSw); go_simp; try with_reducible rfl)
      change wpAnyH _ _ _ _ _ _ _ (Act.put _ (some 34) _) _; simp only [Act.put, List.setIfInBounds_toArray, List.set_cons_zero, List.set_cons_succ]
      refine wpT (i := 11) (v := ?v11d4_) rfl (Or.inl ⟨by rfl, ?y11d4_⟩) (by assumption) ?r11d4_
      case y11d4_ => (intro w hSw; (try dsimp only at hSw); go_simp; try with_reducible rfl)
      change wpAnyH _ _ _ _ _ _ _ (Act.put _ (some 35) _) _; simp only [Act.put, List.setIfInBounds_toArray, List.set_cons_zero, List.set_cons_succ]
      refine wpT (i := 12) (v := ?v12d4_) rfl (Or.inl ⟨by rfl, ?y12d4_⟩) (by assumption) ?r12d4_
      case y12d4_ => (intro w hSw; (try dsimp only at hSw); go_simp; try with_reducible rfl)
      change wpAnyH _ _ _ _ _ _ _ (Act.put _ (some 36) _) _; simp only [Act.put, List.setIfInBounds_toArray, List.set_cons_zero, List.set_cons_succ]
      refine wpT (i := 13) (v := ?v13d4_) rfl (Or.inl ⟨by rfl, ?y13d4_⟩) (by assumption) ?r13d4_
      case y13d4_ => (intro w hSw; (try dsimp only at hSw); go_simp; try with_reducible rfl)
      change wpAnyH _ _ _ _ _ _ _ (Act.put _ (some 37) _) _; simp only [Act.put, List.setIfInBounds_toArray, List.set_cons_zero, List.set_cons_succ]
      refine wpT (i := 14) (v := ?v14d4_) rfl (Or.inl ⟨by rfl, ?y14d4_⟩) (by assumption) ?r14d4_
      case y14d4_ => (intro w hSw; have s1 := hSw.1; go_simp; try with_reducible rfl)
      change wpAnyH _ _ _ _ _ _ _ (Act.put _ (some 38) _) _; simp only [Act.put, List.setIfInBounds_toArray, List.set_cons_zero, List.set_cons_succ]
      refine wpT (i := 17) (v := ?v17d4_) rfl (Or.inl ⟨by rfl, ?y17d4_⟩) (by assumption) ?r17d4_
      case y17d4_ => (intro w hSw; (try dsimp only at hSw); go_simp; try with_reducible rfl)
      change wpAnyH _ _ _ _ _ _ _ (Act.put _ (some 41) _) _; simp only [Act.put, List.setIfInBounds_toArray, List.set_cons_zero, List.set_cons_succ]
      refine wpT (i := 18) (v := ?v18d4_) rfl (Or.inl ⟨by rfl, ?y18d4_⟩) (by assumption) ?r18d4_
      case y18d4_ => (intro w hSw; have s1 := hSw.2; go_simp; try with_reducible rfl)
      change wpAnyH _ _ _ _ _ _ _ (Act.put _ (some 42) _) _; simp only [Act.put, List.setIfInBounds_toArray, List.set_cons_zero, List.set_cons_succ]
      refine wpAnyH_ready (rs := [15]) (by kernel_rfl) (by simp) ?_
      refine AllReadyH.cons rfl (fun K hK => ?_) AllReadyH.nil
      go_simp
      refine (HBY.out).mono ?_
      rintro e w4 ⟨bv, rfl, hbt, hb4⟩
      have hb4 : Below w2.heap.size w2 w4 := undrewC hb4
      have HB4 := Lib.hid hb4
      have HKC := Lib.hid (show (convert 33 9 (.slice Ap P0.size cp)).run Tryz.prog w4 = .ok (.string P0) w4 ∧ (convert 33 9 (.slice Ab f.size cb)).run Tryz.prog w4 = .ok (.string f) w4 from ⟨HC1.out _ hb4, HC2.out _ hb4⟩)
      have hcb := (Bt.of_own hbt).conv
      obtain ⟨A4, c4, rfl⟩ := own_shape hbt
      clear hbt hb4
      dsimp only
      refine hK.out _ _ ?_ (fun hHeld => ?_)
      · exact HKC.out
      clear hK K
      try simp only [Act.put, List.setIfInBounds_toArray, List.set_cons_zero, List.set_cons_succ]
      refine wpAnyH_ready (rs := [16]) (by kernel_rfl) (by simp) ?_
      refine AllReadyH.cons rfl (fun K hK => ?_) AllReadyH.nil
      go_simp
      refine hK.out _ _ ?_ (fun hHeld => ?_)
      · exact HKC.out
      clear hK K
      try simp only [Act.put, List.setIfInBounds_toArray, List.set_cons_zero, List.set_cons_succ]
      refine wpT (i := 19) (v := ?v19d4_) rfl (Or.inl ⟨by rfl, ?y19d4_⟩) (by assumption) ?r19d4_
      case y19d4_ => (intro w hSw; (try dsimp only at hSw); go_simp; try with_reducible rfl)
      change wpAnyH _ _ _ _ _ _ _ (Act.put _ (some 43) _) _; simp only [Act.put, List.setIfInBounds_toArray, List.set_cons_zero, List.set_cons_succ]
      refine wpT (i := 20) (v := ?v20d4_) rfl (Or.inl ⟨by rfl, ?y20d4_⟩) (by assumption) ?r20d4_
      case y20d4_ => (intro w hSw; (try dsimp only at hSw); go_simp; try with_reducible rfl)
      change wpAnyH _ _ _ _ _ _ _ (Act.put _ (some 44) _) _; simp only [Act.put, List.setIfInBounds_toArray, List.set_cons_zero, List.set_cons_succ]
      refine wpT (i := 21) (v := ?v21d4_) rfl (Or.inl ⟨by rfl, ?y21d4_⟩) (by assumption) ?r21d4_
      case y21d4_ => (intro w hSw; (try dsimp only at hSw); go_simp; try with_reducible rfl)
      change wpAnyH _ _ _ _ _ _ _ (Act.put _ (some 45) _) _; simp only [Act.put, List.setIfInBounds_toArray, List.set_cons_zero, List.set_cons_succ]
      refine wpT (i := 22) (v := ?v22d4_) rfl (Or.inl ⟨by rfl, ?y22d4_⟩) (by assumption) ?r22d4_
      case y22d4_ => (intro w hSw; (try dsimp only at hSw); go_simp; try with_reducible rfl)
      change wpAnyH _ _ _ _ _ _ _ (Act.put _ (some 46) _) _; simp only [Act.put, List.setIfInBounds_toArray, List.set_cons_zero, List.set_cons_succ]
      refine wpT (i := 23) (v := ?v23d4_) rfl (Or.inl ⟨by rfl, ?y23d4_⟩) (by assumption) ?r23d4_
      case y23d4_ => (intro w hSw; (try dsimp only at hSw); go_simp; try with_reducible rfl)
      change wpAnyH _ _ _ _ _ _ _ (Act.put _ (some 47) _) _; simp only [Act.put, List.setIfInBounds_toArray, List.set_cons_zero, List.set_cons_succ]
      refine wpT (i := 24) (v := ?v24d4_) rfl (Or.inl ⟨by rfl, ?y24d4_⟩) (by assumption) ?r24d4_
      case y24d4_ => (intro w hSw; (try dsimp only at hSw); go_simp; try with_reducible rfl)
      change wpAnyH _ _ _ _ _ _ _ (Act.put _ (some 48) _) _; simp only [Act.put, List.setIfInBounds_toArray, List.set_cons_zero, List.set_cons_succ]
      refine wpT (i := 25) (v := ?v25d4_) rfl (Or.inl ⟨by rfl, ?y25d4_⟩) (by assumption) ?r25d4_
      case y25d4_ => (intro w hSw; (try dsimp only at hSw); go_simp; try with_reducible rfl)
      change wpAnyH _ _ _ _ _ _ _ (Act.put _ (some 49) _) _; simp only [Act.put, List.setIfInBounds_toArray, List.set_cons_zero, List.set_cons_succ]
      refine wpT (i := 26) (v := ?v26d4_) rfl (Or.inl ⟨by rfl, ?y26d4_⟩) (by assumption) ?r26d4_
      case y26d4_ => (intro w hSw; (try dsimp only at hSw); go_simp; try with_reducible rfl)
      change wpAnyH _ _ _ _ _ _ _ (Act.put _ (some 50) _) _; simp only [Act.put, List.setIfInBounds_toArray, List.set_cons_zero, List.set_cons_succ]
      refine wpAnyH_done (by kernel_rfl) ?_ _
      refine NoPanic.normal ?_
      refine Met.intro ?_
      go_step
      go_meet
      exact ⟨by rw [HD.out]; rfl, HB4.out⟩
  case rest =>
  as_aux_lemma =>
  obtain ⟨rfl, hb3⟩ := hcut
  have HBT3 := Lib.hid (HBT.out.below hb3); have HB3 := Lib.hid (HB2.out.trans (hb3.mono HB2.out.size))
  clear hb3 HBT HB2
  by_cases hbad : E ≠ 0 ∨ dataC n f = none
  · have hd : decide (E ≠ 0 ∨ dataC n f = none) = true := decide_eq_true hbad
    have HF := Lib.hid (show RReadC w Q (.returned (.tuple #[.string ByteArray.empty, .int .i64 190])) wc by
      rw [HQ2.out]
      rcases hbad with h | h
      · rw [if_pos h]; exact ⟨rfl, HB3.out⟩
      · by_cases h0 : E ≠ 0
        · rw [if_pos h0]; exact ⟨rfl, HB3.out⟩
        · rw [if_neg h0]; unfold readF; rw [h]; exact ⟨rfl, HB3.out⟩)
    rw [hd]
    clear HQ2 hbad hd
    go_wp2
    go_ret2
    exact HF.out
  · have hd : decide (E ≠ 0 ∨ dataC n f = none) = false := decide_eq_false hbad
    obtain ⟨pl, hpl⟩ : ∃ pl, dataC n f = some pl := by
      cases hx : dataC n f with
      | none => exact absurd (.inr hx) hbad
      | some pl => exact ⟨pl, rfl⟩
    have hE0 : ¬ E ≠ 0 := fun h => hbad (.inl h)
    have HF := Lib.hid (show RReadC w Q (.returned (.tuple #[.string pl, .int .i64 0])) wc by
      rw [HQ2.out, if_neg hE0]; unfold readF; rw [hpl]; exact ⟨rfl, HB3.out⟩)
    have h17 : 17 ≤ f.size ∧ f.extract 13 (f.size - 4) = pl := by
      unfold dataC at hpl
      split at hpl
      · rename_i h; injection hpl with hpl; exact ⟨h.1, hpl⟩
      · cases hpl
    obtain ⟨h17, hpe⟩ := h17
    obtain ⟨pv, hsl, hpv⟩ := HBT3.out.piece 13 (f.size - 4) (by omega) (by omega)
    have hjs : ((f.size - 4 : Nat) : Int) = (f.size : Int) - 4 := by omega
    have h13 : ((13 : Nat) : Int) = 13 := rfl
    rw [hjs, h13] at hsl
    rw [hpe] at hpv
    obtain ⟨Ap, cp, rfl, -, -⟩ := id hpv
    have hcv : (convert 33 9 (.slice Ap pl.size cp)).run Tryz.prog wc = .ok (.string pl) wc := hpv.conv
    rw [hd]
    clear HQ2 hbad hd hpl hE0 hpe hjs hpv
    go_wp2
    go_ret2
    exact HF.out
theorem rcread_any (w : World) (B p gs : Nat) (R : RDisk) (h : RkIs w B p R) (hf : RFit R) (hs : RcSt w gs p) (step : Int) (hb : ∀ t, (R.read t).2.size ≤ 9900) :
    Calls Tryz.prog 76 #[.pointer (some ⟨gs, 0, none⟩), .int .i64 step] w (RReadC w (readRC R step)) := by
  by_cases hr : step < 0 ∨ 1073741824 < step
  case neg =>
    obtain ⟨n, rfl⟩ : ∃ n : Nat, step = (n : Int) := ⟨step.toNat, by omega⟩
    exact rcread_yes w B p gs R h hf hs n (by omega) (hb _)
  have hq : readRC R step = (2, ByteArray.empty) := by unfold readRC; rw [if_pos hr]
  rw [hq]
  have HM := Lib.hid (rcmay_any w step)
  rw [decide_eq_false (by omega)] at HM
  clear h hf hs hb hq
  go_enter Tryz.func76, Tryz.ntmps76
  go_wp2_with fail
  refine HM.out.mono ?_
  rintro e w1 ⟨rfl, rfl⟩
  go_wp2
  go_ret2
  exact ⟨rfl, Below.refl _ _⟩
end Go.Proofs.YthmcimpdehgaoaaGreatDoor
