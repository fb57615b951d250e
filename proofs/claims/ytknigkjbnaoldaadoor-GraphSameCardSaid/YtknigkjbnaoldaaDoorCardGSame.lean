/- GraphSame: of any two graphs it is told whether they are the same. The row of GraphSame and its card: the law holds for every input. -/
import Derived.Test.YtknigkjbnaoldaaDoorGrPr
import Derived.Test.YtknigkjbnaoldaaDoorOpenG
import Derived.Test.YtknigkjbnaoldaaDoorCards
import Derived.Test.YtknigkjbnaoldaaDoorTie
import Derived.WalkKit
import Derived.ProofKit
import Derived.OpenShut
import Derived.Deep.DeepHandedRow
import Derived.Lib.LaidTab
import Derived.WalkArith
namespace Go.Proofs.YtknigkjbnaoldaaDoor
open Go.RowKit

theorem light_at (n : Int) (A : Option Addr) (k c : Nat) (top : Int) (b : Bool) (w : World) (h : decide ((k : Int) ≤ top) = b) : Calls Tryd.prog 13 #[.agg #[.int .i64 n, .slice A k c], .int .i64 top] w fun r w' => r = .returned (.bool b) ∧ Below w.heap.size w w' := by
  have := light_any n A k c top w
  rwa [h] at this
/-- two graphs in boxes, and what was there -/
structure TBox (w wr : World) (n : Int) (A : Option Addr) (k c : Nat) (m : Int) (B : Option Addr) (k' d : Nat) : Prop where
  below : Below w.heap.size w wr
  box0 : Blk wr w.heap.size 25 #[.int .i64 n, .slice A k c]
  box1 : Blk wr (w.heap.size + 1) 25 #[.int .i64 m, .slice B k' d]
theorem TBox.start (w : World) (n : Int) (A : Option Addr) (k c : Nat) (m : Int) (B : Option Addr) (k' d : Nat) : TBox w ((w.alloc (.cells #[.int .i64 n, .slice A k c] 25)).alloc (.cells #[.int .i64 m, .slice B k' d] 25)) n A k c m B k' d := by
  have h2 := Blk.new (w.alloc (.cells #[.int .i64 n, .slice A k c] 25)) 25 #[.int .i64 m, .slice B k' d]
  rw [show (w.alloc (.cells #[.int .i64 n, .slice A k c] 25)).heap.size = w.heap.size + 1 by simp] at h2
  exact ⟨((Below.refl _ _).alloc (Nat.le_refl _) _).alloc (by simp) _, (Blk.new w _ _).alloc _, h2⟩
theorem TBox.step {w wr w' : World} {n : Int} {A : Option Addr} {k c : Nat} {m : Int} {B : Option Addr} {k' d : Nat} (h : TBox w wr n A k c m B k' d) (hb : Below wr.heap.size wr w') : TBox w w' n A k c m B k' d :=
  ⟨h.below.trans (hb.mono h.below.size), h.box0.below hb h.box0.lt, h.box1.below hb h.box1.lt⟩
theorem TBox.cells {w wr : World} {n : Int} {A : Option Addr} {k c : Nat} {m : Int} {B : Option Addr} {k' d : Nat} (h : TBox w wr n A k c m B k' d) : wr.cell? ⟨w.heap.size, 0, none⟩ = some (.int .i64 n) ∧ wr.cell? ⟨w.heap.size, 1, none⟩ = some (.slice A k c) ∧ wr.cell? ⟨w.heap.size + 1, 0, none⟩ = some (.int .i64 m) ∧ wr.cell? ⟨w.heap.size + 1, 1, none⟩ = some (.slice B k' d) :=
  ⟨h.box0.cell 0, h.box0.cell 1, h.box1.cell 0, h.box1.cell 1⟩
set_option maxRecDepth 100000 in
set_option maxHeartbeats 4000000 in
theorem lawSame_any (w : World) (n m : Int) (A B : Option Addr) (c d : Nat) (xs ys : List Edg) (ha : Rs edgC 3 w A xs) (hb : Rs edgC 3 w B ys) (hF : Firsts w) :
    Calls Tryd.prog 5 #[.agg #[.int .i64 n, .slice A xs.length c], .agg #[.int .i64 m, .slice B ys.length d]] w fun e w' => e = .returned (.bool true) ∧ Below w.heap.size w w' := by
  have hz := firsts_lt hF
  have hS := TBox.start w n A xs.length c m B ys.length d
  by_cases h1 : (xs.length : Int) ≤ 300
  · by_cases h2 : (ys.length : Int) ≤ 300
    · have hs1 := fun W => light_at n A xs.length c 300 true W (decide_eq_true h1)
      have hs2 := fun W => light_at m B ys.length d 300 true W (decide_eq_true h2)
      have hPS := fun W (hW : Below w.heap.size w W) => same_any W n m A B c d xs ys (ha.below hW) (hb.below hW) (by omega)
      have hRS := fun W (hW : Below w.heap.size w W) => refSame_any W n m A B c d xs ys (ha.below hW) (hb.below hW) (by omega)
      have hAA := fun W (hW : Below w.heap.size w W) => same_any W n n A A c c xs xs (ha.below hW) (ha.below hW) (by omega)
      rw [decide_eq_true (show n = n ∧ xs = xs from ⟨rfl, rfl⟩)] at hAA
      generalize decide (n = m ∧ xs = ys) = r at hPS hRS
      have hrr : (r == r) = true := beq_self_eq_true r
      have HS := Lib.hid hS; have H1 := Lib.hid hs1; have H2 := Lib.hid hs2; have HPS := Lib.hid hPS; have HRS := Lib.hid hRS; have HAA := Lib.hid hAA; have HF := Lib.hid hF
      clear hS hs1 hs2 hPS hRS hAA ha hb hF h1 h2
      go_enter Tryd.func5, Tryd.ntmps5
      go_wp2_with fail
      refine (H1.out _).mono ?_
      rintro e x1 ⟨rfl, hb1⟩
      have HS1 := Lib.hid (HS.out.step hb1)
      clear hb1 HS
      obtain ⟨g0, g1, g2, g3⟩ := HS1.out.cells
      go_wp2_with fail
      refine (H2.out _).mono ?_
      clear g0 g1 g2 g3
      rintro e x2 ⟨rfl, hb2⟩
      have HS2 := Lib.hid (HS1.out.step hb2)
      clear hb2 HS1
      have hss : ∀ w', Below x2.heap.size x2 w' → w'.cell? ⟨w.heap.size, 0, none⟩ = some (.int .i64 n) ∧ w'.cell? ⟨w.heap.size, 1, none⟩ = some (.slice A xs.length c) ∧ w'.cell? ⟨w.heap.size + 1, 0, none⟩ = some (.int .i64 m) ∧ w'.cell? ⟨w.heap.size + 1, 1, none⟩ = some (.slice B ys.length d) := fun w' hb' => ⟨(HS2.out.step hb').cells.1, (HS2.out.step hb').cells.2.1, (HS2.out.step hb').cells.2.2.1, (HS2.out.step hb').cells.2.2.2⟩
      have HSS := Lib.hid hss
      clear hss
      go_wp2_with fail
      refine wp_region_noPanic ?_
      refine wp_region_held_drew (S := (fun w' => w'.cell? ⟨w.heap.size, 0, none⟩ = some (.int .i64 n) ∧ w'.cell? ⟨w.heap.size, 1, none⟩ = some (.slice A xs.length c) ∧ w'.cell? ⟨w.heap.size + 1, 0, none⟩ = some (.int .i64 m) ∧ w'.cell? ⟨w.heap.size + 1, 1, none⟩ = some (.slice B ys.length d))) (by kernel_rfl) ?_ (fun hHeld => ?_)
      · exact HSS.out _ (below_drewN (Below.refl _ _) 1)
      refine wpAnyH_take (i := 0) (v := ?v0g1_) rfl (by kernel_rfl) (by kernel_rfl) (by kernel_rfl) (fun _ _ _ h => h) (Or.inl ⟨by rfl, ?y0g1_⟩) (by assumption) ?r0g1_
      case y0g1_ => (intro w hSw; (try dsimp only at hSw); go_simp; try with_reducible rfl)
      change wpAnyH _ _ _ _ _ _ _ (Act.put _ (some 14) _) _; simp only [Act.put, List.setIfInBounds_toArray, List.set_cons_zero, List.set_cons_succ]
      refine wpAnyH_take (i := 1) (v := ?v1g1_) rfl (by kernel_rfl) (by kernel_rfl) (by kernel_rfl) (fun _ _ _ h => h) (Or.inl ⟨by rfl, ?y1g1_⟩) (by assumption) ?r1g1_
      case y1g1_ => (intro w hSw; (try dsimp only at hSw); go_simp; try with_reducible rfl)
      change wpAnyH _ _ _ _ _ _ _ (Act.put _ (some 15) _) _; simp only [Act.put, List.setIfInBounds_toArray, List.set_cons_zero, List.set_cons_succ]
      refine wpAnyH_take (i := 3) (v := ?v3g1_) rfl (by kernel_rfl) (by kernel_rfl) (by kernel_rfl) (fun _ _ _ h => h) (Or.inl ⟨by rfl, ?y3g1_⟩) (by assumption) ?r3g1_
      case y3g1_ => (intro w hSw; (try dsimp only at hSw); go_simp; try with_reducible rfl)
      change wpAnyH _ _ _ _ _ _ _ (Act.put _ (some 17) _) _; simp only [Act.put, List.setIfInBounds_toArray, List.set_cons_zero, List.set_cons_succ]
      refine wpAnyH_take (i := 4) (v := ?v4g1_) rfl (by kernel_rfl) (by kernel_rfl) (by kernel_rfl) (fun _ _ _ h => h) (Or.inl ⟨by rfl, ?y4g1_⟩) (by assumption) ?r4g1_
      case y4g1_ => (intro w hSw; (try dsimp only at hSw); go_simp; try with_reducible rfl)
      change wpAnyH _ _ _ _ _ _ _ (Act.put _ (some 18) _) _; simp only [Act.put, List.setIfInBounds_toArray, List.set_cons_zero, List.set_cons_succ]
      refine wpAnyH_ready (rs := [2]) (by kernel_rfl) (by simp) ?_
      refine AllReadyH.cons rfl (fun K hK => ?_) AllReadyH.nil
      go_simp
      refine (HPS.out _ (below_drewN HS2.out.below 1)).mono ?_
      rintro e x3 ⟨rfl, hb3⟩
      have HB3 := Lib.hid (undrew hb3)
      clear hb3
      dsimp only
      refine hK.out _ _ ?_ (fun hHeld => ?_)
      · exact HSS.out _ HB3.out
      clear hK K
      try simp only [Act.put, List.setIfInBounds_toArray, List.set_cons_zero, List.set_cons_succ]
      refine wpAnyH_ready (rs := [5]) (by kernel_rfl) (by simp) ?_
      refine AllReadyH.cons rfl (fun K hK => ?_) AllReadyH.nil
      go_simp
      refine (HRS.out _ (HS2.out.step HB3.out).below).mono ?_
      rintro e x4 ⟨rfl, hb4⟩
      have HB4 := Lib.hid (HB3.out.trans (hb4.mono HB3.out.size))
      clear hb4
      dsimp only
      refine hK.out _ _ ?_ (fun hHeld => ?_)
      · exact HSS.out _ HB4.out
      clear hK K
      try simp only [Act.put, List.setIfInBounds_toArray, List.set_cons_zero, List.set_cons_succ]
      refine wpAnyH_take (i := 6) (v := ?v6g1_) rfl (by kernel_rfl) (by kernel_rfl) (by kernel_rfl) (fun _ _ _ h => h) (Or.inl ⟨by rfl, ?y6g1_⟩) (by assumption) ?r6g1_
      case y6g1_ => (intro w hSw; (try dsimp only at hSw); go_simp; try with_reducible rfl)
      change wpAnyH _ _ _ _ _ _ _ (Act.put _ (some 20) _) _; simp only [Act.put, List.setIfInBounds_toArray, List.set_cons_zero, List.set_cons_succ]
      refine wpAnyH_take (i := 7) (v := ?v7g1_) rfl (by kernel_rfl) (by kernel_rfl) (by kernel_rfl) (fun _ _ _ h => h) (Or.inl ⟨by rfl, ?y7g1_⟩) (by assumption) ?r7g1_
      case y7g1_ => (intro w hSw; (try dsimp only at hSw); go_simp; try with_reducible rfl)
      change wpAnyH _ _ _ _ _ _ _ (Act.put _ (some 21) _) _; simp only [Act.put, List.setIfInBounds_toArray, List.set_cons_zero, List.set_cons_succ]
      refine wpAnyH_take (i := 8) (v := ?v8g1_) rfl (by kernel_rfl) (by kernel_rfl) (by kernel_rfl) (fun _ _ _ h => h) (Or.inl ⟨by rfl, ?y8g1_⟩) (by assumption) ?r8g1_
      case y8g1_ => (intro w hSw; (try dsimp only at hSw); go_simp; try with_reducible rfl)
      change wpAnyH _ _ _ _ _ _ _ (Act.put _ (some 22) _) _; simp only [Act.put, List.setIfInBounds_toArray, List.set_cons_zero, List.set_cons_succ]
      refine wpAnyH_take (i := 9) (v := ?v9g1_) rfl (by kernel_rfl) (by kernel_rfl) (by kernel_rfl) (fun _ _ _ h => h) (Or.inl ⟨by rfl, ?y9g1_⟩) (by assumption) ?r9g1_
      case y9g1_ => (intro w hSw; (try dsimp only at hSw); go_simp; try with_reducible rfl)
      change wpAnyH _ _ _ _ _ _ _ (Act.put _ (some 23) _) _; simp only [Act.put, List.setIfInBounds_toArray, List.set_cons_zero, List.set_cons_succ]
      refine wpAnyH_ready (rs := [10]) (by kernel_rfl) (by simp) ?_
      refine AllReadyH.cons rfl (fun K hK => ?_) AllReadyH.nil
      go_simp
      refine (HAA.out _ (HS2.out.step HB4.out).below).mono ?_
      rintro e x5 ⟨rfl, hb5⟩
      have HB5 := Lib.hid (HB4.out.trans (hb5.mono HB4.out.size))
      clear hb5
      dsimp only
      refine hK.out _ _ ?_ (fun hHeld => ?_)
      · exact HSS.out _ HB5.out
      clear hK K
      try simp only [Act.put, List.setIfInBounds_toArray, List.set_cons_zero, List.set_cons_succ]
      refine wpAnyH_take (i := 11) (v := ?v11g1_) rfl (by kernel_rfl) (by kernel_rfl) (by kernel_rfl) (fun _ _ _ h => h) (Or.inl ⟨by rfl, ?y11g1_⟩) (by assumption) ?r11g1_
      case y11g1_ => (intro w hSw; (try dsimp only at hSw); go_simp; try with_reducible rfl)
      change wpAnyH _ _ _ _ _ _ _ (Act.put _ (some 25) _) _; simp only [Act.put, List.setIfInBounds_toArray, List.set_cons_zero, List.set_cons_succ]
      refine wpAnyH_take (i := 12) (v := ?v12g1_) rfl (by kernel_rfl) (by kernel_rfl) (by kernel_rfl) (fun _ _ _ h => h) (Or.inl ⟨by rfl, ?y12g1_⟩) (by assumption) ?r12g1_
      case y12g1_ => (intro w hSw; (try dsimp only at hSw); go_simp; try with_reducible rfl)
      change wpAnyH _ _ _ _ _ _ _ (Act.put _ (some 26) _) _; simp only [Act.put, List.setIfInBounds_toArray, List.set_cons_zero, List.set_cons_succ]
      refine wpAnyH_ready (rs := [13]) (by kernel_rfl) (by simp) ?_
      refine AllReadyH.cons rfl (fun K hK => ?_) AllReadyH.nil
      go_simp
      refine (works_any _ (firsts_below HF.out (HS2.out.step HB5.out).below hz)).mono ?_
      rintro e x6 ⟨rfl, hb6⟩
      have HB6 := Lib.hid (HB5.out.trans (hb6.mono HB5.out.size))
      clear hb6
      dsimp only
      refine hK.out _ _ ?_ (fun hHeld => ?_)
      · exact HSS.out _ HB6.out
      clear hK K
      try simp only [Act.put, List.setIfInBounds_toArray, List.set_cons_zero, List.set_cons_succ]
      refine wpAnyH_take (i := 14) (v := ?v14g1_) rfl (by kernel_rfl) (by kernel_rfl) (by kernel_rfl) (fun _ _ _ h => h) (Or.inl ⟨by rfl, ?y14g1_⟩) (by assumption) ?r14g1_
      case y14g1_ => (intro w hSw; (try dsimp only at hSw); go_simp; try with_reducible rfl)
      change wpAnyH _ _ _ _ _ _ _ (Act.put _ (some 28) _) _; simp only [Act.put, List.setIfInBounds_toArray, List.set_cons_zero, List.set_cons_succ]
      refine wpAnyH_take (i := 15) (v := ?v15g1_) rfl (by kernel_rfl) (by kernel_rfl) (by kernel_rfl) (fun _ _ _ h => h) (Or.inl ⟨by rfl, ?y15g1_⟩) (by assumption) ?r15g1_
      case y15g1_ => (intro w hSw; (try dsimp only at hSw); go_simp; try with_reducible rfl)
      change wpAnyH _ _ _ _ _ _ _ (Act.put _ (some 4) _) _; simp only [Act.put, List.setIfInBounds_toArray, List.set_cons_zero, List.set_cons_succ]
      refine wpAnyH_done (by kernel_rfl) ?_ _
      refine NoPanic.normal ?_
      have HFIN := Lib.hid (HS2.out.step HB6.out).below
      clear HSS
      go_wp2
      go_ret
      exact ⟨rfl, HFIN.out⟩
    · have hs1 := fun W => light_at n A xs.length c 300 true W (decide_eq_true h1)
      have hs2 := fun W => light_at m B ys.length d 300 false W (decide_eq_false h2)
      have HS := Lib.hid hS; have H1 := Lib.hid hs1; have H2 := Lib.hid hs2; have HF := Lib.hid hF
      clear hS hs1 hs2 ha hb hF h1 h2
      go_enter Tryd.func5, Tryd.ntmps5
      go_wp2_with fail
      refine (H1.out _).mono ?_
      rintro e x1 ⟨rfl, hb1⟩
      have HS1 := Lib.hid (HS.out.step hb1)
      clear hb1 HS
      obtain ⟨g0, g1, g2, g3⟩ := HS1.out.cells
      go_wp2_with fail
      refine (H2.out _).mono ?_
      clear g0 g1 g2 g3
      rintro e x2 ⟨rfl, hb2⟩
      have HS2 := Lib.hid (HS1.out.step hb2)
      clear hb2 HS1
      go_wp2_with fail
      refine (works_any _ (firsts_below HF.out HS2.out.below hz)).mono ?_
      rintro e x3 ⟨rfl, hb3⟩
      have HB3 := Lib.hid (HS2.out.step hb3).below
      clear hb3
      go_wp2
      go_ret
      exact ⟨rfl, HB3.out⟩
  · have hs1 := fun W => light_at n A xs.length c 300 false W (decide_eq_false h1)
    have HS := Lib.hid hS; have H1 := Lib.hid hs1; have HF := Lib.hid hF
    clear hS hs1 ha hb hF h1
    go_enter Tryd.func5, Tryd.ntmps5
    go_wp2_with fail
    refine (H1.out _).mono ?_
    rintro e x1 ⟨rfl, hb1⟩
    have HS1 := Lib.hid (HS.out.step hb1)
    clear hb1 HS
    go_wp2_with fail
    refine (works_any _ (firsts_below HF.out HS1.out.below hz)).mono ?_
    rintro e x2 ⟨rfl, hb2⟩
    have HB2 := Lib.hid (HS1.out.step hb2).below
    clear hb2
    go_wp2
    go_ret
    exact ⟨rfl, HB2.out⟩
end Go.Proofs.YtknigkjbnaoldaaDoor
namespace Go.Proofs.YtknigkjbnaoldaaDoor.graphSameCard
open Go.ChangeShapes Go.WideShapes Go.ChangeAt Go.RowKit
open Go.ChangeMaps (open_string shut_string)

theorem own : ownKnob Tryd.prog.godebug = none := by kernel_rfl
theorem laidOut : laidOutB Tryd.prog = true := by kernel_rfl
theorem gTab : Tryd.prog.globalNamed "treadwheel/words.firsts" = some 0 := by kernel_rfl
theorem gTabType : (Tryd.prog.globals[0]?).map (·.type) = some 96 := by kernel_rfl
theorem cellsT : Tryd.prog.cellsOf 96 = 3 := by kernel_rfl
theorem cellsE : Tryd.prog.cellsOf 21 = 1 := by kernel_rfl
theorem table {W : World} (h : laidMetH Tryd.prog Rows.graphSameRow.laid W) : Lib.TabIs Tryd.prog W "treadwheel/words.firsts" .i32 [48, 1632, 65296] :=
  Lib.tabIs_of_head (rest := []) gTab gTabType Tryd.underlying96 Tryd.underlying21 cellsE cellsT h
theorem firsts {W : World} (h : laidMetH Tryd.prog Rows.graphSameRow.laid W) : Firsts W :=
  ⟨(table h).cell gTab 0 (by decide), (table h).cell gTab 1 (by decide), (table h).cell gTab 2 (by decide)⟩
theorem params_ok : ∀ t ∈ Tryd.f5.params.toList, Tryd.prog.readableRec t = true ∧ t < Tryd.prog.types.size := by
  have h : (Tryd.f5.params.toList.all fun t => Tryd.prog.readableRec t && decide (t < Tryd.prog.types.size)) = true := by kernel_rfl
  intro t ht
  have := List.all_eq_true.1 h t ht
  simpa using this
set_option maxRecDepth 100000 in
theorem contract (H : Type) (enc : TypeId × Value → H) (W : World) (base : Nat) (args : Array Value) (ds gs : List (DataW H)) (before : List MemPlace)
    (hval : ∀ (j : Nat) t v, Tryd.f5.params[j]? = some t → args[j]? = some v → Value.okWide Tryd.prog W .any base t v)
    (hW : DataW.Whole enc Tryd.prog Tryd.f5.params.toList Rows.graphSameSpec.vars false W args.toList ds gs before) (hL : laidMetH Tryd.prog Rows.graphSameRow.laid W) :
    Calls Tryd.prog 5 args W fun e W' => ∃ v, e = .returned v ∧ Rows.graphSameSpec.post enc Tryd.prog Tryd.f5 false true false false W args v W' := by
  have hW' := hW
  obtain ⟨p, q, hA0, hV, rfl, hfz, hnd⟩ := hW
  have hA : DataW.TrodAll enc Tryd.prog W 0 (fun _ => true) true Tryd.f5.params.toList args.toList ds p := hA0
  have hA1 := hA
  rw [Tryd.params5] at hA hval
  obtain ⟨v0, vs0, d0, ds0, p0, q0, hargs, rfl, rfl, h0, r0⟩ := trodAll_cons hA
  obtain ⟨v1, vs1, d1, ds1, p1, q1, rfl, rfl, rfl, h1, r1⟩ := trodAll_cons r0
  obtain ⟨rfl, rfl, rfl⟩ := trodAll_nil r1
  obtain rfl : args = #[v0, v1] := by cases args; simp_all
  obtain ⟨rfl, rfl⟩ := trodVars_none hV
  obtain ⟨n0, A0, l0, c0, rfl, k0, m0, x0, b0, y0⟩ := open_graph (hval 0 25 v0 rfl rfl) h0
  obtain ⟨n1, A1, l1, c1, rfl, k1, m1, x1, b1, y1⟩ := open_graph (hval 1 25 v1 rfl rfl) h1
  clear hA0
  simp only [List.append_nil] at hW' hA1
  refine (lawSame_any W _ _ _ _ _ _ _ _ x0 x1 (firsts hL)).mono fun e W' ⟨he, hg⟩ => ?_
  subst he
  exact ⟨_, rfl, law_post laidOut rfl hW' hA1 params_ok (by kernel_rfl) Tryd.underlying4 rfl hg⟩
noncomputable def laidWorld (os : Os) : World :=
  { World.holding Tryd.prog os ⟨#[], #[], []⟩ with heap := (World.holding Tryd.prog os ⟨#[], #[], []⟩).heap.modify 0 fun
      | .cells _ t frozen => .cells #[.int .i32 48, .int .i32 1632, .int .i32 65296] t frozen
      | o => o }
theorem laid_met (os : Os) : laidMet Tryd.prog Rows.graphSameRow.laid ((laidWorld os).forCall (fun _ _ => 0) ⟨#[], #[.agg #[.int .i64 0, .slice none 0 0], .agg #[.int .i64 0, .slice none 0 0]], []⟩).memory :=
  laidMet_of_run' 8 (by kernel_rfl) (by kernel_rfl)
theorem reads (os : Os) {H : Type} (enc : TypeId × Value → H) : ∃ places, DataW.whole enc Tryd.prog ((laidWorld os).forCall (fun _ _ => 0) ⟨#[], #[.agg #[.int .i64 0, .slice none 0 0], .agg #[.int .i64 0, .slice none 0 0]], []⟩).memory Tryd.f5.params.toList Rows.graphSameSpec.vars false (#[.agg #[.int .i64 0, .slice none 0 0], .agg #[.int .i64 0, .slice none 0 0]] : Array Value).toList 8 = some ([.agg [.lit (.int .i64 0), .nil], .agg [.lit (.int .i64 0), .nil]], [], places) :=
  ⟨[], by kernel_rfl⟩

set_option maxRecDepth 100000 in
theorem lifted (os : Os) (started : os.Started) (H : Type) (enc : TypeId × Value → H) (F : Stop.Interp) :
    ReturnsInHanded {} Tryd.checked os 5 .any ((OpenSpec.ofChange Rows.graphSameSpec).preRow enc Tryd.prog Tryd.f5 Rows.graphSameRow.domain false Rows.graphSameRow.laid) (((OpenSpec.ofChange Rows.graphSameSpec).at F).post enc Tryd.prog Tryd.f5 false true false false) := by
  obtain ⟨places, hx⟩ := reads os enc
  refine returnsInHanded_of_row (C := Tryd.checked) (s := OpenSpec.ofChange Rows.graphSameSpec) own started (by kernel_rfl) Tryd.func5
    (witness_row_at (enc := enc) (C := Tryd.checked) false (laidWorld os) #[.agg #[.int .i64 0, .slice none 0 0], .agg #[.int .i64 0, .slice none 0 0]] rfl (by kernel_rfl) (by kernel_rfl) (by kernel_rfl)
      (OpenSpec.preRow_of_cond 8 hx (by kernel_rfl) (fun k hk => by cases hk) (by kernel_rfl) (laid_met os))) ?_
  intro W base args ds gs before hval hW _ _ _ hL _ _
  exact contract H enc W base args ds gs before hval hW hL

theorem said : Rows.GraphSameSaid :=
  OpenClaim.holds_of_cond 5 Tryd.f5 rfl rfl rfl rfl rfl rfl rfl ⟨rfl, rfl, rfl, rfl, rfl⟩ rfl rfl rfl rfl rfl (by kernel_rfl) Tryd.func5 (by kernel_rfl)
    (of_decide_eq_true (by kernel_rfl)) (by unfold Func.isWrapper; first | (rw [if_pos (by decide +kernel)]; kernel_rfl) | (rw [if_neg (by decide +kernel)]; exact ⟨rfl, rfl⟩))
    (fun os started H enc _ F => by rw [OpenClaim.pre_eq_preRow]; exact lifted os started H enc F)

theorem plain (f : FuncId) (fn : Func) (hf : Tryd.pinned.checked.prog.funcNamed "treadwheel/treadwheellaw04.GraphSame" = some f) (hfn : Tryd.pinned.checked.prog.funcs[f]? = some fn) :
    false = Tryd.pinned.checked.prog.looks [] ∧ ∀ (j : Nat) t, fn.params[j]? = some t → Tryd.pinned.checked.prog.wantsStandIn t = false := by
  obtain rfl : f = 5 := Option.some.inj ((show Tryd.prog.funcNamed "treadwheel/treadwheellaw04.GraphSame" = some 5 by kernel_rfl).symm.trans hf) |>.symm
  obtain rfl : fn = Tryd.f5 := (Option.some.inj (Tryd.func5.symm.trans hfn)).symm
  refine ⟨by kernel_rfl, fun j t ht => ?_⟩
  rw [Tryd.params5] at ht
  have e0 : Tryd.prog.wantsStandIn 25 = false := by kernel_rfl
  have hm := Array.mem_of_getElem? ht
  obtain rfl : t = 25 := by simpa using hm
  exact e0

/-- The tied card of GraphSame. -/
theorem card : Rows.GraphSameCardSaid :=
  Claim7.holds_tied_plain_at .later [] _ _ _ _ said (fun _ h => by cases h) (by kernel_rfl) (fun _ h => by cases h) graphSame_row_tie rfl ⟨rfl, rfl⟩ (by kernel_rfl) rfl plain (by kernel_rfl)
end Go.Proofs.YtknigkjbnaoldaaDoor.graphSameCard
