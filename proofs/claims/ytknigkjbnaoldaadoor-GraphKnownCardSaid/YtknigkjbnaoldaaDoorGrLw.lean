/- GraphSame: of any two graphs it is told whether they are the same. GraphCheck: of any graph it is told whether it may be; it is printed, and turned, as the document says. GraphEdges: the edges from and to any vertex are the document's; each edge is once among them; the graph stays. GraphBack: what is printed is read as it was; what is read may be, and printed and read again it is the same; turned twice it is what it was. -/
import Derived.Test.YtknigkjbnaoldaaDoorGrPr
import Derived.Test.YtknigkjbnaoldaaDoorGrTu
import Derived.Test.YtknigkjbnaoldaaDoorGrPl
namespace Go.Proofs.YtknigkjbnaoldaaDoor
open Go.RowKit

theorem light_at (n : Int) (A : Option Addr) (k c : Nat) (top : Int) (b : Bool) (w : World) (h : decide ((k : Int) ≤ top) = b) : Calls Tryd.prog 13 #[.agg #[.int .i64 n, .slice A k c], .int .i64 top] w fun r w' => r = .returned (.bool b) ∧ Below w.heap.size w w' := by
  have := light_any n A k c top w
  rwa [h] at this
/-- two graphs in boxes, and what was there -/
structure TBox (w wr : World) (n : Int) (A : Option Addr) (k c : Nat) (m : Int) (B : Option Addr) (k' d : Nat) : Prop where
  below : Below w.heap.size w wr
  box0 : Blk wr w.heap.size 25 #[.int .i64 n, .slice A k c]
  box1 : Blk wr (w.heap.size + 1) 25 #[.int .i64 m, .slice B k' d]
theorem TBox.start (w : World) (n : Int) (A : Option Addr) (k c : Nat) (m : Int) (B : Option Addr) (k' d : Nat) : TBox w ((w.alloc (.cells #[.int .i64 n, .slice A k c] 25)).alloc (.cells #[.int .i64 m, .slice B k' d] 25)) n A k c m B k' d := by
  have h2 := Blk.new (w.alloc (.cells #[.int .i64 n, .slice A k c] 25)) 25 #[.int .i64 m, .slice B k' d]
  rw [show (w.alloc (.cells #[.int .i64 n, .slice A k c] 25)).heap.size = w.heap.size + 1 by simp] at h2
  exact ⟨((Below.refl _ _).alloc (Nat.le_refl _) _).alloc (by simp) _, (Blk.new w _ _).alloc _, h2⟩
theorem TBox.step {w wr w' : World} {n : Int} {A : Option Addr} {k c : Nat} {m : Int} {B : Option Addr} {k' d : Nat} (h : TBox w wr n A k c m B k' d) (hb : Below wr.heap.size wr w') : TBox w w' n A k c m B k' d :=
  ⟨h.below.trans (hb.mono h.below.size), h.box0.below hb h.box0.lt, h.box1.below hb h.box1.lt⟩
theorem TBox.cells {w wr : World} {n : Int} {A : Option Addr} {k c : Nat} {m : Int} {B : Option Addr} {k' d : Nat} (h : TBox w wr n A k c m B k' d) : wr.cell? ⟨w.heap.size, 0, none⟩ = some (.int .i64 n) ∧ wr.cell? ⟨w.heap.size, 1, none⟩ = some (.slice A k c) ∧ wr.cell? ⟨w.heap.size + 1, 0, none⟩ = some (.int .i64 m) ∧ wr.cell? ⟨w.heap.size + 1, 1, none⟩ = some (.slice B k' d) :=
  ⟨h.box0.cell 0, h.box0.cell 1, h.box1.cell 0, h.box1.cell 1⟩
set_option maxRecDepth 100000 in
set_option maxHeartbeats 4000000 in
theorem lawSame_any (w : World) (n m : Int) (A B : Option Addr) (c d : Nat) (xs ys : List Edg) (ha : Rs edgC 3 w A xs) (hb : Rs edgC 3 w B ys) (hF : Firsts w) :
    Calls Tryd.prog 5 #[.agg #[.int .i64 n, .slice A xs.length c], .agg #[.int .i64 m, .slice B ys.length d]] w fun e w' => e = .returned (.bool true) ∧ Below w.heap.size w w' := by
  have hz := firsts_lt hF
  have hS := TBox.start w n A xs.length c m B ys.length d
  by_cases h1 : (xs.length : Int) ≤ 300
  · by_cases h2 : (ys.length : Int) ≤ 300
    · have hs1 := fun W => light_at n A xs.length c 300 true W (decide_eq_true h1)
      have hs2 := fun W => light_at m B ys.length d 300 true W (decide_eq_true h2)
      have hPS := fun W (hW : Below w.heap.size w W) => same_any W n m A B c d xs ys (ha.below hW) (hb.below hW) (by omega)
      have hRS := fun W (hW : Below w.heap.size w W) => refSame_any W n m A B c d xs ys (ha.below hW) (hb.below hW) (by omega)
      have hAA := fun W (hW : Below w.heap.size w W) => same_any W n n A A c c xs xs (ha.below hW) (ha.below hW) (by omega)
      rw [decide_eq_true (show n = n ∧ xs = xs from ⟨rfl, rfl⟩)] at hAA
      generalize decide (n = m ∧ xs = ys) = r at hPS hRS
      have hrr : (r == r) = true := beq_self_eq_true r
      have HS := Lib.hid hS; have H1 := Lib.hid hs1; have H2 := Lib.hid hs2; have HPS := Lib.hid hPS; have HRS := Lib.hid hRS; have HAA := Lib.hid hAA; have HF := Lib.hid hF
      clear hS hs1 hs2 hPS hRS hAA ha hb hF h1 h2
      go_enter Tryd.func5, Tryd.ntmps5
      go_wp2_with fail
      refine (H1.out _).mono ?_
      rintro e x1 ⟨rfl, hb1⟩
      have HS1 := Lib.hid (HS.out.step hb1)
      clear hb1 HS
      obtain ⟨g0, g1, g2, g3⟩ := HS1.out.cells
      go_wp2_with fail
      refine (H2.out _).mono ?_
      clear g0 g1 g2 g3
      rintro e x2 ⟨rfl, hb2⟩
      have HS2 := Lib.hid (HS1.out.step hb2)
      clear hb2 HS1
      have hss : ∀ w', Below x2.heap.size x2 w' → w'.cell? ⟨w.heap.size, 0, none⟩ = some (.int .i64 n) ∧ w'.cell? ⟨w.heap.size, 1, none⟩ = some (.slice A xs.length c) ∧ w'.cell? ⟨w.heap.size + 1, 0, none⟩ = some (.int .i64 m) ∧ w'.cell? ⟨w.heap.size + 1, 1, none⟩ = some (.slice B ys.length d) := fun w' hb' => ⟨(HS2.out.step hb').cells.1, (HS2.out.step hb').cells.2.1, (HS2.out.step hb').cells.2.2.1, (HS2.out.step hb').cells.2.2.2⟩
      have HSS := Lib.hid hss
      clear hss
      go_wp2_with fail
      refine wp_region_noPanic ?_
      refine wp_region_held_drew (S := (fun w' => w'.cell? ⟨w.heap.size, 0, none⟩ = some (.int .i64 n) ∧ w'.cell? ⟨w.heap.size, 1, none⟩ = some (.slice A xs.length c) ∧ w'.cell? ⟨w.heap.size + 1, 0, none⟩ = some (.int .i64 m) ∧ w'.cell? ⟨w.heap.size + 1, 1, none⟩ = some (.slice B ys.length d))) (by kernel_rfl) ?_ (fun hHeld => ?_)
      · exact HSS.out _ (below_drewN (Below.refl _ _) 1)
      refine wpAnyH_take (i := 0) (v := ?v0g1_) rfl (by kernel_rfl) (by kernel_rfl) (by kernel_rfl) (fun _ _ _ h => h) (Or.inl ⟨by rfl, ?y0g1_⟩) (by assumption) ?r0g1_
      case y0g1_ => (intro w hSw; (try dsimp only at hSw); go_simp; try with_reducible rfl)
      change wpAnyH _ _ _ _ _ _ _ (Act.put _ (some 14) _) _; simp only [Act.put, List.setIfInBounds_toArray, List.set_cons_zero, List.set_cons_succ]
      refine wpAnyH_take (i := 1) (v := ?v1g1_) rfl (by kernel_rfl) (by kernel_rfl) (by kernel_rfl) (fun _ _ _ h => h) (Or.inl ⟨by rfl, ?y1g1_⟩) (by assumption) ?r1g1_
      case y1g1_ => (intro w hSw; (try dsimp only at hSw); go_simp; try with_reducible rfl)
      change wpAnyH _ _ _ _ _ _ _ (Act.put _ (some 15) _) _; simp only [Act.put, List.setIfInBounds_toArray, List.set_cons_zero, List.set_cons_succ]
      refine wpAnyH_take (i := 3) (v := ?v3g1_) rfl (by kernel_rfl) (by kernel_rfl) (by kernel_rfl) (fun _ _ _ h => h) (Or.inl ⟨by rfl, ?y3g1_⟩) (by assumption) ?r3g1_
      case y3g1_ => (intro w hSw; (try dsimp only at hSw); go_simp; try with_reducible rfl)
      change wpAnyH _ _ _ _ _ _ _ (Act.put _ (some 17) _) _; simp only [Act.put, List.setIfInBounds_toArray, List.set_cons_zero, List.set_cons_succ]
      refine wpAnyH_take (i := 4) (v := ?v4g1_) rfl (by kernel_rfl) (by kernel_rfl) (by kernel_rfl) (fun _ _ _ h => h) (Or.inl ⟨by rfl, ?y4g1_⟩) (by assumption) ?r4g1_
      case y4g1_ => (intro w hSw; (try dsimp only at hSw); go_simp; try with_reducible rfl)
      change wpAnyH _ _ _ _ _ _ _ (Act.put _ (some 18) _) _; simp only [Act.put, List.setIfInBounds_toArray, List.set_cons_zero, List.set_cons_succ]
      refine wpAnyH_ready (rs := [2]) (by kernel_rfl) (by simp) ?_
      refine AllReadyH.cons rfl (fun K hK => ?_) AllReadyH.nil
      go_simp
      refine (HPS.out _ (below_drewN HS2.out.below 1)).mono ?_
      rintro e x3 ⟨rfl, hb3⟩
      have HB3 := Lib.hid (undrew hb3)
      clear hb3
      dsimp only
      refine hK.out _ _ ?_ (fun hHeld => ?_)
      · exact HSS.out _ HB3.out
      clear hK K
      try simp only [Act.put, List.setIfInBounds_toArray, List.set_cons_zero, List.set_cons_succ]
      refine wpAnyH_ready (rs := [5]) (by kernel_rfl) (by simp) ?_
      refine AllReadyH.cons rfl (fun K hK => ?_) AllReadyH.nil
      go_simp
      refine (HRS.out _ (HS2.out.step HB3.out).below).mono ?_
      rintro e x4 ⟨rfl, hb4⟩
      have HB4 := Lib.hid (HB3.out.trans (hb4.mono HB3.out.size))
      clear hb4
      dsimp only
      refine hK.out _ _ ?_ (fun hHeld => ?_)
      · exact HSS.out _ HB4.out
      clear hK K
      try simp only [Act.put, List.setIfInBounds_toArray, List.set_cons_zero, List.set_cons_succ]
      refine wpAnyH_take (i := 6) (v := ?v6g1_) rfl (by kernel_rfl) (by kernel_rfl) (by kernel_rfl) (fun _ _ _ h => h) (Or.inl ⟨by rfl, ?y6g1_⟩) (by assumption) ?r6g1_
      case y6g1_ => (intro w hSw; (try dsimp only at hSw); go_simp; try with_reducible rfl)
      change wpAnyH _ _ _ _ _ _ _ (Act.put _ (some 20) _) _; simp only [Act.put, List.setIfInBounds_toArray, List.set_cons_zero, List.set_cons_succ]
      refine wpAnyH_take (i := 7) (v := ?v7g1_) rfl (by kernel_rfl) (by kernel_rfl) (by kernel_rfl) (fun _ _ _ h => h) (Or.inl ⟨by rfl, ?y7g1_⟩) (by assumption) ?r7g1_
      case y7g1_ => (intro w hSw; (try dsimp only at hSw); go_simp; try with_reducible rfl)
      change wpAnyH _ _ _ _ _ _ _ (Act.put _ (some 21) _) _; simp only [Act.put, List.setIfInBounds_toArray, List.set_cons_zero, List.set_cons_succ]
      refine wpAnyH_take (i := 8) (v := ?v8g1_) rfl (by kernel_rfl) (by kernel_rfl) (by kernel_rfl) (fun _ _ _ h => h) (Or.inl ⟨by rfl, ?y8g1_⟩) (by assumption) ?r8g1_
      case y8g1_ => (intro w hSw; (try dsimp only at hSw); go_simp; try with_reducible rfl)
      change wpAnyH _ _ _ _ _ _ _ (Act.put _ (some 22) _) _; simp only [Act.put, List.setIfInBounds_toArray, List.set_cons_zero, List.set_cons_succ]
      refine wpAnyH_take (i := 9) (v := ?v9g1_) rfl (by kernel_rfl) (by kernel_rfl) (by kernel_rfl) (fun _ _ _ h => h) (Or.inl ⟨by rfl, ?y9g1_⟩) (by assumption) ?r9g1_
      case y9g1_ => (intro w hSw; (try dsimp only at hSw); go_simp; try with_reducible rfl)
      change wpAnyH _ _ _ _ _ _ _ (Act.put _ (some 23) _) _; simp only [Act.put, List.setIfInBounds_toArray, List.set_cons_zero, List.set_cons_succ]
      refine wpAnyH_ready (rs := [10]) (by kernel_rfl) (by simp) ?_
      refine AllReadyH.cons rfl (fun K hK => ?_) AllReadyH.nil
      go_simp
      refine (HAA.out _ (HS2.out.step HB4.out).below).mono ?_
      rintro e x5 ⟨rfl, hb5⟩
      have HB5 := Lib.hid (HB4.out.trans (hb5.mono HB4.out.size))
      clear hb5
      dsimp only
      refine hK.out _ _ ?_ (fun hHeld => ?_)
      · exact HSS.out _ HB5.out
      clear hK K
      try simp only [Act.put, List.setIfInBounds_toArray, List.set_cons_zero, List.set_cons_succ]
      refine wpAnyH_take (i := 11) (v := ?v11g1_) rfl (by kernel_rfl) (by kernel_rfl) (by kernel_rfl) (fun _ _ _ h => h) (Or.inl ⟨by rfl, ?y11g1_⟩) (by assumption) ?r11g1_
      case y11g1_ => (intro w hSw; (try dsimp only at hSw); go_simp; try with_reducible rfl)
      change wpAnyH _ _ _ _ _ _ _ (Act.put _ (some 25) _) _; simp only [Act.put, List.setIfInBounds_toArray, List.set_cons_zero, List.set_cons_succ]
      refine wpAnyH_take (i := 12) (v := ?v12g1_) rfl (by kernel_rfl) (by kernel_rfl) (by kernel_rfl) (fun _ _ _ h => h) (Or.inl ⟨by rfl, ?y12g1_⟩) (by assumption) ?r12g1_
      case y12g1_ => (intro w hSw; (try dsimp only at hSw); go_simp; try with_reducible rfl)
      change wpAnyH _ _ _ _ _ _ _ (Act.put _ (some 26) _) _; simp only [Act.put, List.setIfInBounds_toArray, List.set_cons_zero, List.set_cons_succ]
      refine wpAnyH_ready (rs := [13]) (by kernel_rfl) (by simp) ?_
      refine AllReadyH.cons rfl (fun K hK => ?_) AllReadyH.nil
      go_simp
      refine (works_any _ (firsts_below HF.out (HS2.out.step HB5.out).below hz)).mono ?_
      rintro e x6 ⟨rfl, hb6⟩
      have HB6 := Lib.hid (HB5.out.trans (hb6.mono HB5.out.size))
      clear hb6
      dsimp only
      refine hK.out _ _ ?_ (fun hHeld => ?_)
      · exact HSS.out _ HB6.out
      clear hK K
      try simp only [Act.put, List.setIfInBounds_toArray, List.set_cons_zero, List.set_cons_succ]
      refine wpAnyH_take (i := 14) (v := ?v14g1_) rfl (by kernel_rfl) (by kernel_rfl) (by kernel_rfl) (fun _ _ _ h => h) (Or.inl ⟨by rfl, ?y14g1_⟩) (by assumption) ?r14g1_
      case y14g1_ => (intro w hSw; (try dsimp only at hSw); go_simp; try with_reducible rfl)
      change wpAnyH _ _ _ _ _ _ _ (Act.put _ (some 28) _) _; simp only [Act.put, List.setIfInBounds_toArray, List.set_cons_zero, List.set_cons_succ]
      refine wpAnyH_take (i := 15) (v := ?v15g1_) rfl (by kernel_rfl) (by kernel_rfl) (by kernel_rfl) (fun _ _ _ h => h) (Or.inl ⟨by rfl, ?y15g1_⟩) (by assumption) ?r15g1_
      case y15g1_ => (intro w hSw; (try dsimp only at hSw); go_simp; try with_reducible rfl)
      change wpAnyH _ _ _ _ _ _ _ (Act.put _ (some 4) _) _; simp only [Act.put, List.setIfInBounds_toArray, List.set_cons_zero, List.set_cons_succ]
      refine wpAnyH_done (by kernel_rfl) ?_ _
      refine NoPanic.normal ?_
      have HFIN := Lib.hid (HS2.out.step HB6.out).below
      clear HSS
      go_wp2
      go_ret
      exact ⟨rfl, HFIN.out⟩
    · have hs1 := fun W => light_at n A xs.length c 300 true W (decide_eq_true h1)
      have hs2 := fun W => light_at m B ys.length d 300 false W (decide_eq_false h2)
      have HS := Lib.hid hS; have H1 := Lib.hid hs1; have H2 := Lib.hid hs2; have HF := Lib.hid hF
      clear hS hs1 hs2 ha hb hF h1 h2
      go_enter Tryd.func5, Tryd.ntmps5
      go_wp2_with fail
      refine (H1.out _).mono ?_
      rintro e x1 ⟨rfl, hb1⟩
      have HS1 := Lib.hid (HS.out.step hb1)
      clear hb1 HS
      obtain ⟨g0, g1, g2, g3⟩ := HS1.out.cells
      go_wp2_with fail
      refine (H2.out _).mono ?_
      clear g0 g1 g2 g3
      rintro e x2 ⟨rfl, hb2⟩
      have HS2 := Lib.hid (HS1.out.step hb2)
      clear hb2 HS1
      go_wp2_with fail
      refine (works_any _ (firsts_below HF.out HS2.out.below hz)).mono ?_
      rintro e x3 ⟨rfl, hb3⟩
      have HB3 := Lib.hid (HS2.out.step hb3).below
      clear hb3
      go_wp2
      go_ret
      exact ⟨rfl, HB3.out⟩
  · have hs1 := fun W => light_at n A xs.length c 300 false W (decide_eq_false h1)
    have HS := Lib.hid hS; have H1 := Lib.hid hs1; have HF := Lib.hid hF
    clear hS hs1 ha hb hF h1
    go_enter Tryd.func5, Tryd.ntmps5
    go_wp2_with fail
    refine (H1.out _).mono ?_
    rintro e x1 ⟨rfl, hb1⟩
    have HS1 := Lib.hid (HS.out.step hb1)
    clear hb1 HS
    go_wp2_with fail
    refine (works_any _ (firsts_below HF.out HS1.out.below hz)).mono ?_
    rintro e x2 ⟨rfl, hb2⟩
    have HB2 := Lib.hid (HS1.out.step hb2).below
    clear hb2
    go_wp2
    go_ret
    exact ⟨rfl, HB2.out⟩
end Go.Proofs.YtknigkjbnaoldaaDoor
namespace Go.Proofs.YtknigkjbnaoldaaDoor
open Go.RowKit

theorem turn_few {g : Gr} (hl : g.2.length ≤ 8192) : (turnG g).2.length ≤ 1000000000 := by
  unfold turnG
  split
  · rename_i h
    have := turnR_len g.2 g.1.toNat
    have h2 := (check_ok h).2.1
    have h3 : g.1.toNat * g.2.length ≤ 512 * 8192 := Nat.mul_le_mul (by omega) hl
    show (turnR g.2 g.1.toNat).length ≤ _
    omega
  · simp
/-- what Turn hands back, its graph written out -/
def TurnQ (w : World) (n' : Int) (l' : List Edg) (k : Int) (R : Ending) (w' : World) : Prop :=
  ∃ (A : Option Addr) (c : Nat), R = .returned (.tuple #[.agg #[.int .i64 n', .slice A l'.length c], .int .i64 k]) ∧ Rs edgC 3 w' A l' ∧ Below w.heap.size w w'
theorem same_true' (w : World) (n : Int) (A B : Option Addr) (c d : Nat) (xs : List Edg) (ha : Rs edgC 3 w A xs) (hb : Rs edgC 3 w B xs) (hn : xs.length ≤ 1000000000) :
    Calls Tryd.prog 12 #[.agg #[.int .i64 n, .slice A xs.length c], .agg #[.int .i64 n, .slice B xs.length d]] w fun e w' => e = .returned (.bool true) ∧ Below w.heap.size w w' := by
  have := refSame_any w n n A B c d xs xs ha hb hn
  rwa [decide_eq_true (show n = n ∧ xs = xs from ⟨rfl, rfl⟩)] at this
set_option maxRecDepth 100000 in
set_option maxHeartbeats 4000000 in
theorem lawCheck_any (w : World) (n : Int) (A : Option Addr) (c : Nat) (l : List Edg) (ha : Rs edgC 3 w A l) (hF : Firsts w) :
    Calls Tryd.prog 6 #[.agg #[.int .i64 n, .slice A l.length c]] w fun e w' => e = .returned (.bool true) ∧ Below w.heap.size w w' := by
  have hz := firsts_lt hF
  have hS := GBox.start w n A c l
  by_cases h1 : (l.length : Int) ≤ 300
  · have hs1 := fun W => light_at n A l.length c 300 true W (decide_eq_true h1)
    have hPP := fun W (hW : Below w.heap.size w W) => pPrint_any W n A c l (ha.below hW) (firsts_below hF hW hz)
    have hRP := fun W (hW : Below w.heap.size w W) => rPrint_any W n A c l (ha.below hW)
    have hPC := fun W (hW : Below w.heap.size w W) => check_any W n A c l (ha.below hW)
    have hRC := fun W (hW : Below w.heap.size w W) => refCheck_any W n A c l (ha.below hW)
    have hPT : ∀ W, Below w.heap.size w W → Calls Tryd.prog 23 #[.agg #[.int .i64 n, .slice A l.length c]] W (TurnQ W (turnG (n, l)).1 (turnG (n, l)).2 (checkL (n, l))) := fun W hW =>
      (turn_any W n A c l (ha.below hW)).mono fun R w' ⟨hb, A', c', hR, hr⟩ => ⟨A', c', hR, hr, hb⟩
    have hRT : ∀ W, Below w.heap.size w W → Calls Tryd.prog 24 #[.agg #[.int .i64 n, .slice A l.length c]] W (TurnQ W (turnG (n, l)).1 (turnG (n, l)).2 (checkL (n, l))) := fun W hW =>
      (rturn_any W n A c l (ha.below hW)).mono fun R w' ⟨hb, A', c', hR, hr⟩ => ⟨A', c', hR, hr, hb⟩
    have hfew := turn_few (g := (n, l)) (by show l.length ≤ 8192; omega)
    unfold PrintP at hPP hRP
    generalize (turnG (n, l)).1 = n' at hPT hRT
    generalize (turnG (n, l)).2 = l' at hPT hRT hfew
    generalize checkL (n, l) = k at hPP hRP hPC hRC hPT hRT
    generalize printE (n, l) = t at hPP hRP
    have hkk : (k == k) = true := beq_self_eq_true k
    have htt : (t.toList == t.toList) = true := beq_self_eq_true _
    have HS := Lib.hid hS; have H1 := Lib.hid hs1; have HPP := Lib.hid hPP; have HRP := Lib.hid hRP; have HPC := Lib.hid hPC; have HRC := Lib.hid hRC; have HPT := Lib.hid hPT; have HRT := Lib.hid hRT; have HF := Lib.hid hF
    clear hS hs1 hPP hRP hPC hRC hPT hRT ha hF h1
    go_enter Tryd.func6, Tryd.ntmps6
    go_wp2_with fail
    refine (H1.out _).mono ?_
    rintro e x1 ⟨rfl, hb1⟩
    have HS1 := Lib.hid (HS.out.step hb1)
    clear hb1 HS
    obtain ⟨g0, g1⟩ := HS1.out.cells
    go_wp2_with fail
    refine (HPP.out _ HS1.out.below).mono ?_
    clear g0 g1
    rintro e x2 ⟨rfl, hb2⟩
    have HS2 := Lib.hid (HS1.out.step hb2)
    clear hb2 HS1
    obtain ⟨g0, g1⟩ := HS2.out.cells
    go_wp2_with fail
    refine (HRP.out _ HS2.out.below).mono ?_
    clear g0 g1
    rintro e x3 ⟨rfl, hb3⟩
    have HS3 := Lib.hid (HS2.out.step hb3)
    clear hb3 HS2
    obtain ⟨g0, g1⟩ := HS3.out.cells
    go_wp2_with fail
    refine (HPT.out _ HS3.out.below).mono ?_
    clear g0 g1
    rintro e x4 ⟨A4, c4, rfl, hr4, hb4⟩
    have HS4 := Lib.hid ((HS3.out.step hb4).alloc (.cells #[.int .i64 n', .slice A4 l'.length c4] 25))
    have HR4 := Lib.hid (hr4.alloc (.cells #[.int .i64 n', .slice A4 l'.length c4] 25))
    have HK4 := Lib.hid (Blk.new x4 25 #[.int .i64 n', .slice A4 l'.length c4])
    clear hb4 hr4 HS3
    obtain ⟨g0, g1⟩ := HS4.out.cells
    go_wp2_with fail
    refine (HRT.out _ HS4.out.below).mono ?_
    clear g0 g1
    rintro e x5 ⟨A5, c5, rfl, hr5, hb5⟩
    have HS5 := Lib.hid ((HS4.out.step hb5).alloc (.cells #[.int .i64 n', .slice A5 l'.length c5] 25))
    have HR5 := Lib.hid (hr5.alloc (.cells #[.int .i64 n', .slice A5 l'.length c5] 25))
    have HK5 := Lib.hid (Blk.new x5 25 #[.int .i64 n', .slice A5 l'.length c5])
    have HR4' := Lib.hid ((HR4.out.below hb5).alloc (.cells #[.int .i64 n', .slice A5 l'.length c5] 25))
    have HK4' := Lib.hid ((HK4.out.below hb5 HK4.out.lt).alloc (.cells #[.int .i64 n', .slice A5 l'.length c5] 25))
    clear hb5 hr5 HS4 HR4 HK4
    have hss : ∀ w', Below (x5.alloc (.cells #[.int .i64 n', .slice A5 l'.length c5] 25)).heap.size (x5.alloc (.cells #[.int .i64 n', .slice A5 l'.length c5] 25)) w' → w'.cell? ⟨w.heap.size, 0, none⟩ = some (.int .i64 n) ∧ w'.cell? ⟨w.heap.size, 1, none⟩ = some (.slice A l.length c) ∧ w'.cell? ⟨x4.heap.size, 0, none⟩ = some (.int .i64 n') ∧ w'.cell? ⟨x4.heap.size, 1, none⟩ = some (.slice A4 l'.length c4) ∧ w'.cell? ⟨x5.heap.size, 0, none⟩ = some (.int .i64 n') ∧ w'.cell? ⟨x5.heap.size, 1, none⟩ = some (.slice A5 l'.length c5) := fun w' hb' => ⟨(HS5.out.step hb').cells.1, (HS5.out.step hb').cells.2, (HK4'.out.below hb' HK4'.out.lt).cell 0, (HK4'.out.below hb' HK4'.out.lt).cell 1, (HK5.out.below hb' HK5.out.lt).cell 0, (HK5.out.below hb' HK5.out.lt).cell 1⟩
    have HSS := Lib.hid hss
    clear hss
    go_wp2_with fail
    refine wp_region_noPanic ?_
    refine wp_region_held_drew (S := (fun w' => w'.cell? ⟨w.heap.size, 0, none⟩ = some (.int .i64 n) ∧ w'.cell? ⟨w.heap.size, 1, none⟩ = some (.slice A l.length c) ∧ w'.cell? ⟨x4.heap.size, 0, none⟩ = some (.int .i64 n') ∧ w'.cell? ⟨x4.heap.size, 1, none⟩ = some (.slice A4 l'.length c4) ∧ w'.cell? ⟨x5.heap.size, 0, none⟩ = some (.int .i64 n') ∧ w'.cell? ⟨x5.heap.size, 1, none⟩ = some (.slice A5 l'.length c5))) (by kernel_rfl) ?_ (fun hHeld => ?_)
    · exact HSS.out _ (below_drewN (Below.refl _ _) 1)
    refine wpAnyH_take (i := 0) (v := ?v0g1_) rfl (by kernel_rfl) (by kernel_rfl) (by kernel_rfl) (fun _ _ _ h => h) (Or.inl ⟨by rfl, ?y0g1_⟩) (by assumption) ?r0g1_
    case y0g1_ => (intro w hSw; (try dsimp only at hSw); go_simp; try with_reducible rfl)
    change wpAnyH _ _ _ _ _ _ _ (Act.put _ (some 35) _) _; simp only [Act.put, List.setIfInBounds_toArray, List.set_cons_zero, List.set_cons_succ]
    refine wpAnyH_take (i := 2) (v := ?v2g1_) rfl (by kernel_rfl) (by kernel_rfl) (by kernel_rfl) (fun _ _ _ h => h) (Or.inl ⟨by rfl, ?y2g1_⟩) (by assumption) ?r2g1_
    case y2g1_ => (intro w hSw; (try dsimp only at hSw); go_simp; try with_reducible rfl)
    change wpAnyH _ _ _ _ _ _ _ (Act.put _ (some 37) _) _; simp only [Act.put, List.setIfInBounds_toArray, List.set_cons_zero, List.set_cons_succ]
    refine wpAnyH_ready (rs := [1]) (by kernel_rfl) (by simp) ?_
    refine AllReadyH.cons rfl (fun K hK => ?_) AllReadyH.nil
    go_simp
    refine (HPC.out _ (below_drewN HS5.out.below 1)).mono ?_
    rintro e x6 ⟨rfl, hb6⟩
    have HB6 := Lib.hid (undrew hb6)
    clear hb6
    dsimp only
    refine hK.out _ _ ?_ (fun hHeld => ?_)
    · exact HSS.out _ HB6.out
    clear hK K
    try simp only [Act.put, List.setIfInBounds_toArray, List.set_cons_zero, List.set_cons_succ]
    refine wpAnyH_ready (rs := [3]) (by kernel_rfl) (by simp) ?_
    refine AllReadyH.cons rfl (fun K hK => ?_) AllReadyH.nil
    go_simp
    refine (HRC.out _ (HS5.out.step HB6.out).below).mono ?_
    rintro e x7 ⟨rfl, hb7⟩
    have HB7 := Lib.hid (HB6.out.trans (hb7.mono HB6.out.size))
    clear hb7
    dsimp only
    refine hK.out _ _ ?_ (fun hHeld => ?_)
    · exact HSS.out _ HB7.out
    clear hK K
    try simp only [Act.put, List.setIfInBounds_toArray, List.set_cons_zero, List.set_cons_succ]
    refine wpAnyH_take (i := 4) (v := ?v4g1_) rfl (by kernel_rfl) (by kernel_rfl) (by kernel_rfl) (fun _ _ _ h => h) (Or.inl ⟨by rfl, ?y4g1_⟩) (by assumption) ?r4g1_
    case y4g1_ => (intro w hSw; (try dsimp only at hSw); go_simp; try with_reducible rfl)
    change wpAnyH _ _ _ _ _ _ _ (Act.put _ (some 39) _) _; simp only [Act.put, List.setIfInBounds_toArray, List.set_cons_zero, List.set_cons_succ]
    refine wpAnyH_take (i := 5) (v := ?v5g1_) rfl (by kernel_rfl) (by kernel_rfl) (by kernel_rfl) (fun _ _ _ h => h) (Or.inl ⟨by rfl, ?y5g1_⟩) (by assumption) ?r5g1_
    case y5g1_ => (intro w hSw; (try dsimp only at hSw); go_simp; try with_reducible rfl)
    change wpAnyH _ _ _ _ _ _ _ (Act.put _ (some 40) _) _; simp only [Act.put, List.setIfInBounds_toArray, List.set_cons_zero, List.set_cons_succ]
    refine wpAnyH_take (i := 6) (v := ?v6g1_) rfl (by kernel_rfl) (by kernel_rfl) (by kernel_rfl) (fun _ _ _ h => h) (Or.inl ⟨by rfl, ?y6g1_⟩) (by assumption) ?r6g1_
    case y6g1_ => (intro w hSw; (try dsimp only at hSw); go_simp; try with_reducible rfl)
    change wpAnyH _ _ _ _ _ _ _ (Act.put _ (some 41) _) _; simp only [Act.put, List.setIfInBounds_toArray, List.set_cons_zero, List.set_cons_succ]
    refine wpAnyH_take (i := 7) (v := ?v7g1_) rfl (by kernel_rfl) (by kernel_rfl) (by kernel_rfl) (fun _ _ _ h => h) (Or.inl ⟨by rfl, ?y7g1_⟩) (by assumption) ?r7g1_
    case y7g1_ => (intro w hSw; (try dsimp only at hSw); go_simp; try with_reducible rfl)
    change wpAnyH _ _ _ _ _ _ _ (Act.put _ (some 42) _) _; simp only [Act.put, List.setIfInBounds_toArray, List.set_cons_zero, List.set_cons_succ]
    refine wpAnyH_take (i := 8) (v := ?v8g1_) rfl (by kernel_rfl) (by kernel_rfl) (by kernel_rfl) (fun _ _ _ h => h) (Or.inl ⟨by rfl, ?y8g1_⟩) (by assumption) ?r8g1_
    case y8g1_ => (intro w hSw; (try dsimp only at hSw); go_simp; try with_reducible rfl)
    change wpAnyH _ _ _ _ _ _ _ (Act.put _ (some 43) _) _; simp only [Act.put, List.setIfInBounds_toArray, List.set_cons_zero, List.set_cons_succ]
    refine wpAnyH_take (i := 9) (v := ?v9g1_) rfl (by kernel_rfl) (by kernel_rfl) (by kernel_rfl) (fun _ _ _ h => h) (Or.inl ⟨by rfl, ?y9g1_⟩) (by assumption) ?r9g1_
    case y9g1_ => (intro w hSw; (try dsimp only at hSw); go_simp; try with_reducible rfl)
    change wpAnyH _ _ _ _ _ _ _ (Act.put _ (some 44) _) _; simp only [Act.put, List.setIfInBounds_toArray, List.set_cons_zero, List.set_cons_succ]
    refine wpAnyH_take (i := 10) (v := ?v10g1_) rfl (by kernel_rfl) (by kernel_rfl) (by kernel_rfl) (fun _ _ _ h => h) (Or.inl ⟨by rfl, ?y10g1_⟩) (by assumption) ?r10g1_
    case y10g1_ => (intro w hSw; (try dsimp only at hSw); go_simp; try with_reducible rfl)
    change wpAnyH _ _ _ _ _ _ _ (Act.put _ (some 45) _) _; simp only [Act.put, List.setIfInBounds_toArray, List.set_cons_zero, List.set_cons_succ]
    refine wpAnyH_take (i := 11) (v := ?v11g1_) rfl (by kernel_rfl) (by kernel_rfl) (by kernel_rfl) (fun _ _ _ h => h) (Or.inl ⟨by rfl, ?y11g1_⟩) (by assumption) ?r11g1_
    case y11g1_ => (intro w hSw; (try dsimp only at hSw); go_simp; try with_reducible rfl)
    change wpAnyH _ _ _ _ _ _ _ (Act.put _ (some 46) _) _; simp only [Act.put, List.setIfInBounds_toArray, List.set_cons_zero, List.set_cons_succ]
    refine wpAnyH_take (i := 12) (v := ?v12g1_) rfl (by kernel_rfl) (by kernel_rfl) (by kernel_rfl) (fun _ _ _ h => h) (Or.inl ⟨by rfl, ?y12g1_⟩) (by assumption) ?r12g1_
    case y12g1_ => (intro w hSw; (try dsimp only at hSw); go_simp; try with_reducible rfl)
    change wpAnyH _ _ _ _ _ _ _ (Act.put _ (some 47) _) _; simp only [Act.put, List.setIfInBounds_toArray, List.set_cons_zero, List.set_cons_succ]
    refine wpAnyH_take (i := 13) (v := ?v13g1_) rfl (by kernel_rfl) (by kernel_rfl) (by kernel_rfl) (fun _ _ _ h => h) (Or.inl ⟨by rfl, ?y13g1_⟩) (by assumption) ?r13g1_
    case y13g1_ => (intro w hSw; (try dsimp only at hSw); go_simp; try with_reducible rfl)
    change wpAnyH _ _ _ _ _ _ _ (Act.put _ (some 48) _) _; simp only [Act.put, List.setIfInBounds_toArray, List.set_cons_zero, List.set_cons_succ]
    refine wpAnyH_take (i := 14) (v := ?v14g1_) rfl (by kernel_rfl) (by kernel_rfl) (by kernel_rfl) (fun _ _ _ h => h) (Or.inl ⟨by rfl, ?y14g1_⟩) (by assumption) ?r14g1_
    case y14g1_ => (intro w hSw; (try dsimp only at hSw); go_simp; try with_reducible rfl)
    change wpAnyH _ _ _ _ _ _ _ (Act.put _ (some 49) _) _; simp only [Act.put, List.setIfInBounds_toArray, List.set_cons_zero, List.set_cons_succ]
    refine wpAnyH_take (i := 15) (v := ?v15g1_) rfl (by kernel_rfl) (by kernel_rfl) (by kernel_rfl) (fun _ _ _ h => h) (Or.inl ⟨by rfl, ?y15g1_⟩) (by assumption) ?r15g1_
    case y15g1_ => (intro w hSw; (try dsimp only at hSw); go_simp; try with_reducible rfl)
    change wpAnyH _ _ _ _ _ _ _ (Act.put _ (some 50) _) _; simp only [Act.put, List.setIfInBounds_toArray, List.set_cons_zero, List.set_cons_succ]
    refine wpAnyH_take (i := 16) (v := ?v16g1_) rfl (by kernel_rfl) (by kernel_rfl) (by kernel_rfl) (fun _ _ _ h => h) (Or.inl ⟨by rfl, ?y16g1_⟩) (by assumption) ?r16g1_
    case y16g1_ => (intro w hSw; (try dsimp only at hSw); go_simp; try with_reducible rfl)
    change wpAnyH _ _ _ _ _ _ _ (Act.put _ (some 51) _) _; simp only [Act.put, List.setIfInBounds_toArray, List.set_cons_zero, List.set_cons_succ]
    refine wpAnyH_take (i := 17) (v := ?v17g1_) rfl (by kernel_rfl) (by kernel_rfl) (by kernel_rfl) (fun _ _ _ h => h) (Or.inl ⟨by rfl, ?y17g1_⟩) (by assumption) ?r17g1_
    case y17g1_ => (intro w hSw; (try dsimp only at hSw); go_simp; try with_reducible rfl)
    change wpAnyH _ _ _ _ _ _ _ (Act.put _ (some 52) _) _; simp only [Act.put, List.setIfInBounds_toArray, List.set_cons_zero, List.set_cons_succ]
    refine wpAnyH_ready (rs := [18]) (by kernel_rfl) (by simp) ?_
    refine AllReadyH.cons rfl (fun K hK => ?_) AllReadyH.nil
    go_simp
    refine (same_true' _ n' A4 A5 c4 c5 l' (HR4'.out.below HB7.out) (HR5.out.below HB7.out) hfew).mono ?_
    rintro e x8 ⟨rfl, hb8⟩
    have HB8 := Lib.hid (HB7.out.trans (hb8.mono HB7.out.size))
    clear hb8
    dsimp only
    refine hK.out _ _ ?_ (fun hHeld => ?_)
    · exact HSS.out _ HB8.out
    clear hK K
    try simp only [Act.put, List.setIfInBounds_toArray, List.set_cons_zero, List.set_cons_succ]
    refine wpAnyH_take (i := 19) (v := ?v19g1_) rfl (by kernel_rfl) (by kernel_rfl) (by kernel_rfl) (fun _ _ _ h => h) (Or.inl ⟨by rfl, ?y19g1_⟩) (by assumption) ?r19g1_
    case y19g1_ => (intro w hSw; (try dsimp only at hSw); go_simp; try with_reducible rfl)
    change wpAnyH _ _ _ _ _ _ _ (Act.put _ (some 54) _) _; simp only [Act.put, List.setIfInBounds_toArray, List.set_cons_zero, List.set_cons_succ]
    refine wpAnyH_take (i := 20) (v := ?v20g1_) rfl (by kernel_rfl) (by kernel_rfl) (by kernel_rfl) (fun _ _ _ h => h) (Or.inl ⟨by rfl, ?y20g1_⟩) (by assumption) ?r20g1_
    case y20g1_ => (intro w hSw; (try dsimp only at hSw); go_simp; try with_reducible rfl)
    change wpAnyH _ _ _ _ _ _ _ (Act.put _ (some 55) _) _; simp only [Act.put, List.setIfInBounds_toArray, List.set_cons_zero, List.set_cons_succ]
    refine wpAnyH_take (i := 21) (v := ?v21g1_) rfl (by kernel_rfl) (by kernel_rfl) (by kernel_rfl) (fun _ _ _ h => h) (Or.inl ⟨by rfl, ?y21g1_⟩) (by assumption) ?r21g1_
    case y21g1_ => (intro w hSw; (try dsimp only at hSw); go_simp; try with_reducible rfl)
    change wpAnyH _ _ _ _ _ _ _ (Act.put _ (some 56) _) _; simp only [Act.put, List.setIfInBounds_toArray, List.set_cons_zero, List.set_cons_succ]
    refine wpAnyH_take (i := 22) (v := ?v22g1_) rfl (by kernel_rfl) (by kernel_rfl) (by kernel_rfl) (fun _ _ _ h => h) (Or.inl ⟨by rfl, ?y22g1_⟩) (by assumption) ?r22g1_
    case y22g1_ => (intro w hSw; (try dsimp only at hSw); go_simp; try with_reducible rfl)
    change wpAnyH _ _ _ _ _ _ _ (Act.put _ (some 57) _) _; simp only [Act.put, List.setIfInBounds_toArray, List.set_cons_zero, List.set_cons_succ]
    refine wpAnyH_take (i := 23) (v := ?v23g1_) rfl (by kernel_rfl) (by kernel_rfl) (by kernel_rfl) (fun _ _ _ h => h) (Or.inl ⟨by rfl, ?y23g1_⟩) (by assumption) ?r23g1_
    case y23g1_ => (intro w hSw; (try dsimp only at hSw); go_simp; try with_reducible rfl)
    change wpAnyH _ _ _ _ _ _ _ (Act.put _ (some 58) _) _; simp only [Act.put, List.setIfInBounds_toArray, List.set_cons_zero, List.set_cons_succ]
    refine wpAnyH_take (i := 24) (v := ?v24g1_) rfl (by kernel_rfl) (by kernel_rfl) (by kernel_rfl) (fun _ _ _ h => h) (Or.inl ⟨by rfl, ?y24g1_⟩) (by assumption) ?r24g1_
    case y24g1_ => (intro w hSw; (try dsimp only at hSw); go_simp; try with_reducible rfl)
    change wpAnyH _ _ _ _ _ _ _ (Act.put _ (some 59) _) _; simp only [Act.put, List.setIfInBounds_toArray, List.set_cons_zero, List.set_cons_succ]
    refine wpAnyH_take (i := 25) (v := ?v25g1_) rfl (by kernel_rfl) (by kernel_rfl) (by kernel_rfl) (fun _ _ _ h => h) (Or.inl ⟨by rfl, ?y25g1_⟩) (by assumption) ?r25g1_
    case y25g1_ => (intro w hSw; (try dsimp only at hSw); go_simp; try with_reducible rfl)
    change wpAnyH _ _ _ _ _ _ _ (Act.put _ (some 60) _) _; simp only [Act.put, List.setIfInBounds_toArray, List.set_cons_zero, List.set_cons_succ]
    refine wpAnyH_ready (rs := [26]) (by kernel_rfl) (by simp) ?_
    refine AllReadyH.cons rfl (fun K hK => ?_) AllReadyH.nil
    go_simp
    refine (works_any _ (firsts_below HF.out (HS5.out.step HB8.out).below hz)).mono ?_
    rintro e x9 ⟨rfl, hb9⟩
    have HB9 := Lib.hid (HB8.out.trans (hb9.mono HB8.out.size))
    clear hb9
    dsimp only
    refine hK.out _ _ ?_ (fun hHeld => ?_)
    · exact HSS.out _ HB9.out
    clear hK K
    try simp only [Act.put, List.setIfInBounds_toArray, List.set_cons_zero, List.set_cons_succ]
    refine wpAnyH_take (i := 27) (v := ?v27g1_) rfl (by kernel_rfl) (by kernel_rfl) (by kernel_rfl) (fun _ _ _ h => h) (Or.inl ⟨by rfl, ?y27g1_⟩) (by assumption) ?r27g1_
    case y27g1_ => (intro w hSw; (try dsimp only at hSw); go_simp; try with_reducible rfl)
    change wpAnyH _ _ _ _ _ _ _ (Act.put _ (some 62) _) _; simp only [Act.put, List.setIfInBounds_toArray, List.set_cons_zero, List.set_cons_succ]
    refine wpAnyH_take (i := 28) (v := ?v28g1_) rfl (by kernel_rfl) (by kernel_rfl) (by kernel_rfl) (fun _ _ _ h => h) (Or.inl ⟨by rfl, ?y28g1_⟩) (by assumption) ?r28g1_
    case y28g1_ => (intro w hSw; (try dsimp only at hSw); go_simp; try with_reducible rfl)
    change wpAnyH _ _ _ _ _ _ _ (Act.put _ (some 2) _) _; simp only [Act.put, List.setIfInBounds_toArray, List.set_cons_zero, List.set_cons_succ]
    refine wpAnyH_done (by kernel_rfl) ?_ _
    refine NoPanic.normal ?_
    have HFIN := Lib.hid (HS5.out.step HB9.out).below
    go_wp2
    go_ret
    exact ⟨rfl, HFIN.out⟩
  · have hs1 := fun W => light_at n A l.length c 300 false W (decide_eq_false h1)
    have HS := Lib.hid hS; have H1 := Lib.hid hs1; have HF := Lib.hid hF
    clear hS hs1 ha hF h1
    go_enter Tryd.func6, Tryd.ntmps6
    go_wp2_with fail
    refine (H1.out _).mono ?_
    rintro e x1 ⟨rfl, hb1⟩
    have HS1 := Lib.hid (HS.out.step hb1)
    clear hb1 HS
    go_wp2_with fail
    refine (works_any _ (firsts_below HF.out HS1.out.below hz)).mono ?_
    rintro e x2 ⟨rfl, hb2⟩
    have HB2 := Lib.hid (HS1.out.step hb2).below
    clear hb2
    go_wp2
    go_ret
    exact ⟨rfl, HB2.out⟩
end Go.Proofs.YtknigkjbnaoldaaDoor
namespace Go.Proofs.YtknigkjbnaoldaaDoor
open Go.RowKit

/-- a graph in a box, and its edges -/
structure Bx (wr : World) (g : Nat) (n : Int) (A : Option Addr) (c : Nat) (l : List Edg) : Prop where
  blk : Blk wr g 25 #[.int .i64 n, .slice A l.length c]
  rs : Rs edgC 3 wr A l
theorem Bx.step {wr w' : World} {g : Nat} {n : Int} {A : Option Addr} {c : Nat} {l : List Edg} (h : Bx wr g n A c l) (hb : Below wr.heap.size wr w') : Bx w' g n A c l := ⟨h.blk.below hb h.blk.lt, h.rs.below hb⟩
theorem Bx.new {wr : World} {A : Option Addr} {l : List Edg} (n : Int) (c : Nat) (h : Rs edgC 3 wr A l) : Bx (wr.alloc (.cells #[.int .i64 n, .slice A l.length c] 25)) wr.heap.size n A c l := ⟨Blk.new wr _ _, h.alloc _⟩
theorem Bx.cells {wr : World} {g : Nat} {n : Int} {A : Option Addr} {c : Nat} {l : List Edg} (h : Bx wr g n A c l) : wr.cell? ⟨g, 0, none⟩ = some (.int .i64 n) ∧ wr.cell? ⟨g, 1, none⟩ = some (.slice A l.length c) := ⟨h.blk.cell 0, h.blk.cell 1⟩
theorem sameE_true (w : World) (A B : Option Addr) (c d : Nat) (xs : List Edg) (ha : Rs edgC 3 w A xs) (hb : Rs edgC 3 w B xs) (hn : xs.length ≤ 1000000000) :
    Calls Tryd.prog 16 #[.slice A xs.length c, .slice B xs.length d] w fun e w' => e = .returned (.bool true) ∧ Below w.heap.size w w' := by
  have := sameEdges_any w A B c d xs xs ha hb hn
  rw [decide_eq_true (show xs = xs from rfl)] at this
  refine this.mono ?_
  rintro e w' ⟨he, q, rfl⟩
  exact ⟨he, below_drewN (Below.refl _ _) q⟩
/-- a call that hands back a row of edges of its own -/
def GivesE (M : List Edg) (W : World) (e : Ending) (w' : World) : Prop := ∃ A c, e = .returned (.slice A M.length c) ∧ w'.ownsRow W.heap.size 35 3 (.slice A M.length c) M.length (rcs edgC M) ∧ Below W.heap.size W w'
theorem givesE_of {M : List Edg} {W : World} {e : Ending} {w' : World} (h : ∃ r, e = .returned r ∧ w'.ownsRow W.heap.size 35 3 r M.length (rcs edgC M) ∧ Below W.heap.size W w') : GivesE M W e w' := by
  obtain ⟨r, rfl, ho, hb⟩ := h
  obtain ⟨A', c', rfl, _⟩ := own_parts ho
  exact ⟨A', c', rfl, ho, hb⟩
theorem rcs_set_any (z : Int) : ∀ (M : List Edg) (j : Nat), j < M.length * 3 → ∃ M' : List Edg, M'.length = M.length ∧ (rcs edgC M).set j (.int .i64 z) = rcs edgC M' := by
  intro M
  induction M with
  | nil => intro j h; simp at h
  | cons y M ih =>
    intro j h
    have e : ∀ (z : Edg) (M : List Edg), rcs edgC (z :: M) = .int .i64 z.1 :: .int .i64 z.2.1 :: .int .i64 z.2.2 :: rcs edgC M := fun z M => rfl
    match j, h with
    | 0, _ => exact ⟨(z, y.2.1, y.2.2) :: M, rfl, rfl⟩
    | 1, _ => exact ⟨(y.1, z, y.2.2) :: M, rfl, rfl⟩
    | 2, _ => exact ⟨(y.1, y.2.1, z) :: M, rfl, rfl⟩
    | j + 3, h =>
      obtain ⟨M', h1, h2⟩ := ih j (by simp only [List.length_cons] at h; omega)
      exact ⟨y :: M', by simp [h1], by rw [e, e, ← h2]; rfl⟩
/-- two rows of the law's own are written -/
structure ESt (y wr : World) (a b : Value) (ka kb : Nat) : Prop where
  below : Below y.heap.size y wr
  ra : ∃ M : List Edg, M.length = ka ∧ wr.ownsRow y.heap.size 35 3 a ka (rcs edgC M)
  rb : ∃ M : List Edg, M.length = kb ∧ wr.ownsRow y.heap.size 35 3 b kb (rcs edgC M)
  ap : a.ownBlock = none ∨ a.ownBlock ≠ b.ownBlock
theorem ESt.setA {y wr : World} {g ka ca kb : Nat} {b : Value} (h : ESt y wr (.slice (some ⟨g, 0, none⟩) ka ca) b ka kb) {j : Nat} (hj : j < ka * 3) (z : Int) : ESt y (wr.setCell ⟨g, j, none⟩ (.int .i64 z)) (.slice (some ⟨g, 0, none⟩) ka ca) b ka kb := by
  obtain ⟨M, hM, hr⟩ := h.ra
  obtain ⟨Mb, hMb, hrb⟩ := h.rb
  obtain ⟨M', h1, h2⟩ := rcs_set_any z M j (by rw [hM]; exact hj)
  obtain ⟨s1, s2⟩ := hr.stored j (.int .i64 z)
  have hg := (own_blk hr).choose_spec.2
  rw [h2] at s1
  refine ⟨h.below.setCell (p := ⟨g, j, none⟩) hg _, ⟨M', by rw [h1]; exact hM, s1⟩, ⟨Mb, hMb, hrb.kept s2 (.inr fun e => ?_)⟩, h.ap⟩
  rcases h.ap with h3 | h3
  · cases h3
  · exact h3 e.symm
theorem ESt.setB {y wr : World} {g ka cb kb : Nat} {a : Value} (h : ESt y wr a (.slice (some ⟨g, 0, none⟩) kb cb) ka kb) {j : Nat} (hj : j < kb * 3) (z : Int) : ESt y (wr.setCell ⟨g, j, none⟩ (.int .i64 z)) a (.slice (some ⟨g, 0, none⟩) kb cb) ka kb := by
  obtain ⟨Ma, hMa, hra⟩ := h.ra
  obtain ⟨M, hM, hr⟩ := h.rb
  obtain ⟨M', h1, h2⟩ := rcs_set_any z M j (by rw [hM]; exact hj)
  obtain ⟨s1, s2⟩ := hr.stored j (.int .i64 z)
  have hg := (own_blk hr).choose_spec.2
  rw [h2] at s1
  exact ⟨h.below.setCell (p := ⟨g, j, none⟩) hg _, ⟨Ma, hMa, hra.kept s2 h.ap⟩, ⟨M', by rw [h1]; exact hM, s1⟩, h.ap⟩
theorem ESt.step {y wr w' : World} {a b : Value} {ka kb : Nat} (h : ESt y wr a b ka kb) (hb : Below wr.heap.size wr w') : ESt y w' a b ka kb := by
  obtain ⟨Ma, hMa, hra⟩ := h.ra
  obtain ⟨Mb, hMb, hrb⟩ := h.rb
  exact ⟨h.below.trans (hb.mono h.below.size), ⟨Ma, hMa, own_below hra hb⟩, ⟨Mb, hMb, own_below hrb hb⟩, h.ap⟩
/-- the cells of a row's place -/
theorem row_cells {wr : World} {B k c : Nat} {A : Option Addr} (h : ∃ M : List Edg, M.length = k ∧ wr.ownsRow B 35 3 (.slice A k c) k (rcs edgC M)) {i : Nat} (hi : i < k) :
    ∃ g, A = some ⟨g, 0, none⟩ ∧ (∃ u, wr.cell? ⟨g, i * 3, none⟩ = some u) ∧ (∃ u, wr.cell? ⟨g, i * 3 + 1, none⟩ = some u) ∧ wr.frozen? ⟨g, i * 3, none⟩ = false ∧ wr.frozen? ⟨g, i * 3 + 1, none⟩ = false := by
  obtain ⟨M, hM, hr⟩ := h
  obtain ⟨g, cap', hv, _⟩ := hr.form (by omega)
  have hA : A = some ⟨g, 0, none⟩ := by injection hv
  subst hA
  subst hM
  obtain ⟨b, oo, x', hbe, hb, hx', x1, x2, x3⟩ := edg_at (Rs.of_own (l := M) hr) (i := i) hi
  obtain ⟨rfl, rfl⟩ : b = g ∧ oo = 0 := by injection hbe with hbe; injection hbe with h1 h2; exact ⟨h1.symm, h2.symm⟩
  simp only [Nat.zero_add] at x1 x2
  exact ⟨b, rfl, ⟨_, x1⟩, ⟨_, x2⟩, hr.frozenAt _, hr.frozenAt _⟩
theorem cnt_le (l : List Edg) (u : Nat) : cntOf l u ≤ l.length ∧ cntTo l u ≤ l.length := ⟨List.length_filter_le _ _, List.length_filter_le _ _⟩
set_option maxRecDepth 100000 in
set_option maxHeartbeats 8000000 in
theorem lawEdges_any (w : World) (n v : Int) (A : Option Addr) (c : Nat) (l : List Edg) (ha : Rs edgC 3 w A l) (hF : Firsts w) :
    Calls Tryd.prog 4 #[.agg #[.int .i64 n, .slice A l.length c], .int .i64 v] w fun e w' => e = .returned (.bool true) ∧ Below w.heap.size w w' := by
  have hz := firsts_lt hF
  obtain ⟨i0, hi0, hz0, hz1, hz2, -⟩ := parts infoE
  have hB := (Below.refl w.heap.size w).alloc (Nat.le_refl _) (.cells #[.int .i64 n, .slice A l.length c] 25)
  have hX := Bx.new n c ha
  by_cases h1 : (l.length : Int) ≤ 200
  · have hs1 := fun W => light_at n A l.length c 200 true W (decide_eq_true h1)
    have hll : l.length ≤ 200 := by omega
    have hPO := fun W (hW : Below w.heap.size w W) => (pOut_any W n v A c l (ha.below hW) (by omega)).mono fun _ _ h => givesE_of h
    have hPB := fun W (hW : Below w.heap.size w W) => (pBack_any W n v A c l (ha.below hW) (by omega)).mono fun _ _ h => givesE_of h
    have hRO := fun W (hW : Below w.heap.size w W) => (refOut_any W n v A c l (ha.below hW) (by omega)).mono fun _ _ h => givesE_of h
    have hRB := fun W (hW : Below w.heap.size w W) => (refBack_any W n v A c l (ha.below hW) (by omega)).mono fun _ _ h => givesE_of h
    have hPOu := fun (u : Int) W (hW : Below w.heap.size w W) => (pOut_any W n u A c l (ha.below hW) (by omega)).mono fun _ _ h => givesE_of h
    have hPBu := fun (u : Int) W (hW : Below w.heap.size w W) => (pBack_any W n u A c l (ha.below hW) (by omega)).mono fun _ _ h => givesE_of h
    have hCK := fun W (hW : Below w.heap.size w W) => check_any W n A c l (ha.below hW)
    have hol := outL_len l v; have hbl := backL_len l v
    obtain ⟨MO, hMO⟩ : ∃ M, outL l v = M := ⟨_, rfl⟩
    obtain ⟨MB, hMB⟩ : ∃ M, backL l v = M := ⟨_, rfl⟩
    rw [hMO] at hPO hRO hol
    rw [hMB] at hPB hRB hbl
    have HX := Lib.hid hX; have H1 := Lib.hid hs1; have HF := Lib.hid hF; have HB := Lib.hid hB; have HPO := Lib.hid hPO; have HPB := Lib.hid hPB; have HRO := Lib.hid hRO; have HRB := Lib.hid hRB; have HPOU := Lib.hid hPOu; have HPBU := Lib.hid hPBu; have HCK := Lib.hid hCK; have HI0 := Lib.hid hi0; have HZ0 := Lib.hid hz0; have HE1 := Lib.hid (edgC_one l)
    clear hX hs1 ha hF h1 hB hPO hPB hRO hRB hPOu hPBu hCK hi0 hz0 hMO hMB
    go_enter Tryd.func4, Tryd.ntmps4
    go_wp2_with fail
    refine (H1.out _).mono ?_
    rintro e x1 ⟨rfl, hb1⟩
    have HB1 := Lib.hid (HB.out.trans (hb1.mono HB.out.size)); have HX1 := Lib.hid (HX.out.step hb1)
    clear hb1 HB HX
    obtain ⟨g0, g1⟩ := HX1.out.cells
    have HRD := Lib.hid HX1.out.rs.rd
    have HSZ := HB1.out.size
    go_wp2_with (at_builtin; refine wpList_append_any _ rfl (.tmp 17) (.tmp 19) 23 rfl w.heap.size 35 i0 (.agg #[.int .i64 0, .int .i64 0, .int .i64 0]) 3 24 Tryd.underlying23 HI0.out HZ0.out hz1 hz2 rfl (by decide) (.slice none 0 0) 0 [] rfl (World.ownsRow_nil _ _ _ _) _ A l.length c (rcs edgC l) rfl HRD.out HE1.out (by unfold maxLen; omega) (by omega) HSZ ?_; intro v3 x2 h2 h3 h4; rw [Nat.zero_add, List.nil_append] at h2; obtain ⟨Ao, co, rfl, _⟩ := own_parts h2; have HO2 := Lib.hid h2; have HG2 := Lib.hid (show Below x1.heap.size x1 x2 from (Below.refl _ _).grown h3 (Nat.le_refl _) (fun k hk => by cases hk)); clear h2 h3 h4)
    clear g0 g1
    have HB2 := Lib.hid (HB1.out.trans (HG2.out.mono HB1.out.size)); have HX2 := Lib.hid (HX1.out.step HG2.out)
    clear HB1 HX1 HG2 HRD
    have hss : ∀ w', Below x2.heap.size x2 w' → w'.cell? ⟨w.heap.size, 0, none⟩ = some (.int .i64 n) ∧ w'.cell? ⟨w.heap.size, 1, none⟩ = some (.slice A l.length c) := fun w' hb' => (HX2.out.step hb').cells
    have HSS := Lib.hid hss
    clear hss
    refine wp_region_noPanic ?_
    refine wp_region_held_drew (S := (fun w' => w'.cell? ⟨w.heap.size, 0, none⟩ = some (.int .i64 n) ∧ w'.cell? ⟨w.heap.size, 1, none⟩ = some (.slice A l.length c))) (by kernel_rfl) ?_ (fun hHeld => ?_)
    · exact HSS.out _ (below_drewN (Below.refl _ _) 1)
    refine wpAnyH_take (i := 0) (v := ?v0g1_) rfl (by kernel_rfl) (by kernel_rfl) (by kernel_rfl) (fun _ _ _ h => h) (Or.inl ⟨by rfl, ?y0g1_⟩) (by assumption) ?r0g1_
    case y0g1_ => (intro w hSw; (try dsimp only at hSw); go_simp; try with_reducible rfl)
    change wpAnyH _ _ _ _ _ _ _ (Act.put _ (some 21) _) _; simp only [Act.put, List.setIfInBounds_toArray, List.set_cons_zero, List.set_cons_succ]
    refine wpAnyH_take (i := 1) (v := ?v1g1_) rfl (by kernel_rfl) (by kernel_rfl) (by kernel_rfl) (fun _ _ _ h => h) (Or.inl ⟨by rfl, ?y1g1_⟩) (by assumption) ?r1g1_
    case y1g1_ => (intro w hSw; (try dsimp only at hSw); go_simp; try with_reducible rfl)
    change wpAnyH _ _ _ _ _ _ _ (Act.put _ (some 22) _) _; simp only [Act.put, List.setIfInBounds_toArray, List.set_cons_zero, List.set_cons_succ]
    refine wpAnyH_take (i := 3) (v := ?v3g1_) rfl (by kernel_rfl) (by kernel_rfl) (by kernel_rfl) (fun _ _ _ h => h) (Or.inl ⟨by rfl, ?y3g1_⟩) (by assumption) ?r3g1_
    case y3g1_ => (intro w hSw; (try dsimp only at hSw); go_simp; try with_reducible rfl)
    change wpAnyH _ _ _ _ _ _ _ (Act.put _ (some 24) _) _; simp only [Act.put, List.setIfInBounds_toArray, List.set_cons_zero, List.set_cons_succ]
    refine wpAnyH_take (i := 4) (v := ?v4g1_) rfl (by kernel_rfl) (by kernel_rfl) (by kernel_rfl) (fun _ _ _ h => h) (Or.inl ⟨by rfl, ?y4g1_⟩) (by assumption) ?r4g1_
    case y4g1_ => (intro w hSw; (try dsimp only at hSw); go_simp; try with_reducible rfl)
    change wpAnyH _ _ _ _ _ _ _ (Act.put _ (some 25) _) _; simp only [Act.put, List.setIfInBounds_toArray, List.set_cons_zero, List.set_cons_succ]
    refine wpAnyH_ready (rs := [2]) (by kernel_rfl) (by simp) ?_
    refine AllReadyH.cons rfl (fun K hK => ?_) AllReadyH.nil
    go_simp
    refine (HPO.out _ (below_drewN HB2.out 1)).mono ?_
    rintro e x3 ⟨Aa, ca, rfl, ho3, hb3⟩
    have HB3 := Lib.hid (undrew hb3)
    have HA3 : Hid (x3.ownsRow x2.heap.size 35 3 (.slice Aa MO.length ca) MO.length (rcs edgC MO)) := Lib.hid ho3
    clear ho3 hb3
    dsimp only
    refine hK.out _ _ ?_ (fun hHeld => ?_)
    · exact HSS.out _ HB3.out
    clear hK K
    try simp only [Act.put, List.setIfInBounds_toArray, List.set_cons_zero, List.set_cons_succ]
    refine wpAnyH_ready (rs := [5]) (by kernel_rfl) (by simp) ?_
    refine AllReadyH.cons rfl (fun K hK => ?_) AllReadyH.nil
    go_simp
    refine (HPB.out _ (HB2.out.trans (HB3.out.mono HB2.out.size))).mono ?_
    rintro e x4 ⟨Ab, cb, rfl, ho4, hb4⟩
    have HB4 := Lib.hid (HB3.out.trans (hb4.mono HB3.out.size))
    have HC4 := Lib.hid hb4
    have HA4 := Lib.hid ho4
    clear ho4 hb4
    dsimp only
    refine hK.out _ _ ?_ (fun hHeld => ?_)
    · exact HSS.out _ HB4.out
    clear hK K
    try simp only [Act.put, List.setIfInBounds_toArray, List.set_cons_zero, List.set_cons_succ]
    refine wpAnyH_take (i := 6) (v := ?v6g1_) rfl (by kernel_rfl) (by kernel_rfl) (by kernel_rfl) (fun _ _ _ h => h) (Or.inl ⟨by rfl, ?y6g1_⟩) (by assumption) ?r6g1_
    case y6g1_ => (intro w hSw; (try dsimp only at hSw); go_simp; try with_reducible rfl)
    change wpAnyH _ _ _ _ _ _ _ (Act.put _ (some 6) _) _; simp only [Act.put, List.setIfInBounds_toArray, List.set_cons_zero, List.set_cons_succ]
    refine wpAnyH_take (i := 7) (v := ?v7g1_) rfl (by kernel_rfl) (by kernel_rfl) (by kernel_rfl) (fun _ _ _ h => h) (Or.inl ⟨by rfl, ?y7g1_⟩) (by assumption) ?r7g1_
    case y7g1_ => (intro w hSw; (try dsimp only at hSw); go_simp; try with_reducible rfl)
    change wpAnyH _ _ _ _ _ _ _ (Act.put _ (some 7) _) _; simp only [Act.put, List.setIfInBounds_toArray, List.set_cons_zero, List.set_cons_succ]
    refine wpAnyH_done (by kernel_rfl) ?_ _
    refine NoPanic.normal ?_
    have HRA := Lib.hid (own_below HA3.out HC4.out)
    have hap : (Value.slice Aa MO.length ca).ownBlock = none ∨ (Value.slice Aa MO.length ca).ownBlock ≠ (Value.slice Ab MB.length cb).ownBlock := by
      cases hob : (Value.slice Aa MO.length ca).ownBlock with
      | none => exact .inl rfl
      | some q =>
        right
        intro e'
        have q1 := (HA3.out.lt q hob).2
        have q2 := (HA4.out.lt q e'.symm).1
        omega
    have HS4 : Hid (ESt x2 x4 (.slice Aa MO.length ca) (.slice Ab MB.length cb) MO.length MB.length) := Lib.hid ⟨HB4.out, ⟨MO, rfl, HRA.out⟩, ⟨MB, rfl, own_mono HA4.out HB3.out.size⟩, hap⟩
    have HR4 := Lib.hid (Rs.of_own HRA.out); have HQ4 := Lib.hid (Rs.of_own HA4.out)
    clear hap HRA HA3 HA4 HC4 HSS HB3 HB4
    obtain ⟨g0, g1⟩ := (HX2.out.step HS4.out.below).cells
    go_wp2_with fail
    refine (HRO.out _ (HB2.out.trans (HS4.out.below.mono HB2.out.size))).mono ?_
    clear g0 g1
    rintro e x5 ⟨A5, c5, rfl, ho5, hb5⟩
    have HS5 := Lib.hid (HS4.out.step hb5); have HR5 := Lib.hid (HR4.out.below hb5); have HQ5 := Lib.hid (HQ4.out.below hb5); have HT5 := Lib.hid (Rs.of_own ho5)
    clear ho5 hb5 HS4 HR4 HQ4
    go_wp2_with fail
    refine (sameE_true _ _ _ _ _ MO HR5.out HT5.out (by omega)).mono ?_
    rintro e x6 ⟨rfl, hb6⟩
    have HS6 := Lib.hid (HS5.out.step hb6); have HQ6 := Lib.hid (HQ5.out.below hb6)
    clear hb6 HS5 HR5 HQ5 HT5
    obtain ⟨g0, g1⟩ := (HX2.out.step HS6.out.below).cells
    go_wp2_with fail
    refine (HRB.out _ (HB2.out.trans (HS6.out.below.mono HB2.out.size))).mono ?_
    clear g0 g1
    rintro e x7 ⟨A7, c7, rfl, ho7, hb7⟩
    have HS7 := Lib.hid (HS6.out.step hb7); have HQ7 := Lib.hid (HQ6.out.below hb7); have HT7 := Lib.hid (Rs.of_own ho7)
    clear ho7 hb7 HS6 HQ6
    go_wp2_with fail
    refine (sameE_true _ _ _ _ _ MB HQ7.out HT7.out (by omega)).mono ?_
    rintro e x8 ⟨rfl, hb8⟩
    have HS8 := Lib.hid (HS7.out.step hb8)
    clear hb8 HS7 HQ7 HT7
    go_wp2
    go_loopg [8] MO.length (fun gf vi wr => ∃ i : Nat, vi = .int .i64 i ∧ i + gf = MO.length ∧ ESt x2 wr (.slice Aa MO.length ca) (.slice Ab MB.length cb) MO.length MB.length)
    case atStart => exact ⟨0, rfl, by omega, HS8.out⟩
    case round =>
      clear HS8
      obtain ⟨i, rfl, hi, hst⟩ := hrel
      cases gk with
      | succ gf =>
        have hiI : (i : Int) < (MO.length : Int) := by omega
        obtain ⟨g, rfl, _, ⟨u, hu⟩, _, hf⟩ := row_cells hst.ra (i := i) (by omega)
        have HNX := Lib.hid (hst.setA (j := i * 3 + 1) (by omega) (-9))
        clear hst
        go_wp2
        go_roundg gf
        case measure => omega
        case rel => exact ⟨i + 1, by go_num, by omega, HNX.out⟩
      | zero =>
        obtain rfl : i = MO.length := by omega
        have HST := Lib.hid hst
        clear hst
        go_wp2
        go_loopg [9] MB.length (fun gf vi wr => ∃ i : Nat, vi = .int .i64 i ∧ i + gf = MB.length ∧ ESt x2 wr (.slice Aa MO.length ca) (.slice Ab MB.length cb) MO.length MB.length)
        case atStart => exact ⟨0, rfl, by omega, HST.out⟩
        case round =>
          clear HST
          obtain ⟨i, rfl, hi, hst⟩ := hrel
          cases gk with
          | succ gf =>
            have hiI : (i : Int) < (MB.length : Int) := by omega
            obtain ⟨g, rfl, ⟨u, hu⟩, _, hf, _⟩ := row_cells hst.rb (i := i) (by omega)
            have HNX := Lib.hid (hst.setB (j := i * 3) (by omega) (-9))
            clear hst
            go_wp2
            go_roundg gf
            case measure => omega
            case rel => exact ⟨i + 1, by go_num, by omega, HNX.out⟩
          | zero =>
            obtain rfl : i = MB.length := by omega
            have HB9 := Lib.hid hst.below
            clear hst
            have HOW := Lib.hid (Rs.of_own HO2.out)
            obtain ⟨g0, g1⟩ := (HX2.out.step HB9.out).cells
            go_wp2_with fail
            refine (sameE_true _ _ _ _ _ l (HOW.out.below HB9.out) ((HX2.out.step HB9.out).rs) (by omega)).mono ?_
            clear g0 g1
            rintro e x10 ⟨rfl, hb10⟩
            have HB10 := Lib.hid (HB9.out.trans (hb10.mono HB9.out.size))
            clear hb10 HB9
            obtain ⟨g0, g1⟩ := (HX2.out.step HB10.out).cells
            by_cases hk : checkL (n, l) = 0
            · obtain ⟨N, rfl⟩ : ∃ N : Nat, n = (N : Int) := ⟨n.toNat, by have h1 : 1 ≤ n := (check_ok hk).1; omega⟩
              have hN5 : N ≤ 512 := by have h1 : (N : Int) ≤ 512 := (check_ok hk).2.1; omega
              obtain ⟨cT, cO⟩ := cnt_all (check_ok hk).2.2.2.1
              have hck := HCK.out x10 (HB2.out.trans (HB10.out.mono HB2.out.size))
              rw [hk] at hck
              have HC := Lib.hid hck; have HCT := Lib.hid cT; have HCO := Lib.hid cO
              clear hck cT cO hk
              go_wp2_with fail
              refine HC.out.mono ?_
              clear HC g0 g1
              rintro e x11 ⟨rfl, hb11⟩
              have HB11 := Lib.hid (HB10.out.trans (hb11.mono HB10.out.size))
              clear hb11 HB10
              go_wp2
              go_loopg [10, 11, 12] N (fun gf vn vm vu wr => ∃ u : Nat, vu = .int .i64 u ∧ u + gf = N ∧ vn = .int .i64 (cntOf l u) ∧ vm = .int .i64 (cntTo l u) ∧ Below x2.heap.size x2 wr)
              case atStart => exact ⟨0, rfl, by omega, by rw [cntOf_zero]; rfl, by rw [cntTo_zero]; rfl, HB11.out⟩
              case round =>
                clear HB11
                obtain ⟨u, rfl, hu, rfl, rfl, hb⟩ := hrel
                have HBU := Lib.hid hb
                clear hb
                obtain ⟨g0, g1⟩ := (HX2.out.step HBU.out).cells
                cases gk with
                | zero =>
                  obtain rfl : N = u := by omega
                  rw [HCT.out, HCO.out]
                  have hge : decide ((N : Int) < (N : Int)) = false := by simp
                  go_wp2_with fail
                  refine (works_any _ (firsts_below HF.out (HB2.out.trans (HBU.out.mono HB2.out.size)) hz)).mono ?_
                  rintro e x12 ⟨rfl, hb12⟩
                  have HBF := Lib.hid ((HB2.out.trans (HBU.out.mono HB2.out.size)).trans (hb12.mono (HB2.out.trans (HBU.out.mono HB2.out.size)).size))
                  clear hb12
                  go_wp2
                  go_ret
                  exact ⟨rfl, HBF.out⟩
                | succ gf =>
                  have huI : (u : Int) < (N : Int) := by omega
                  have huN : u < N := by omega
                  have s1 := cntOf_succ l u; have s2 := cntTo_succ l u
                  have q1 := (cnt_le l (u + 1)).1; have q2 := (cnt_le l (u + 1)).2
                  have HS1 := Lib.hid s1; have HS2 := Lib.hid s2
                  have b1 : cntOf l u + (outL l u).length ≤ 200 := by omega
                  have b2 : cntTo l u + (backL l u).length ≤ 200 := by omega
                  clear s1 s2 q1 q2
                  generalize hcO : cntOf l u = p1 at *
                  generalize hcT : cntTo l u = p2 at *
                  clear hcO hcT
                  go_wp2_with fail
                  refine (HPOU.out u _ (HB2.out.trans (HBU.out.mono HB2.out.size))).mono ?_
                  clear g0 g1
                  rintro e x12 ⟨A12, c12, rfl, -, hb12⟩
                  have HBV := Lib.hid (HBU.out.trans (hb12.mono HBU.out.size))
                  clear hb12 HBU
                  obtain ⟨g0, g1⟩ := (HX2.out.step HBV.out).cells
                  go_wp2_with fail
                  refine (HPBU.out u _ (HB2.out.trans (HBV.out.mono HB2.out.size))).mono ?_
                  clear g0 g1
                  rintro e x13 ⟨A13, c13, rfl, -, hb13⟩
                  have HBW := Lib.hid (HBV.out.trans (hb13.mono HBV.out.size))
                  clear hb13 HBV
                  go_wp2
                  go_roundg gf
                  case measure => omega
                  case rel => exact ⟨u + 1, by go_num, by omega, by rw [HS1.out]; go_num, by rw [HS2.out]; go_num, HBW.out⟩
            · have hne : (checkL (n, l) != 0) = true := by simp [hk]
              have hck := HCK.out x10 (HB2.out.trans (HB10.out.mono HB2.out.size))
              obtain ⟨K, hK⟩ : ∃ K, checkL (n, l) = K := ⟨_, rfl⟩
              rw [hK] at hck hne
              have HC := Lib.hid hck
              clear hck hk hK
              go_wp2_with fail
              refine HC.out.mono ?_
              clear HC g0 g1
              rintro e x11 ⟨rfl, hb11⟩
              have HB11 := Lib.hid (HB10.out.trans (hb11.mono HB10.out.size))
              clear hb11 HB10
              obtain ⟨g0, g1⟩ := (HX2.out.step HB11.out).cells
              go_wp2_with fail
              refine (sameE_true _ _ _ _ _ l (HOW.out.below HB11.out) ((HX2.out.step HB11.out).rs) (by omega)).mono ?_
              clear g0 g1
              rintro e x12 ⟨rfl, hb12⟩
              have HB12 := Lib.hid (HB2.out.trans ((HB11.out.trans (hb12.mono HB11.out.size)).mono HB2.out.size))
              clear hb12 HB11
              go_wp2_with fail
              refine (works_any _ (firsts_below HF.out HB12.out hz)).mono ?_
              rintro e x13 ⟨rfl, hb13⟩
              have HB13 := Lib.hid (HB12.out.trans (hb13.mono HB12.out.size))
              clear hb13
              go_wp2
              go_ret
              exact ⟨rfl, HB13.out⟩
  · have hs1 := fun W => light_at n A l.length c 200 false W (decide_eq_false h1)
    have H1 := Lib.hid hs1; have HF := Lib.hid hF; have HB := Lib.hid hB
    clear hX hs1 ha hF h1 hB hi0 hz0
    go_enter Tryd.func4, Tryd.ntmps4
    go_wp2_with fail
    refine (H1.out _).mono ?_
    rintro e x1 ⟨rfl, hb1⟩
    have HB1 := Lib.hid (HB.out.trans (hb1.mono HB.out.size))
    clear hb1
    go_wp2_with fail
    refine (works_any _ (firsts_below HF.out HB1.out hz)).mono ?_
    rintro e x2 ⟨rfl, hb2⟩
    have HB2 := Lib.hid (HB1.out.trans (hb2.mono HB1.out.size))
    clear hb2
    go_wp2
    go_ret
    exact ⟨rfl, HB2.out⟩
end Go.Proofs.YtknigkjbnaoldaaDoor
namespace Go.Proofs.YtknigkjbnaoldaaDoor
open Go.RowKit

theorem digs_len19 (n : Nat) : (digs 19 n).length ≤ 19 := digs_length 19 n
theorem numD_len (n : Int) : (numD n).length ≤ 19 := by
  unfold numD
  have h : ∀ ds : List Nat, (∀ d ∈ ds, d < 10) → (ds.flatMap (ek 0)).length = ds.length := by
    intro ds
    induction ds with
    | nil => intro _; rfl
    | cons d ds ih =>
      intro h
      rw [List.flatMap_cons, List.length_append, ih fun x hx => h x (List.mem_cons_of_mem _ hx), ek_bytes 0 (.inl rfl) d (h d (by simp)), if_pos rfl, List.length_cons, List.length_cons, List.length_nil]
      omega
  rw [h _ (digs_lt 19 n.toNat)]
  exact digs_len19 _
theorem size_bag (l : List UInt8) : (ba l).size = l.length := by simp [ba, ByteArray.size]
theorem print_len {n : Int} {l : List Edg} (hn : 0 ≤ n) (h : ∀ e ∈ l, 0 ≤ e.1 ∧ 0 ≤ e.2.1 ∧ 0 ≤ e.2.2) : (printG (n, l)).size ≤ 30 + 65 * l.length := by
  unfold printG
  rw [vL_line hn, edgesT_ba _ l h, size_bag, List.length_append]
  have h1 : ∀ m : List Edg, ((m.map eL).flatMap fun g => g ++ [10]).length ≤ 65 * m.length := by
    intro m
    induction m with
    | nil => simp
    | cons e m ih =>
      rw [List.map_cons, List.flatMap_cons, List.length_append, List.length_cons]
      have a1 := numD_len e.1; have a2 := numD_len e.2.1; have a3 := numD_len e.2.2
      have a4 : eW.length = 4 := rfl
      have a5 : (eL e ++ [10]).length = eW.length + 1 + (numD e.1).length + 1 + (numD e.2.1).length + 1 + (numD e.2.2).length + 1 := by unfold eL; simp; omega
      omega
  have h2 := h1 l
  have h3 := numD_len n
  have h4 : vW.length = 8 := rfl
  have h5 : (vL n ++ [10]).length = vW.length + 1 + (numD n).length + 1 := by unfold vL; simp; omega
  omega
theorem fits_pos {e : Edg} {n : Int} (h : fitsE e n = true) : 0 ≤ e.1 ∧ 0 ≤ e.2.1 ∧ 0 ≤ e.2.2 := by
  unfold fitsE at h
  have := of_decide_eq_true h
  omega
theorem edgeP_two {n : Int} {l : List Edg} {both : Bool} {e : Edg} {g : Gr} (h : edgeP n l both e = some g) : g.2.length ≤ l.length + 2 := by
  unfold edgeP at h
  cases h1 : addP n l e with
  | none => rw [h1] at h; cases h
  | some l1 =>
    rw [h1] at h
    dsimp only at h
    obtain ⟨_, rfl⟩ := addP_fitq h1
    split at h
    · cases h2 : addP n (l ++ [e]) (e.2.1, e.1, e.2.2) with
      | none => rw [h2] at h; cases h
      | some l2 =>
        rw [h2] at h
        simp only [Option.map_some, Option.some.injEq] at h
        subst h
        obtain ⟨_, rfl⟩ := addP_fitq h2
        simp
    · simp only [Option.some.injEq] at h
      subst h
      simp
theorem lineP_two {g g' : Gr} {ws : List ByteArray} (h : lineP numW g ws = some g') : g'.2.length ≤ g.2.length + 2 := by
  unfold lineP at h
  split at h
  · split at h
    · split at h
      · simp only [Option.some.injEq] at h; rw [← h]; simp
      · cases h
    · cases h
  · split at h
    all_goals first
      | (split at h
         · exact edgeP_two h
         · cases h)
      | cases h
theorem goL_two : ∀ (ls : List ByteArray) (i : Nat) (g g' : Gr), goL wordsP (lineP numW) i g ls = .inr g' → g'.2.length ≤ g.2.length + 2 * ls.length := by
  intro ls
  induction ls with
  | nil => intro i g g' h; injection h with h; rw [← h]; simp
  | cons s ls ih =>
    intro i g g' h
    unfold goL at h
    rw [List.length_cons]
    cases hw : wordsP s with
    | none => rw [hw] at h; cases h
    | some w =>
      rw [hw] at h
      cases w with
      | nil => have := ih _ _ _ h; omega
      | cons x w =>
        dsimp only at h
        cases hl : lineP numW g (x :: w) with
        | none => rw [hl] at h; cases h
        | some g2 => rw [hl] at h; have := ih _ _ _ h; have := lineP_two hl; omega
theorem lines_count (s : ByteArray) : (linesP s).length ≤ s.size + 1 := by
  have h4 := lin_size s.data.toList []
  rw [linesP_eq, List.length_map]
  have h7 : ∀ l : List (List UInt8), l.length ≤ (l.map fun g => g.length + 1).sum := by
    intro l
    induction l with
    | nil => simp
    | cons a l ih => simp at ih ⊢; omega
  have := h7 (lin s.data.toList [])
  have h6 : s.data.toList.length = s.size := by simp
  simp at h4
  omega
theorem doc_small {s : ByteArray} (hs : s.size ≤ 1500) : (docG s).1.2.length ≤ 3002 := by
  have h2 := (text_rel numW wordsP (linesP s)).2
  have h3 := h2.perm.length_eq
  have h4 : (textL wordsP (lineP numW) (linesP s)).1.2.length ≤ 3002 := by
    unfold textL
    cases hgo : goL wordsP (lineP numW) 0 (0, []) (linesP s) with
    | inl i => simp
    | inr g =>
      dsimp only
      have h5 := goL_two _ _ _ _ hgo
      have h6 := lines_count s
      split
      · simp
      · simp at h5 ⊢; omega
  unfold docG
  omega
theorem Bx.alloc {wr : World} {g : Nat} {n : Int} {A : Option Addr} {c : Nat} {l : List Edg} (h : Bx wr g n A c l) (o : Obj) : Bx (wr.alloc o) g n A c l := ⟨h.blk.alloc o, h.rs.alloc o⟩
theorem psame_true (w : World) (n : Int) (A B : Option Addr) (c d : Nat) (xs : List Edg) (ha : Rs edgC 3 w A xs) (hb : Rs edgC 3 w B xs) (hn : xs.length ≤ 1000000000) :
    Calls Tryd.prog 20 #[.agg #[.int .i64 n, .slice A xs.length c], .agg #[.int .i64 n, .slice B xs.length d]] w fun e w' => e = .returned (.bool true) ∧ Below w.heap.size w w' := by
  have := same_any w n n A B c d xs xs ha hb hn
  rwa [decide_eq_true (show n = n ∧ xs = xs from ⟨rfl, rfl⟩)] at this
theorem print_good (w : World) (n : Int) (A : Option Addr) (c : Nat) (l : List Edg) (t : ByteArray) (h : Rs edgC 3 w A l) (hF : Firsts w) (hk : checkL (n, l) = 0) (ht : printG (n, l) = t) :
    Calls Tryd.prog 21 #[.agg #[.int .i64 n, .slice A l.length c]] w fun R w' => R = .returned (.tuple #[.string t, .int .i64 0]) ∧ Below w.heap.size w w' :=
  print_at' w n A c l t 0 h hF (by unfold printE; rw [if_pos hk, ht]) hk
theorem parse_good (w : World) (n : Int) (l : List Edg) (t : ByteArray) (hF : Firsts w) (hk : checkL (n, l) = 0) (ht : printG (n, l) = t) (hs : t.size ≤ 262144) :
    Calls Tryd.prog 10 #[.string t] w fun R w' => ∃ A c, R = .returned (.tuple #[.agg #[.int .i64 n, .slice A l.length c], .int .i64 0, .int .i64 0]) ∧ Rs edgC 3 w' A l ∧ Below w.heap.size w w' :=
  parse_at t n l 0 0 w hs hF (by rw [← ht]; exact doc_print hk)
theorem turn_at (w : World) (n : Int) (A : Option Addr) (c : Nat) (l l' : List Edg) (h : Rs edgC 3 w A l) (hk : checkL (n, l) = 0) (ht : turnG (n, l) = (n, l')) :
    Calls Tryd.prog 23 #[.agg #[.int .i64 n, .slice A l.length c]] w fun R w' => ∃ A' c', R = .returned (.tuple #[.agg #[.int .i64 n, .slice A' l'.length c'], .int .i64 0]) ∧ Rs edgC 3 w' A' l' ∧ Below w.heap.size w w' := by
  refine (turn_any w n A c l h).mono ?_
  rintro R w' ⟨hb, A', c', hR, hr⟩
  rw [ht] at hR hr
  rw [hk] at hR
  exact ⟨A', c', hR, hr, hb⟩
theorem check_good0 (w : World) (n : Int) (A : Option Addr) (c : Nat) (l : List Edg) (h : Rs edgC 3 w A l) (hk : checkL (n, l) = 0) : Calls Tryd.prog 19 #[.agg #[.int .i64 n, .slice A l.length c]] w fun e w' => e = .returned (.int .i64 0) ∧ Below w.heap.size w w' := by
  have := check_any w n A c l h
  rwa [hk] at this
set_option maxRecDepth 100000 in
set_option maxHeartbeats 8000000 in
theorem lawBack_any (w : World) (n : Int) (A : Option Addr) (c : Nat) (l : List Edg) (s : ByteArray) (ha : Rs edgC 3 w A l) (hF : Firsts w) :
    Calls Tryd.prog 7 #[.agg #[.int .i64 n, .slice A l.length c], .string s] w fun e w' => e = .returned (.bool true) ∧ Below w.heap.size w w' := by
  have hz := firsts_lt hF
  have hB := (Below.refl w.heap.size w).alloc (Nat.le_refl _) (.cells #[.int .i64 n, .slice A l.length c] 25)
  have hX := Bx.new n c ha
  by_cases h1 : (l.length : Int) ≤ 300
  · have hs1 := fun W => light_at n A l.length c 300 true W (decide_eq_true h1)
    by_cases h2 : 1500 < s.size
    · have HX := Lib.hid hX; have H1 := Lib.hid hs1; have HF := Lib.hid hF; have HB := Lib.hid hB
      clear hX hs1 ha hF h1 hB
      go_enter Tryd.func7, Tryd.ntmps7
      go_wp2_with fail
      refine (H1.out _).mono ?_
      rintro e x1 ⟨rfl, hb1⟩
      have HB1 := Lib.hid (HB.out.trans (hb1.mono HB.out.size))
      clear hb1
      go_wp2_with fail
      refine (works_any _ (firsts_below HF.out HB1.out hz)).mono ?_
      rintro e x2 ⟨rfl, hb2⟩
      have HB2 := Lib.hid (HB1.out.trans (hb2.mono HB1.out.size))
      clear hb2
      go_wp2
      go_ret
      exact ⟨rfl, HB2.out⟩
    · obtain ⟨n2, k2, er, l2, hdoc, hk2, hl8, hp, _⟩ := reads2 s (by omega)
      have hsm := doc_small (s := s) (by omega)
      have hgood := doc_good (s := s)
      rw [hdoc] at hsm hgood
      dsimp only at hsm hgood
      have hs2 : s.size ≤ 1500 := by omega
      by_cases hk : checkL (n, l) = 0
      · obtain ⟨N, rfl⟩ : ∃ N : Nat, n = (N : Int) := ⟨n.toNat, by have h1 : 1 ≤ n := (check_ok hk).1; omega⟩
        obtain ⟨t1, t2, t3⟩ := turn_good hk
        have t4 : turnG ((N : Int), turnR l N) = ((N : Int), l) := by
          have := (turn_good t2).1
          rw [t3] at this
          exact this
        have hpl := print_len (n := (N : Int)) (l := l) (by omega) fun e he => fits_pos ((check_ok hk).2.2.2.1 e he)
        have hm8 : (turnR l N).length ≤ 8192 := (check_ok t2).2.2.1
        obtain ⟨m, hm⟩ : ∃ m, turnR l N = m := ⟨_, rfl⟩
        rw [hm] at t1 t2 t4 hm8
        obtain ⟨T, hT⟩ : ∃ T, printG ((N : Int), l) = T := ⟨_, rfl⟩
        have hTz : T.size ≤ 262144 := by rw [hT] at hpl; omega
        have HX := Lib.hid hX; have H1 := Lib.hid hs1; have HF := Lib.hid hF; have HB := Lib.hid hB; have HP := Lib.hid hp; have HT := Lib.hid hT; have HK := Lib.hid hk; have HT1 := Lib.hid t1; have HT2 := Lib.hid t2; have HT4 := Lib.hid t4; have HG := Lib.hid hgood; have HN := Lib.hid h1
        clear hX hs1 ha hF h1 hB hp hT hk t1 t2 t3 t4 hm hpl hgood hdoc
        go_enter Tryd.func7, Tryd.ntmps7
        go_wp2_with fail
        refine (H1.out _).mono ?_
        rintro e x1 ⟨rfl, hb1⟩
        have HB1 := Lib.hid (HB.out.trans (hb1.mono HB.out.size)); have HX1 := Lib.hid (HX.out.step hb1)
        clear hb1 HB HX
        obtain ⟨g0, g1⟩ := HX1.out.cells
        go_wp2_with fail
        refine (print_good _ _ _ _ _ T HX1.out.rs (firsts_below HF.out HB1.out hz) HK.out HT.out).mono ?_
        clear g0 g1
        rintro e x2 ⟨rfl, hb2⟩
        have HB2 := Lib.hid (HB1.out.trans (hb2.mono HB1.out.size)); have HX2 := Lib.hid (HX1.out.step hb2)
        clear hb2 HB1 HX1
        go_wp2_with fail
        refine (parse_good _ (N : Int) l T (firsts_below HF.out HB2.out hz) HK.out HT.out hTz).mono ?_
        rintro e x3 ⟨A3, c3, rfl, hr3, hb3⟩
        have HB3 := Lib.hid ((HB2.out.trans (hb3.mono HB2.out.size)).alloc (HB2.out.trans (hb3.mono HB2.out.size)).size (.cells #[.int .i64 (N : Int), .slice A3 l.length c3] 25))
        have HX3 := Lib.hid ((HX2.out.step hb3).alloc (.cells #[.int .i64 (N : Int), .slice A3 l.length c3] 25)); have HY3 := Lib.hid (Bx.new (N : Int) c3 hr3)
        clear hb3 hr3 HB2 HX2
        obtain ⟨g0, g1⟩ := HX3.out.cells
        go_wp2_with fail
        refine (turn_at _ _ _ _ _ m HX3.out.rs HK.out HT1.out).mono ?_
        clear g0 g1
        rintro e x4 ⟨A4, c4, rfl, hr4, hb4⟩
        have HB4 := Lib.hid ((HB3.out.trans (hb4.mono HB3.out.size)).alloc (HB3.out.trans (hb4.mono HB3.out.size)).size (.cells #[.int .i64 (N : Int), .slice A4 m.length c4] 25))
        have HX4 := Lib.hid ((HX3.out.step hb4).alloc (.cells #[.int .i64 (N : Int), .slice A4 m.length c4] 25)); have HY4 := Lib.hid ((HY3.out.step hb4).alloc (.cells #[.int .i64 (N : Int), .slice A4 m.length c4] 25)); have HZ4 := Lib.hid (Bx.new (N : Int) c4 hr4)
        clear hb4 hr4 HB3 HX3 HY3
        obtain ⟨g0, g1⟩ := HZ4.out.cells
        go_wp2_with fail
        refine (turn_at _ _ _ _ _ l HZ4.out.rs HT2.out HT4.out).mono ?_
        clear g0 g1
        rintro e x5 ⟨A5, c5, rfl, hr5, hb5⟩
        have HB5 := Lib.hid ((HB4.out.trans (hb5.mono HB4.out.size)).alloc (HB4.out.trans (hb5.mono HB4.out.size)).size (.cells #[.int .i64 (N : Int), .slice A5 l.length c5] 25))
        have HX5 := Lib.hid ((HX4.out.step hb5).alloc (.cells #[.int .i64 (N : Int), .slice A5 l.length c5] 25)); have HY5 := Lib.hid ((HY4.out.step hb5).alloc (.cells #[.int .i64 (N : Int), .slice A5 l.length c5] 25)); have HZ5 := Lib.hid (Bx.new (N : Int) c5 hr5)
        clear hb5 hr5 HB4 HX4 HY4 HZ4
        obtain ⟨g0, g1⟩ := HX5.out.cells
        obtain ⟨y0, y1⟩ := HY5.out.cells
        go_wp2_with fail
        refine (psame_true _ _ _ _ _ _ l HY5.out.rs HX5.out.rs (by have := HN.out; omega)).mono ?_
        clear g0 g1 y0 y1
        rintro e x6 ⟨rfl, hb6⟩
        have HB6 := Lib.hid (HB5.out.trans (hb6.mono HB5.out.size)); have HX6 := Lib.hid (HX5.out.step hb6); have HZ6 := Lib.hid (HZ5.out.step hb6)
        clear hb6 HB5 HX5 HY5 HZ5
        obtain ⟨g0, g1⟩ := HX6.out.cells
        obtain ⟨y0, y1⟩ := HZ6.out.cells
        go_wp2_with fail
        refine (psame_true _ _ _ _ _ _ l HZ6.out.rs HX6.out.rs (by have := HN.out; omega)).mono ?_
        clear g0 g1 y0 y1
        rintro e x7 ⟨rfl, hb7⟩
        have HBQ := Lib.hid (HB6.out.trans (hb7.mono HB6.out.size))
        clear hb7 HB6 HX6 HZ6
        by_cases her : er = 0
        · subst her
          have hk2 : checkL (n2, l2) = 0 := HG.out rfl
          have hpl := print_len (n := n2) (l := l2) (by have h : 1 ≤ n2 := (check_ok hk2).1; omega) fun e he => fits_pos ((check_ok hk2).2.2.2.1 e he)
          obtain ⟨U, hU⟩ : ∃ U, printG (n2, l2) = U := ⟨_, rfl⟩
          have hUz : U.size ≤ 262144 := by rw [hU] at hpl; omega
          have HK2 := Lib.hid hk2; have HU := Lib.hid hU
          clear hk2 hU hpl
          go_wp2_with fail
          refine (HP.out _ (firsts_below HF.out HBQ.out hz)).mono ?_
          clear HP
          rintro e z1 ⟨B1, d1, rfl, hr1, hc1⟩
          have HC1 := Lib.hid ((HBQ.out.trans (hc1.mono HBQ.out.size)).alloc (HBQ.out.trans (hc1.mono HBQ.out.size)).size (.cells #[.int .i64 n2, .slice B1 l2.length d1] 25))
          have HU1 := Lib.hid (Bx.new n2 d1 hr1)
          clear hr1 hc1 HBQ
          obtain ⟨g0, g1⟩ := HU1.out.cells
          go_wp2_with fail
          refine (print_good _ _ _ _ _ U HU1.out.rs (firsts_below HF.out HC1.out hz) HK2.out HU.out).mono ?_
          clear g0 g1
          rintro e z2 ⟨rfl, hc2⟩
          have HC2 := Lib.hid (HC1.out.trans (hc2.mono HC1.out.size)); have HU2 := Lib.hid (HU1.out.step hc2)
          clear hc2 HC1 HU1
          go_wp2_with fail
          refine (parse_good _ n2 l2 U (firsts_below HF.out HC2.out hz) HK2.out HU.out hUz).mono ?_
          rintro e z3 ⟨B3, d3, rfl, hr3, hc3⟩
          have HC3 := Lib.hid ((HC2.out.trans (hc3.mono HC2.out.size)).alloc (HC2.out.trans (hc3.mono HC2.out.size)).size (.cells #[.int .i64 n2, .slice B3 l2.length d3] 25))
          have HU3 := Lib.hid ((HU2.out.step hc3).alloc (.cells #[.int .i64 n2, .slice B3 l2.length d3] 25)); have HV3 := Lib.hid (Bx.new n2 d3 hr3)
          clear hr3 hc3 HC2 HU2
          obtain ⟨g0, g1⟩ := HU3.out.cells
          go_wp2_with fail
          refine (check_good0 _ _ _ _ _ HU3.out.rs HK2.out).mono ?_
          clear g0 g1
          rintro e z4 ⟨rfl, hc4⟩
          have HC4 := Lib.hid (HC3.out.trans (hc4.mono HC3.out.size)); have HU4 := Lib.hid (HU3.out.step hc4); have HV4 := Lib.hid (HV3.out.step hc4)
          clear hc4 HC3 HU3 HV3
          obtain ⟨g0, g1⟩ := HU4.out.cells
          obtain ⟨y0, y1⟩ := HV4.out.cells
          go_wp2_with fail
          refine (psame_true _ _ _ _ _ _ l2 HU4.out.rs HV4.out.rs (by omega)).mono ?_
          clear g0 g1 y0 y1
          rintro e z5 ⟨rfl, hc5⟩
          have HC5 := Lib.hid (HC4.out.trans (hc5.mono HC4.out.size))
          clear hc5 HC4 HU4 HV4
          go_wp2_with fail
          refine (works_any _ (firsts_below HF.out HC5.out hz)).mono ?_
          rintro e z6 ⟨rfl, hc6⟩
          have HC6 := Lib.hid (HC5.out.trans (hc6.mono HC5.out.size))
          clear hc6
          go_wp2
          go_ret
          exact ⟨rfl, HC6.out⟩
        · have herb : (er != 0) = true := by simp [her]
          clear her
          go_wp2_with fail
          refine (HP.out _ (firsts_below HF.out HBQ.out hz)).mono ?_
          clear HP
          rintro e z1 ⟨B1, d1, rfl, hr1, hc1⟩
          have HC1 := Lib.hid ((HBQ.out.trans (hc1.mono HBQ.out.size)).alloc (HBQ.out.trans (hc1.mono HBQ.out.size)).size (.cells #[.int .i64 n2, .slice B1 l2.length d1] 25))
          clear hr1 hc1 HBQ
          go_wp2_with fail
          refine (works_any _ (firsts_below HF.out HC1.out hz)).mono ?_
          rintro e z2 ⟨rfl, hc2⟩
          have HC2 := Lib.hid (HC1.out.trans (hc2.mono HC1.out.size))
          clear hc2
          go_wp2
          go_ret
          exact ⟨rfl, HC2.out⟩
      · have hkb : (checkL (n, l) == 0) = false := by simp [hk]
        obtain ⟨K, hK⟩ : ∃ K, checkL (n, l) = K := ⟨_, rfl⟩
        have hPP := fun W (hW : Below w.heap.size w W) => pPrint_any W n A c l (ha.below hW) (firsts_below hF hW hz)
        unfold PrintP at hPP
        rw [hK] at hPP hkb
        generalize printE (n, l) = T at hPP
        have HX := Lib.hid hX; have H1 := Lib.hid hs1; have HF := Lib.hid hF; have HB := Lib.hid hB; have HP := Lib.hid hp; have HPP := Lib.hid hPP; have HG := Lib.hid hgood
        clear hX hs1 ha hF h1 hB hp hPP hK hk hgood hdoc
        go_enter Tryd.func7, Tryd.ntmps7
        go_wp2_with fail
        refine (H1.out _).mono ?_
        rintro e x1 ⟨rfl, hb1⟩
        have HB1 := Lib.hid (HB.out.trans (hb1.mono HB.out.size)); have HX1 := Lib.hid (HX.out.step hb1)
        clear hb1 HB HX
        obtain ⟨g0, g1⟩ := HX1.out.cells
        go_wp2_with fail
        refine (HPP.out _ HB1.out).mono ?_
        clear g0 g1
        rintro e x2 ⟨rfl, hb2⟩
        have HBQ := Lib.hid (HB1.out.trans (hb2.mono HB1.out.size))
        clear hb2 HB1 HX1
        by_cases her : er = 0
        · subst her
          have hk2 : checkL (n2, l2) = 0 := HG.out rfl
          have hpl := print_len (n := n2) (l := l2) (by have h : 1 ≤ n2 := (check_ok hk2).1; omega) fun e he => fits_pos ((check_ok hk2).2.2.2.1 e he)
          obtain ⟨U, hU⟩ : ∃ U, printG (n2, l2) = U := ⟨_, rfl⟩
          have hUz : U.size ≤ 262144 := by rw [hU] at hpl; omega
          have HK2 := Lib.hid hk2; have HU := Lib.hid hU
          clear hk2 hU hpl
          go_wp2_with fail
          refine (HP.out _ (firsts_below HF.out HBQ.out hz)).mono ?_
          clear HP
          rintro e z1 ⟨B1, d1, rfl, hr1, hc1⟩
          have HC1 := Lib.hid ((HBQ.out.trans (hc1.mono HBQ.out.size)).alloc (HBQ.out.trans (hc1.mono HBQ.out.size)).size (.cells #[.int .i64 n2, .slice B1 l2.length d1] 25))
          have HU1 := Lib.hid (Bx.new n2 d1 hr1)
          clear hr1 hc1 HBQ
          obtain ⟨g0, g1⟩ := HU1.out.cells
          go_wp2_with fail
          refine (print_good _ _ _ _ _ U HU1.out.rs (firsts_below HF.out HC1.out hz) HK2.out HU.out).mono ?_
          clear g0 g1
          rintro e z2 ⟨rfl, hc2⟩
          have HC2 := Lib.hid (HC1.out.trans (hc2.mono HC1.out.size)); have HU2 := Lib.hid (HU1.out.step hc2)
          clear hc2 HC1 HU1
          go_wp2_with fail
          refine (parse_good _ n2 l2 U (firsts_below HF.out HC2.out hz) HK2.out HU.out hUz).mono ?_
          rintro e z3 ⟨B3, d3, rfl, hr3, hc3⟩
          have HC3 := Lib.hid ((HC2.out.trans (hc3.mono HC2.out.size)).alloc (HC2.out.trans (hc3.mono HC2.out.size)).size (.cells #[.int .i64 n2, .slice B3 l2.length d3] 25))
          have HU3 := Lib.hid ((HU2.out.step hc3).alloc (.cells #[.int .i64 n2, .slice B3 l2.length d3] 25)); have HV3 := Lib.hid (Bx.new n2 d3 hr3)
          clear hr3 hc3 HC2 HU2
          obtain ⟨g0, g1⟩ := HU3.out.cells
          go_wp2_with fail
          refine (check_good0 _ _ _ _ _ HU3.out.rs HK2.out).mono ?_
          clear g0 g1
          rintro e z4 ⟨rfl, hc4⟩
          have HC4 := Lib.hid (HC3.out.trans (hc4.mono HC3.out.size)); have HU4 := Lib.hid (HU3.out.step hc4); have HV4 := Lib.hid (HV3.out.step hc4)
          clear hc4 HC3 HU3 HV3
          obtain ⟨g0, g1⟩ := HU4.out.cells
          obtain ⟨y0, y1⟩ := HV4.out.cells
          go_wp2_with fail
          refine (psame_true _ _ _ _ _ _ l2 HU4.out.rs HV4.out.rs (by omega)).mono ?_
          clear g0 g1 y0 y1
          rintro e z5 ⟨rfl, hc5⟩
          have HC5 := Lib.hid (HC4.out.trans (hc5.mono HC4.out.size))
          clear hc5 HC4 HU4 HV4
          go_wp2_with fail
          refine (works_any _ (firsts_below HF.out HC5.out hz)).mono ?_
          rintro e z6 ⟨rfl, hc6⟩
          have HC6 := Lib.hid (HC5.out.trans (hc6.mono HC5.out.size))
          clear hc6
          go_wp2
          go_ret
          exact ⟨rfl, HC6.out⟩
        · have herb : (er != 0) = true := by simp [her]
          clear her
          go_wp2_with fail
          refine (HP.out _ (firsts_below HF.out HBQ.out hz)).mono ?_
          clear HP
          rintro e z1 ⟨B1, d1, rfl, hr1, hc1⟩
          have HC1 := Lib.hid ((HBQ.out.trans (hc1.mono HBQ.out.size)).alloc (HBQ.out.trans (hc1.mono HBQ.out.size)).size (.cells #[.int .i64 n2, .slice B1 l2.length d1] 25))
          clear hr1 hc1 HBQ
          go_wp2_with fail
          refine (works_any _ (firsts_below HF.out HC1.out hz)).mono ?_
          rintro e z2 ⟨rfl, hc2⟩
          have HC2 := Lib.hid (HC1.out.trans (hc2.mono HC1.out.size))
          clear hc2
          go_wp2
          go_ret
          exact ⟨rfl, HC2.out⟩
  · have hs1 := fun W => light_at n A l.length c 300 false W (decide_eq_false h1)
    have H1 := Lib.hid hs1; have HF := Lib.hid hF; have HB := Lib.hid hB
    clear hX hs1 ha hF h1 hB
    go_enter Tryd.func7, Tryd.ntmps7
    go_wp2_with fail
    refine (H1.out _).mono ?_
    rintro e x1 ⟨rfl, hb1⟩
    have HB1 := Lib.hid (HB.out.trans (hb1.mono HB.out.size))
    clear hb1
    go_wp2_with fail
    refine (works_any _ (firsts_below HF.out HB1.out hz)).mono ?_
    rintro e x2 ⟨rfl, hb2⟩
    have HB2 := Lib.hid (HB1.out.trans (hb2.mono HB1.out.size))
    clear hb2
    go_wp2
    go_ret
    exact ⟨rfl, HB2.out⟩
end Go.Proofs.YtknigkjbnaoldaaDoor
