/- The reference's Print. -/
import Derived.Test.YtknigkjbnaoldaaDoorGrO
namespace Go.Proofs.YtknigkjbnaoldaaDoor
open Go.RowKit

theorem text_v (n : Int) : ((⟨#[118, 101, 114, 116, 105, 99, 101, 115, 32]⟩ : ByteArray) ++ printOf n 0) ++ ⟨#[10]⟩ = lineT wVertices [n] := by
  unfold lineT numsT wSp wNl wVertices
  apply ByteArray.ext
  simp [ByteArray.data_append]
theorem text_e (T : ByteArray) (e : Edg) : ((((((T ++ ⟨#[101, 100, 103, 101, 32]⟩) ++ printOf e.1 0) ++ ⟨#[32]⟩) ++ printOf e.2.1 0) ++ ⟨#[32]⟩) ++ printOf e.2.2 0) ++ ⟨#[10]⟩ = T ++ lineT wEdge [e.1, e.2.1, e.2.2] := by
  unfold lineT numsT wSp wNl wEdge
  apply ByteArray.ext
  simp [ByteArray.data_append]
set_option maxRecDepth 100000 in
set_option maxHeartbeats 8000000 in
theorem rPrint_any (w : World) (n : Int) (A : Option Addr) (c : Nat) (l : List Edg) (h : Rs edgC 3 w A l) :
    Calls Tryd.prog 22 #[.agg #[.int .i64 n, .slice A l.length c]] w (PrintP w (n, l)) := by
  have hS := GBox.start w n A c l
  have hc := refCheck_any _ n A c l (h.alloc (.cells #[.int .i64 n, .slice A l.length c] 25))
  by_cases hk : checkL (n, l) = 0
  · have hlim := check_ok hk
    have hrange := fun e he => edge_range hk (e := e) he
    have hout := fun (w' : World) (e : Ending) => printP_ok (w := w) (w' := w') (g := (n, l)) (e := e) hk
    rw [hk] at hc
    have HR := Lib.hid h; have HC := Lib.hid hc; have HL := Lib.hid hlim; have HRG := Lib.hid hrange; have HO := Lib.hid hout; have HS := Lib.hid hS
    clear h hS hc hlim hrange hout hk
    go_enter Tryd.func22, Tryd.ntmps22
    go_wp2_with fail
    refine HC.out.mono ?_
    clear HC
    rintro e w1 ⟨rfl, hb1⟩
    have hS1 := HS.out.step hb1
    have g0 := hS1.cells.1; have g1 := hS1.cells.2
    have hp := printR_any n 0 w1 (by have := HL.out; omega) (by have := HL.out; omega)
    have htv := text_v n
    have hpz := printOf_size n 0
    generalize printOf n 0 = P at hp htv hpz
    have HS1 := Lib.hid hS1; have HP := Lib.hid hp; have HTV := Lib.hid htv
    clear hS1 hb1 hp htv HS
    go_wp2_with fail
    refine HP.out.mono ?_
    clear HP g0 g1
    rintro e w2 ⟨rfl, hb2⟩
    have HS2 := Lib.hid (HS1.out.step hb2)
    clear hb2 HS1
    go_wp2
    go_loopg [5, 6] l.length (fun gf vs vi wr => ∃ i : Nat, vi = .int .i64 i ∧ vs = .string (edgesT (lineT wVertices [n]) (l.take i)) ∧ i + gf = l.length ∧ GBox w wr n A c l)
    case atStart => exact ⟨0, rfl, by rw [HTV.out]; rfl, by omega, HS2.out⟩
    case round =>
      clear HS2 HTV
      obtain ⟨i, rfl, rfl, hi, hst⟩ := hrel
      have g1 := hst.cells.2
      have hlt := hst.lt
      have hts := edgesT_size (lineT wVertices [n]) (l.take i)
      have htl := lineT_size wVertices [n]
      have hwv : wVertices.size = 8 := rfl
      have hll := HL.out.2.2.1
      rw [List.length_take, Nat.min_eq_left (by omega)] at hts
      simp only [List.length_cons, List.length_nil] at htl
      cases gk with
      | zero =>
        obtain rfl : i = l.length := by omega
        have HBB := Lib.hid hst.below
        rw [List.take_length]
        clear hst hts htl
        go_wp2
        go_ret2
        exact HO.out _ _ rfl HBB.out
      | succ gf =>
        have hiI : (i : Int) < (l.length : Int) := by omega
        have hi2 : i < 8192 := by have : l.length ≤ 8192 := hll; omega
        obtain ⟨b, oo, x, rfl, hb, hx, x1, x2, x3⟩ := edg_at (HR.out.below hst.below) (i := i) (by omega)
        have hrg := HRG.out x (List.mem_of_getElem? hx)
        have hsn := edgesT_snoc (lineT wVertices [n]) (l.take i) x
        rw [← take_snoc_ hx, ← text_e] at hsn
        have hTz : (edgesT (lineT wVertices [n]) (l.take i)).size ≤ 3000000 := by
          have : l.length ≤ 8192 := hll
          omega
        have hSA := hst.alloc (.cells #[.int .i64 x.1, .int .i64 x.2.1, .int .i64 x.2.2] 35)
        have hkA := Blk.new wr 35 #[.int .i64 x.1, .int .i64 x.2.1, .int .i64 x.2.2]
        have hss : ∀ w', Below (wr.alloc (.cells #[.int .i64 x.1, .int .i64 x.2.1, .int .i64 x.2.2] 35)).heap.size (wr.alloc (.cells #[.int .i64 x.1, .int .i64 x.2.1, .int .i64 x.2.2] 35)) w' → w'.cell? ⟨wr.heap.size, 0, none⟩ = some (.int .i64 x.1) ∧ w'.cell? ⟨wr.heap.size, 1, none⟩ = some (.int .i64 x.2.1) ∧ w'.cell? ⟨wr.heap.size, 2, none⟩ = some (.int .i64 x.2.2) ∧ Below (wr.alloc (.cells #[.int .i64 x.1, .int .i64 x.2.1, .int .i64 x.2.2] 35)).heap.size (wr.alloc (.cells #[.int .i64 x.1, .int .i64 x.2.1, .int .i64 x.2.2] 35)) w' := fun w' hb' => ⟨(hkA.below hb' hkA.lt).cell 0, (hkA.below hb' hkA.lt).cell 1, (hkA.below hb' hkA.lt).cell 2, hb'⟩
        have hp1 := fun W => printR_any x.1 0 W hrg.1.1 hrg.1.2
        have hp2 := fun W => printR_any x.2.1 0 W hrg.2.1.1 hrg.2.1.2
        have hp3 := fun W => printR_any x.2.2 0 W hrg.2.2.1 hrg.2.2.2
        have hz1 := printOf_size x.1 0; have hz2 := printOf_size x.2.1 0; have hz3 := printOf_size x.2.2 0
        obtain ⟨T, hT⟩ : ∃ T, edgesT (lineT wVertices [n]) (l.take i) = T := ⟨_, rfl⟩
        obtain ⟨P1, hP1⟩ : ∃ T, printOf x.1 0 = T := ⟨_, rfl⟩
        obtain ⟨P2, hP2⟩ : ∃ T, printOf x.2.1 0 = T := ⟨_, rfl⟩
        obtain ⟨P3, hP3⟩ : ∃ T, printOf x.2.2 0 = T := ⟨_, rfl⟩
        rw [hT] at hTz hsn ⊢
        rw [hP1] at hp1 hz1 hsn
        rw [hP2] at hp2 hz2 hsn
        rw [hP3] at hp3 hz3 hsn
        have HSA := Lib.hid hSA; have HSS := Lib.hid hss; have H1 := Lib.hid hp1; have H2 := Lib.hid hp2; have H3 := Lib.hid hp3; have HSN := Lib.hid hsn
        clear hst hSA hss hkA hp1 hp2 hp3 hsn hT hP1 hP2 hP3 hrg hts htl hwv hll hx
        go_wp2_with fail
        refine wp_region_noPanic ?_
        refine wp_region_held_drew (S := (fun w' => w'.cell? ⟨wr.heap.size, 0, none⟩ = some (.int .i64 x.1) ∧ w'.cell? ⟨wr.heap.size, 1, none⟩ = some (.int .i64 x.2.1) ∧ w'.cell? ⟨wr.heap.size, 2, none⟩ = some (.int .i64 x.2.2) ∧ Below (wr.alloc (.cells #[.int .i64 x.1, .int .i64 x.2.1, .int .i64 x.2.2] 35)).heap.size (wr.alloc (.cells #[.int .i64 x.1, .int .i64 x.2.1, .int .i64 x.2.2] 35)) w')) (by kernel_rfl) ?_ (fun hHeld => ?_)
        · exact HSS.out _ (below_drewN (Below.refl _ _) 1)
        refine wpAnyH_take (i := 0) (v := ?v0g1_) rfl (by kernel_rfl) (by kernel_rfl) (by kernel_rfl) (fun _ _ _ h => h) (Or.inl ⟨by rfl, ?y0g1_⟩) (by assumption) ?r0g1_
        case y0g1_ => (intro w hSw; (try dsimp only at hSw); go_simp; try with_reducible rfl)
        change wpAnyH _ _ _ _ _ _ _ (Act.put _ (some 30) _) _; simp only [Act.put, List.setIfInBounds_toArray, List.set_cons_zero, List.set_cons_succ]
        refine wpAnyH_take (i := 1) (v := ?v1g1_) rfl (by kernel_rfl) (by kernel_rfl) (by kernel_rfl) (fun _ _ _ h => h) (Or.inl ⟨by rfl, ?y1g1_⟩) (by assumption) ?r1g1_
        case y1g1_ => (intro w hSw; (try dsimp only at hSw); go_simp; rw [if_neg (by (try simp only [ByteArray.size_append]); omega)]; try with_reducible rfl)
        change wpAnyH _ _ _ _ _ _ _ (Act.put _ (some 31) _) _; simp only [Act.put, List.setIfInBounds_toArray, List.set_cons_zero, List.set_cons_succ]
        refine wpAnyH_take (i := 2) (v := ?v2g1_) rfl (by kernel_rfl) (by kernel_rfl) (by kernel_rfl) (fun _ _ _ h => h) (Or.inl ⟨by rfl, ?y2g1_⟩) (by assumption) ?r2g1_
        case y2g1_ => (intro w hSw; (try dsimp only at hSw); go_simp; try with_reducible rfl)
        change wpAnyH _ _ _ _ _ _ _ (Act.put _ (some 32) _) _; simp only [Act.put, List.setIfInBounds_toArray, List.set_cons_zero, List.set_cons_succ]
        refine wpAnyH_take (i := 3) (v := ?v3g1_) rfl (by kernel_rfl) (by kernel_rfl) (by kernel_rfl) (fun _ _ _ h => h) (Or.inl ⟨by rfl, ?y3g1_⟩) (by assumption) ?r3g1_
        case y3g1_ => (intro w hSw; (try dsimp only at hSw); go_simp; try with_reducible rfl)
        change wpAnyH _ _ _ _ _ _ _ (Act.put _ (some 33) _) _; simp only [Act.put, List.setIfInBounds_toArray, List.set_cons_zero, List.set_cons_succ]
        refine wpAnyH_take (i := 7) (v := ?v7g1_) rfl (by kernel_rfl) (by kernel_rfl) (by kernel_rfl) (fun _ _ _ h => h) (Or.inl ⟨by rfl, ?y7g1_⟩) (by assumption) ?r7g1_
        case y7g1_ => (intro w hSw; (try dsimp only at hSw); go_simp; try with_reducible rfl)
        change wpAnyH _ _ _ _ _ _ _ (Act.put _ (some 37) _) _; simp only [Act.put, List.setIfInBounds_toArray, List.set_cons_zero, List.set_cons_succ]
        refine wpAnyH_take (i := 8) (v := ?v8g1_) rfl (by kernel_rfl) (by kernel_rfl) (by kernel_rfl) (fun _ _ _ h => h) (Or.inl ⟨by rfl, ?y8g1_⟩) (by assumption) ?r8g1_
        case y8g1_ => (intro w hSw; (try dsimp only at hSw); go_simp; try with_reducible rfl)
        change wpAnyH _ _ _ _ _ _ _ (Act.put _ (some 38) _) _; simp only [Act.put, List.setIfInBounds_toArray, List.set_cons_zero, List.set_cons_succ]
        refine wpAnyH_take (i := 12) (v := ?v12g1_) rfl (by kernel_rfl) (by kernel_rfl) (by kernel_rfl) (fun _ _ _ h => h) (Or.inl ⟨by rfl, ?y12g1_⟩) (by assumption) ?r12g1_
        case y12g1_ => (intro w hSw; (try dsimp only at hSw); go_simp; try with_reducible rfl)
        change wpAnyH _ _ _ _ _ _ _ (Act.put _ (some 42) _) _; simp only [Act.put, List.setIfInBounds_toArray, List.set_cons_zero, List.set_cons_succ]
        refine wpAnyH_take (i := 13) (v := ?v13g1_) rfl (by kernel_rfl) (by kernel_rfl) (by kernel_rfl) (fun _ _ _ h => h) (Or.inl ⟨by rfl, ?y13g1_⟩) (by assumption) ?r13g1_
        case y13g1_ => (intro w hSw; (try dsimp only at hSw); go_simp; try with_reducible rfl)
        change wpAnyH _ _ _ _ _ _ _ (Act.put _ (some 43) _) _; simp only [Act.put, List.setIfInBounds_toArray, List.set_cons_zero, List.set_cons_succ]
        refine wpAnyH_ready (rs := [4]) (by kernel_rfl) (by simp) ?_
        refine AllReadyH.cons rfl (fun K hK => ?_) AllReadyH.nil
        go_simp
        refine (H1.out _).mono ?_
        rintro e w2 ⟨rfl, hb2⟩
        have HB1 := Lib.hid (undrew hb2)
        clear hb2
        dsimp only
        refine hK.out _ _ ?_ (fun hHeld => ?_)
        · exact HSS.out _ HB1.out
        clear hK K
        try simp only [Act.put, List.setIfInBounds_toArray, List.set_cons_zero, List.set_cons_succ]
        refine wpAnyH_take (i := 5) (v := ?v5g1_) rfl (by kernel_rfl) (by kernel_rfl) (by kernel_rfl) (fun _ _ _ h => h) (Or.inl ⟨by rfl, ?y5g1_⟩) (by assumption) ?r5g1_
        case y5g1_ => (intro w hSw; (try dsimp only at hSw); go_simp; rw [if_neg (by (try simp only [ByteArray.size_append]); omega)]; try with_reducible rfl)
        change wpAnyH _ _ _ _ _ _ _ (Act.put _ (some 35) _) _; simp only [Act.put, List.setIfInBounds_toArray, List.set_cons_zero, List.set_cons_succ]
        refine wpAnyH_take (i := 6) (v := ?v6g1_) rfl (by kernel_rfl) (by kernel_rfl) (by kernel_rfl) (fun _ _ _ h => h) (Or.inl ⟨by rfl, ?y6g1_⟩) (by assumption) ?r6g1_
        case y6g1_ => (intro w hSw; (try dsimp only at hSw); go_simp; rw [if_neg (by (try simp only [ByteArray.size_append]); omega)]; try with_reducible rfl)
        change wpAnyH _ _ _ _ _ _ _ (Act.put _ (some 36) _) _; simp only [Act.put, List.setIfInBounds_toArray, List.set_cons_zero, List.set_cons_succ]
        refine wpAnyH_ready (rs := [9]) (by kernel_rfl) (by simp) ?_
        refine AllReadyH.cons rfl (fun K hK => ?_) AllReadyH.nil
        go_simp
        refine (H2.out _).mono ?_
        rintro e w3 ⟨rfl, hb3⟩
        have HB2 := Lib.hid (HB1.out.trans (hb3.mono HB1.out.size))
        clear hb3
        dsimp only
        refine hK.out _ _ ?_ (fun hHeld => ?_)
        · exact HSS.out _ HB2.out
        clear hK K
        try simp only [Act.put, List.setIfInBounds_toArray, List.set_cons_zero, List.set_cons_succ]
        refine wpAnyH_take (i := 10) (v := ?v10g1_) rfl (by kernel_rfl) (by kernel_rfl) (by kernel_rfl) (fun _ _ _ h => h) (Or.inl ⟨by rfl, ?y10g1_⟩) (by assumption) ?r10g1_
        case y10g1_ => (intro w hSw; (try dsimp only at hSw); go_simp; rw [if_neg (by (try simp only [ByteArray.size_append]); omega)]; try with_reducible rfl)
        change wpAnyH _ _ _ _ _ _ _ (Act.put _ (some 40) _) _; simp only [Act.put, List.setIfInBounds_toArray, List.set_cons_zero, List.set_cons_succ]
        refine wpAnyH_take (i := 11) (v := ?v11g1_) rfl (by kernel_rfl) (by kernel_rfl) (by kernel_rfl) (fun _ _ _ h => h) (Or.inl ⟨by rfl, ?y11g1_⟩) (by assumption) ?r11g1_
        case y11g1_ => (intro w hSw; (try dsimp only at hSw); go_simp; rw [if_neg (by (try simp only [ByteArray.size_append]); omega)]; try with_reducible rfl)
        change wpAnyH _ _ _ _ _ _ _ (Act.put _ (some 41) _) _; simp only [Act.put, List.setIfInBounds_toArray, List.set_cons_zero, List.set_cons_succ]
        refine wpAnyH_ready (rs := [14]) (by kernel_rfl) (by simp) ?_
        refine AllReadyH.cons rfl (fun K hK => ?_) AllReadyH.nil
        go_simp
        refine (H3.out _).mono ?_
        rintro e w4 ⟨rfl, hb4⟩
        have HB3 := Lib.hid (HB2.out.trans (hb4.mono HB2.out.size))
        clear hb4
        dsimp only
        refine hK.out _ _ ?_ (fun hHeld => ?_)
        · exact HSS.out _ HB3.out
        clear hK K
        try simp only [Act.put, List.setIfInBounds_toArray, List.set_cons_zero, List.set_cons_succ]
        refine wpAnyH_take (i := 15) (v := ?v15g1_) rfl (by kernel_rfl) (by kernel_rfl) (by kernel_rfl) (fun _ _ _ h => h) (Or.inl ⟨by rfl, ?y15g1_⟩) (by assumption) ?r15g1_
        case y15g1_ => (intro w hSw; (try dsimp only at hSw); go_simp; rw [if_neg (by (try simp only [ByteArray.size_append]); omega)]; try with_reducible rfl)
        change wpAnyH _ _ _ _ _ _ _ (Act.put _ (some 45) _) _; simp only [Act.put, List.setIfInBounds_toArray, List.set_cons_zero, List.set_cons_succ]
        refine wpAnyH_take (i := 16) (v := ?v16g1_) rfl (by kernel_rfl) (by kernel_rfl) (by kernel_rfl) (fun _ _ _ h => h) (Or.inl ⟨by rfl, ?y16g1_⟩) (by assumption) ?r16g1_
        case y16g1_ => (intro w hSw; (try dsimp only at hSw); go_simp; rw [if_neg (by (try simp only [ByteArray.size_append]); omega)]; try with_reducible rfl)
        change wpAnyH _ _ _ _ _ _ _ (Act.put _ (some 46) _) _; simp only [Act.put, List.setIfInBounds_toArray, List.set_cons_zero, List.set_cons_succ]
        refine wpAnyH_take (i := 17) (v := ?v17g1_) rfl (by kernel_rfl) (by kernel_rfl) (by kernel_rfl) (fun _ _ _ h => h) (Or.inl ⟨by rfl, ?y17g1_⟩) (by assumption) ?r17g1_
        case y17g1_ => (intro w hSw; (try dsimp only at hSw); go_simp; try with_reducible rfl)
        change wpAnyH _ _ _ _ _ _ _ (Act.put _ (some 5) _) _; simp only [Act.put, List.setIfInBounds_toArray, List.set_cons_zero, List.set_cons_succ]
        refine wpAnyH_done (by kernel_rfl) ?_ _
        refine NoPanic.normal ?_
        go_wp2
        go_roundg gf
        case measure => omega
        case rel => exact ⟨i + 1, by go_num, by rw [← HSN.out], by omega, HSA.out.step HB3.out⟩
  · have hne : (checkL (n, l) != 0) = true := by simp [hk]
    have hout := fun (w' : World) (e : Ending) => printP_err (w := w) (w' := w') (g := (n, l)) (e := e) rfl hk
    obtain ⟨K, hK⟩ : ∃ K, checkL (n, l) = K := ⟨_, rfl⟩
    rw [hK] at hc hne hout
    have HC := Lib.hid hc; have HO := Lib.hid hout; have HS := Lib.hid hS
    clear h hS hc hK hout hk
    go_enter Tryd.func22, Tryd.ntmps22
    go_wp2_with fail
    refine HC.out.mono ?_
    clear HC
    rintro e w1 ⟨rfl, hb1⟩
    have HB1 := Lib.hid (HS.out.step hb1).below
    clear hb1 HS
    go_wp2
    go_ret2
    exact HO.out _ _ rfl HB1.out
end Go.Proofs.YtknigkjbnaoldaaDoor
