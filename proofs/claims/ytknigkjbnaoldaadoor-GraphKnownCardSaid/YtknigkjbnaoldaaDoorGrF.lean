/- The reference's add: a graph with an edge more. -/
import Derived.Test.YtknigkjbnaoldaaDoorGrE
import Derived.Test.YtknigkjbnaoldaaDoorGrC
import Derived.Deep.Cut
namespace Go.Proofs.YtknigkjbnaoldaaDoor
open Go.RowKit

/-- the boxes of a graph, of an edge, of what is handed back; the graph's row -/
structure AddG (w wr : World) (n : Int) (A : Option Addr) (c : Nat) (l : List Edg) (e : Edg) : Prop where
  below : Below w.heap.size w wr
  box : Blk wr w.heap.size 25 #[.int .i64 n, .slice A l.length c]
  ebox : Blk wr (w.heap.size + 1) 35 #[.int .i64 e.1, .int .i64 e.2.1, .int .i64 e.2.2]
  rbox : Blk wr (w.heap.size + 2) 25 #[.int .i64 0, .slice none 0 0]
  row : Rs edgC 3 w A l
  size : w.heap.size + 3 ≤ wr.heap.size
section
variable {w wr w' : World} {n : Int} {A : Option Addr} {c : Nat} {l : List Edg} {e : Edg}
theorem AddG.start (h : Rs edgC 3 w A l) (n : Int) (c : Nat) (e : Edg) : AddG w (((w.alloc (.cells #[.int .i64 n, .slice A l.length c] 25)).alloc (.cells #[.int .i64 e.1, .int .i64 e.2.1, .int .i64 e.2.2] 35)).alloc (.cells #[.int .i64 0, .slice none 0 0] 25)) n A c l e := by
  have k1 := Blk.new (w.alloc (.cells #[.int .i64 n, .slice A l.length c] 25)) 35 #[.int .i64 e.1, .int .i64 e.2.1, .int .i64 e.2.2]
  have k2 := Blk.new ((w.alloc (.cells #[.int .i64 n, .slice A l.length c] 25)).alloc (.cells #[.int .i64 e.1, .int .i64 e.2.1, .int .i64 e.2.2] 35)) 25 #[.int .i64 0, .slice none 0 0]
  rw [show (w.alloc (.cells #[.int .i64 n, .slice A l.length c] 25)).heap.size = w.heap.size + 1 from by simp] at k1
  rw [show ((w.alloc (.cells #[.int .i64 n, .slice A l.length c] 25)).alloc (.cells #[.int .i64 e.1, .int .i64 e.2.1, .int .i64 e.2.2] 35)).heap.size = w.heap.size + 2 from by simp] at k2
  exact ⟨(((Below.refl _ _).alloc (Nat.le_refl _) _).alloc (by simp) _).alloc (by simp; omega) _, ((Blk.new w _ _).alloc _).alloc _, k1.alloc _, k2, h, by simp⟩
theorem AddG.step (h : AddG w wr n A c l e) (hb : Below (w.heap.size + 3) wr w') : AddG w w' n A c l e := by
  refine ⟨h.below.trans (hb.mono (by omega)), h.box.below hb (by omega), h.ebox.below hb (by omega), h.rbox.below hb (by omega), h.row, Nat.le_trans h.size hb.size⟩
end
theorem addR_fit {n : Int} {l : List Edg} {e : Edg} (h : fitsE e n = false) : addR n l e = none := by unfold addR; rw [if_pos (.inl h)]
theorem addR_full {n : Int} {l : List Edg} {e : Edg} (h : 8192 ≤ l.length) : addR n l e = none := by unfold addR; rw [if_pos (.inr h)]
theorem addR_end {n : Int} {l : List Edg} {e : Edg} (h : fitsE e n = true) (h8 : l.length < 8192) (hk : atE l e = l.length) : addR n l e = some (l.take (atE l e) ++ [e] ++ l.drop (atE l e)) := by
  unfold addR
  rw [if_neg (by rintro (h1 | h1); rw [h] at h1; cases h1; omega), hk, List.getElem?_eq_none (Nat.le_refl _), List.take_length, List.drop_length, List.append_nil]
theorem addR_no {n : Int} {l : List Edg} {e x : Edg} (h : fitsE e n = true) (h8 : l.length < 8192) (hx : l[atE l e]? = some x) (ha : aheadE e x = false) : addR n l e = none := by
  unfold addR
  rw [if_neg (by rintro (h1 | h1); rw [h] at h1; cases h1; omega), hx]
  simp [ha]
theorem addR_yes {n : Int} {l : List Edg} {e x : Edg} (h : fitsE e n = true) (h8 : l.length < 8192) (hx : l[atE l e]? = some x) (ha : aheadE e x = true) : addR n l e = some (l.take (atE l e) ++ [e] ++ l.drop (atE l e)) := by
  unfold addR
  rw [if_neg (by rintro (h1 | h1); rw [h] at h1; cases h1; omega), hx]
  simp [ha]
theorem atE_lt {l : List Edg} {e x : Edg} {i : Nat} (h : i < atE l e) (hx : l[i]? = some x) : aheadE x e = true := by
  unfold atE at h
  have h1 := (atE_spec l e).1
  have h2 : (l.takeWhile fun x => aheadE x e)[i]? = some x := by
    rw [← h1, List.getElem?_take, if_pos (by unfold atE; exact h)]; exact hx
  exact takeWhile_mem (p := fun y => aheadE y e) (List.mem_of_getElem? h2)
theorem atE_ge {l : List Edg} {e x : Edg} (hx : l[atE l e]? = some x) : aheadE x e = false := by
  have hd := (atE_spec l e).2
  have hlt := (List.getElem?_eq_some_iff.1 hx).1
  have hdx : l.drop (atE l e) = x :: l.drop (atE l e + 1) := by
    rw [List.drop_eq_getElem_cons hlt]
    rw [List.getElem?_eq_getElem hlt] at hx
    injection hx with hx
    rw [hx]
  have h := List.head?_dropWhile_not (fun y => aheadE y e) l
  rw [← hd, hdx] at h
  simpa using h
theorem atE_le (l : List Edg) (e : Edg) : atE l e ≤ l.length := by
  unfold atE
  exact (List.takeWhile_sublist _).length_le
/-- what add hands back -/
def AddPost (w : World) (n : Int) (A : Option Addr) (c : Nat) (l : List Edg) (o : Option (List Edg)) (r : Ending) (w' : World) : Prop :=
  Below w.heap.size w w' ∧ match o with
  | none => r = .returned (.tuple #[.agg #[.int .i64 n, .slice A l.length c], .bool false])
  | some m => ∃ A' c', r = .returned (.tuple #[.agg #[.int .i64 n, .slice A' m.length c'], .bool true]) ∧ m.length ≤ c' ∧ w'.ownsRow w.heap.size 35 3 (.slice A' m.length c') m.length (rcs edgC m)
set_option maxRecDepth 100000 in
set_option maxHeartbeats 8000000 in
theorem refAdd_fit (w : World) (n : Int) (A : Option Addr) (c : Nat) (l : List Edg) (e : Edg) (h : Rs edgC 3 w A l) (hf : fitsE e n = false) :
    Calls Tryd.prog 64 #[.agg #[.int .i64 n, .slice A l.length c], .agg #[.int .i64 e.1, .int .i64 e.2.1, .int .i64 e.2.2]] w (AddPost w n A c l (addR n l e)) := by
  rw [addR_fit hf]
  have h0 := AddG.start h n c e
  have hfc := fun W => refFits_any e n W
  rw [hf] at hfc
  have H0 := Lib.hid h0; have HF := Lib.hid hfc
  clear h0 hfc h hf
  go_enter Tryd.func64, Tryd.ntmps64
  go_wp2_with fail
  refine (HF.out _).mono ?_
  rintro r w1 ⟨rfl, hb1⟩
  have hs1 := H0.out.step (hb1.mono H0.out.size)
  have b0 := hs1.box.cell 0; have b1 := hs1.box.cell 1; have r0 := hs1.rbox.cell 0; have r1 := hs1.rbox.cell 1; have f0 := hs1.rbox.frozen 0; have f1 := hs1.rbox.frozen 1
  simp only [List.getElem?_toArray, List.getElem?_cons_zero, List.getElem?_cons_succ] at b0 b1 r0 r1
  have hsz := hs1.size
  have z0 : w.heap.size < w1.heap.size := by omega
  have z2 : w.heap.size + 2 < w1.heap.size := by omega
  have HS1 := Lib.hid hs1
  clear hs1 hb1 H0
  go_wp2
  have d0 := (HS1.out.rbox.set_ 0 (.int .i64 n)).set_ 1 (.slice A l.length c)
  have d1 := d0.cell 0; have d2 := d0.cell 1
  simp only [List.getElem?_toArray, List.setIfInBounds_toArray, List.set_cons_zero, List.set_cons_succ, List.getElem?_cons_zero, List.getElem?_cons_succ] at d1 d2
  exact bodyPost_ret (v := .tuple #[.agg #[.int .i64 n, .slice A l.length c], .bool false]) (by simp [results, Tryd.results64, go_sem, d1, d2]) rfl ⟨(HS1.out.below.setCell (p := ⟨w.heap.size + 2, 0, none⟩) (by show _ ≤ w.heap.size + 2; omega) _).setCell (p := ⟨w.heap.size + 2, 1, none⟩) (by show _ ≤ w.heap.size + 2; omega) _, rfl⟩
set_option maxRecDepth 100000 in
set_option maxHeartbeats 8000000 in
theorem refAdd_full (w : World) (n : Int) (A : Option Addr) (c : Nat) (l : List Edg) (e : Edg) (h : Rs edgC 3 w A l) (hf : fitsE e n = true) (h8 : 8192 ≤ l.length) :
    Calls Tryd.prog 64 #[.agg #[.int .i64 n, .slice A l.length c], .agg #[.int .i64 e.1, .int .i64 e.2.1, .int .i64 e.2.2]] w (AddPost w n A c l (addR n l e)) := by
  rw [addR_full h8]
  have h8I : (8192 : Int) ≤ (l.length : Int) := by omega
  have hfc := fun W => refFits_any e n W
  rw [hf] at hfc
  have h0 := AddG.start h n c e
  have H0 := Lib.hid h0; have HF := Lib.hid hfc; have HR := Lib.hid h
  clear h0 hfc h hf
  go_enter Tryd.func64, Tryd.ntmps64
  go_wp2_with fail
  refine (HF.out _).mono ?_
  rintro r w1 ⟨rfl, hb1⟩
  have hs1 := H0.out.step (hb1.mono H0.out.size)
  have b0 := hs1.box.cell 0; have b1 := hs1.box.cell 1; have r0 := hs1.rbox.cell 0; have r1 := hs1.rbox.cell 1; have f0 := hs1.rbox.frozen 0; have f1 := hs1.rbox.frozen 1
  simp only [List.getElem?_toArray, List.getElem?_cons_zero, List.getElem?_cons_succ] at b0 b1 r0 r1
  have hsz := hs1.size
  have z0 : w.heap.size < w1.heap.size := by omega
  have z2 : w.heap.size + 2 < w1.heap.size := by omega
  have HS1 := Lib.hid hs1
  clear hs1 hb1 H0
  go_wp2
  have d0 := (HS1.out.rbox.set_ 0 (.int .i64 n)).set_ 1 (.slice A l.length c)
  have d1 := d0.cell 0; have d2 := d0.cell 1
  simp only [List.getElem?_toArray, List.setIfInBounds_toArray, List.set_cons_zero, List.set_cons_succ, List.getElem?_cons_zero, List.getElem?_cons_succ] at d1 d2
  exact bodyPost_ret (v := .tuple #[.agg #[.int .i64 n, .slice A l.length c], .bool false]) (by simp [results, Tryd.results64, go_sem, d1, d2]) rfl ⟨(HS1.out.below.setCell (p := ⟨w.heap.size + 2, 0, none⟩) (by show _ ≤ w.heap.size + 2; omega) _).setCell (p := ⟨w.heap.size + 2, 1, none⟩) (by show _ ≤ w.heap.size + 2; omega) _, rfl⟩
set_option maxRecDepth 100000 in
set_option maxHeartbeats 8000000 in
theorem refAdd_no (w : World) (n : Int) (A : Option Addr) (c : Nat) (l : List Edg) (e : Edg) (h : Rs edgC 3 w A l) (hc : l.length ≤ c) (hf : fitsE e n = true) (h8 : l.length < 8192) (k : Nat) (hk : atE l e = k) (hlt : k < l.length) (y : Edg) (hy : l[k]? = some y) (ha : aheadE e y = false) :
    Calls Tryd.prog 64 #[.agg #[.int .i64 n, .slice A l.length c], .agg #[.int .i64 e.1, .int .i64 e.2.1, .int .i64 e.2.2]] w (AddPost w n A c l (addR n l e)) := by
  rw [addR_no hf h8 (by rw [hk]; exact hy) ha]
  have HK := Lib.hid hk; have HY := Lib.hid hy; have HAD := Lib.hid ha
  clear hk hy ha
  have h8I : (l.length : Int) < 8192 := by omega
  have HAC := Lib.hid fun (x : Edg) W => ahead_any x e W
  have HCX := Lib.hid hc
  have hfc := fun W => refFits_any e n W
  rw [hf] at hfc
  have h0 := AddG.start h n c e
  have H0 := Lib.hid h0; have HF := Lib.hid hfc; have HR := Lib.hid h
  clear h0 hfc h hf
  clear hc
  go_enter Tryd.func64, Tryd.ntmps64
  go_wp2_with fail
  refine (HF.out _).mono ?_
  rintro r w1 ⟨rfl, hb1⟩
  have hs1 := H0.out.step (hb1.mono H0.out.size)
  have b0 := hs1.box.cell 0; have b1 := hs1.box.cell 1; have r0 := hs1.rbox.cell 0; have r1 := hs1.rbox.cell 1; have f0 := hs1.rbox.frozen 0; have f1 := hs1.rbox.frozen 1
  simp only [List.getElem?_toArray, List.getElem?_cons_zero, List.getElem?_cons_succ] at b0 b1 r0 r1
  have hsz := hs1.size
  have z0 : w.heap.size < w1.heap.size := by omega
  have z2 : w.heap.size + 2 < w1.heap.size := by omega
  have HS1 := Lib.hid hs1
  clear hs1 hb1 H0
  go_wp2
  go_loopg [6] k (fun gf vi wr => ∃ i : Nat, vi = .int .i64 i ∧ i + gf = k ∧ AddG w wr n A c l e)
  case atStart => exact ⟨0, rfl, by omega, HS1.out⟩
  case round =>
    clear HS1 b0 b1 r0 r1 f0 f1 z0 z2 hsz HF
    obtain ⟨i, rfl, hi, hs⟩ := hrel
    have hz := hs.size
    have z0 : w.heap.size < wr.heap.size := by omega
    have z1 : w.heap.size + 1 < wr.heap.size := by omega
    have z2 : w.heap.size + 2 < wr.heap.size := by omega
    cases gk with
    | succ gf =>
      have hik : i < k := by omega
      have hiI : (i : Int) < (l.length : Int) := by omega
      have hdn : decide (i < l.length) = true := by rw [decide_eq_true_eq]; omega
      obtain ⟨b, oo, x, rfl, hb, hx, x1, x2, x3⟩ := edg_at (HR.out.below hs.below) (i := i) (by omega)
      have hah := atE_lt (by rw [HK.out]; exact hik) hx
      have hac := fun W => HAC.out x W
      rw [hah] at hac
      have hss : ∀ w', Below wr.heap.size wr w' → w'.cell? ⟨w.heap.size, 0, none⟩ = some (.int .i64 n) ∧ w'.cell? ⟨w.heap.size, 1, none⟩ = some (.slice (some ⟨b, oo, none⟩) l.length c) ∧ w'.cell? ⟨w.heap.size + 1, 0, none⟩ = some (.int .i64 e.1) ∧ w'.cell? ⟨w.heap.size + 1, 1, none⟩ = some (.int .i64 e.2.1) ∧ w'.cell? ⟨w.heap.size + 1, 2, none⟩ = some (.int .i64 e.2.2) ∧ w'.cell? ⟨b, oo + i * 3, none⟩ = some (.int .i64 x.1) ∧ w'.cell? ⟨b, oo + i * 3 + 1, none⟩ = some (.int .i64 x.2.1) ∧ w'.cell? ⟨b, oo + i * 3 + 2, none⟩ = some (.int .i64 x.2.2) := fun w' hb' => by
        have g := hs.step (hb'.mono hz)
        have up : ∀ o v, wr.cell? ⟨b, o, none⟩ = some v → w'.cell? ⟨b, o, none⟩ = some v := fun o v hv => (hb'.cell (p := ⟨b, o, none⟩) hb).trans hv
        exact ⟨g.box.cell 0, g.box.cell 1, g.ebox.cell 0, g.ebox.cell 1, g.ebox.cell 2, up _ _ x1, up _ _ x2, up _ _ x3⟩
      have HSS := Lib.hid hss; have HA2 := Lib.hid hac; have HST := Lib.hid hs
      clear hss hac hah hx hs x1 x2 x3
      go_wp2_with fail
      refine wp_region_noPanic ?_
      refine wp_region_held_drew (S := (fun w' => w'.cell? ⟨w.heap.size, 0, none⟩ = some (.int .i64 n) ∧ w'.cell? ⟨w.heap.size, 1, none⟩ = some (.slice (some ⟨b, oo, none⟩) l.length c) ∧ w'.cell? ⟨w.heap.size + 1, 0, none⟩ = some (.int .i64 e.1) ∧ w'.cell? ⟨w.heap.size + 1, 1, none⟩ = some (.int .i64 e.2.1) ∧ w'.cell? ⟨w.heap.size + 1, 2, none⟩ = some (.int .i64 e.2.2) ∧ w'.cell? ⟨b, oo + i * 3, none⟩ = some (.int .i64 x.1) ∧ w'.cell? ⟨b, oo + i * 3 + 1, none⟩ = some (.int .i64 x.2.1) ∧ w'.cell? ⟨b, oo + i * 3 + 2, none⟩ = some (.int .i64 x.2.2))) (by kernel_rfl) ?_ (fun hHeld => ?_)
      · exact HSS.out _ (below_drewN (Below.refl _ _) 1)
      refine wpAnyH_take (i := 0) (v := ?v0g1_) rfl (by kernel_rfl) (by kernel_rfl) (by kernel_rfl) (fun _ _ _ h => h) (Or.inl ⟨by rfl, ?y0g1_⟩) (by assumption) ?r0g1_
      case y0g1_ => (intro w hSw; (try dsimp only at hSw); go_simp; try with_reducible rfl)
      change wpAnyH _ _ _ _ _ _ _ (Act.put _ (some 20) _) _; simp only [Act.put, List.setIfInBounds_toArray, List.set_cons_zero, List.set_cons_succ]
      refine wpAnyH_take (i := 1) (v := ?v1g1_) rfl (by kernel_rfl) (by kernel_rfl) (by kernel_rfl) (fun _ _ _ h => h) (Or.inl ⟨by rfl, ?y1g1_⟩) (by assumption) ?r1g1_
      case y1g1_ => (intro w hSw; (try dsimp only at hSw); go_simp; try with_reducible rfl)
      change wpAnyH _ _ _ _ _ _ _ (Act.put _ (some 21) _) _; simp only [Act.put, List.setIfInBounds_toArray, List.set_cons_zero, List.set_cons_succ]
      refine wpAnyH_take (i := 2) (v := ?v2g1_) rfl (by kernel_rfl) (by kernel_rfl) (by kernel_rfl) (fun _ _ _ h => h) (Or.inl ⟨by rfl, ?y2g1_⟩) (by assumption) ?r2g1_
      case y2g1_ => (intro w hSw; (try dsimp only at hSw); go_simp; try with_reducible rfl)
      change wpAnyH _ _ _ _ _ _ _ (Act.put _ (some 22) _) _; simp only [Act.put, List.setIfInBounds_toArray, List.set_cons_zero, List.set_cons_succ]
      refine wpAnyH_take (i := 3) (v := ?v3g1_) rfl (by kernel_rfl) (by kernel_rfl) (by kernel_rfl) (fun _ _ _ h => h) (Or.inl ⟨by rfl, ?y3g1_⟩) (by assumption) ?r3g1_
      case y3g1_ => (intro w hSw; (try dsimp only at hSw); go_simp; try with_reducible rfl)
      change wpAnyH _ _ _ _ _ _ _ (Act.put _ (some 23) _) _; simp only [Act.put, List.setIfInBounds_toArray, List.set_cons_zero, List.set_cons_succ]
      refine wpAnyH_take (i := 4) (v := ?v4g1_) rfl (by kernel_rfl) (by kernel_rfl) (by kernel_rfl) (fun _ _ _ h => h) (Or.inl ⟨by rfl, ?y4g1_⟩) (by assumption) ?r4g1_
      case y4g1_ => (intro w hSw; (try dsimp only at hSw); go_simp; try with_reducible rfl)
      change wpAnyH _ _ _ _ _ _ _ (Act.put _ (some 24) _) _; simp only [Act.put, List.setIfInBounds_toArray, List.set_cons_zero, List.set_cons_succ]
      refine wpAnyH_take (i := 5) (v := ?v5g1_) rfl (by kernel_rfl) (by kernel_rfl) (by kernel_rfl) (fun _ _ _ h => h) (Or.inl ⟨by rfl, ?y5g1_⟩) (by assumption) ?r5g1_
      case y5g1_ => (intro w hSw; (try dsimp only at hSw); go_simp; try with_reducible rfl)
      change wpAnyH _ _ _ _ _ _ _ (Act.put _ (some 25) _) _; simp only [Act.put, List.setIfInBounds_toArray, List.set_cons_zero, List.set_cons_succ]
      refine wpAnyH_take (i := 6) (v := ?v6g1_) rfl (by kernel_rfl) (by kernel_rfl) (by kernel_rfl) (fun _ _ _ h => h) (Or.inl ⟨by rfl, ?y6g1_⟩) (by assumption) ?r6g1_
      case y6g1_ => (intro w hSw; (try dsimp only at hSw); go_simp; try with_reducible rfl)
      change wpAnyH _ _ _ _ _ _ _ (Act.put _ (some 26) _) _; simp only [Act.put, List.setIfInBounds_toArray, List.set_cons_zero, List.set_cons_succ]
      refine wpAnyH_take (i := 7) (v := ?v7g1_) rfl (by kernel_rfl) (by kernel_rfl) (by kernel_rfl) (fun _ _ _ h => h) (Or.inl ⟨by rfl, ?y7g1_⟩) (by assumption) ?r7g1_
      case y7g1_ => (intro w hSw; (try dsimp only at hSw); go_simp; try with_reducible rfl)
      change wpAnyH _ _ _ _ _ _ _ (Act.put _ (some 27) _) _; simp only [Act.put, List.setIfInBounds_toArray, List.set_cons_zero, List.set_cons_succ]
      refine wpAnyH_take (i := 8) (v := ?v8g1_) rfl (by kernel_rfl) (by kernel_rfl) (by kernel_rfl) (fun _ _ _ h => h) (Or.inl ⟨by rfl, ?y8g1_⟩) (by assumption) ?r8g1_
      case y8g1_ => (intro w hSw; (try dsimp only at hSw); go_simp; try with_reducible rfl)
      change wpAnyH _ _ _ _ _ _ _ (Act.put _ (some 28) _) _; simp only [Act.put, List.setIfInBounds_toArray, List.set_cons_zero, List.set_cons_succ]
      refine wpAnyH_take (i := 9) (v := ?v9g1_) rfl (by kernel_rfl) (by kernel_rfl) (by kernel_rfl) (fun _ _ _ h => h) (Or.inl ⟨by rfl, ?y9g1_⟩) (by assumption) ?r9g1_
      case y9g1_ => (intro w hSw; (try dsimp only at hSw); go_simp; try with_reducible rfl)
      change wpAnyH _ _ _ _ _ _ _ (Act.put _ (some 29) _) _; simp only [Act.put, List.setIfInBounds_toArray, List.set_cons_zero, List.set_cons_succ]
      refine wpAnyH_take (i := 10) (v := ?v10g1_) rfl (by kernel_rfl) (by kernel_rfl) (by kernel_rfl) (fun _ _ _ h => h) (Or.inl ⟨by rfl, ?y10g1_⟩) (by assumption) ?r10g1_
      case y10g1_ => (intro w hSw; (try dsimp only at hSw); go_simp; try with_reducible rfl)
      change wpAnyH _ _ _ _ _ _ _ (Act.put _ (some 30) _) _; simp only [Act.put, List.setIfInBounds_toArray, List.set_cons_zero, List.set_cons_succ]
      refine wpAnyH_take (i := 11) (v := ?v11g1_) rfl (by kernel_rfl) (by kernel_rfl) (by kernel_rfl) (fun _ _ _ h => h) (Or.inl ⟨by rfl, ?y11g1_⟩) (by assumption) ?r11g1_
      case y11g1_ => (intro w hSw; (try dsimp only at hSw); go_simp; try with_reducible rfl)
      change wpAnyH _ _ _ _ _ _ _ (Act.put _ (some 31) _) _; simp only [Act.put, List.setIfInBounds_toArray, List.set_cons_zero, List.set_cons_succ]
      refine wpAnyH_ready (rs := [12]) (by kernel_rfl) (by simp) ?_
      refine AllReadyH.cons rfl (fun K hK => ?_) AllReadyH.nil
      go_simp
      refine (HA2.out _).mono ?_
      rintro r2 w2 ⟨rfl, hb2⟩
      have HB2 := Lib.hid (undrew hb2)
      clear hb2
      dsimp only
      refine hK.out _ _ ?_ (fun hHeld => ?_)
      · exact HSS.out _ HB2.out
      clear hK K
      try simp only [Act.put, List.setIfInBounds_toArray, List.set_cons_zero, List.set_cons_succ]
      refine wpAnyH_take (i := 13) (v := ?v13g1_) rfl (by kernel_rfl) (by kernel_rfl) (by kernel_rfl) (fun _ _ _ h => h) (Or.inl ⟨by rfl, ?y13g1_⟩) (by assumption) ?r13g1_
      case y13g1_ => (intro w hSw; (try dsimp only at hSw); go_simp; try with_reducible rfl)
      change wpAnyH _ _ _ _ _ _ _ (Act.put _ (some 33) _) _; simp only [Act.put, List.setIfInBounds_toArray, List.set_cons_zero, List.set_cons_succ]
      refine wpAnyH_done (by kernel_rfl) ?_ _
      refine NoPanic.normal ?_
      go_wp2
      go_roundg gf
      case measure => omega
      case rel => exact ⟨i + 1, by go_num, by omega, HST.out.step (HB2.out.mono hz)⟩
    | zero =>
      obtain rfl : i = k := by omega
      obtain ⟨b, oo, x, rfl, hb, hx, x1, x2, x3⟩ := edg_at (HR.out.below hs.below) (i := i) (by omega)
      have hiI : (i : Int) < (l.length : Int) := by omega
      have hdn : decide (i < l.length) = true := by rw [decide_eq_true_eq]; omega
      have hah := atE_ge (e := e) (l := l) (by rw [HK.out]; exact hx)
      have hac := fun W => HAC.out x W
      rw [hah] at hac
      obtain rfl : x = y := Option.some.inj (hx.symm.trans HY.out)
      have had := fun W => ahead_any e x W
      rw [HAD.out] at had
      have hss : ∀ w', Below wr.heap.size wr w' → w'.cell? ⟨w.heap.size, 0, none⟩ = some (.int .i64 n) ∧ w'.cell? ⟨w.heap.size, 1, none⟩ = some (.slice (some ⟨b, oo, none⟩) l.length c) ∧ w'.cell? ⟨w.heap.size + 1, 0, none⟩ = some (.int .i64 e.1) ∧ w'.cell? ⟨w.heap.size + 1, 1, none⟩ = some (.int .i64 e.2.1) ∧ w'.cell? ⟨w.heap.size + 1, 2, none⟩ = some (.int .i64 e.2.2) ∧ w'.cell? ⟨b, oo + i * 3, none⟩ = some (.int .i64 x.1) ∧ w'.cell? ⟨b, oo + i * 3 + 1, none⟩ = some (.int .i64 x.2.1) ∧ w'.cell? ⟨b, oo + i * 3 + 2, none⟩ = some (.int .i64 x.2.2) := fun w' hb' => by
        have g := hs.step (hb'.mono hz)
        have up : ∀ o v, wr.cell? ⟨b, o, none⟩ = some v → w'.cell? ⟨b, o, none⟩ = some v := fun o v hv => (hb'.cell (p := ⟨b, o, none⟩) hb).trans hv
        exact ⟨g.box.cell 0, g.box.cell 1, g.ebox.cell 0, g.ebox.cell 1, g.ebox.cell 2, up _ _ x1, up _ _ x2, up _ _ x3⟩
      have HSS := Lib.hid hss; have HA2 := Lib.hid hac; have HST := Lib.hid hs; have HA3 := Lib.hid had
      clear hss hac hah hx hs x1 x2 x3 had
      go_wp2_with fail
      refine wp_region_noPanic ?_
      refine wp_region_held_drew (S := (fun w' => w'.cell? ⟨w.heap.size, 0, none⟩ = some (.int .i64 n) ∧ w'.cell? ⟨w.heap.size, 1, none⟩ = some (.slice (some ⟨b, oo, none⟩) l.length c) ∧ w'.cell? ⟨w.heap.size + 1, 0, none⟩ = some (.int .i64 e.1) ∧ w'.cell? ⟨w.heap.size + 1, 1, none⟩ = some (.int .i64 e.2.1) ∧ w'.cell? ⟨w.heap.size + 1, 2, none⟩ = some (.int .i64 e.2.2) ∧ w'.cell? ⟨b, oo + i * 3, none⟩ = some (.int .i64 x.1) ∧ w'.cell? ⟨b, oo + i * 3 + 1, none⟩ = some (.int .i64 x.2.1) ∧ w'.cell? ⟨b, oo + i * 3 + 2, none⟩ = some (.int .i64 x.2.2))) (by kernel_rfl) ?_ (fun hHeld => ?_)
      · exact HSS.out _ (below_drewN (Below.refl _ _) 1)
      refine wpAnyH_take (i := 0) (v := ?v0g2_) rfl (by kernel_rfl) (by kernel_rfl) (by kernel_rfl) (fun _ _ _ h => h) (Or.inl ⟨by rfl, ?y0g2_⟩) (by assumption) ?r0g2_
      case y0g2_ => (intro w hSw; (try dsimp only at hSw); go_simp; try with_reducible rfl)
      change wpAnyH _ _ _ _ _ _ _ (Act.put _ (some 20) _) _; simp only [Act.put, List.setIfInBounds_toArray, List.set_cons_zero, List.set_cons_succ]
      refine wpAnyH_take (i := 1) (v := ?v1g2_) rfl (by kernel_rfl) (by kernel_rfl) (by kernel_rfl) (fun _ _ _ h => h) (Or.inl ⟨by rfl, ?y1g2_⟩) (by assumption) ?r1g2_
      case y1g2_ => (intro w hSw; (try dsimp only at hSw); go_simp; try with_reducible rfl)
      change wpAnyH _ _ _ _ _ _ _ (Act.put _ (some 21) _) _; simp only [Act.put, List.setIfInBounds_toArray, List.set_cons_zero, List.set_cons_succ]
      refine wpAnyH_take (i := 2) (v := ?v2g2_) rfl (by kernel_rfl) (by kernel_rfl) (by kernel_rfl) (fun _ _ _ h => h) (Or.inl ⟨by rfl, ?y2g2_⟩) (by assumption) ?r2g2_
      case y2g2_ => (intro w hSw; (try dsimp only at hSw); go_simp; try with_reducible rfl)
      change wpAnyH _ _ _ _ _ _ _ (Act.put _ (some 22) _) _; simp only [Act.put, List.setIfInBounds_toArray, List.set_cons_zero, List.set_cons_succ]
      refine wpAnyH_take (i := 3) (v := ?v3g2_) rfl (by kernel_rfl) (by kernel_rfl) (by kernel_rfl) (fun _ _ _ h => h) (Or.inl ⟨by rfl, ?y3g2_⟩) (by assumption) ?r3g2_
      case y3g2_ => (intro w hSw; (try dsimp only at hSw); go_simp; try with_reducible rfl)
      change wpAnyH _ _ _ _ _ _ _ (Act.put _ (some 23) _) _; simp only [Act.put, List.setIfInBounds_toArray, List.set_cons_zero, List.set_cons_succ]
      refine wpAnyH_take (i := 4) (v := ?v4g2_) rfl (by kernel_rfl) (by kernel_rfl) (by kernel_rfl) (fun _ _ _ h => h) (Or.inl ⟨by rfl, ?y4g2_⟩) (by assumption) ?r4g2_
      case y4g2_ => (intro w hSw; (try dsimp only at hSw); go_simp; try with_reducible rfl)
      change wpAnyH _ _ _ _ _ _ _ (Act.put _ (some 24) _) _; simp only [Act.put, List.setIfInBounds_toArray, List.set_cons_zero, List.set_cons_succ]
      refine wpAnyH_take (i := 5) (v := ?v5g2_) rfl (by kernel_rfl) (by kernel_rfl) (by kernel_rfl) (fun _ _ _ h => h) (Or.inl ⟨by rfl, ?y5g2_⟩) (by assumption) ?r5g2_
      case y5g2_ => (intro w hSw; (try dsimp only at hSw); go_simp; try with_reducible rfl)
      change wpAnyH _ _ _ _ _ _ _ (Act.put _ (some 25) _) _; simp only [Act.put, List.setIfInBounds_toArray, List.set_cons_zero, List.set_cons_succ]
      refine wpAnyH_take (i := 6) (v := ?v6g2_) rfl (by kernel_rfl) (by kernel_rfl) (by kernel_rfl) (fun _ _ _ h => h) (Or.inl ⟨by rfl, ?y6g2_⟩) (by assumption) ?r6g2_
      case y6g2_ => (intro w hSw; (try dsimp only at hSw); go_simp; try with_reducible rfl)
      change wpAnyH _ _ _ _ _ _ _ (Act.put _ (some 26) _) _; simp only [Act.put, List.setIfInBounds_toArray, List.set_cons_zero, List.set_cons_succ]
      refine wpAnyH_take (i := 7) (v := ?v7g2_) rfl (by kernel_rfl) (by kernel_rfl) (by kernel_rfl) (fun _ _ _ h => h) (Or.inl ⟨by rfl, ?y7g2_⟩) (by assumption) ?r7g2_
      case y7g2_ => (intro w hSw; (try dsimp only at hSw); go_simp; try with_reducible rfl)
      change wpAnyH _ _ _ _ _ _ _ (Act.put _ (some 27) _) _; simp only [Act.put, List.setIfInBounds_toArray, List.set_cons_zero, List.set_cons_succ]
      refine wpAnyH_take (i := 8) (v := ?v8g2_) rfl (by kernel_rfl) (by kernel_rfl) (by kernel_rfl) (fun _ _ _ h => h) (Or.inl ⟨by rfl, ?y8g2_⟩) (by assumption) ?r8g2_
      case y8g2_ => (intro w hSw; (try dsimp only at hSw); go_simp; try with_reducible rfl)
      change wpAnyH _ _ _ _ _ _ _ (Act.put _ (some 28) _) _; simp only [Act.put, List.setIfInBounds_toArray, List.set_cons_zero, List.set_cons_succ]
      refine wpAnyH_take (i := 9) (v := ?v9g2_) rfl (by kernel_rfl) (by kernel_rfl) (by kernel_rfl) (fun _ _ _ h => h) (Or.inl ⟨by rfl, ?y9g2_⟩) (by assumption) ?r9g2_
      case y9g2_ => (intro w hSw; (try dsimp only at hSw); go_simp; try with_reducible rfl)
      change wpAnyH _ _ _ _ _ _ _ (Act.put _ (some 29) _) _; simp only [Act.put, List.setIfInBounds_toArray, List.set_cons_zero, List.set_cons_succ]
      refine wpAnyH_take (i := 10) (v := ?v10g2_) rfl (by kernel_rfl) (by kernel_rfl) (by kernel_rfl) (fun _ _ _ h => h) (Or.inl ⟨by rfl, ?y10g2_⟩) (by assumption) ?r10g2_
      case y10g2_ => (intro w hSw; (try dsimp only at hSw); go_simp; try with_reducible rfl)
      change wpAnyH _ _ _ _ _ _ _ (Act.put _ (some 30) _) _; simp only [Act.put, List.setIfInBounds_toArray, List.set_cons_zero, List.set_cons_succ]
      refine wpAnyH_take (i := 11) (v := ?v11g2_) rfl (by kernel_rfl) (by kernel_rfl) (by kernel_rfl) (fun _ _ _ h => h) (Or.inl ⟨by rfl, ?y11g2_⟩) (by assumption) ?r11g2_
      case y11g2_ => (intro w hSw; (try dsimp only at hSw); go_simp; try with_reducible rfl)
      change wpAnyH _ _ _ _ _ _ _ (Act.put _ (some 31) _) _; simp only [Act.put, List.setIfInBounds_toArray, List.set_cons_zero, List.set_cons_succ]
      refine wpAnyH_ready (rs := [12]) (by kernel_rfl) (by simp) ?_
      refine AllReadyH.cons rfl (fun K hK => ?_) AllReadyH.nil
      go_simp
      refine (HA2.out _).mono ?_
      rintro r2 w2 ⟨rfl, hb2⟩
      have HB2 := Lib.hid (undrew hb2)
      clear hb2
      dsimp only
      refine hK.out _ _ ?_ (fun hHeld => ?_)
      · exact HSS.out _ HB2.out
      clear hK K
      try simp only [Act.put, List.setIfInBounds_toArray, List.set_cons_zero, List.set_cons_succ]
      refine wpAnyH_take (i := 13) (v := ?v13g2_) rfl (by kernel_rfl) (by kernel_rfl) (by kernel_rfl) (fun _ _ _ h => h) (Or.inl ⟨by rfl, ?y13g2_⟩) (by assumption) ?r13g2_
      case y13g2_ => (intro w hSw; (try dsimp only at hSw); go_simp; try with_reducible rfl)
      change wpAnyH _ _ _ _ _ _ _ (Act.put _ (some 33) _) _; simp only [Act.put, List.setIfInBounds_toArray, List.set_cons_zero, List.set_cons_succ]
      refine wpAnyH_done (by kernel_rfl) ?_ _
      refine NoPanic.normal ?_
      go_wp2_with fail
      refine wp_region_noPanic ?_
      refine wp_region_held_drew (S := (fun w' => w'.cell? ⟨w.heap.size, 0, none⟩ = some (.int .i64 n) ∧ w'.cell? ⟨w.heap.size, 1, none⟩ = some (.slice (some ⟨b, oo, none⟩) l.length c) ∧ w'.cell? ⟨w.heap.size + 1, 0, none⟩ = some (.int .i64 e.1) ∧ w'.cell? ⟨w.heap.size + 1, 1, none⟩ = some (.int .i64 e.2.1) ∧ w'.cell? ⟨w.heap.size + 1, 2, none⟩ = some (.int .i64 e.2.2) ∧ w'.cell? ⟨b, oo + i * 3, none⟩ = some (.int .i64 x.1) ∧ w'.cell? ⟨b, oo + i * 3 + 1, none⟩ = some (.int .i64 x.2.1) ∧ w'.cell? ⟨b, oo + i * 3 + 2, none⟩ = some (.int .i64 x.2.2))) (by kernel_rfl) ?_ (fun hHeld => ?_)
      · exact HSS.out _ (below_drewN HB2.out 1)
      refine wpAnyH_take (i := 0) (v := ?v0g3_) rfl (by kernel_rfl) (by kernel_rfl) (by kernel_rfl) (fun _ _ _ h => h) (Or.inl ⟨by rfl, ?y0g3_⟩) (by assumption) ?r0g3_
      case y0g3_ => (intro w hSw; (try dsimp only at hSw); go_simp; try with_reducible rfl)
      change wpAnyH _ _ _ _ _ _ _ (Act.put _ (some 36) _) _; simp only [Act.put, List.setIfInBounds_toArray, List.set_cons_zero, List.set_cons_succ]
      refine wpAnyH_take (i := 1) (v := ?v1g3_) rfl (by kernel_rfl) (by kernel_rfl) (by kernel_rfl) (fun _ _ _ h => h) (Or.inl ⟨by rfl, ?y1g3_⟩) (by assumption) ?r1g3_
      case y1g3_ => (intro w hSw; (try dsimp only at hSw); go_simp; try with_reducible rfl)
      change wpAnyH _ _ _ _ _ _ _ (Act.put _ (some 37) _) _; simp only [Act.put, List.setIfInBounds_toArray, List.set_cons_zero, List.set_cons_succ]
      refine wpAnyH_take (i := 2) (v := ?v2g3_) rfl (by kernel_rfl) (by kernel_rfl) (by kernel_rfl) (fun _ _ _ h => h) (Or.inl ⟨by rfl, ?y2g3_⟩) (by assumption) ?r2g3_
      case y2g3_ => (intro w hSw; (try dsimp only at hSw); go_simp; try with_reducible rfl)
      change wpAnyH _ _ _ _ _ _ _ (Act.put _ (some 38) _) _; simp only [Act.put, List.setIfInBounds_toArray, List.set_cons_zero, List.set_cons_succ]
      refine wpAnyH_take (i := 3) (v := ?v3g3_) rfl (by kernel_rfl) (by kernel_rfl) (by kernel_rfl) (fun _ _ _ h => h) (Or.inl ⟨by rfl, ?y3g3_⟩) (by assumption) ?r3g3_
      case y3g3_ => (intro w hSw; (try dsimp only at hSw); go_simp; try with_reducible rfl)
      change wpAnyH _ _ _ _ _ _ _ (Act.put _ (some 39) _) _; simp only [Act.put, List.setIfInBounds_toArray, List.set_cons_zero, List.set_cons_succ]
      refine wpAnyH_take (i := 4) (v := ?v4g3_) rfl (by kernel_rfl) (by kernel_rfl) (by kernel_rfl) (fun _ _ _ h => h) (Or.inl ⟨by rfl, ?y4g3_⟩) (by assumption) ?r4g3_
      case y4g3_ => (intro w hSw; (try dsimp only at hSw); go_simp; try with_reducible rfl)
      change wpAnyH _ _ _ _ _ _ _ (Act.put _ (some 40) _) _; simp only [Act.put, List.setIfInBounds_toArray, List.set_cons_zero, List.set_cons_succ]
      refine wpAnyH_take (i := 5) (v := ?v5g3_) rfl (by kernel_rfl) (by kernel_rfl) (by kernel_rfl) (fun _ _ _ h => h) (Or.inl ⟨by rfl, ?y5g3_⟩) (by assumption) ?r5g3_
      case y5g3_ => (intro w hSw; (try dsimp only at hSw); go_simp; try with_reducible rfl)
      change wpAnyH _ _ _ _ _ _ _ (Act.put _ (some 41) _) _; simp only [Act.put, List.setIfInBounds_toArray, List.set_cons_zero, List.set_cons_succ]
      refine wpAnyH_take (i := 6) (v := ?v6g3_) rfl (by kernel_rfl) (by kernel_rfl) (by kernel_rfl) (fun _ _ _ h => h) (Or.inl ⟨by rfl, ?y6g3_⟩) (by assumption) ?r6g3_
      case y6g3_ => (intro w hSw; (try dsimp only at hSw); go_simp; try with_reducible rfl)
      change wpAnyH _ _ _ _ _ _ _ (Act.put _ (some 42) _) _; simp only [Act.put, List.setIfInBounds_toArray, List.set_cons_zero, List.set_cons_succ]
      refine wpAnyH_take (i := 7) (v := ?v7g3_) rfl (by kernel_rfl) (by kernel_rfl) (by kernel_rfl) (fun _ _ _ h => h) (Or.inl ⟨by rfl, ?y7g3_⟩) (by assumption) ?r7g3_
      case y7g3_ => (intro w hSw; (try dsimp only at hSw); go_simp; try with_reducible rfl)
      change wpAnyH _ _ _ _ _ _ _ (Act.put _ (some 43) _) _; simp only [Act.put, List.setIfInBounds_toArray, List.set_cons_zero, List.set_cons_succ]
      refine wpAnyH_take (i := 8) (v := ?v8g3_) rfl (by kernel_rfl) (by kernel_rfl) (by kernel_rfl) (fun _ _ _ h => h) (Or.inl ⟨by rfl, ?y8g3_⟩) (by assumption) ?r8g3_
      case y8g3_ => (intro w hSw; (try dsimp only at hSw); go_simp; try with_reducible rfl)
      change wpAnyH _ _ _ _ _ _ _ (Act.put _ (some 44) _) _; simp only [Act.put, List.setIfInBounds_toArray, List.set_cons_zero, List.set_cons_succ]
      refine wpAnyH_take (i := 9) (v := ?v9g3_) rfl (by kernel_rfl) (by kernel_rfl) (by kernel_rfl) (fun _ _ _ h => h) (Or.inl ⟨by rfl, ?y9g3_⟩) (by assumption) ?r9g3_
      case y9g3_ => (intro w hSw; (try dsimp only at hSw); go_simp; try with_reducible rfl)
      change wpAnyH _ _ _ _ _ _ _ (Act.put _ (some 45) _) _; simp only [Act.put, List.setIfInBounds_toArray, List.set_cons_zero, List.set_cons_succ]
      refine wpAnyH_take (i := 10) (v := ?v10g3_) rfl (by kernel_rfl) (by kernel_rfl) (by kernel_rfl) (fun _ _ _ h => h) (Or.inl ⟨by rfl, ?y10g3_⟩) (by assumption) ?r10g3_
      case y10g3_ => (intro w hSw; (try dsimp only at hSw); go_simp; try with_reducible rfl)
      change wpAnyH _ _ _ _ _ _ _ (Act.put _ (some 46) _) _; simp only [Act.put, List.setIfInBounds_toArray, List.set_cons_zero, List.set_cons_succ]
      refine wpAnyH_take (i := 11) (v := ?v11g3_) rfl (by kernel_rfl) (by kernel_rfl) (by kernel_rfl) (fun _ _ _ h => h) (Or.inl ⟨by rfl, ?y11g3_⟩) (by assumption) ?r11g3_
      case y11g3_ => (intro w hSw; (try dsimp only at hSw); go_simp; try with_reducible rfl)
      change wpAnyH _ _ _ _ _ _ _ (Act.put _ (some 47) _) _; simp only [Act.put, List.setIfInBounds_toArray, List.set_cons_zero, List.set_cons_succ]
      refine wpAnyH_ready (rs := [12]) (by kernel_rfl) (by simp) ?_
      refine AllReadyH.cons rfl (fun K hK => ?_) AllReadyH.nil
      go_simp
      refine (HA3.out _).mono ?_
      rintro r2 w3 ⟨rfl, hb3⟩
      have HB3 := Lib.hid (HB2.out.trans ((undrew hb3).mono HB2.out.size))
      clear hb3
      dsimp only
      refine hK.out _ _ ?_ (fun hHeld => ?_)
      · exact HSS.out _ HB3.out
      clear hK K
      try simp only [Act.put, List.setIfInBounds_toArray, List.set_cons_zero, List.set_cons_succ]
      refine wpAnyH_take (i := 13) (v := ?v13g3_) rfl (by kernel_rfl) (by kernel_rfl) (by kernel_rfl) (fun _ _ _ h => h) (Or.inl ⟨by rfl, ?y13g3_⟩) (by assumption) ?r13g3_
      case y13g3_ => (intro w hSw; (try dsimp only at hSw); go_simp; try with_reducible rfl)
      change wpAnyH _ _ _ _ _ _ _ (Act.put _ (some 49) _) _; simp only [Act.put, List.setIfInBounds_toArray, List.set_cons_zero, List.set_cons_succ]
      refine wpAnyH_take (i := 14) (v := ?v14g3_) rfl (by kernel_rfl) (by kernel_rfl) (by kernel_rfl) (fun _ _ _ h => h) (Or.inl ⟨by rfl, ?y14g3_⟩) (by assumption) ?r14g3_
      case y14g3_ => (intro w hSw; (try dsimp only at hSw); go_simp; try with_reducible rfl)
      change wpAnyH _ _ _ _ _ _ _ (Act.put _ (some 50) _) _; simp only [Act.put, List.setIfInBounds_toArray, List.set_cons_zero, List.set_cons_succ]
      refine wpAnyH_done (by kernel_rfl) ?_ _
      refine NoPanic.normal ?_
      have hs3 := HST.out.step (HB3.out.mono hz)
      have b0 := hs3.box.cell 0; have b1 := hs3.box.cell 1; have e0 := hs3.ebox.cell 0; have e1 := hs3.ebox.cell 1; have e2 := hs3.ebox.cell 2; have r0 := hs3.rbox.cell 0; have r1 := hs3.rbox.cell 1; have f0 := hs3.rbox.frozen 0; have f1 := hs3.rbox.frozen 1
      simp only [List.getElem?_toArray, List.getElem?_cons_zero, List.getElem?_cons_succ] at b0 b1 e0 e1 e2 r0 r1
      have hz3 := hs3.size
      have HS3 := Lib.hid hs3
      clear hs3
      go_wp2
      have d0 := (HS3.out.rbox.set_ 0 (.int .i64 n)).set_ 1 (.slice (some ⟨b, oo, none⟩) l.length c)
      have d1 := d0.cell 0; have d2 := d0.cell 1
      simp only [List.getElem?_toArray, List.setIfInBounds_toArray, List.set_cons_zero, List.set_cons_succ, List.getElem?_cons_zero, List.getElem?_cons_succ] at d1 d2
      exact bodyPost_ret (v := .tuple #[.agg #[.int .i64 n, .slice (some ⟨b, oo, none⟩) l.length c], .bool false]) (by simp [results, Tryd.results64, go_sem, d1, d2]) rfl ⟨(HS3.out.below.setCell (p := ⟨w.heap.size + 2, 0, none⟩) (by show _ ≤ w.heap.size + 2; omega) _).setCell (p := ⟨w.heap.size + 2, 1, none⟩) (by show _ ≤ w.heap.size + 2; omega) _, rfl⟩
set_option maxRecDepth 100000 in
set_option maxHeartbeats 8000000 in
theorem refAdd_yes (w : World) (n : Int) (A : Option Addr) (c : Nat) (l : List Edg) (e : Edg) (h : Rs edgC 3 w A l) (hc : l.length ≤ c) (hf : fitsE e n = true) (h8 : l.length < 8192) (k : Nat) (hk : atE l e = k) (hlt : k < l.length) (y : Edg) (hy : l[k]? = some y) (ha : aheadE e y = true) :
    Calls Tryd.prog 64 #[.agg #[.int .i64 n, .slice A l.length c], .agg #[.int .i64 e.1, .int .i64 e.2.1, .int .i64 e.2.2]] w (AddPost w n A c l (addR n l e)) := by
  rw [addR_yes hf h8 (by rw [hk]; exact hy) ha, hk]
  obtain ⟨m, hm⟩ : ∃ m, l.take k ++ [e] ++ l.drop k = m := ⟨_, rfl⟩
  rw [hm]
  have HM := Lib.hid hm
  clear hm
  have HK := Lib.hid hk; have HY := Lib.hid hy; have HAD := Lib.hid ha
  clear hk hy ha
  have h8I : (l.length : Int) < 8192 := by omega
  have HAC := Lib.hid fun (x : Edg) W => ahead_any x e W
  have HCX := Lib.hid hc
  have hfc := fun W => refFits_any e n W
  rw [hf] at hfc
  have h0 := AddG.start h n c e
  have H0 := Lib.hid h0; have HF := Lib.hid hfc; have HR := Lib.hid h
  clear h0 hfc h hf
  clear hc
  go_enter Tryd.func64, Tryd.ntmps64
  go_wp2_with fail
  refine (HF.out _).mono ?_
  rintro r w1 ⟨rfl, hb1⟩
  have hs1 := H0.out.step (hb1.mono H0.out.size)
  have b0 := hs1.box.cell 0; have b1 := hs1.box.cell 1; have r0 := hs1.rbox.cell 0; have r1 := hs1.rbox.cell 1; have f0 := hs1.rbox.frozen 0; have f1 := hs1.rbox.frozen 1
  simp only [List.getElem?_toArray, List.getElem?_cons_zero, List.getElem?_cons_succ] at b0 b1 r0 r1
  have hsz := hs1.size
  have z0 : w.heap.size < w1.heap.size := by omega
  have z2 : w.heap.size + 2 < w1.heap.size := by omega
  have HS1 := Lib.hid hs1
  clear hs1 hb1 H0
  go_wp2
  go_loopg [6] k (fun gf vi wr => ∃ i : Nat, vi = .int .i64 i ∧ i + gf = k ∧ AddG w wr n A c l e)
  case atStart => exact ⟨0, rfl, by omega, HS1.out⟩
  case round =>
    clear HS1 b0 b1 r0 r1 f0 f1 z0 z2 hsz HF
    obtain ⟨i, rfl, hi, hs⟩ := hrel
    have hz := hs.size
    have z0 : w.heap.size < wr.heap.size := by omega
    have z1 : w.heap.size + 1 < wr.heap.size := by omega
    have z2 : w.heap.size + 2 < wr.heap.size := by omega
    cases gk with
    | succ gf =>
      have hik : i < k := by omega
      have hiI : (i : Int) < (l.length : Int) := by omega
      have hdn : decide (i < l.length) = true := by rw [decide_eq_true_eq]; omega
      obtain ⟨b, oo, x, rfl, hb, hx, x1, x2, x3⟩ := edg_at (HR.out.below hs.below) (i := i) (by omega)
      have hah := atE_lt (by rw [HK.out]; exact hik) hx
      have hac := fun W => HAC.out x W
      rw [hah] at hac
      have hss : ∀ w', Below wr.heap.size wr w' → w'.cell? ⟨w.heap.size, 0, none⟩ = some (.int .i64 n) ∧ w'.cell? ⟨w.heap.size, 1, none⟩ = some (.slice (some ⟨b, oo, none⟩) l.length c) ∧ w'.cell? ⟨w.heap.size + 1, 0, none⟩ = some (.int .i64 e.1) ∧ w'.cell? ⟨w.heap.size + 1, 1, none⟩ = some (.int .i64 e.2.1) ∧ w'.cell? ⟨w.heap.size + 1, 2, none⟩ = some (.int .i64 e.2.2) ∧ w'.cell? ⟨b, oo + i * 3, none⟩ = some (.int .i64 x.1) ∧ w'.cell? ⟨b, oo + i * 3 + 1, none⟩ = some (.int .i64 x.2.1) ∧ w'.cell? ⟨b, oo + i * 3 + 2, none⟩ = some (.int .i64 x.2.2) := fun w' hb' => by
        have g := hs.step (hb'.mono hz)
        have up : ∀ o v, wr.cell? ⟨b, o, none⟩ = some v → w'.cell? ⟨b, o, none⟩ = some v := fun o v hv => (hb'.cell (p := ⟨b, o, none⟩) hb).trans hv
        exact ⟨g.box.cell 0, g.box.cell 1, g.ebox.cell 0, g.ebox.cell 1, g.ebox.cell 2, up _ _ x1, up _ _ x2, up _ _ x3⟩
      have HSS := Lib.hid hss; have HA2 := Lib.hid hac; have HST := Lib.hid hs
      clear hss hac hah hx hs x1 x2 x3
      go_wp2_with fail
      refine wp_region_noPanic ?_
      refine wp_region_held_drew (S := (fun w' => w'.cell? ⟨w.heap.size, 0, none⟩ = some (.int .i64 n) ∧ w'.cell? ⟨w.heap.size, 1, none⟩ = some (.slice (some ⟨b, oo, none⟩) l.length c) ∧ w'.cell? ⟨w.heap.size + 1, 0, none⟩ = some (.int .i64 e.1) ∧ w'.cell? ⟨w.heap.size + 1, 1, none⟩ = some (.int .i64 e.2.1) ∧ w'.cell? ⟨w.heap.size + 1, 2, none⟩ = some (.int .i64 e.2.2) ∧ w'.cell? ⟨b, oo + i * 3, none⟩ = some (.int .i64 x.1) ∧ w'.cell? ⟨b, oo + i * 3 + 1, none⟩ = some (.int .i64 x.2.1) ∧ w'.cell? ⟨b, oo + i * 3 + 2, none⟩ = some (.int .i64 x.2.2))) (by kernel_rfl) ?_ (fun hHeld => ?_)
      · exact HSS.out _ (below_drewN (Below.refl _ _) 1)
      refine wpAnyH_take (i := 0) (v := ?v0g4_) rfl (by kernel_rfl) (by kernel_rfl) (by kernel_rfl) (fun _ _ _ h => h) (Or.inl ⟨by rfl, ?y0g4_⟩) (by assumption) ?r0g4_
      case y0g4_ => (intro w hSw; (try dsimp only at hSw); go_simp; try with_reducible rfl)
      change wpAnyH _ _ _ _ _ _ _ (Act.put _ (some 20) _) _; simp only [Act.put, List.setIfInBounds_toArray, List.set_cons_zero, List.set_cons_succ]
      refine wpAnyH_take (i := 1) (v := ?v1g4_) rfl (by kernel_rfl) (by kernel_rfl) (by kernel_rfl) (fun _ _ _ h => h) (Or.inl ⟨by rfl, ?y1g4_⟩) (by assumption) ?r1g4_
      case y1g4_ => (intro w hSw; (try dsimp only at hSw); go_simp; try with_reducible rfl)
      change wpAnyH _ _ _ _ _ _ _ (Act.put _ (some 21) _) _; simp only [Act.put, List.setIfInBounds_toArray, List.set_cons_zero, List.set_cons_succ]
      refine wpAnyH_take (i := 2) (v := ?v2g4_) rfl (by kernel_rfl) (by kernel_rfl) (by kernel_rfl) (fun _ _ _ h => h) (Or.inl ⟨by rfl, ?y2g4_⟩) (by assumption) ?r2g4_
      case y2g4_ => (intro w hSw; (try dsimp only at hSw); go_simp; try with_reducible rfl)
      change wpAnyH _ _ _ _ _ _ _ (Act.put _ (some 22) _) _; simp only [Act.put, List.setIfInBounds_toArray, List.set_cons_zero, List.set_cons_succ]
      refine wpAnyH_take (i := 3) (v := ?v3g4_) rfl (by kernel_rfl) (by kernel_rfl) (by kernel_rfl) (fun _ _ _ h => h) (Or.inl ⟨by rfl, ?y3g4_⟩) (by assumption) ?r3g4_
      case y3g4_ => (intro w hSw; (try dsimp only at hSw); go_simp; try with_reducible rfl)
      change wpAnyH _ _ _ _ _ _ _ (Act.put _ (some 23) _) _; simp only [Act.put, List.setIfInBounds_toArray, List.set_cons_zero, List.set_cons_succ]
      refine wpAnyH_take (i := 4) (v := ?v4g4_) rfl (by kernel_rfl) (by kernel_rfl) (by kernel_rfl) (fun _ _ _ h => h) (Or.inl ⟨by rfl, ?y4g4_⟩) (by assumption) ?r4g4_
      case y4g4_ => (intro w hSw; (try dsimp only at hSw); go_simp; try with_reducible rfl)
      change wpAnyH _ _ _ _ _ _ _ (Act.put _ (some 24) _) _; simp only [Act.put, List.setIfInBounds_toArray, List.set_cons_zero, List.set_cons_succ]
      refine wpAnyH_take (i := 5) (v := ?v5g4_) rfl (by kernel_rfl) (by kernel_rfl) (by kernel_rfl) (fun _ _ _ h => h) (Or.inl ⟨by rfl, ?y5g4_⟩) (by assumption) ?r5g4_
      case y5g4_ => (intro w hSw; (try dsimp only at hSw); go_simp; try with_reducible rfl)
      change wpAnyH _ _ _ _ _ _ _ (Act.put _ (some 25) _) _; simp only [Act.put, List.setIfInBounds_toArray, List.set_cons_zero, List.set_cons_succ]
      refine wpAnyH_take (i := 6) (v := ?v6g4_) rfl (by kernel_rfl) (by kernel_rfl) (by kernel_rfl) (fun _ _ _ h => h) (Or.inl ⟨by rfl, ?y6g4_⟩) (by assumption) ?r6g4_
      case y6g4_ => (intro w hSw; (try dsimp only at hSw); go_simp; try with_reducible rfl)
      change wpAnyH _ _ _ _ _ _ _ (Act.put _ (some 26) _) _; simp only [Act.put, List.setIfInBounds_toArray, List.set_cons_zero, List.set_cons_succ]
      refine wpAnyH_take (i := 7) (v := ?v7g4_) rfl (by kernel_rfl) (by kernel_rfl) (by kernel_rfl) (fun _ _ _ h => h) (Or.inl ⟨by rfl, ?y7g4_⟩) (by assumption) ?r7g4_
      case y7g4_ => (intro w hSw; (try dsimp only at hSw); go_simp; try with_reducible rfl)
      change wpAnyH _ _ _ _ _ _ _ (Act.put _ (some 27) _) _; simp only [Act.put, List.setIfInBounds_toArray, List.set_cons_zero, List.set_cons_succ]
      refine wpAnyH_take (i := 8) (v := ?v8g4_) rfl (by kernel_rfl) (by kernel_rfl) (by kernel_rfl) (fun _ _ _ h => h) (Or.inl ⟨by rfl, ?y8g4_⟩) (by assumption) ?r8g4_
      case y8g4_ => (intro w hSw; (try dsimp only at hSw); go_simp; try with_reducible rfl)
      change wpAnyH _ _ _ _ _ _ _ (Act.put _ (some 28) _) _; simp only [Act.put, List.setIfInBounds_toArray, List.set_cons_zero, List.set_cons_succ]
      refine wpAnyH_take (i := 9) (v := ?v9g4_) rfl (by kernel_rfl) (by kernel_rfl) (by kernel_rfl) (fun _ _ _ h => h) (Or.inl ⟨by rfl, ?y9g4_⟩) (by assumption) ?r9g4_
      case y9g4_ => (intro w hSw; (try dsimp only at hSw); go_simp; try with_reducible rfl)
      change wpAnyH _ _ _ _ _ _ _ (Act.put _ (some 29) _) _; simp only [Act.put, List.setIfInBounds_toArray, List.set_cons_zero, List.set_cons_succ]
      refine wpAnyH_take (i := 10) (v := ?v10g4_) rfl (by kernel_rfl) (by kernel_rfl) (by kernel_rfl) (fun _ _ _ h => h) (Or.inl ⟨by rfl, ?y10g4_⟩) (by assumption) ?r10g4_
      case y10g4_ => (intro w hSw; (try dsimp only at hSw); go_simp; try with_reducible rfl)
      change wpAnyH _ _ _ _ _ _ _ (Act.put _ (some 30) _) _; simp only [Act.put, List.setIfInBounds_toArray, List.set_cons_zero, List.set_cons_succ]
      refine wpAnyH_take (i := 11) (v := ?v11g4_) rfl (by kernel_rfl) (by kernel_rfl) (by kernel_rfl) (fun _ _ _ h => h) (Or.inl ⟨by rfl, ?y11g4_⟩) (by assumption) ?r11g4_
      case y11g4_ => (intro w hSw; (try dsimp only at hSw); go_simp; try with_reducible rfl)
      change wpAnyH _ _ _ _ _ _ _ (Act.put _ (some 31) _) _; simp only [Act.put, List.setIfInBounds_toArray, List.set_cons_zero, List.set_cons_succ]
      refine wpAnyH_ready (rs := [12]) (by kernel_rfl) (by simp) ?_
      refine AllReadyH.cons rfl (fun K hK => ?_) AllReadyH.nil
      go_simp
      refine (HA2.out _).mono ?_
      rintro r2 w2 ⟨rfl, hb2⟩
      have HB2 := Lib.hid (undrew hb2)
      clear hb2
      dsimp only
      refine hK.out _ _ ?_ (fun hHeld => ?_)
      · exact HSS.out _ HB2.out
      clear hK K
      try simp only [Act.put, List.setIfInBounds_toArray, List.set_cons_zero, List.set_cons_succ]
      refine wpAnyH_take (i := 13) (v := ?v13g4_) rfl (by kernel_rfl) (by kernel_rfl) (by kernel_rfl) (fun _ _ _ h => h) (Or.inl ⟨by rfl, ?y13g4_⟩) (by assumption) ?r13g4_
      case y13g4_ => (intro w hSw; (try dsimp only at hSw); go_simp; try with_reducible rfl)
      change wpAnyH _ _ _ _ _ _ _ (Act.put _ (some 33) _) _; simp only [Act.put, List.setIfInBounds_toArray, List.set_cons_zero, List.set_cons_succ]
      refine wpAnyH_done (by kernel_rfl) ?_ _
      refine NoPanic.normal ?_
      go_wp2
      go_roundg gf
      case measure => omega
      case rel => exact ⟨i + 1, by go_num, by omega, HST.out.step (HB2.out.mono hz)⟩
    | zero =>
      obtain rfl : i = k := by omega
      obtain ⟨b, oo, x, rfl, hb, hx, x1, x2, x3⟩ := edg_at (HR.out.below hs.below) (i := i) (by omega)
      have hiI : (i : Int) < (l.length : Int) := by omega
      have hdn : decide (i < l.length) = true := by rw [decide_eq_true_eq]; omega
      have hah := atE_ge (e := e) (l := l) (by rw [HK.out]; exact hx)
      have hac := fun W => HAC.out x W
      rw [hah] at hac
      obtain rfl : x = y := Option.some.inj (hx.symm.trans HY.out)
      have had := fun W => ahead_any e x W
      rw [HAD.out] at had
      have hss : ∀ w', Below wr.heap.size wr w' → w'.cell? ⟨w.heap.size, 0, none⟩ = some (.int .i64 n) ∧ w'.cell? ⟨w.heap.size, 1, none⟩ = some (.slice (some ⟨b, oo, none⟩) l.length c) ∧ w'.cell? ⟨w.heap.size + 1, 0, none⟩ = some (.int .i64 e.1) ∧ w'.cell? ⟨w.heap.size + 1, 1, none⟩ = some (.int .i64 e.2.1) ∧ w'.cell? ⟨w.heap.size + 1, 2, none⟩ = some (.int .i64 e.2.2) ∧ w'.cell? ⟨b, oo + i * 3, none⟩ = some (.int .i64 x.1) ∧ w'.cell? ⟨b, oo + i * 3 + 1, none⟩ = some (.int .i64 x.2.1) ∧ w'.cell? ⟨b, oo + i * 3 + 2, none⟩ = some (.int .i64 x.2.2) := fun w' hb' => by
        have g := hs.step (hb'.mono hz)
        have up : ∀ o v, wr.cell? ⟨b, o, none⟩ = some v → w'.cell? ⟨b, o, none⟩ = some v := fun o v hv => (hb'.cell (p := ⟨b, o, none⟩) hb).trans hv
        exact ⟨g.box.cell 0, g.box.cell 1, g.ebox.cell 0, g.ebox.cell 1, g.ebox.cell 2, up _ _ x1, up _ _ x2, up _ _ x3⟩
      have HSS := Lib.hid hss; have HA2 := Lib.hid hac; have HST := Lib.hid hs; have HA3 := Lib.hid had
      clear hss hac hah hx hs x1 x2 x3 had
      go_wp2_with fail
      refine wp_region_noPanic ?_
      refine wp_region_held_drew (S := (fun w' => w'.cell? ⟨w.heap.size, 0, none⟩ = some (.int .i64 n) ∧ w'.cell? ⟨w.heap.size, 1, none⟩ = some (.slice (some ⟨b, oo, none⟩) l.length c) ∧ w'.cell? ⟨w.heap.size + 1, 0, none⟩ = some (.int .i64 e.1) ∧ w'.cell? ⟨w.heap.size + 1, 1, none⟩ = some (.int .i64 e.2.1) ∧ w'.cell? ⟨w.heap.size + 1, 2, none⟩ = some (.int .i64 e.2.2) ∧ w'.cell? ⟨b, oo + i * 3, none⟩ = some (.int .i64 x.1) ∧ w'.cell? ⟨b, oo + i * 3 + 1, none⟩ = some (.int .i64 x.2.1) ∧ w'.cell? ⟨b, oo + i * 3 + 2, none⟩ = some (.int .i64 x.2.2))) (by kernel_rfl) ?_ (fun hHeld => ?_)
      · exact HSS.out _ (below_drewN (Below.refl _ _) 1)
      refine wpAnyH_take (i := 0) (v := ?v0g5_) rfl (by kernel_rfl) (by kernel_rfl) (by kernel_rfl) (fun _ _ _ h => h) (Or.inl ⟨by rfl, ?y0g5_⟩) (by assumption) ?r0g5_
      case y0g5_ => (intro w hSw; (try dsimp only at hSw); go_simp; try with_reducible rfl)
      change wpAnyH _ _ _ _ _ _ _ (Act.put _ (some 20) _) _; simp only [Act.put, List.setIfInBounds_toArray, List.set_cons_zero, List.set_cons_succ]
      refine wpAnyH_take (i := 1) (v := ?v1g5_) rfl (by kernel_rfl) (by kernel_rfl) (by kernel_rfl) (fun _ _ _ h => h) (Or.inl ⟨by rfl, ?y1g5_⟩) (by assumption) ?r1g5_
      case y1g5_ => (intro w hSw; (try dsimp only at hSw); go_simp; try with_reducible rfl)
      change wpAnyH _ _ _ _ _ _ _ (Act.put _ (some 21) _) _; simp only [Act.put, List.setIfInBounds_toArray, List.set_cons_zero, List.set_cons_succ]
      refine wpAnyH_take (i := 2) (v := ?v2g5_) rfl (by kernel_rfl) (by kernel_rfl) (by kernel_rfl) (fun _ _ _ h => h) (Or.inl ⟨by rfl, ?y2g5_⟩) (by assumption) ?r2g5_
      case y2g5_ => (intro w hSw; (try dsimp only at hSw); go_simp; try with_reducible rfl)
      change wpAnyH _ _ _ _ _ _ _ (Act.put _ (some 22) _) _; simp only [Act.put, List.setIfInBounds_toArray, List.set_cons_zero, List.set_cons_succ]
      refine wpAnyH_take (i := 3) (v := ?v3g5_) rfl (by kernel_rfl) (by kernel_rfl) (by kernel_rfl) (fun _ _ _ h => h) (Or.inl ⟨by rfl, ?y3g5_⟩) (by assumption) ?r3g5_
      case y3g5_ => (intro w hSw; (try dsimp only at hSw); go_simp; try with_reducible rfl)
      change wpAnyH _ _ _ _ _ _ _ (Act.put _ (some 23) _) _; simp only [Act.put, List.setIfInBounds_toArray, List.set_cons_zero, List.set_cons_succ]
      refine wpAnyH_take (i := 4) (v := ?v4g5_) rfl (by kernel_rfl) (by kernel_rfl) (by kernel_rfl) (fun _ _ _ h => h) (Or.inl ⟨by rfl, ?y4g5_⟩) (by assumption) ?r4g5_
      case y4g5_ => (intro w hSw; (try dsimp only at hSw); go_simp; try with_reducible rfl)
      change wpAnyH _ _ _ _ _ _ _ (Act.put _ (some 24) _) _; simp only [Act.put, List.setIfInBounds_toArray, List.set_cons_zero, List.set_cons_succ]
      refine wpAnyH_take (i := 5) (v := ?v5g5_) rfl (by kernel_rfl) (by kernel_rfl) (by kernel_rfl) (fun _ _ _ h => h) (Or.inl ⟨by rfl, ?y5g5_⟩) (by assumption) ?r5g5_
      case y5g5_ => (intro w hSw; (try dsimp only at hSw); go_simp; try with_reducible rfl)
      change wpAnyH _ _ _ _ _ _ _ (Act.put _ (some 25) _) _; simp only [Act.put, List.setIfInBounds_toArray, List.set_cons_zero, List.set_cons_succ]
      refine wpAnyH_take (i := 6) (v := ?v6g5_) rfl (by kernel_rfl) (by kernel_rfl) (by kernel_rfl) (fun _ _ _ h => h) (Or.inl ⟨by rfl, ?y6g5_⟩) (by assumption) ?r6g5_
      case y6g5_ => (intro w hSw; (try dsimp only at hSw); go_simp; try with_reducible rfl)
      change wpAnyH _ _ _ _ _ _ _ (Act.put _ (some 26) _) _; simp only [Act.put, List.setIfInBounds_toArray, List.set_cons_zero, List.set_cons_succ]
      refine wpAnyH_take (i := 7) (v := ?v7g5_) rfl (by kernel_rfl) (by kernel_rfl) (by kernel_rfl) (fun _ _ _ h => h) (Or.inl ⟨by rfl, ?y7g5_⟩) (by assumption) ?r7g5_
      case y7g5_ => (intro w hSw; (try dsimp only at hSw); go_simp; try with_reducible rfl)
      change wpAnyH _ _ _ _ _ _ _ (Act.put _ (some 27) _) _; simp only [Act.put, List.setIfInBounds_toArray, List.set_cons_zero, List.set_cons_succ]
      refine wpAnyH_take (i := 8) (v := ?v8g5_) rfl (by kernel_rfl) (by kernel_rfl) (by kernel_rfl) (fun _ _ _ h => h) (Or.inl ⟨by rfl, ?y8g5_⟩) (by assumption) ?r8g5_
      case y8g5_ => (intro w hSw; (try dsimp only at hSw); go_simp; try with_reducible rfl)
      change wpAnyH _ _ _ _ _ _ _ (Act.put _ (some 28) _) _; simp only [Act.put, List.setIfInBounds_toArray, List.set_cons_zero, List.set_cons_succ]
      refine wpAnyH_take (i := 9) (v := ?v9g5_) rfl (by kernel_rfl) (by kernel_rfl) (by kernel_rfl) (fun _ _ _ h => h) (Or.inl ⟨by rfl, ?y9g5_⟩) (by assumption) ?r9g5_
      case y9g5_ => (intro w hSw; (try dsimp only at hSw); go_simp; try with_reducible rfl)
      change wpAnyH _ _ _ _ _ _ _ (Act.put _ (some 29) _) _; simp only [Act.put, List.setIfInBounds_toArray, List.set_cons_zero, List.set_cons_succ]
      refine wpAnyH_take (i := 10) (v := ?v10g5_) rfl (by kernel_rfl) (by kernel_rfl) (by kernel_rfl) (fun _ _ _ h => h) (Or.inl ⟨by rfl, ?y10g5_⟩) (by assumption) ?r10g5_
      case y10g5_ => (intro w hSw; (try dsimp only at hSw); go_simp; try with_reducible rfl)
      change wpAnyH _ _ _ _ _ _ _ (Act.put _ (some 30) _) _; simp only [Act.put, List.setIfInBounds_toArray, List.set_cons_zero, List.set_cons_succ]
      refine wpAnyH_take (i := 11) (v := ?v11g5_) rfl (by kernel_rfl) (by kernel_rfl) (by kernel_rfl) (fun _ _ _ h => h) (Or.inl ⟨by rfl, ?y11g5_⟩) (by assumption) ?r11g5_
      case y11g5_ => (intro w hSw; (try dsimp only at hSw); go_simp; try with_reducible rfl)
      change wpAnyH _ _ _ _ _ _ _ (Act.put _ (some 31) _) _; simp only [Act.put, List.setIfInBounds_toArray, List.set_cons_zero, List.set_cons_succ]
      refine wpAnyH_ready (rs := [12]) (by kernel_rfl) (by simp) ?_
      refine AllReadyH.cons rfl (fun K hK => ?_) AllReadyH.nil
      go_simp
      refine (HA2.out _).mono ?_
      rintro r2 w2 ⟨rfl, hb2⟩
      have HB2 := Lib.hid (undrew hb2)
      clear hb2
      dsimp only
      refine hK.out _ _ ?_ (fun hHeld => ?_)
      · exact HSS.out _ HB2.out
      clear hK K
      try simp only [Act.put, List.setIfInBounds_toArray, List.set_cons_zero, List.set_cons_succ]
      refine wpAnyH_take (i := 13) (v := ?v13g5_) rfl (by kernel_rfl) (by kernel_rfl) (by kernel_rfl) (fun _ _ _ h => h) (Or.inl ⟨by rfl, ?y13g5_⟩) (by assumption) ?r13g5_
      case y13g5_ => (intro w hSw; (try dsimp only at hSw); go_simp; try with_reducible rfl)
      change wpAnyH _ _ _ _ _ _ _ (Act.put _ (some 33) _) _; simp only [Act.put, List.setIfInBounds_toArray, List.set_cons_zero, List.set_cons_succ]
      refine wpAnyH_done (by kernel_rfl) ?_ _
      refine NoPanic.normal ?_
      go_wp2_with fail
      refine wp_region_noPanic ?_
      refine wp_region_held_drew (S := (fun w' => w'.cell? ⟨w.heap.size, 0, none⟩ = some (.int .i64 n) ∧ w'.cell? ⟨w.heap.size, 1, none⟩ = some (.slice (some ⟨b, oo, none⟩) l.length c) ∧ w'.cell? ⟨w.heap.size + 1, 0, none⟩ = some (.int .i64 e.1) ∧ w'.cell? ⟨w.heap.size + 1, 1, none⟩ = some (.int .i64 e.2.1) ∧ w'.cell? ⟨w.heap.size + 1, 2, none⟩ = some (.int .i64 e.2.2) ∧ w'.cell? ⟨b, oo + i * 3, none⟩ = some (.int .i64 x.1) ∧ w'.cell? ⟨b, oo + i * 3 + 1, none⟩ = some (.int .i64 x.2.1) ∧ w'.cell? ⟨b, oo + i * 3 + 2, none⟩ = some (.int .i64 x.2.2))) (by kernel_rfl) ?_ (fun hHeld => ?_)
      · exact HSS.out _ (below_drewN HB2.out 1)
      refine wpAnyH_take (i := 0) (v := ?v0g6_) rfl (by kernel_rfl) (by kernel_rfl) (by kernel_rfl) (fun _ _ _ h => h) (Or.inl ⟨by rfl, ?y0g6_⟩) (by assumption) ?r0g6_
      case y0g6_ => (intro w hSw; (try dsimp only at hSw); go_simp; try with_reducible rfl)
      change wpAnyH _ _ _ _ _ _ _ (Act.put _ (some 36) _) _; simp only [Act.put, List.setIfInBounds_toArray, List.set_cons_zero, List.set_cons_succ]
      refine wpAnyH_take (i := 1) (v := ?v1g6_) rfl (by kernel_rfl) (by kernel_rfl) (by kernel_rfl) (fun _ _ _ h => h) (Or.inl ⟨by rfl, ?y1g6_⟩) (by assumption) ?r1g6_
      case y1g6_ => (intro w hSw; (try dsimp only at hSw); go_simp; try with_reducible rfl)
      change wpAnyH _ _ _ _ _ _ _ (Act.put _ (some 37) _) _; simp only [Act.put, List.setIfInBounds_toArray, List.set_cons_zero, List.set_cons_succ]
      refine wpAnyH_take (i := 2) (v := ?v2g6_) rfl (by kernel_rfl) (by kernel_rfl) (by kernel_rfl) (fun _ _ _ h => h) (Or.inl ⟨by rfl, ?y2g6_⟩) (by assumption) ?r2g6_
      case y2g6_ => (intro w hSw; (try dsimp only at hSw); go_simp; try with_reducible rfl)
      change wpAnyH _ _ _ _ _ _ _ (Act.put _ (some 38) _) _; simp only [Act.put, List.setIfInBounds_toArray, List.set_cons_zero, List.set_cons_succ]
      refine wpAnyH_take (i := 3) (v := ?v3g6_) rfl (by kernel_rfl) (by kernel_rfl) (by kernel_rfl) (fun _ _ _ h => h) (Or.inl ⟨by rfl, ?y3g6_⟩) (by assumption) ?r3g6_
      case y3g6_ => (intro w hSw; (try dsimp only at hSw); go_simp; try with_reducible rfl)
      change wpAnyH _ _ _ _ _ _ _ (Act.put _ (some 39) _) _; simp only [Act.put, List.setIfInBounds_toArray, List.set_cons_zero, List.set_cons_succ]
      refine wpAnyH_take (i := 4) (v := ?v4g6_) rfl (by kernel_rfl) (by kernel_rfl) (by kernel_rfl) (fun _ _ _ h => h) (Or.inl ⟨by rfl, ?y4g6_⟩) (by assumption) ?r4g6_
      case y4g6_ => (intro w hSw; (try dsimp only at hSw); go_simp; try with_reducible rfl)
      change wpAnyH _ _ _ _ _ _ _ (Act.put _ (some 40) _) _; simp only [Act.put, List.setIfInBounds_toArray, List.set_cons_zero, List.set_cons_succ]
      refine wpAnyH_take (i := 5) (v := ?v5g6_) rfl (by kernel_rfl) (by kernel_rfl) (by kernel_rfl) (fun _ _ _ h => h) (Or.inl ⟨by rfl, ?y5g6_⟩) (by assumption) ?r5g6_
      case y5g6_ => (intro w hSw; (try dsimp only at hSw); go_simp; try with_reducible rfl)
      change wpAnyH _ _ _ _ _ _ _ (Act.put _ (some 41) _) _; simp only [Act.put, List.setIfInBounds_toArray, List.set_cons_zero, List.set_cons_succ]
      refine wpAnyH_take (i := 6) (v := ?v6g6_) rfl (by kernel_rfl) (by kernel_rfl) (by kernel_rfl) (fun _ _ _ h => h) (Or.inl ⟨by rfl, ?y6g6_⟩) (by assumption) ?r6g6_
      case y6g6_ => (intro w hSw; (try dsimp only at hSw); go_simp; try with_reducible rfl)
      change wpAnyH _ _ _ _ _ _ _ (Act.put _ (some 42) _) _; simp only [Act.put, List.setIfInBounds_toArray, List.set_cons_zero, List.set_cons_succ]
      refine wpAnyH_take (i := 7) (v := ?v7g6_) rfl (by kernel_rfl) (by kernel_rfl) (by kernel_rfl) (fun _ _ _ h => h) (Or.inl ⟨by rfl, ?y7g6_⟩) (by assumption) ?r7g6_
      case y7g6_ => (intro w hSw; (try dsimp only at hSw); go_simp; try with_reducible rfl)
      change wpAnyH _ _ _ _ _ _ _ (Act.put _ (some 43) _) _; simp only [Act.put, List.setIfInBounds_toArray, List.set_cons_zero, List.set_cons_succ]
      refine wpAnyH_take (i := 8) (v := ?v8g6_) rfl (by kernel_rfl) (by kernel_rfl) (by kernel_rfl) (fun _ _ _ h => h) (Or.inl ⟨by rfl, ?y8g6_⟩) (by assumption) ?r8g6_
      case y8g6_ => (intro w hSw; (try dsimp only at hSw); go_simp; try with_reducible rfl)
      change wpAnyH _ _ _ _ _ _ _ (Act.put _ (some 44) _) _; simp only [Act.put, List.setIfInBounds_toArray, List.set_cons_zero, List.set_cons_succ]
      refine wpAnyH_take (i := 9) (v := ?v9g6_) rfl (by kernel_rfl) (by kernel_rfl) (by kernel_rfl) (fun _ _ _ h => h) (Or.inl ⟨by rfl, ?y9g6_⟩) (by assumption) ?r9g6_
      case y9g6_ => (intro w hSw; (try dsimp only at hSw); go_simp; try with_reducible rfl)
      change wpAnyH _ _ _ _ _ _ _ (Act.put _ (some 45) _) _; simp only [Act.put, List.setIfInBounds_toArray, List.set_cons_zero, List.set_cons_succ]
      refine wpAnyH_take (i := 10) (v := ?v10g6_) rfl (by kernel_rfl) (by kernel_rfl) (by kernel_rfl) (fun _ _ _ h => h) (Or.inl ⟨by rfl, ?y10g6_⟩) (by assumption) ?r10g6_
      case y10g6_ => (intro w hSw; (try dsimp only at hSw); go_simp; try with_reducible rfl)
      change wpAnyH _ _ _ _ _ _ _ (Act.put _ (some 46) _) _; simp only [Act.put, List.setIfInBounds_toArray, List.set_cons_zero, List.set_cons_succ]
      refine wpAnyH_take (i := 11) (v := ?v11g6_) rfl (by kernel_rfl) (by kernel_rfl) (by kernel_rfl) (fun _ _ _ h => h) (Or.inl ⟨by rfl, ?y11g6_⟩) (by assumption) ?r11g6_
      case y11g6_ => (intro w hSw; (try dsimp only at hSw); go_simp; try with_reducible rfl)
      change wpAnyH _ _ _ _ _ _ _ (Act.put _ (some 47) _) _; simp only [Act.put, List.setIfInBounds_toArray, List.set_cons_zero, List.set_cons_succ]
      refine wpAnyH_ready (rs := [12]) (by kernel_rfl) (by simp) ?_
      refine AllReadyH.cons rfl (fun K hK => ?_) AllReadyH.nil
      go_simp
      refine (HA3.out _).mono ?_
      rintro r2 w3 ⟨rfl, hb3⟩
      have HB3 := Lib.hid (HB2.out.trans ((undrew hb3).mono HB2.out.size))
      clear hb3
      dsimp only
      refine hK.out _ _ ?_ (fun hHeld => ?_)
      · exact HSS.out _ HB3.out
      clear hK K
      try simp only [Act.put, List.setIfInBounds_toArray, List.set_cons_zero, List.set_cons_succ]
      refine wpAnyH_take (i := 13) (v := ?v13g6_) rfl (by kernel_rfl) (by kernel_rfl) (by kernel_rfl) (fun _ _ _ h => h) (Or.inl ⟨by rfl, ?y13g6_⟩) (by assumption) ?r13g6_
      case y13g6_ => (intro w hSw; (try dsimp only at hSw); go_simp; try with_reducible rfl)
      change wpAnyH _ _ _ _ _ _ _ (Act.put _ (some 49) _) _; simp only [Act.put, List.setIfInBounds_toArray, List.set_cons_zero, List.set_cons_succ]
      refine wpAnyH_take (i := 14) (v := ?v14g6_) rfl (by kernel_rfl) (by kernel_rfl) (by kernel_rfl) (fun _ _ _ h => h) (Or.inl ⟨by rfl, ?y14g6_⟩) (by assumption) ?r14g6_
      case y14g6_ => (intro w hSw; (try dsimp only at hSw); go_simp; try with_reducible rfl)
      change wpAnyH _ _ _ _ _ _ _ (Act.put _ (some 50) _) _; simp only [Act.put, List.setIfInBounds_toArray, List.set_cons_zero, List.set_cons_succ]
      refine wpAnyH_done (by kernel_rfl) ?_ _
      refine NoPanic.normal ?_
      have hs3 := HST.out.step (HB3.out.mono hz)
      have b0 := hs3.box.cell 0; have b1 := hs3.box.cell 1; have e0 := hs3.ebox.cell 0; have e1 := hs3.ebox.cell 1; have e2 := hs3.ebox.cell 2; have r0 := hs3.rbox.cell 0; have r1 := hs3.rbox.cell 1; have f0 := hs3.rbox.frozen 0; have f1 := hs3.rbox.frozen 1
      simp only [List.getElem?_toArray, List.getElem?_cons_zero, List.getElem?_cons_succ] at b0 b1 e0 e1 e2 r0 r1
      have hz3 := hs3.size
      have HS3 := Lib.hid hs3
      clear hs3
      have hnl : i ≤ l.length := by omega
      obtain ⟨i0, hi0, hz0, hz1, hz2, -⟩ := parts infoE
      have hown : Hid (w3.ownsRow (w.heap.size + 3) 35 3 (.slice none 0 0) 0 []) := Lib.hid (World.ownsRow_nil _ _ _ _)
      have hS1l : (l.take i).length = i := by rw [List.length_take]; omega
      have hrt := (HR.out.below HS3.out.below).take edgC_len i
      unfold Rs at hrt
      rw [hS1l] at hrt
      have HRT := Lib.hid hrt; have HI0 := Lib.hid hi0; have HZ0 := Lib.hid hz0
      have hicc : i ≤ c := Nat.le_trans hnl HCX.out
      clear hrt hi0 hz0 hS1l
      go_upto_region 10 with (first | (refine wpList_upto (o := ⟨some 56, _, _, _, _, _⟩) rfl 23 35 (.tmp 54) (.tmp 55) rfl i0 Tryd.underlying23 HI0.out (some ⟨b, oo, none⟩) l.length c i rfl rfl hicc ?_) | (at_builtin; refine wpList_cat _ rfl (.tmp 52) (.tmp 56) 23 rfl (w.heap.size + 3) 35 i0 (.agg #[.int .i64 0, .int .i64 0, .int .i64 0]) 3 24 Tryd.underlying23 HI0.out HZ0.out hz1 hz2 rfl (by decide) (by decide) _ 0 _ rfl hown _ i _ (rcs edgC (l.take i)) rfl HRT (edgC_one _) (by omega) (by omega) ?_; intro v1 w4 h2 h3 h4; have HO1 := Lib.hid h2.out; have HB4 := Lib.hid h4.out; clear h2 h3 h4))
      have hs4 := HS3.out.step HB4.out
      have b0' := hs4.box.cell 0; have b1' := hs4.box.cell 1; have e0' := hs4.ebox.cell 0; have e1' := hs4.ebox.cell 1; have e2' := hs4.ebox.cell 2
      simp only [List.getElem?_toArray, List.getElem?_cons_zero, List.getElem?_cons_succ] at b0' b1' e0' e1' e2'
      have hz4 := hs4.size
      have z40 : w.heap.size < w4.heap.size := by omega
      have z41 : w.heap.size + 1 < w4.heap.size := by omega
      have hown4 : w4.ownsRow (w.heap.size + 3) 35 3 v1 i (rcs edgC (l.take i)) := by have h1 := HO1.out; rw [Nat.zero_add, List.nil_append] at h1; exact h1
      have HS4 := Lib.hid hs4; have HO4 := Lib.hid hown4
      clear hs4 hown4 b0 b1 e0 e1 e2 r0 r1 f0 f1 HB4 HO1
      go_upto_region 11 with (at_builtin; refine wpList_app _ w4 rfl (.tmp 58) (.tmp 60) 23 rfl (w.heap.size + 3) 35 i0 (.agg #[.int .i64 0, .int .i64 0, .int .i64 0]) 3 24 Tryd.underlying23 HI0.out HZ0.out hz1 hz2 rfl (by decide) (by decide) _ i _ rfl HO4 [.int .i64 e.1, .int .i64 e.2.1, .int .i64 e.2.2] rfl rfl rfl _ rfl rfl (by omega) hz4 ?_; intro v2 w5 h2 h3 h4; have HO5 := Lib.hid h2.out; have HB5 := Lib.hid h4.out; clear h2 h3 h4)
      have hs5 := HS4.out.step HB5.out
      have c0 := hs5.box.cell 0; have c1 := hs5.box.cell 1
      simp only [List.getElem?_toArray, List.getElem?_cons_zero, List.getElem?_cons_succ] at c0 c1
      have hz5 := hs5.size
      have z50 : w.heap.size < w5.heap.size := by omega
      have hcu := Rs.cut (c := c) (i := i) edgC_len (HR.out.below hs5.below) HCX.out
      unfold Rs at hcu
      rw [List.length_drop] at hcu
      have HCU := Lib.hid hcu; have HS5 := Lib.hid hs5
      clear hs5 hcu b0' b1' e0' e1' e2' z40 z41 HS4 HO4 HB5
      have hlen : m.length = i + 1 + (l.length - i) := by rw [← HM.out, List.length_append, List.length_append, List.length_take, List.length_drop, List.length_singleton]; omega
      have hlist : rcs edgC (l.take i) ++ [.int .i64 e.1, .int .i64 e.2.1, .int .i64 e.2.2] ++ rcs edgC (l.drop i) = rcs edgC m := by rw [← HM.out, rcs_append, rcs_append, rcs_one]; rfl
      have HLEN := Lib.hid hlen; have HLIST := Lib.hid hlist
      clear hlen hlist
      go_wp2_with (first | (refine wpList_from (o := ⟨some 66, _, _, _, _, _⟩) rfl 23 35 (.tmp 64) (.tmp 65) rfl i0 Tryd.underlying23 HI0.out (some ⟨b, oo, none⟩) l.length c i 3 hz1 rfl rfl hnl ?_) | (at_builtin; refine wpList_cat _ rfl (.tmp 62) (.tmp 66) 23 rfl (w.heap.size + 3) 35 i0 (.agg #[.int .i64 0, .int .i64 0, .int .i64 0]) 3 24 Tryd.underlying23 HI0.out HZ0.out hz1 hz2 rfl (by decide) (by decide) _ (i + 1) _ rfl HO5 _ (l.length - i) _ (rcs edgC (l.drop i)) rfl HCU (edgC_one _) (by omega) hz5 ?_; intro v3 w6 h2 h3 h4; have hown6 : w6.ownsRow (w.heap.size + 3) 35 3 v3 m.length (rcs edgC m) := (by rw [HLEN.out, ← HLIST.out]; exact h2.out); obtain ⟨A6, c6, rfl, hc6⟩ := own_parts hown6; have HO6 := Lib.hid hown6; have HC6 := Lib.hid hc6; have hs6 := HS5.out.step h4.out; have b0' := hs6.box.cell 0; have b1' := hs6.box.cell 1; have r0 := hs6.rbox.cell 0; have r1 := hs6.rbox.cell 1; have f0 := hs6.rbox.frozen 0; have f1 := hs6.rbox.frozen 1; have g1 := hs6.box.frozen 1; simp only [List.getElem?_toArray, List.getElem?_cons_zero, List.getElem?_cons_succ] at b0' b1' r0 r1; have hz6 := hs6.size; have z60 : w.heap.size < w6.heap.size := (by omega); have z62 : w.heap.size + 2 < w6.heap.size := (by omega); have HS6 := Lib.hid hs6; clear h2 h3 h4 hs6 c0 c1 hown6 hc6))
      have hne : ∀ (g : Nat) cs, w6.heap[g]? = some (.cells cs 25 (0, 0)) → ∀ (b' : Nat) xs' fz, w6.heap[b']? = some (.cells xs' 35 fz) → b' ≠ g := fun g cs hg b' xs' fz hb' e' => by subst e'; rw [hg] at hb'; injection hb' with hb'; injection hb' with _ ht; exact absurd ht (by decide)
      have d0 := ((HS6.out.rbox.far (p := ⟨w.heap.size, 1, none⟩) (by show w.heap.size + 2 ≠ w.heap.size; omega) (.slice A6 m.length c6)).set_ 0 (.int .i64 n)).set_ 1 (.slice A6 m.length c6)
      have d1 := d0.cell 0; have d2 := d0.cell 1
      simp only [List.getElem?_toArray, List.setIfInBounds_toArray, List.set_cons_zero, List.set_cons_succ, List.getElem?_cons_zero, List.getElem?_cons_succ] at d1 d2
      have hbel := ((HS6.out.below.setCell (p := ⟨w.heap.size, 1, none⟩) (Nat.le_refl _) (.slice A6 m.length c6)).setCell (p := ⟨w.heap.size + 2, 0, none⟩) (by show _ ≤ w.heap.size + 2; omega) (.int .i64 n)).setCell (p := ⟨w.heap.size + 2, 1, none⟩) (by show _ ≤ w.heap.size + 2; omega) (.slice A6 m.length c6)
      have hk6 : ∀ (g : Nat) cs fz, w6.heap[g]? = some (.cells cs 35 fz) → (((w6.setCell ⟨w.heap.size, 1, none⟩ (.slice A6 m.length c6)).setCell ⟨w.heap.size + 2, 0, none⟩ (.int .i64 n)).setCell ⟨w.heap.size + 2, 1, none⟩ (.slice A6 m.length c6)).heap[g]? = w6.heap[g]? := fun g cs fz hg => by
        have n1 := hne _ _ HS6.out.box g cs fz hg
        have n2 := hne _ _ HS6.out.rbox g cs fz hg
        rw [Below.heap_setCell _ _ _ _ n2, Below.heap_setCell _ _ _ _ n2, Below.heap_setCell _ _ _ _ n1]
      have hown7 := own_mono (own_keep HO6.out hk6) (show w.heap.size ≤ w.heap.size + 3 by omega)
      have HD := Lib.hid (And.intro d1 d2); have HBEL := Lib.hid hbel; have HO7 := Lib.hid hown7
      clear d0 d1 d2 hbel hk6 hne hown7
      go_wp2
      obtain ⟨d1, d2⟩ := HD.out
      exact bodyPost_ret (v := .tuple #[.agg #[.int .i64 n, .slice A6 m.length c6], .bool true]) (by simp [results, Tryd.results64, go_sem, d1, d2]) rfl ⟨HBEL.out, A6, c6, rfl, HC6.out, HO7.out⟩
set_option maxRecDepth 100000 in
set_option maxHeartbeats 8000000 in
theorem refAdd_end (w : World) (n : Int) (A : Option Addr) (c : Nat) (l : List Edg) (e : Edg) (h : Rs edgC 3 w A l) (hc : l.length ≤ c) (hf : fitsE e n = true) (h8 : l.length < 8192) (k : Nat) (hk : atE l e = k) (hlt : k = l.length) :
    Calls Tryd.prog 64 #[.agg #[.int .i64 n, .slice A l.length c], .agg #[.int .i64 e.1, .int .i64 e.2.1, .int .i64 e.2.2]] w (AddPost w n A c l (addR n l e)) := by
  rw [addR_end hf h8 (by rw [hk]; exact hlt), hk]
  obtain ⟨m, hm⟩ : ∃ m, l.take k ++ [e] ++ l.drop k = m := ⟨_, rfl⟩
  rw [hm]
  have HM := Lib.hid hm
  clear hm
  have HK := Lib.hid hk; have HLT := Lib.hid hlt; have hkl : k ≤ l.length := by omega
  have hdk : decide (k < l.length) = false := by rw [decide_eq_false_iff_not]; omega
  clear hk hlt
  have h8I : (l.length : Int) < 8192 := by omega
  have HAC := Lib.hid fun (x : Edg) W => ahead_any x e W
  have HCX := Lib.hid hc
  have hfc := fun W => refFits_any e n W
  rw [hf] at hfc
  have h0 := AddG.start h n c e
  have H0 := Lib.hid h0; have HF := Lib.hid hfc; have HR := Lib.hid h
  clear h0 hfc h hf
  clear hc
  go_enter Tryd.func64, Tryd.ntmps64
  go_wp2_with fail
  refine (HF.out _).mono ?_
  rintro r w1 ⟨rfl, hb1⟩
  have hs1 := H0.out.step (hb1.mono H0.out.size)
  have b0 := hs1.box.cell 0; have b1 := hs1.box.cell 1; have r0 := hs1.rbox.cell 0; have r1 := hs1.rbox.cell 1; have f0 := hs1.rbox.frozen 0; have f1 := hs1.rbox.frozen 1
  simp only [List.getElem?_toArray, List.getElem?_cons_zero, List.getElem?_cons_succ] at b0 b1 r0 r1
  have hsz := hs1.size
  have z0 : w.heap.size < w1.heap.size := by omega
  have z2 : w.heap.size + 2 < w1.heap.size := by omega
  have HS1 := Lib.hid hs1
  clear hs1 hb1 H0
  go_wp2
  go_loopg [6] k (fun gf vi wr => ∃ i : Nat, vi = .int .i64 i ∧ i + gf = k ∧ AddG w wr n A c l e)
  case atStart => exact ⟨0, rfl, by omega, HS1.out⟩
  case round =>
    clear HS1 b0 b1 r0 r1 f0 f1 z0 z2 hsz HF
    obtain ⟨i, rfl, hi, hs⟩ := hrel
    have hz := hs.size
    have z0 : w.heap.size < wr.heap.size := by omega
    have z1 : w.heap.size + 1 < wr.heap.size := by omega
    have z2 : w.heap.size + 2 < wr.heap.size := by omega
    cases gk with
    | succ gf =>
      have hik : i < k := by omega
      have hiI : (i : Int) < (l.length : Int) := by omega
      have hdn : decide (i < l.length) = true := by rw [decide_eq_true_eq]; omega
      obtain ⟨b, oo, x, rfl, hb, hx, x1, x2, x3⟩ := edg_at (HR.out.below hs.below) (i := i) (by omega)
      have hah := atE_lt (by rw [HK.out]; exact hik) hx
      have hac := fun W => HAC.out x W
      rw [hah] at hac
      have hss : ∀ w', Below wr.heap.size wr w' → w'.cell? ⟨w.heap.size, 0, none⟩ = some (.int .i64 n) ∧ w'.cell? ⟨w.heap.size, 1, none⟩ = some (.slice (some ⟨b, oo, none⟩) l.length c) ∧ w'.cell? ⟨w.heap.size + 1, 0, none⟩ = some (.int .i64 e.1) ∧ w'.cell? ⟨w.heap.size + 1, 1, none⟩ = some (.int .i64 e.2.1) ∧ w'.cell? ⟨w.heap.size + 1, 2, none⟩ = some (.int .i64 e.2.2) ∧ w'.cell? ⟨b, oo + i * 3, none⟩ = some (.int .i64 x.1) ∧ w'.cell? ⟨b, oo + i * 3 + 1, none⟩ = some (.int .i64 x.2.1) ∧ w'.cell? ⟨b, oo + i * 3 + 2, none⟩ = some (.int .i64 x.2.2) := fun w' hb' => by
        have g := hs.step (hb'.mono hz)
        have up : ∀ o v, wr.cell? ⟨b, o, none⟩ = some v → w'.cell? ⟨b, o, none⟩ = some v := fun o v hv => (hb'.cell (p := ⟨b, o, none⟩) hb).trans hv
        exact ⟨g.box.cell 0, g.box.cell 1, g.ebox.cell 0, g.ebox.cell 1, g.ebox.cell 2, up _ _ x1, up _ _ x2, up _ _ x3⟩
      have HSS := Lib.hid hss; have HA2 := Lib.hid hac; have HST := Lib.hid hs
      clear hss hac hah hx hs x1 x2 x3
      go_wp2_with fail
      refine wp_region_noPanic ?_
      refine wp_region_held_drew (S := (fun w' => w'.cell? ⟨w.heap.size, 0, none⟩ = some (.int .i64 n) ∧ w'.cell? ⟨w.heap.size, 1, none⟩ = some (.slice (some ⟨b, oo, none⟩) l.length c) ∧ w'.cell? ⟨w.heap.size + 1, 0, none⟩ = some (.int .i64 e.1) ∧ w'.cell? ⟨w.heap.size + 1, 1, none⟩ = some (.int .i64 e.2.1) ∧ w'.cell? ⟨w.heap.size + 1, 2, none⟩ = some (.int .i64 e.2.2) ∧ w'.cell? ⟨b, oo + i * 3, none⟩ = some (.int .i64 x.1) ∧ w'.cell? ⟨b, oo + i * 3 + 1, none⟩ = some (.int .i64 x.2.1) ∧ w'.cell? ⟨b, oo + i * 3 + 2, none⟩ = some (.int .i64 x.2.2))) (by kernel_rfl) ?_ (fun hHeld => ?_)
      · exact HSS.out _ (below_drewN (Below.refl _ _) 1)
      refine wpAnyH_take (i := 0) (v := ?v0g7_) rfl (by kernel_rfl) (by kernel_rfl) (by kernel_rfl) (fun _ _ _ h => h) (Or.inl ⟨by rfl, ?y0g7_⟩) (by assumption) ?r0g7_
      case y0g7_ => (intro w hSw; (try dsimp only at hSw); go_simp; try with_reducible rfl)
      change wpAnyH _ _ _ _ _ _ _ (Act.put _ (some 20) _) _; simp only [Act.put, List.setIfInBounds_toArray, List.set_cons_zero, List.set_cons_succ]
      refine wpAnyH_take (i := 1) (v := ?v1g7_) rfl (by kernel_rfl) (by kernel_rfl) (by kernel_rfl) (fun _ _ _ h => h) (Or.inl ⟨by rfl, ?y1g7_⟩) (by assumption) ?r1g7_
      case y1g7_ => (intro w hSw; (try dsimp only at hSw); go_simp; try with_reducible rfl)
      change wpAnyH _ _ _ _ _ _ _ (Act.put _ (some 21) _) _; simp only [Act.put, List.setIfInBounds_toArray, List.set_cons_zero, List.set_cons_succ]
      refine wpAnyH_take (i := 2) (v := ?v2g7_) rfl (by kernel_rfl) (by kernel_rfl) (by kernel_rfl) (fun _ _ _ h => h) (Or.inl ⟨by rfl, ?y2g7_⟩) (by assumption) ?r2g7_
      case y2g7_ => (intro w hSw; (try dsimp only at hSw); go_simp; try with_reducible rfl)
      change wpAnyH _ _ _ _ _ _ _ (Act.put _ (some 22) _) _; simp only [Act.put, List.setIfInBounds_toArray, List.set_cons_zero, List.set_cons_succ]
      refine wpAnyH_take (i := 3) (v := ?v3g7_) rfl (by kernel_rfl) (by kernel_rfl) (by kernel_rfl) (fun _ _ _ h => h) (Or.inl ⟨by rfl, ?y3g7_⟩) (by assumption) ?r3g7_
      case y3g7_ => (intro w hSw; (try dsimp only at hSw); go_simp; try with_reducible rfl)
      change wpAnyH _ _ _ _ _ _ _ (Act.put _ (some 23) _) _; simp only [Act.put, List.setIfInBounds_toArray, List.set_cons_zero, List.set_cons_succ]
      refine wpAnyH_take (i := 4) (v := ?v4g7_) rfl (by kernel_rfl) (by kernel_rfl) (by kernel_rfl) (fun _ _ _ h => h) (Or.inl ⟨by rfl, ?y4g7_⟩) (by assumption) ?r4g7_
      case y4g7_ => (intro w hSw; (try dsimp only at hSw); go_simp; try with_reducible rfl)
      change wpAnyH _ _ _ _ _ _ _ (Act.put _ (some 24) _) _; simp only [Act.put, List.setIfInBounds_toArray, List.set_cons_zero, List.set_cons_succ]
      refine wpAnyH_take (i := 5) (v := ?v5g7_) rfl (by kernel_rfl) (by kernel_rfl) (by kernel_rfl) (fun _ _ _ h => h) (Or.inl ⟨by rfl, ?y5g7_⟩) (by assumption) ?r5g7_
      case y5g7_ => (intro w hSw; (try dsimp only at hSw); go_simp; try with_reducible rfl)
      change wpAnyH _ _ _ _ _ _ _ (Act.put _ (some 25) _) _; simp only [Act.put, List.setIfInBounds_toArray, List.set_cons_zero, List.set_cons_succ]
      refine wpAnyH_take (i := 6) (v := ?v6g7_) rfl (by kernel_rfl) (by kernel_rfl) (by kernel_rfl) (fun _ _ _ h => h) (Or.inl ⟨by rfl, ?y6g7_⟩) (by assumption) ?r6g7_
      case y6g7_ => (intro w hSw; (try dsimp only at hSw); go_simp; try with_reducible rfl)
      change wpAnyH _ _ _ _ _ _ _ (Act.put _ (some 26) _) _; simp only [Act.put, List.setIfInBounds_toArray, List.set_cons_zero, List.set_cons_succ]
      refine wpAnyH_take (i := 7) (v := ?v7g7_) rfl (by kernel_rfl) (by kernel_rfl) (by kernel_rfl) (fun _ _ _ h => h) (Or.inl ⟨by rfl, ?y7g7_⟩) (by assumption) ?r7g7_
      case y7g7_ => (intro w hSw; (try dsimp only at hSw); go_simp; try with_reducible rfl)
      change wpAnyH _ _ _ _ _ _ _ (Act.put _ (some 27) _) _; simp only [Act.put, List.setIfInBounds_toArray, List.set_cons_zero, List.set_cons_succ]
      refine wpAnyH_take (i := 8) (v := ?v8g7_) rfl (by kernel_rfl) (by kernel_rfl) (by kernel_rfl) (fun _ _ _ h => h) (Or.inl ⟨by rfl, ?y8g7_⟩) (by assumption) ?r8g7_
      case y8g7_ => (intro w hSw; (try dsimp only at hSw); go_simp; try with_reducible rfl)
      change wpAnyH _ _ _ _ _ _ _ (Act.put _ (some 28) _) _; simp only [Act.put, List.setIfInBounds_toArray, List.set_cons_zero, List.set_cons_succ]
      refine wpAnyH_take (i := 9) (v := ?v9g7_) rfl (by kernel_rfl) (by kernel_rfl) (by kernel_rfl) (fun _ _ _ h => h) (Or.inl ⟨by rfl, ?y9g7_⟩) (by assumption) ?r9g7_
      case y9g7_ => (intro w hSw; (try dsimp only at hSw); go_simp; try with_reducible rfl)
      change wpAnyH _ _ _ _ _ _ _ (Act.put _ (some 29) _) _; simp only [Act.put, List.setIfInBounds_toArray, List.set_cons_zero, List.set_cons_succ]
      refine wpAnyH_take (i := 10) (v := ?v10g7_) rfl (by kernel_rfl) (by kernel_rfl) (by kernel_rfl) (fun _ _ _ h => h) (Or.inl ⟨by rfl, ?y10g7_⟩) (by assumption) ?r10g7_
      case y10g7_ => (intro w hSw; (try dsimp only at hSw); go_simp; try with_reducible rfl)
      change wpAnyH _ _ _ _ _ _ _ (Act.put _ (some 30) _) _; simp only [Act.put, List.setIfInBounds_toArray, List.set_cons_zero, List.set_cons_succ]
      refine wpAnyH_take (i := 11) (v := ?v11g7_) rfl (by kernel_rfl) (by kernel_rfl) (by kernel_rfl) (fun _ _ _ h => h) (Or.inl ⟨by rfl, ?y11g7_⟩) (by assumption) ?r11g7_
      case y11g7_ => (intro w hSw; (try dsimp only at hSw); go_simp; try with_reducible rfl)
      change wpAnyH _ _ _ _ _ _ _ (Act.put _ (some 31) _) _; simp only [Act.put, List.setIfInBounds_toArray, List.set_cons_zero, List.set_cons_succ]
      refine wpAnyH_ready (rs := [12]) (by kernel_rfl) (by simp) ?_
      refine AllReadyH.cons rfl (fun K hK => ?_) AllReadyH.nil
      go_simp
      refine (HA2.out _).mono ?_
      rintro r2 w2 ⟨rfl, hb2⟩
      have HB2 := Lib.hid (undrew hb2)
      clear hb2
      dsimp only
      refine hK.out _ _ ?_ (fun hHeld => ?_)
      · exact HSS.out _ HB2.out
      clear hK K
      try simp only [Act.put, List.setIfInBounds_toArray, List.set_cons_zero, List.set_cons_succ]
      refine wpAnyH_take (i := 13) (v := ?v13g7_) rfl (by kernel_rfl) (by kernel_rfl) (by kernel_rfl) (fun _ _ _ h => h) (Or.inl ⟨by rfl, ?y13g7_⟩) (by assumption) ?r13g7_
      case y13g7_ => (intro w hSw; (try dsimp only at hSw); go_simp; try with_reducible rfl)
      change wpAnyH _ _ _ _ _ _ _ (Act.put _ (some 33) _) _; simp only [Act.put, List.setIfInBounds_toArray, List.set_cons_zero, List.set_cons_succ]
      refine wpAnyH_done (by kernel_rfl) ?_ _
      refine NoPanic.normal ?_
      go_wp2
      go_roundg gf
      case measure => omega
      case rel => exact ⟨i + 1, by go_num, by omega, HST.out.step (HB2.out.mono hz)⟩
    | zero =>
      obtain rfl : i = k := by omega
      have hss : ∀ w', Below wr.heap.size wr w' → w'.cell? ⟨w.heap.size, 0, none⟩ = some (.int .i64 n) ∧ w'.cell? ⟨w.heap.size, 1, none⟩ = some (.slice A l.length c) := fun w' hb' => by
        have g := hs.step (hb'.mono hz)
        exact ⟨g.box.cell 0, g.box.cell 1⟩
      have HSS := Lib.hid hss; have HST := Lib.hid hs
      clear hss hs
      go_wp2_with fail
      refine wp_region_noPanic ?_
      refine wp_region_held_drew (S := (fun w' => w'.cell? ⟨w.heap.size, 0, none⟩ = some (.int .i64 n) ∧ w'.cell? ⟨w.heap.size, 1, none⟩ = some (.slice A l.length c))) (by kernel_rfl) ?_ (fun hHeld => ?_)
      · exact HSS.out _ (below_drewN (Below.refl _ _) 1)
      refine wpAnyH_take (i := 0) (v := ?v0g8_) rfl (by kernel_rfl) (by kernel_rfl) (by kernel_rfl) (fun _ _ _ h => h) (Or.inl ⟨by rfl, ?y0g8_⟩) (by assumption) ?r0g8_
      case y0g8_ => (intro w hSw; (try dsimp only at hSw); go_simp; try with_reducible rfl)
      change wpAnyH _ _ _ _ _ _ _ (Act.put _ (some 20) _) _; simp only [Act.put, List.setIfInBounds_toArray, List.set_cons_zero, List.set_cons_succ]
      refine wpAnyH_take (i := 1) (v := ?v1g8_) rfl (by kernel_rfl) (by kernel_rfl) (by kernel_rfl) (fun _ _ _ h => h) (Or.inl ⟨by rfl, ?y1g8_⟩) (by assumption) ?r1g8_
      case y1g8_ => (intro w hSw; (try dsimp only at hSw); go_simp; try with_reducible rfl)
      change wpAnyH _ _ _ _ _ _ _ (Act.put _ (some 21) _) _; simp only [Act.put, List.setIfInBounds_toArray, List.set_cons_zero, List.set_cons_succ]
      refine wpAnyH_take (i := 2) (v := ?v2g8_) rfl (by kernel_rfl) (by kernel_rfl) (by kernel_rfl) (fun _ _ _ h => h) (Or.inl ⟨by rfl, ?y2g8_⟩) (by assumption) ?r2g8_
      case y2g8_ => (intro w hSw; (try dsimp only at hSw); go_simp; try with_reducible rfl)
      change wpAnyH _ _ _ _ _ _ _ (Act.put _ (some 22) _) _; simp only [Act.put, List.setIfInBounds_toArray, List.set_cons_zero, List.set_cons_succ]
      refine wpAnyH_take (i := 3) (v := ?v3g8_) rfl (by kernel_rfl) (by kernel_rfl) (by kernel_rfl) (fun _ _ _ h => h) (Or.inl ⟨by rfl, ?y3g8_⟩) (by assumption) ?r3g8_
      case y3g8_ => (intro w hSw; (try dsimp only at hSw); go_simp; try with_reducible rfl)
      change wpAnyH _ _ _ _ _ _ _ (Act.put _ (some 23) _) _; simp only [Act.put, List.setIfInBounds_toArray, List.set_cons_zero, List.set_cons_succ]
      refine wpAnyH_take (i := 4) (v := ?v4g8_) rfl (by kernel_rfl) (by kernel_rfl) (by kernel_rfl) (fun _ _ _ h => h) (Or.inl ⟨by rfl, ?y4g8_⟩) (by assumption) ?r4g8_
      case y4g8_ => (intro w hSw; (try dsimp only at hSw); go_simp; try with_reducible rfl)
      change wpAnyH _ _ _ _ _ _ _ (Act.put _ (some 24) _) _; simp only [Act.put, List.setIfInBounds_toArray, List.set_cons_zero, List.set_cons_succ]
      refine wpAnyH_take (i := 5) (v := ?v5g8_) rfl (by kernel_rfl) (by kernel_rfl) (by kernel_rfl) (fun _ _ _ h => h) (Or.inl ⟨by rfl, ?y5g8_⟩) (by assumption) ?r5g8_
      case y5g8_ => (intro w hSw; (try dsimp only at hSw); go_simp; try with_reducible rfl)
      change wpAnyH _ _ _ _ _ _ _ (Act.put _ (some 25) _) _; simp only [Act.put, List.setIfInBounds_toArray, List.set_cons_zero, List.set_cons_succ]
      refine wpAnyH_take (i := 6) (v := undef) rfl (by kernel_rfl) (by kernel_rfl) (by kernel_rfl) (fun _ _ _ h => h) (Or.inr ⟨by rfl, rfl⟩) (by assumption) ?_
      change wpAnyH _ _ _ _ _ _ _ (Act.put _ (some 26) _) _; simp only [Act.put, List.setIfInBounds_toArray, List.set_cons_zero, List.set_cons_succ]
      refine wpAnyH_take (i := 7) (v := undef) rfl (by kernel_rfl) (by kernel_rfl) (by kernel_rfl) (fun _ _ _ h => h) (Or.inr ⟨by rfl, rfl⟩) (by assumption) ?_
      change wpAnyH _ _ _ _ _ _ _ (Act.put _ (some 27) _) _; simp only [Act.put, List.setIfInBounds_toArray, List.set_cons_zero, List.set_cons_succ]
      refine wpAnyH_take (i := 8) (v := undef) rfl (by kernel_rfl) (by kernel_rfl) (by kernel_rfl) (fun _ _ _ h => h) (Or.inr ⟨by rfl, rfl⟩) (by assumption) ?_
      change wpAnyH _ _ _ _ _ _ _ (Act.put _ (some 28) _) _; simp only [Act.put, List.setIfInBounds_toArray, List.set_cons_zero, List.set_cons_succ]
      refine wpAnyH_take (i := 9) (v := undef) rfl (by kernel_rfl) (by kernel_rfl) (by kernel_rfl) (fun _ _ _ h => h) (Or.inr ⟨by rfl, rfl⟩) (by assumption) ?_
      change wpAnyH _ _ _ _ _ _ _ (Act.put _ (some 29) _) _; simp only [Act.put, List.setIfInBounds_toArray, List.set_cons_zero, List.set_cons_succ]
      refine wpAnyH_take (i := 10) (v := undef) rfl (by kernel_rfl) (by kernel_rfl) (by kernel_rfl) (fun _ _ _ h => h) (Or.inr ⟨by rfl, rfl⟩) (by assumption) ?_
      change wpAnyH _ _ _ _ _ _ _ (Act.put _ (some 30) _) _; simp only [Act.put, List.setIfInBounds_toArray, List.set_cons_zero, List.set_cons_succ]
      refine wpAnyH_take (i := 11) (v := undef) rfl (by kernel_rfl) (by kernel_rfl) (by kernel_rfl) (fun _ _ _ h => h) (Or.inr ⟨by rfl, rfl⟩) (by assumption) ?_
      change wpAnyH _ _ _ _ _ _ _ (Act.put _ (some 31) _) _; simp only [Act.put, List.setIfInBounds_toArray, List.set_cons_zero, List.set_cons_succ]
      refine wpAnyH_take (i := 12) (v := undef) rfl (by kernel_rfl) (by kernel_rfl) (by kernel_rfl) (fun _ _ _ h => h) (Or.inr ⟨by rfl, rfl⟩) (by assumption) ?_
      change wpAnyH _ _ _ _ _ _ _ (Act.put _ (some 32) _) _; simp only [Act.put, List.setIfInBounds_toArray, List.set_cons_zero, List.set_cons_succ]
      refine wpAnyH_take (i := 13) (v := ?v13g8_) rfl (by kernel_rfl) (by kernel_rfl) (by kernel_rfl) (fun _ _ _ h => h) (Or.inl ⟨by rfl, ?y13g8_⟩) (by assumption) ?r13g8_
      case y13g8_ => (intro w hSw; (try dsimp only at hSw); go_simp; try with_reducible rfl)
      change wpAnyH _ _ _ _ _ _ _ (Act.put _ (some 33) _) _; simp only [Act.put, List.setIfInBounds_toArray, List.set_cons_zero, List.set_cons_succ]
      refine wpAnyH_done (by kernel_rfl) ?_ _
      refine NoPanic.normal ?_
      go_wp2_with fail
      refine wp_region_noPanic ?_
      refine wp_region_held_drew (S := (fun w' => w'.cell? ⟨w.heap.size, 0, none⟩ = some (.int .i64 n) ∧ w'.cell? ⟨w.heap.size, 1, none⟩ = some (.slice A l.length c))) (by kernel_rfl) ?_ (fun hHeld => ?_)
      · exact HSS.out _ (below_drewN (below_drewN (Below.refl _ _) 1) 1)
      refine wpAnyH_take (i := 0) (v := ?v0g9_) rfl (by kernel_rfl) (by kernel_rfl) (by kernel_rfl) (fun _ _ _ h => h) (Or.inl ⟨by rfl, ?y0g9_⟩) (by assumption) ?r0g9_
      case y0g9_ => (intro w hSw; (try dsimp only at hSw); go_simp; try with_reducible rfl)
      change wpAnyH _ _ _ _ _ _ _ (Act.put _ (some 36) _) _; simp only [Act.put, List.setIfInBounds_toArray, List.set_cons_zero, List.set_cons_succ]
      refine wpAnyH_take (i := 1) (v := ?v1g9_) rfl (by kernel_rfl) (by kernel_rfl) (by kernel_rfl) (fun _ _ _ h => h) (Or.inl ⟨by rfl, ?y1g9_⟩) (by assumption) ?r1g9_
      case y1g9_ => (intro w hSw; (try dsimp only at hSw); go_simp; try with_reducible rfl)
      change wpAnyH _ _ _ _ _ _ _ (Act.put _ (some 37) _) _; simp only [Act.put, List.setIfInBounds_toArray, List.set_cons_zero, List.set_cons_succ]
      refine wpAnyH_take (i := 2) (v := ?v2g9_) rfl (by kernel_rfl) (by kernel_rfl) (by kernel_rfl) (fun _ _ _ h => h) (Or.inl ⟨by rfl, ?y2g9_⟩) (by assumption) ?r2g9_
      case y2g9_ => (intro w hSw; (try dsimp only at hSw); go_simp; try with_reducible rfl)
      change wpAnyH _ _ _ _ _ _ _ (Act.put _ (some 38) _) _; simp only [Act.put, List.setIfInBounds_toArray, List.set_cons_zero, List.set_cons_succ]
      refine wpAnyH_take (i := 3) (v := ?v3g9_) rfl (by kernel_rfl) (by kernel_rfl) (by kernel_rfl) (fun _ _ _ h => h) (Or.inl ⟨by rfl, ?y3g9_⟩) (by assumption) ?r3g9_
      case y3g9_ => (intro w hSw; (try dsimp only at hSw); go_simp; try with_reducible rfl)
      change wpAnyH _ _ _ _ _ _ _ (Act.put _ (some 39) _) _; simp only [Act.put, List.setIfInBounds_toArray, List.set_cons_zero, List.set_cons_succ]
      refine wpAnyH_take (i := 4) (v := ?v4g9_) rfl (by kernel_rfl) (by kernel_rfl) (by kernel_rfl) (fun _ _ _ h => h) (Or.inl ⟨by rfl, ?y4g9_⟩) (by assumption) ?r4g9_
      case y4g9_ => (intro w hSw; (try dsimp only at hSw); go_simp; try with_reducible rfl)
      change wpAnyH _ _ _ _ _ _ _ (Act.put _ (some 40) _) _; simp only [Act.put, List.setIfInBounds_toArray, List.set_cons_zero, List.set_cons_succ]
      refine wpAnyH_take (i := 5) (v := ?v5g9_) rfl (by kernel_rfl) (by kernel_rfl) (by kernel_rfl) (fun _ _ _ h => h) (Or.inl ⟨by rfl, ?y5g9_⟩) (by assumption) ?r5g9_
      case y5g9_ => (intro w hSw; (try dsimp only at hSw); go_simp; try with_reducible rfl)
      change wpAnyH _ _ _ _ _ _ _ (Act.put _ (some 41) _) _; simp only [Act.put, List.setIfInBounds_toArray, List.set_cons_zero, List.set_cons_succ]
      refine wpAnyH_take (i := 6) (v := undef) rfl (by kernel_rfl) (by kernel_rfl) (by kernel_rfl) (fun _ _ _ h => h) (Or.inr ⟨by rfl, rfl⟩) (by assumption) ?_
      change wpAnyH _ _ _ _ _ _ _ (Act.put _ (some 42) _) _; simp only [Act.put, List.setIfInBounds_toArray, List.set_cons_zero, List.set_cons_succ]
      refine wpAnyH_take (i := 7) (v := undef) rfl (by kernel_rfl) (by kernel_rfl) (by kernel_rfl) (fun _ _ _ h => h) (Or.inr ⟨by rfl, rfl⟩) (by assumption) ?_
      change wpAnyH _ _ _ _ _ _ _ (Act.put _ (some 43) _) _; simp only [Act.put, List.setIfInBounds_toArray, List.set_cons_zero, List.set_cons_succ]
      refine wpAnyH_take (i := 8) (v := undef) rfl (by kernel_rfl) (by kernel_rfl) (by kernel_rfl) (fun _ _ _ h => h) (Or.inr ⟨by rfl, rfl⟩) (by assumption) ?_
      change wpAnyH _ _ _ _ _ _ _ (Act.put _ (some 44) _) _; simp only [Act.put, List.setIfInBounds_toArray, List.set_cons_zero, List.set_cons_succ]
      refine wpAnyH_take (i := 9) (v := undef) rfl (by kernel_rfl) (by kernel_rfl) (by kernel_rfl) (fun _ _ _ h => h) (Or.inr ⟨by rfl, rfl⟩) (by assumption) ?_
      change wpAnyH _ _ _ _ _ _ _ (Act.put _ (some 45) _) _; simp only [Act.put, List.setIfInBounds_toArray, List.set_cons_zero, List.set_cons_succ]
      refine wpAnyH_take (i := 10) (v := undef) rfl (by kernel_rfl) (by kernel_rfl) (by kernel_rfl) (fun _ _ _ h => h) (Or.inr ⟨by rfl, rfl⟩) (by assumption) ?_
      change wpAnyH _ _ _ _ _ _ _ (Act.put _ (some 46) _) _; simp only [Act.put, List.setIfInBounds_toArray, List.set_cons_zero, List.set_cons_succ]
      refine wpAnyH_take (i := 11) (v := undef) rfl (by kernel_rfl) (by kernel_rfl) (by kernel_rfl) (fun _ _ _ h => h) (Or.inr ⟨by rfl, rfl⟩) (by assumption) ?_
      change wpAnyH _ _ _ _ _ _ _ (Act.put _ (some 47) _) _; simp only [Act.put, List.setIfInBounds_toArray, List.set_cons_zero, List.set_cons_succ]
      refine wpAnyH_take (i := 12) (v := undef) rfl (by kernel_rfl) (by kernel_rfl) (by kernel_rfl) (fun _ _ _ h => h) (Or.inr ⟨by rfl, rfl⟩) (by assumption) ?_
      change wpAnyH _ _ _ _ _ _ _ (Act.put _ (some 48) _) _; simp only [Act.put, List.setIfInBounds_toArray, List.set_cons_zero, List.set_cons_succ]
      refine wpAnyH_take (i := 13) (v := undef) rfl (by kernel_rfl) (by kernel_rfl) (by kernel_rfl) (fun _ _ _ h => h) (Or.inr ⟨by rfl, rfl⟩) (by assumption) ?_
      change wpAnyH _ _ _ _ _ _ _ (Act.put _ (some 49) _) _; simp only [Act.put, List.setIfInBounds_toArray, List.set_cons_zero, List.set_cons_succ]
      refine wpAnyH_take (i := 14) (v := ?v14g9_) rfl (by kernel_rfl) (by kernel_rfl) (by kernel_rfl) (fun _ _ _ h => h) (Or.inl ⟨by rfl, ?y14g9_⟩) (by assumption) ?r14g9_
      case y14g9_ => (intro w hSw; (try dsimp only at hSw); go_simp; try with_reducible rfl)
      change wpAnyH _ _ _ _ _ _ _ (Act.put _ (some 50) _) _; simp only [Act.put, List.setIfInBounds_toArray, List.set_cons_zero, List.set_cons_succ]
      refine wpAnyH_done (by kernel_rfl) ?_ _
      refine NoPanic.normal ?_
      have hs3 : AddG w wr.drew.drew n A c l e := HST.out.step (by have := below_drewN (Below.refl (w.heap.size + 3) wr) 2; exact this)
      have b0 := hs3.box.cell 0; have b1 := hs3.box.cell 1; have e0 := hs3.ebox.cell 0; have e1 := hs3.ebox.cell 1; have e2 := hs3.ebox.cell 2; have r0 := hs3.rbox.cell 0; have r1 := hs3.rbox.cell 1; have f0 := hs3.rbox.frozen 0; have f1 := hs3.rbox.frozen 1
      simp only [List.getElem?_toArray, List.getElem?_cons_zero, List.getElem?_cons_succ] at b0 b1 e0 e1 e2 r0 r1
      have hz3 := hs3.size
      have HS3 := Lib.hid hs3
      clear hs3
      have hnl : i ≤ l.length := by omega
      obtain ⟨i0, hi0, hz0, hz1, hz2, -⟩ := parts infoE
      have hown : Hid (wr.drew.drew.ownsRow (w.heap.size + 3) 35 3 (.slice none 0 0) 0 []) := Lib.hid (World.ownsRow_nil _ _ _ _)
      have hS1l : (l.take i).length = i := by rw [List.length_take]; omega
      have hrt := (HR.out.below HS3.out.below).take edgC_len i
      unfold Rs at hrt
      rw [hS1l] at hrt
      have HRT := Lib.hid hrt; have HI0 := Lib.hid hi0; have HZ0 := Lib.hid hz0
      have hicc : i ≤ c := Nat.le_trans hnl HCX.out
      clear hrt hi0 hz0 hS1l
      go_upto_region 10 with (first | (refine wpList_upto (o := ⟨some 56, _, _, _, _, _⟩) rfl 23 35 (.tmp 54) (.tmp 55) rfl i0 Tryd.underlying23 HI0.out A l.length c i rfl rfl hicc ?_) | (at_builtin; refine wpList_cat _ rfl (.tmp 52) (.tmp 56) 23 rfl (w.heap.size + 3) 35 i0 (.agg #[.int .i64 0, .int .i64 0, .int .i64 0]) 3 24 Tryd.underlying23 HI0.out HZ0.out hz1 hz2 rfl (by decide) (by decide) _ 0 _ rfl hown _ i _ (rcs edgC (l.take i)) rfl HRT (edgC_one _) (by omega) (by omega) ?_; intro v1 w4 h2 h3 h4; have HO1 := Lib.hid h2.out; have HB4 := Lib.hid h4.out; clear h2 h3 h4))
      have hs4 := HS3.out.step HB4.out
      have b0' := hs4.box.cell 0; have b1' := hs4.box.cell 1; have e0' := hs4.ebox.cell 0; have e1' := hs4.ebox.cell 1; have e2' := hs4.ebox.cell 2
      simp only [List.getElem?_toArray, List.getElem?_cons_zero, List.getElem?_cons_succ] at b0' b1' e0' e1' e2'
      have hz4 := hs4.size
      have z40 : w.heap.size < w4.heap.size := by omega
      have z41 : w.heap.size + 1 < w4.heap.size := by omega
      have hown4 : w4.ownsRow (w.heap.size + 3) 35 3 v1 i (rcs edgC (l.take i)) := by have h1 := HO1.out; rw [Nat.zero_add, List.nil_append] at h1; exact h1
      have HS4 := Lib.hid hs4; have HO4 := Lib.hid hown4
      clear hs4 hown4 b0 b1 e0 e1 e2 r0 r1 f0 f1 HB4 HO1
      go_upto_region 11 with (at_builtin; refine wpList_app _ w4 rfl (.tmp 58) (.tmp 60) 23 rfl (w.heap.size + 3) 35 i0 (.agg #[.int .i64 0, .int .i64 0, .int .i64 0]) 3 24 Tryd.underlying23 HI0.out HZ0.out hz1 hz2 rfl (by decide) (by decide) _ i _ rfl HO4 [.int .i64 e.1, .int .i64 e.2.1, .int .i64 e.2.2] rfl rfl rfl _ rfl rfl (by omega) hz4 ?_; intro v2 w5 h2 h3 h4; have HO5 := Lib.hid h2.out; have HB5 := Lib.hid h4.out; clear h2 h3 h4)
      have hs5 := HS4.out.step HB5.out
      have c0 := hs5.box.cell 0; have c1 := hs5.box.cell 1
      simp only [List.getElem?_toArray, List.getElem?_cons_zero, List.getElem?_cons_succ] at c0 c1
      have hz5 := hs5.size
      have z50 : w.heap.size < w5.heap.size := by omega
      have hcu := Rs.cut (c := c) (i := i) edgC_len (HR.out.below hs5.below) HCX.out
      unfold Rs at hcu
      rw [List.length_drop] at hcu
      have HCU := Lib.hid hcu; have HS5 := Lib.hid hs5
      clear hs5 hcu b0' b1' e0' e1' e2' z40 z41 HS4 HO4 HB5
      have hlen : m.length = i + 1 + (l.length - i) := by rw [← HM.out, List.length_append, List.length_append, List.length_take, List.length_drop, List.length_singleton]; omega
      have hlist : rcs edgC (l.take i) ++ [.int .i64 e.1, .int .i64 e.2.1, .int .i64 e.2.2] ++ rcs edgC (l.drop i) = rcs edgC m := by rw [← HM.out, rcs_append, rcs_append, rcs_one]; rfl
      have HLEN := Lib.hid hlen; have HLIST := Lib.hid hlist
      clear hlen hlist
      go_wp2_with (first | (refine wpList_from (o := ⟨some 66, _, _, _, _, _⟩) rfl 23 35 (.tmp 64) (.tmp 65) rfl i0 Tryd.underlying23 HI0.out A l.length c i 3 hz1 rfl rfl hnl ?_) | (at_builtin; refine wpList_cat _ rfl (.tmp 62) (.tmp 66) 23 rfl (w.heap.size + 3) 35 i0 (.agg #[.int .i64 0, .int .i64 0, .int .i64 0]) 3 24 Tryd.underlying23 HI0.out HZ0.out hz1 hz2 rfl (by decide) (by decide) _ (i + 1) _ rfl HO5 _ (l.length - i) _ (rcs edgC (l.drop i)) rfl HCU (edgC_one _) (by omega) hz5 ?_; intro v3 w6 h2 h3 h4; have hown6 : w6.ownsRow (w.heap.size + 3) 35 3 v3 m.length (rcs edgC m) := (by rw [HLEN.out, ← HLIST.out]; exact h2.out); obtain ⟨A6, c6, rfl, hc6⟩ := own_parts hown6; have HO6 := Lib.hid hown6; have HC6 := Lib.hid hc6; have hs6 := HS5.out.step h4.out; have b0' := hs6.box.cell 0; have b1' := hs6.box.cell 1; have r0 := hs6.rbox.cell 0; have r1 := hs6.rbox.cell 1; have f0 := hs6.rbox.frozen 0; have f1 := hs6.rbox.frozen 1; have g1 := hs6.box.frozen 1; simp only [List.getElem?_toArray, List.getElem?_cons_zero, List.getElem?_cons_succ] at b0' b1' r0 r1; have hz6 := hs6.size; have z60 : w.heap.size < w6.heap.size := (by omega); have z62 : w.heap.size + 2 < w6.heap.size := (by omega); have HS6 := Lib.hid hs6; clear h2 h3 h4 hs6 c0 c1 hown6 hc6))
      have hne : ∀ (g : Nat) cs, w6.heap[g]? = some (.cells cs 25 (0, 0)) → ∀ (b' : Nat) xs' fz, w6.heap[b']? = some (.cells xs' 35 fz) → b' ≠ g := fun g cs hg b' xs' fz hb' e' => by subst e'; rw [hg] at hb'; injection hb' with hb'; injection hb' with _ ht; exact absurd ht (by decide)
      have d0 := ((HS6.out.rbox.far (p := ⟨w.heap.size, 1, none⟩) (by show w.heap.size + 2 ≠ w.heap.size; omega) (.slice A6 m.length c6)).set_ 0 (.int .i64 n)).set_ 1 (.slice A6 m.length c6)
      have d1 := d0.cell 0; have d2 := d0.cell 1
      simp only [List.getElem?_toArray, List.setIfInBounds_toArray, List.set_cons_zero, List.set_cons_succ, List.getElem?_cons_zero, List.getElem?_cons_succ] at d1 d2
      have hbel := ((HS6.out.below.setCell (p := ⟨w.heap.size, 1, none⟩) (Nat.le_refl _) (.slice A6 m.length c6)).setCell (p := ⟨w.heap.size + 2, 0, none⟩) (by show _ ≤ w.heap.size + 2; omega) (.int .i64 n)).setCell (p := ⟨w.heap.size + 2, 1, none⟩) (by show _ ≤ w.heap.size + 2; omega) (.slice A6 m.length c6)
      have hk6 : ∀ (g : Nat) cs fz, w6.heap[g]? = some (.cells cs 35 fz) → (((w6.setCell ⟨w.heap.size, 1, none⟩ (.slice A6 m.length c6)).setCell ⟨w.heap.size + 2, 0, none⟩ (.int .i64 n)).setCell ⟨w.heap.size + 2, 1, none⟩ (.slice A6 m.length c6)).heap[g]? = w6.heap[g]? := fun g cs fz hg => by
        have n1 := hne _ _ HS6.out.box g cs fz hg
        have n2 := hne _ _ HS6.out.rbox g cs fz hg
        rw [Below.heap_setCell _ _ _ _ n2, Below.heap_setCell _ _ _ _ n2, Below.heap_setCell _ _ _ _ n1]
      have hown7 := own_mono (own_keep HO6.out hk6) (show w.heap.size ≤ w.heap.size + 3 by omega)
      have HD := Lib.hid (And.intro d1 d2); have HBEL := Lib.hid hbel; have HO7 := Lib.hid hown7
      clear d0 d1 d2 hbel hk6 hne hown7
      go_wp2
      obtain ⟨d1, d2⟩ := HD.out
      exact bodyPost_ret (v := .tuple #[.agg #[.int .i64 n, .slice A6 m.length c6], .bool true]) (by simp [results, Tryd.results64, go_sem, d1, d2]) rfl ⟨HBEL.out, A6, c6, rfl, HC6.out, HO7.out⟩
/-- the reference's add -/
theorem refAdd_any (w : World) (n : Int) (A : Option Addr) (c : Nat) (l : List Edg) (e : Edg) (h : Rs edgC 3 w A l) (hc : l.length ≤ c) :
    Calls Tryd.prog 64 #[.agg #[.int .i64 n, .slice A l.length c], .agg #[.int .i64 e.1, .int .i64 e.2.1, .int .i64 e.2.2]] w (AddPost w n A c l (addR n l e)) := by
  cases hf : fitsE e n with
  | false => exact refAdd_fit w n A c l e h hf
  | true =>
    by_cases h8 : 8192 ≤ l.length
    · exact refAdd_full w n A c l e h hf h8
    · rcases Nat.lt_or_ge (atE l e) l.length with hlt | hge
      · obtain ⟨y, hy⟩ : ∃ y, l[atE l e]? = some y := ⟨_, List.getElem?_eq_getElem hlt⟩
        cases ha : aheadE e y with
        | false => exact refAdd_no w n A c l e h hc hf (by omega) _ rfl hlt y hy ha
        | true => exact refAdd_yes w n A c l e h hc hf (by omega) _ rfl hlt y hy ha
      · exact refAdd_end w n A c l e h hc hf (by omega) _ rfl (Nat.le_antisymm (atE_le l e) hge)
end Go.Proofs.YtknigkjbnaoldaaDoor
