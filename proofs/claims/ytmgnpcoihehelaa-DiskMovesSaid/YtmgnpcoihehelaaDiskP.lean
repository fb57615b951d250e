/- slices.Insert of a file amid the row, where there is no room: a new row. -/
import Derived.Test.YtmgnpcoihehelaaDiskO
import Derived.Lib.AppendZerosOnto
namespace Go.Proofs.Ytmgnpcoihehelaa
open Go.RowKit

theorem zero_size (z : Array Value) (n : Nat) : (Builtin.zeroCells z n).size = n * z.size := by simp [Builtin.zeroCells]
set_option maxRecDepth 100000 in
set_option maxHeartbeats 4000000 in
theorem insert_grow (w : World) (base g cap : Nat) (rows : List (FileD × Value)) (i : Nat) (y : FileD × Value) (vb : Nat) (c : Nat) (h : RowD w base (.slice (some ⟨g, 0, none⟩) rows.length cap) rows) (hi : i < rows.length) (hroom : cap < rows.length + 1) (hl : rows.length ≤ 1000000000)
    (hvb : Blk w vb 61 (fcells y).toArray) (hyb : Bt w y.2 y.1.b) :
    Calls Try.prog 29 #[.slice (some ⟨g, 0, none⟩) rows.length cap, .int .i64 i, .slice (some ⟨vb, 0, none⟩) 1 c] w fun e w' =>
      ∃ nc zs, e = .returned (.slice (some ⟨w.heap.size, 0, none⟩) (rows.length + 1) nc) ∧ rows.length + 1 ≤ nc ∧ nc ≤ maxLen ∧ zs.size = (nc - i) * 3 ∧
        w' = ((w.drew.alloc (.cells ((rcells (rows.take i)).toArray ++ zs) 61)).setCells w.heap.size (i * 3) (fcells y)).drew.setCells w.heap.size ((i + 1) * 3) (rcells (rows.drop i)) := by
  obtain ⟨i0, hi0, hz0, hz1, hz2⟩ := parts infoF
  obtain ⟨cur, hblk, hcs, htk, hmax⟩ : ∃ cur, Blk w g 61 cur ∧ cur.size = cap * 3 ∧ cur.toList.take (rows.length * 3) = rcells rows ∧ cap ≤ maxLen := by
    rcases h.1.2 with ⟨hv, _⟩ | ⟨g', cap', cur, hv, _, hh, _, hmx, hcs, htk⟩
    · cases hv
    · simp only [Value.slice.injEq, Option.some.injEq, Addr.mk.injEq, and_true, true_and] at hv
      obtain ⟨rfl, rfl⟩ := hv
      exact ⟨cur, hh, hcs, htk, hmx⟩
  have hcapn : rows.length ≤ cap := by
    rcases h.1.2 with ⟨hv, _⟩ | ⟨g', cap', cur, hv, _, hh, hc, _⟩
    · cases hv
    · simp only [Value.slice.injEq] at hv
      omega
  have hdl : (rcells (rows.drop i)).length = (rows.length - i) * 3 := by rw [rcells_length, List.length_drop]
  have htl : (rcells (rows.take i)).length = i * 3 := by rw [rcells_length, List.length_take]; congr 1; omega
  have hone := rcells_one h
  have honey : ∀ u ∈ fcells y, u.oneCell' = true := by
    obtain ⟨A', c', he, _⟩ := hyb
    intro u hu
    simp only [fcells, List.mem_cons, List.not_mem_nil, or_false] at hu
    rcases hu with rfl | rfl | rfl
    · rfl
    · rw [he]; rfl
    · rfl
  have hsz : (Try.prog.info? 61).map (·.size) = some 3 := by rw [hi0]; simp [hz1]
  have hall : ∀ j v, (rcells rows)[j]? = some v → w.cell? ⟨g, j, none⟩ = some v := by
    intro j v h1
    rw [← htk, List.getElem?_take] at h1
    split at h1
    · rw [hblk.cell, ← h1, Array.getElem?_toList]
    · cases h1
  have hold : (Builtin.firstCells i0.size i (.slice (some ⟨g, 0, none⟩) i cap)).run Try.prog w.drew = .ok (rcells (rows.take i)).toArray w.drew :=
    run_firstCells_some w.drew _ i ⟨g, 0, none⟩ i cap (rcells (rows.take i)) (by rw [htl, hz1]) (fun j v hj => by
      have h1 : (rcells rows)[j]? = some v := by
        rw [← rcells_take rows i (by omega), List.getElem?_take] at hj
        split at hj
        · exact hj
        · cases hj
      have h2 := hall j v h1
      unfold Addr.add
      split
      · rename_i h0; subst h0; exact h2
      · rw [Nat.zero_add]; exact h2)
  have hadd : i + (rows.length + 1 - i) = rows.length + 1 := by omega
  have hrun := fun ty => Lib.run_append_grow_zeros (P := Try.prog) w 54 3 ty 61 i0 (.agg #[.string ⟨#[]⟩, .slice none 0 0, .int .i64 0]) .i64 .i64 Try.underlying54 Try.underlying3 hi0 hz0
    (some ⟨g, 0, none⟩) i cap (rcells (rows.take i)) hold (rows.length + 1 - i) (by omega) (by rw [hz1]; omega) (by omega) (by omega) (by rw [hz2]; omega) (by rw [hz2]; exact growslice_fits (by omega) (by omega))
  rw [hadd] at hrun
  have hcast : ((rows.length + 1 - i : Nat) : Int) = (rows.length : Int) + 1 - (i : Int) := by omega
  rw [hcast] at hrun
  obtain ⟨nc, hnc⟩ : ∃ nc, grownCap w (rows.length + 1) cap 61 = nc := ⟨_, rfl⟩
  have hnc1 := grownCap_ge w (rows.length + 1) cap 61
  have hnc2 := grownCap_le_maxLen w (rows.length + 1) cap 61 (by unfold maxLen; omega)
  rw [hnc] at hrun hnc1 hnc2
  obtain ⟨zs, hzs⟩ : ∃ zs, Builtin.zeroCells (Value.agg #[.string ⟨#[]⟩, .slice none 0 0, .int .i64 0]).cells (rows.length + 1 - i) ++ Builtin.zeroCells (Value.agg #[.string ⟨#[]⟩, .slice none 0 0, .int .i64 0]).cells (nc - (rows.length + 1)) = zs := ⟨_, rfl⟩
  have hzl : zs.size = (nc - i) * 3 := by
    rw [← hzs]
    have : (Value.agg #[.string ⟨#[]⟩, .slice none 0 0, .int .i64 0]).cells.size = 3 := rfl
    simp only [Array.size_append, zero_size, this]
    omega
  simp only [Array.append_assoc, hzs] at hrun
  obtain ⟨W1, hW1⟩ : ∃ W1, W1 = w.drew.alloc (.cells ((rcells (rows.take i)).toArray ++ zs) 61) := ⟨_, rfl⟩
  have hb1 : Blk W1 w.heap.size 61 ((rcells (rows.take i)).toArray ++ zs) := by rw [hW1]; exact Blk.new w.drew _ _
  have hs1 : ((rcells (rows.take i)).toArray ++ zs).size = nc * 3 := by rw [Array.size_append, hzl, List.size_toArray, htl]; omega
  have hvW1 : Blk W1 vb 61 (fcells y).toArray := by rw [hW1]; exact hvb.drew.alloc _
  have hgW1 : Blk W1 g 61 cur := by rw [hW1]; exact hblk.drew.alloc _
  have hgl := hblk.lt
  have hvl := hvb.lt
  have hcp1 : ∀ ty dc, (Builtin.copy_ #[54, 54] ty #[.slice (some ⟨w.heap.size, i * 3, none⟩) (rows.length + 1 - i) dc, .slice (some ⟨vb, 0, none⟩) 1 c]).run Try.prog W1 = .ok (goInt (Nat.min 1 (rows.length + 1 - i))) (W1.setCells w.heap.size (i * 3) (fcells y)) := fun ty dc =>
    run_copy_k W1 _ _ ty 61 3 w.heap.size (i * 3) (rows.length + 1 - i) dc ⟨vb, 0, none⟩ 1 c (fcells y) Try.underlying54 hsz (by rw [show Nat.min 1 (rows.length + 1 - i) = 1 by simp only [Nat.min_def]; split <;> omega]; rfl)
      (fun j v hj => by
        have h2 : W1.cell? ⟨vb, j, none⟩ = some v := by rw [hvW1.cell, List.getElem?_toArray]; exact hj
        unfold Addr.add
        split
        · rename_i h0; subst h0; exact h2
        · rw [Nat.zero_add]; exact h2)
      (fun j hj => by
        have hj3 : j < 3 := hj
        rw [hb1.cell, Array.getElem?_eq_getElem (by rw [hs1]; omega)]; rfl) (fun j hj => hb1.frozen _) honey
  obtain ⟨W2, hW2⟩ : ∃ W2, W2 = W1.setCells w.heap.size (i * 3) (fcells y) := ⟨_, rfl⟩
  have hb2 : Blk W2 w.heap.size 61 (layS ((rcells (rows.take i)).toArray ++ zs) (i * 3) (fcells y)) := by rw [hW2]; exact hb1.setCells _ _
  have hm2 := Moved.setCells w.heap.size (fcells y) (i * 3) W1
  rw [← hW2] at hm2
  have hgW2 : Blk W2 g 61 cur := (hm2.block g hgW1.lt (by omega) (by simp)).trans hgW1
  have hcp2 : ∀ ty dc sc, (Builtin.copy_ #[54, 54] ty #[.slice (some ⟨w.heap.size, (i + 1) * 3, none⟩) (rows.length - i) dc, .slice (some ⟨g, i * 3, none⟩) (rows.length - i) sc]).run Try.prog W2.drew = .ok (goInt (Nat.min (rows.length - i) (rows.length - i))) (W2.drew.setCells w.heap.size ((i + 1) * 3) (rcells (rows.drop i))) := fun ty dc sc =>
    run_copy_k W2.drew _ _ ty 61 3 w.heap.size ((i + 1) * 3) (rows.length - i) dc ⟨g, i * 3, none⟩ (rows.length - i) sc (rcells (rows.drop i)) Try.underlying54 hsz (by rw [hdl]; simp)
      (fun j v hj => by
        have h1 : (rcells rows)[i * 3 + j]? = some v := by rw [← rcells_drop rows i (by omega), List.getElem?_drop] at hj; exact hj
        have h2 : W2.cell? ⟨g, i * 3 + j, none⟩ = some v := by
          rw [hgW2.cell, ← hblk.cell]; exact hall _ v h1
        unfold Addr.add
        split
        · rename_i h0; subst h0; exact h2
        · exact h2)
      (fun j hj => by
        rw [hdl] at hj
        have := hb2.drew.cell ((i + 1) * 3 + j)
        rw [this, Array.getElem?_eq_getElem (by rw [layS_size, hs1]; omega)]; rfl) (fun j hj => hb2.drew.frozen _) (fun v hv => hone v (by rw [← rcells_drop rows i (by omega)] at hv; exact List.mem_of_mem_drop hv))
  have HW1 := Lib.hid hW1; have HW2 := Lib.hid hW2
  rw [← hW1] at hrun
  rw [← hW2] at hcp1
  have hcapI : (cap : Int) < (rows.length : Int) + 1 := by omega
  have hcapI2 : (rows.length : Int) ≤ (cap : Int) := by omega
  have HRUN := Lib.hid hrun; have HC1 := Lib.hid hcp1; have HC2 := Lib.hid hcp2
  have h0I : (0 : Int) ≤ (i : Int) + 1 := by omega
  have hz2' : ¬ ((i : Int) = (rows.length : Int)) := by omega
  have hq1 : ¬ (nc = i + 1) := by omega
  have hq2 : ¬ (nc = i) := by omega
  have hq3 : ¬ (cap = i) := by omega
  have hi1 : i + 1 ≤ rows.length + 1 := by omega
  have hiI : (i : Int) ≤ (rows.length : Int) := by omega
  have hiN : i ≤ rows.length := by omega
  have hiL : (i : Int) + 1 ≤ (rows.length : Int) + 1 := by omega
  have hi3 : (i : Int) ≤ (rows.length : Int) + 1 := by omega
  have hncI : (rows.length : Int) + 1 ≤ (nc : Int) := by omega
  have htn : ((i : Int) + 1).toNat = i + 1 := by omega
  have htn2 : ((rows.length : Int) + 1).toNat = rows.length + 1 := by omega
  have HZL := Lib.hid hzl; have HNC2 := Lib.hid hnc2
  clear hrun hcp1 hcp2 hW1 hW2 hb1 hb2 hm2 hgW1 hgW2 hvW1 hone honey hall hold hdl htl htk hcs hblk hvb hyb h hsz hnc hzs hzl hs1 hi0 hz0 hz1 hz2 hadd hcast hnc2 hmax
  go_enter Try.func29, Try.ntmps29
  go_wp2_with (first | (at_builtin; refine Lib.wpList_append_run _ rfl (.tmp 34) (.tmp 39) 54 3 rfl (.slice (some ⟨g, 0, none⟩) i cap) (.int .i64 ((rows.length : Int) + 1 - (i : Int))) rfl rfl _ _ (HRUN.out _) ?_) | (with_reducible refine Go.Proofs.wpList_copy_runI _ rfl (.tmp 43) (.tmp 44) 54 54 rfl (.slice (some ⟨w.heap.size, i * 3, none⟩) (rows.length + 1 - i) (nc - i)) (.slice (some ⟨vb, 0, none⟩) 1 c) rfl rfl (HC1.out _ _) ?_))
  have hwr : IntKind.i64.wrap ((i : Int) + 1) = (i : Int) + 1 := IntWalk.i64_in _ (by omega)
  go_region_law (refine Go.Proofs.step_copy_runI rfl (.tmp 50) (.tmp 53) 54 54 rfl (.slice (some ⟨w.heap.size, (i + 1) * 3, none⟩) (rows.length - i) (nc - (i + 1))) (.slice (some ⟨g, i * 3, none⟩) (rows.length - i) (cap - i)) (by simp [Act.eval, Act.put]) (by simp [Act.eval, Act.put]) (HC2.out _ _ _) ?_)
  go_wp2
  go_ret
  exact ⟨nc, zs, rfl, hnc1, HNC2.out, HZL.out, by rw [HW2.out, HW1.out]⟩
end Go.Proofs.Ytmgnpcoihehelaa
