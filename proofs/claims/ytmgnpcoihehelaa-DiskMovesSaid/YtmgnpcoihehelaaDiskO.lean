/- slices.Insert of a file amid the row, where there is room: in place. -/
import Derived.Test.YtmgnpcoihehelaaDiskN
import Derived.Lib.Overlaps
import Derived.Laws.Externs
import Derived.Shelf.Spec.SlicesInsert
import Derived.IntWalk
namespace Go.Proofs.Ytmgnpcoihehelaa
open Go.RowKit

set_option maxRecDepth 100000 in
set_option maxHeartbeats 4000000 in
theorem insert_shift (w : World) (base g cap : Nat) (rows : List (FileD × Value)) (i : Nat) (y : FileD × Value) (vb : Nat) (c : Nat) (h : RowD w base (.slice (some ⟨g, 0, none⟩) rows.length cap) rows) (hi : i < rows.length) (hroom : rows.length + 1 ≤ cap)
    (hvb : Blk w vb 61 (fcells y).toArray) (hne : vb ≠ g) (hyb : Bt w y.2 y.1.b) :
    Calls Try.prog 29 #[.slice (some ⟨g, 0, none⟩) rows.length cap, .int .i64 i, .slice (some ⟨vb, 0, none⟩) 1 c] w fun e w' =>
      e = .returned (.slice (some ⟨g, 0, none⟩) (rows.length + 1) cap) ∧ w' = (w.drew.setCells g ((i + 1) * 3) (rcells (rows.drop i))).setCells g (i * 3) (fcells y) := by
  obtain ⟨cur, hblk, hcs, htk, hmax⟩ : ∃ cur, Blk w g 61 cur ∧ cur.size = cap * 3 ∧ cur.toList.take (rows.length * 3) = rcells rows ∧ cap ≤ maxLen := by
    rcases h.1.2 with ⟨hv, _⟩ | ⟨g', cap', cur, hv, _, hh, _, hmx, hcs, htk⟩
    · cases hv
    · simp only [Value.slice.injEq, Option.some.injEq, Addr.mk.injEq, and_true, true_and] at hv
      obtain ⟨rfl, rfl⟩ := hv
      exact ⟨cur, hh, hcs, htk, hmx⟩
  have hsv : w.shape? vb = some (61, 3) := by unfold World.shape?; rw [hvb]; rfl
  have hsg : w.shape? g = some (61, cap * 3) := by unfold World.shape?; rw [hblk]; simp [hcs]
  have hov : ∀ lb cb, (callFunc 49 #[.slice (some ⟨vb, 0, none⟩) 1 c, .slice (some ⟨g, (i + 1) * 3, none⟩) lb cb]).run Try.prog w = .ok (.value (.bool false)) w := fun lb cb => by
    rw [run_callFunc_extern Try.func49 (by kernel_rfl) (by kernel_rfl) (by kernel_rfl) (e := Extern.SlicesOverlaps.overlaps #[54, 54] #[4]) (by kernel_rfl),
      Lib.run_overlaps_apart w 54 4 61 Try.underlying54 3 Try.sizeOf61 ⟨vb, 0, none⟩ ⟨g, (i + 1) * 3, none⟩ 1 c lb cb hne 61 61 3 (cap * 3) hsv hsg (by omega) (hvb.frozen 0) (hvb.frozen 3)]
    rfl
  have hdl : (rcells (rows.drop i)).length = (rows.length - i) * 3 := by rw [rcells_length, List.length_drop]
  have hone := rcells_one h
  have honey : ∀ u ∈ fcells y, u.oneCell' = true := by
    obtain ⟨A', c', he, _⟩ := hyb
    intro u hu
    simp only [fcells, List.mem_cons, List.not_mem_nil, or_false] at hu
    rcases hu with rfl | rfl | rfl
    · rfl
    · rw [he]; rfl
    · rfl
  have hsz : (Try.prog.info? 61).map (·.size) = some 3 := by
    obtain ⟨i0, hi0, _, h1, _⟩ := parts infoF
    rw [hi0]; simp [h1]
  have hsp : ∀ k, k < cap * 3 → (w.cell? ⟨g, k, none⟩).isSome = true := by
    intro k hk
    rw [hblk.cell k, Array.getElem?_eq_getElem (by omega)]; rfl
  have hcp1 : ∀ ty dc sc, (Builtin.copy_ #[54, 54] ty #[.slice (some ⟨g, (i + 1) * 3, none⟩) (rows.length - i) dc, .slice (some ⟨g, i * 3, none⟩) (rows.length + 1 - i) sc]).run Try.prog w.drew = .ok (goInt (Nat.min (rows.length + 1 - i) (rows.length - i))) (w.drew.setCells g ((i + 1) * 3) (rcells (rows.drop i))) := fun ty dc sc =>
    run_copy_k w.drew _ _ ty 61 3 g ((i + 1) * 3) (rows.length - i) dc ⟨g, i * 3, none⟩ (rows.length + 1 - i) sc (rcells (rows.drop i)) Try.underlying54 hsz (by rw [hdl]; congr 1; simp only [Nat.min_def]; split <;> omega)
      (fun j v hj => by
        have h1 : (rcells rows)[i * 3 + j]? = some v := by rw [← rcells_drop rows i (by omega), List.getElem?_drop] at hj; exact hj
        have h2 : w.cell? ⟨g, i * 3 + j, none⟩ = some v := by
          rw [← htk, List.getElem?_take] at h1
          split at h1
          · rw [hblk.cell, ← h1, Array.getElem?_toList]
          · cases h1
        unfold Addr.add
        split
        · rename_i h0; subst h0; exact h2
        · exact h2)
      (fun j hj => hsp _ (by rw [hdl] at hj; omega)) (fun j hj => hblk.frozen _) (fun v hv => hone v (by rw [← rcells_drop rows i (by omega)] at hv; exact List.mem_of_mem_drop hv))
  obtain ⟨W1, hW1⟩ : ∃ W1, W1 = w.drew.setCells g ((i + 1) * 3) (rcells (rows.drop i)) := ⟨_, rfl⟩
  have hb1 : Blk W1 g 61 (layS cur ((i + 1) * 3) (rcells (rows.drop i))) := by rw [hW1]; exact hblk.drew.setCells _ _
  have hm1 := Moved.setCells g (rcells (rows.drop i)) ((i + 1) * 3) w.drew
  rw [← hW1] at hm1
  have hv1 : Blk W1 vb 61 (fcells y).toArray := (hm1.block vb hvb.lt hne (by simp)).trans hvb
  have hcp2 : ∀ ty dc, (Builtin.copy_ #[54, 54] ty #[.slice (some ⟨g, i * 3, none⟩) (rows.length + 1 - i) dc, .slice (some ⟨vb, 0, none⟩) 1 c]).run Try.prog W1 = .ok (goInt (Nat.min 1 (rows.length + 1 - i))) (W1.setCells g (i * 3) (fcells y)) := fun ty dc =>
    run_copy_k W1 _ _ ty 61 3 g (i * 3) (rows.length + 1 - i) dc ⟨vb, 0, none⟩ 1 c (fcells y) Try.underlying54 hsz (by rw [show Nat.min 1 (rows.length + 1 - i) = 1 by simp only [Nat.min_def]; split <;> omega]; rfl)
      (fun j v hj => by
        have h2 : W1.cell? ⟨vb, j, none⟩ = some v := by rw [hv1.cell, List.getElem?_toArray]; exact hj
        unfold Addr.add
        split
        · rename_i h0; subst h0; exact h2
        · rw [Nat.zero_add]; exact h2)
      (fun j hj => by
        have hj3 : j < 3 := hj
        rw [hb1.cell, Array.getElem?_eq_getElem (by rw [layS_size, hcs]; omega)]; rfl) (fun j hj => hb1.frozen _) honey
  rw [← hW1] at hcp1 ⊢
  have hmax' : cap ≤ 9223372036854775807 := by unfold maxLen at hmax; omega
  have hmI : (cap : Int) ≤ 9223372036854775807 := by omega
  have HOV := Lib.hid hov; have HC1 := Lib.hid hcp1; have HC2 := Lib.hid hcp2; have HW1 := Lib.hid hW1
  have h0I : (0 : Int) ≤ (i : Int) + 1 := by omega
  have hz2 : ¬ ((i : Int) = (rows.length : Int)) := by omega
  have hb2 : ¬ (cap = i + 1) := by omega
  have hb4 : ¬ (cap = i) := by omega
  have hi1 : i + 1 ≤ rows.length + 1 := by omega
  have hiL : (i : Int) + 1 ≤ (rows.length : Int) + 1 := by omega
  have hb3 : (i : Int) ≤ (rows.length : Int) + 1 := by omega
  have htn : ((i : Int) + 1).toNat = i + 1 := by omega
  have htn2 : ((rows.length : Int) + 1).toNat = rows.length + 1 := by omega
  clear hov hcp1 hcp2 hW1 hb1 hv1 hm1 hone honey hsp hdl hsv hsg htk hcs hblk hvb hyb h hsz
  go_enter Try.func29, Try.ntmps29
  go_wp2_with (simp only [HOV.out])
  have hwr : IntKind.i64.wrap ((i : Int) + 1) = (i : Int) + 1 := IntWalk.i64_in _ (by omega)
  go_region_law (refine Go.Proofs.step_copy_runI rfl (.tmp 73) (.tmp 76) 54 54 rfl (.slice (some ⟨g, (i + 1) * 3, none⟩) (rows.length - i) (cap - (i + 1))) (.slice (some ⟨g, i * 3, none⟩) (rows.length + 1 - i) (cap - i)) (by simp [Act.eval, Act.put]) (by simp [Act.eval, Act.put]) (HC1.out _ _ _) ?_)
  go_wp2_with (with_reducible refine Go.Proofs.wpList_copy_runI _ rfl (.tmp 80) (.tmp 81) 54 54 rfl (.slice (some ⟨g, i * 3, none⟩) (rows.length + 1 - i) (cap - i)) (.slice (some ⟨vb, 0, none⟩) 1 c) rfl rfl (HC2.out _ _) ?_)
  go_ret
  exact ⟨rfl, rfl⟩
end Go.Proofs.Ytmgnpcoihehelaa
