/- Memory: a run of cells is laid into a block; slices.Delete of files. -/
import Derived.Test.YtmgnpcoihehelaaDiskG
import Derived.Deep.RegionLaw
import Derived.Deep.Upon
namespace Go.Proofs.Ytmgnpcoihehelaa
open Go.RowKit

/-- a run of cells laid into a row of cells -/
def layS (cur : Array Value) : Nat → List Value → Array Value
  | _, [] => cur
  | o, v :: r => layS (cur.setIfInBounds o v) (o + 1) r
theorem layS_size : ∀ (vs : List Value) (o : Nat) (cur : Array Value), (layS cur o vs).size = cur.size := by
  intro vs
  induction vs with
  | nil => intro o cur; rfl
  | cons v vs ih => intro o cur; rw [layS, ih]; simp
theorem layS_list : ∀ (vs : List Value) (o : Nat) (cur : Array Value), o + vs.length ≤ cur.size → (layS cur o vs).toList = cur.toList.take o ++ vs ++ cur.toList.drop (o + vs.length) := by
  intro vs
  induction vs with
  | nil => intro o cur h; simp [layS]
  | cons v vs ih =>
    intro o cur h
    simp at h
    rw [layS, ih _ _ (by simp; omega)]
    have h1 : (cur.setIfInBounds o v).toList = cur.toList.set o v := by simp
    have hl : o < cur.toList.length := by simp; omega
    rw [h1, List.take_add_one, List.take_set_of_le (Nat.le_refl o), List.getElem?_set_self hl, List.drop_set_of_lt (by omega)]
    simp
    congr 1; omega
theorem Blk.setCells : ∀ (vs : List Value) (o : Nat) {w : World} {g : Nat} {t : TypeId} {cs : Array Value}, Blk w g t cs → Blk (w.setCells g o vs) g t (layS cs o vs) := by
  intro vs
  induction vs with
  | nil => intro o w g t cs h; exact h
  | cons v vs ih => intro o w g t cs h; exact ih (o + 1) (h.set_ o v)
theorem Moved.setCells (g : Nat) : ∀ (vs : List Value) (o : Nat) (w : World), Moved w (w.setCells g o vs) g none := by
  intro vs
  induction vs with
  | nil => intro o w; exact Moved.refl w g none
  | cons v vs ih => intro o w; exact (Moved.set_ w g o none v).trans (ih (o + 1) _) (.inl rfl)
theorem size_setCells_ (g : Nat) : ∀ (vs : List Value) (o : Nat) (w : World), (w.setCells g o vs).heap.size = w.heap.size := by
  intro vs
  induction vs with
  | nil => intro o w; rfl
  | cons v vs ih => intro o w; exact (ih (o + 1) _).trans (by simp)
theorem rcells_append (a b : List (FileD × Value)) : rcells (a ++ b) = rcells a ++ rcells b := by simp [rcells]
theorem rcells_take (l : List (FileD × Value)) (k : Nat) (h : k ≤ l.length) : (rcells l).take (k * 3) = rcells (l.take k) := by
  conv => lhs; rw [← List.take_append_drop k l]
  rw [rcells_append]
  have : (rcells (l.take k)).length = k * 3 := by rw [rcells_length, List.length_take]; congr 1; omega
  rw [← this, List.take_left]
theorem rcells_drop (l : List (FileD × Value)) (k : Nat) (h : k ≤ l.length) : (rcells l).drop (k * 3) = rcells (l.drop k) := by
  conv => lhs; rw [← List.take_append_drop k l]
  rw [rcells_append]
  have : (rcells (l.take k)).length = k * 3 := by rw [rcells_length, List.length_take]; congr 1; omega
  rw [← this, List.drop_left]
/-- one element of files is cleared -/
def zF : List Value := [.string ⟨#[]⟩, .slice none 0 0, .int .i64 0]
theorem run_clear_one {P : Program} (w : World) (t e ty : TypeId) (ht : P.underlying t = some (.slice e)) (hv : ∀ w, (zeroValue e).run P w = .ok (.agg #[.string ⟨#[]⟩, .slice none 0 0, .int .i64 0]) w) (b o c : Nat)
    (hc : ∀ j, j < 3 → (w.cell? ⟨b, o + j, none⟩).isSome = true) (hf : ∀ j, j < 3 → w.frozen? ⟨b, o + j, none⟩ = false) :
    (Builtin.clear_ #[t] ty #[.slice (some ⟨b, o, none⟩) 1 c]).run P w = .ok (.tuple #[]) (w.setCells b o zF) := by
  have hzc : (Builtin.zeroCells (Value.agg #[.string ⟨#[]⟩, .slice none 0 0, .int .i64 0]).cells 1).toList = zF := by simp [Builtin.zeroCells, zF]; rfl
  have hst := run_storeCells_cells (P := P) b o zF 0 w (by simpa [zF] using hc) (by simpa [zF] using hf) (by intro v hv'; simp [zF] at hv'; rcases hv' with rfl | rfl | rfl <;> rfl)
  simp only [Nat.add_zero] at hst
  simp [Builtin.clear_, run_underlying ht, hv, hzc, hst]
set_option maxRecDepth 100000 in
set_option maxHeartbeats 4000000 in
theorem delete_any (w : World) (base : Nat) (g cap : Nat) (rows : List (FileD × Value)) (i : Nat) (h : RowD w base (.slice (some ⟨g, 0, none⟩) rows.length cap) rows) (hi : i < rows.length) :
    Calls Try.prog 74 #[.slice (some ⟨g, 0, none⟩) rows.length cap, .int .i64 i, .int .i64 (i + 1 : Nat)] w fun e w' =>
      e = .returned (.slice (some ⟨g, 0, none⟩) (rows.length - 1) cap) ∧ RowD w' base (.slice (some ⟨g, 0, none⟩) (rows.length - 1) cap) (rows.take i ++ rows.drop (i + 1)) ∧ Moved w w' g none := by
  obtain ⟨i0, hi0, hz0, hz1, hz2⟩ := parts infoF
  have hone := rcells_one h
  have hbts := h.2
  have hlen := rcells_length rows
  rcases h.1.2 with ⟨hv, _⟩ | ⟨g', cap', cur, hv, hb1, hh, hcap, hmax, hcs, htk⟩
  · cases hv
  · simp only [Value.slice.injEq, Option.some.injEq, Addr.mk.injEq, and_true, true_and] at hv
    obtain ⟨rfl, rfl⟩ := hv
    have hblk : Blk w g 61 cur := hh
    have hcell : ∀ k, k < cap * 3 → (w.cell? ⟨g, k, none⟩).isSome = true := by
      intro k hk
      rw [hblk.cell k, Array.getElem?_eq_getElem (by omega)]; rfl
    have hnews : ∀ t u, (rcells (rows.drop (i + 1)))[t]? = some u → w.cell? ⟨g, (i + 1) * 3 + t, none⟩ = some u := by
      intro t u hu
      rw [← rcells_drop rows (i + 1) (by omega), List.getElem?_drop, ← htk, List.getElem?_take] at hu
      split at hu
      · rw [hblk.cell, ← hu, Array.getElem?_toList]
      · cases hu
    have hnl : (rcells (rows.drop (i + 1))).length = (rows.length - (i + 1)) * 3 := by rw [rcells_length, List.length_drop]
    obtain ⟨A, hA, hsrc⟩ : ∃ A : Addr, (if cap = i + 1 then some (⟨g, 0, none⟩ : Addr) else some ⟨g, (i + 1) * 3, none⟩) = some A ∧ Hid (∀ t u, (rcells (rows.drop (i + 1)))[t]? = some u → w.drew.cell? (A.add t) = some u) := by
      by_cases hc : cap = i + 1
      · refine ⟨⟨g, 0, none⟩, by simp [hc], fun t u hu => ?_⟩
        have h0 : (rcells (rows.drop (i + 1))).length = 0 := by rw [hnl]; have : rows.length - (i + 1) = 0 := by omega
                                                                rw [this]
        rw [List.length_eq_zero_iff.1 h0] at hu
        simp at hu
      · refine ⟨⟨g, (i + 1) * 3, none⟩, by simp [hc], fun t u hu => ?_⟩
        have := hnews t u hu
        unfold Addr.add
        split
        · rename_i h0; subst h0; simpa using this
        · exact this
    have s3 : Hid (∀ t, t < (rcells (rows.drop (i + 1))).length → (w.drew.cell? ⟨g, 0 + i * 3 + t, none⟩).isSome = true ∧ w.drew.frozen? ⟨g, 0 + i * 3 + t, none⟩ = false) := by
      intro t ht
      rw [hnl] at ht
      exact ⟨hcell _ (by omega), hblk.frozen _⟩
    have s2 : Hid (∀ u ∈ rcells (rows.drop (i + 1)), u.oneCell' = true) := by
      intro u hu
      refine hone u ?_
      rw [← rcells_drop rows (i + 1) (by omega)] at hu
      exact List.mem_of_mem_drop hu
    have s1 := Lib.hid hnl
    obtain ⟨W1, hW1⟩ : ∃ W1, W1 = w.drew.setCells g (0 + i * 3) (rcells (rows.drop (i + 1))) := ⟨_, rfl⟩
    have hb1' : Blk W1 g 61 (layS cur (0 + i * 3) (rcells (rows.drop (i + 1)))) := by rw [hW1]; exact hblk.drew.setCells _ _
    have hsz1 : (layS cur (0 + i * 3) (rcells (rows.drop (i + 1)))).size = cap * 3 := by rw [layS_size, hcs]
    have hcl : ∀ ty c, (Builtin.clear_ #[54] ty #[.slice (some ⟨g, (rows.length - 1) * 3, none⟩) 1 c]).run Try.prog W1 = .ok (.tuple #[]) (W1.setCells g ((rows.length - 1) * 3) zF) :=
      fun ty c => run_clear_one W1 _ _ ty Try.underlying54 Try.zeroValue61 g _ c (fun j hj => by rw [hb1'.cell, Array.getElem?_eq_getElem (by omega)]; rfl) (fun j hj => hb1'.frozen _)
    have HW := Lib.hid hW1; have HCL := Lib.hid hcl
    have hIJ : ((i : Int) == ((i + 1 : Nat) : Int)) = false := by rw [beq_eq_false_iff_ne]; omega
    have hi1 : i + 1 ≤ rows.length := hi
    have hic : i ≤ cap := by omega
    have hjc : i + 1 ≤ cap := by omega
    have h0I : (0 : Int) ≤ (i : Int) + 1 := by omega
    have hicI : (i : Int) ≤ (cap : Int) := by omega
    have hjcI : (i : Int) + 1 ≤ (cap : Int) := by omega
    have hi1I : (i : Int) + 1 ≤ (rows.length : Int) := by omega
    have HI0 := Lib.hid hi0; have HT := Lib.hid htk; have HCS := Lib.hid hcs; have HBK := Lib.hid hblk; have HB1 := Lib.hid hb1'; have HBT := Lib.hid hbts; have HLN := Lib.hid hlen
    clear hW1 hcl hcell hnews hnl hone hi0 htk hcs hblk hb1' hbts hlen hh hsz1 h hz0
    go_enter Try.func74, Try.ntmps74
    go_wp2_with fail
    go_region_law (refine step_append_room rfl (.tmp 22) (.tmp 25) 54 rfl 61 i0 3 Try.underlying54 HI0.out hz1 g 0 i cap (by simp [Act.eval, Act.put]) A (rows.length - (i + 1)) (cap - (i + 1)) (rcells (rows.drop (i + 1))) (by simp [Act.eval, Act.put]) s1.out hsrc.out s2.out (by omega) s3.out ?_; rw [← HW.out])
    have hcl := HCL.out
    obtain ⟨m, hm⟩ : ∃ m, i + (rows.length - (i + 1)) = m := ⟨_, rfl⟩
    have hm1 : rows.length - 1 = m := by omega
    have hm2 : rows.length - m = 1 := by omega
    rw [hm1] at hcl
    rw [hm]
    have hcl2 : ∀ ty, (Builtin.clear_ #[54] ty #[.slice (some ⟨g, m * 3, none⟩) (rows.length - m) (cap - m)]).run Try.prog W1 = .ok (.tuple #[]) (W1.setCells g (m * 3) zF) := fun ty => by rw [hm2]; exact hcl ty _
    have hmc : m ≤ cap := by omega
    have hmcI : (m : Int) ≤ (cap : Int) := by omega
    have hmr : m ≤ rows.length := by omega
    have hmrI : (m : Int) ≤ (rows.length : Int) := by omega
    have hne : ¬ cap = m := by omega
    have hcapI : (rows.length : Int) ≤ (cap : Int) := by omega
    have HM1 := Lib.hid hm1; have HM := Lib.hid hm
    clear hcl HCL hm1 hm2 hm
    go_wp2_with fail
    go_ret
    have hm1 := HM1.out
    have hm := HM.out
    have hmv : Moved w (W1.setCells g (m * 3) zF) g none := by
      rw [HW.out]
      have h1 := Moved.setCells g (rcells (rows.drop (i + 1))) (0 + i * 3) w.drew
      have h0 : Moved w w.drew g none := ⟨rfl, rfl, rfl, Nat.le_refl _, fun _ _ _ _ => rfl⟩
      exact (h0.trans h1 (.inl rfl)).trans (Moved.setCells g zF (m * 3) _) (.inl rfl)
    have hnl := s1.out
    have hcs := HCS.out
    have hk2 := HB1.out.setCells zF (m * 3)
    have hs1 : (layS cur (0 + i * 3) (rcells (rows.drop (i + 1)))).size = cap * 3 := by rw [layS_size, hcs]
    have hl2 := layS_list zF (m * 3) _ (by rw [hs1]; show m * 3 + 3 ≤ cap * 3; omega : m * 3 + zF.length ≤ (layS cur (0 + i * 3) (rcells (rows.drop (i + 1)))).size)
    have hl1 := layS_list (rcells (rows.drop (i + 1))) (0 + i * 3) cur (by rw [hnl, hcs]; omega)
    have hti : cur.toList.take (0 + i * 3) = rcells (rows.take i) := by
      rw [← rcells_take rows i (by omega), ← HT.out, List.take_take, Nat.zero_add]
      congr 1; omega
    have hcl1 : cur.toList.length = cap * 3 := by rw [Array.length_toList, hcs]
    have htot : (rcells (rows.take i) ++ rcells (rows.drop (i + 1))).length = m * 3 := by
      rw [List.length_append, rcells_length, hnl, List.length_take]; omega
    have htk2 : (layS (layS cur (0 + i * 3) (rcells (rows.drop (i + 1)))) (m * 3) zF).toList.take (m * 3) = rcells (rows.take i ++ rows.drop (i + 1)) := by
      rw [hl2, hl1, hti, List.append_assoc (List.take (m * 3) _)]
      have h1 : (List.take (m * 3) (rcells (rows.take i) ++ rcells (rows.drop (i + 1)) ++ List.drop (0 + i * 3 + (rcells (rows.drop (i + 1))).length) cur.toList)) = rcells (rows.take i) ++ rcells (rows.drop (i + 1)) := by
        rw [← htot, List.take_left]
      rw [h1]
      conv => lhs; rw [← htot]
      rw [List.take_left, rcells_append]
    have hrl : (rows.take i ++ rows.drop (i + 1)).length = m := by rw [List.length_append, List.length_take, List.length_drop]; omega
    refine ⟨by rw [hm1]; rfl, ⟨⟨by rw [rcells_length], .inr ⟨g, cap, _, by rw [hrl, hm1], hb1, hk2, by omega, hmax, by rw [layS_size, hs1], by rw [hrl]; exact htk2⟩⟩, fun x hx => ?_⟩, hmv⟩
    have hxr : x ∈ rows := by
      rcases List.mem_append.1 hx with hx | hx
      · exact List.mem_of_mem_take hx
      · exact List.mem_of_mem_drop hx
    exact (HBT.out x hxr).moved hmv (fun cs fz hh => blk_type HBK.out hh (by decide)) (fun n hn => by cases hn)
end Go.Proofs.Ytmgnpcoihehelaa
