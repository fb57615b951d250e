/- The disk's Copy. -/
import Derived.Test.YtmgnpcoihehelaaDiskF
namespace Go.Proofs.Ytmgnpcoihehelaa
open Go.RowKit

set_option maxHeartbeats 4000000 in
theorem copy_any (w : World) (base p : Nat) (v : Value) (D : DiskD) (h : DiskIs w base p v D) (hl : D.files.length ≤ 1000000000) :
    Calls Try.prog 11 #[.pointer (some ⟨p, 0, none⟩)] w fun e w' => ∃ v', e = .returned (.pointer (some ⟨w.heap.size, 0, none⟩)) ∧ DiskIs w' w.heap.size w.heap.size v' D ∧ Below w.heap.size w w' := by
  obtain ⟨rows, hr, hR⟩ := h.row
  obtain ⟨A, c, rfl⟩ := own_shape hR.1
  have hrl : rows.length = D.files.length := by rw [← hr, List.length_map]
  have hb := h.blk
  have c0 := hb.cell 0; have c1 := hb.cell 1; have c2 := hb.cell 2; have c3 := hb.cell 3; have c4 := hb.cell 4
  simp only [List.getElem?_toArray, List.getElem?_cons_zero, List.getElem?_cons_succ] at c0 c1 c2 c3 c4
  have hpl := hb.lt
  have hBA := (Below.refl w.heap.size w).alloc (Nat.le_refl _) (.cells #[.slice A rows.length c, .int .i64 D.quota, .int .i64 D.steps, .int .i64 D.left, .bool D.off] 56)
  have hRA : RowD (w.alloc (.cells #[.slice A rows.length c, .int .i64 D.quota, .int .i64 D.steps, .int .i64 D.left, .bool D.off] 56)) base (.slice A rows.length c) rows := hR.keep (fun g hg => hBA.block g (h.own g hg).2.1) (fun blk cs fz hh => hBA.block blk (Array.getElem?_eq_some_iff.1 hh).1)
  have hC := cloneF_any _ base _ rows hRA (by omega)
  have hnb := Blk.new w 56 #[.slice A rows.length c, .int .i64 D.quota, .int .i64 D.steps, .int .i64 D.left, .bool D.off]
  have HC := Lib.hid hC; have HB := Lib.hid hBA; have HN := Lib.hid hnb; have HR := Lib.hid hr
  clear hC hBA hnb hr hRA hR h hb hrl
  go_enter Try.func11, Try.ntmps11
  go_wp2_with fail
  refine HC.out.mono ?_
  rintro e w1 ⟨v', rfl, hR1, hb1⟩
  have hn1 := HN.out.below hb1 (by simp)
  have d0 := hn1.cell 0
  simp only [List.getElem?_toArray, List.getElem?_cons_zero] at d0
  have f0 := hn1.frozen 0
  have hm := Moved.set_ w1 w.heap.size 0 none v'
  have hset := hn1.set_ 0 v'
  have hB1 := HB.out.trans (hb1.mono HB.out.size)
  have ho1 : ∀ g : Nat, v'.ownBlock = some g → w.heap.size < g := fun g hg => by
    have := (hR1.1.lt g hg).1
    simp at this; omega
  have hfin : DiskIs (w1.setCell ⟨w.heap.size, 0, none⟩ v') w.heap.size w.heap.size v' D := by
    refine ⟨Nat.le_refl _, hset, rows, HR.out, ⟨hR1.1.1, ?_⟩, fun x hx => (hR1.2 x hx).keep fun blk cs fz hh => ?_⟩
    · rcases hR1.1.2 with hn | ⟨g, cap, cur, hv, hb, hh, rest⟩
      · exact .inl hn
      · refine .inr ⟨g, cap, cur, hv, by simp at hb; omega, ?_, rest⟩
        exact (Below.heap_setCell w1 _ v' g (by have := ho1 g (by rw [hv]; rfl); show g ≠ w.heap.size; omega)).trans hh
    · exact Below.heap_setCell w1 _ v' blk (fun e => by subst e; exact blk_type hn1 hh (by decide))
  have HF := Lib.hid hfin
  have HBF := Lib.hid (hB1.setCell (p := ⟨w.heap.size, 0, none⟩) (Nat.le_refl _) v')
  have HO1 := Lib.hid (own_shape hR1.1)
  obtain ⟨A', c', rfl⟩ := HO1.out
  clear hfin hset hm hB1 hb1 hR1 ho1 hn1
  go_wp2
  go_ret
  exact ⟨_, rfl, HF.out, HBF.out⟩
end Go.Proofs.Ytmgnpcoihehelaa
