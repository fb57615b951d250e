/- The manifest's bytes, as the program writes them: Put. -/
import Derived.Test.YtlcgkcafelpglaaDoorMaK
namespace Go.Proofs.YtlcgkcafelpglaaDoor
open Go.RowKit Go.Maps

set_option maxRecDepth 100000 in
set_option maxHeartbeats 4000000 in
theorem mPut_no (m : ManM) (hm : m.may = false) (w : World) : Calls Tryd.prog 9 #[.agg (mCells m)] w fun e w' => e = .returned (.tuple #[.slice none 0 0, .int .i64 2]) ∧ Below w.heap.size w w' := by
  have ha := (Below.refl w.heap.size w).alloc (Nat.le_refl _) (.cells (mCells m) 24)
  have hc := may_any m (w.alloc (.cells (mCells m) 24))
  rw [hm] at hc
  unfold mCells at ha hc ⊢
  have HA := Lib.hid ha; have HC := Lib.hid hc
  clear ha hc hm
  go_enter Tryd.func9, Tryd.ntmps9
  go_wp2_with fail
  refine HC.out.mono ?_
  rintro e w2 ⟨rfl, hb⟩
  have HB := Lib.hid (HA.out.trans (hb.mono HA.out.size))
  clear hb
  go_wp2
  go_ret2
  exact ⟨rfl, HB.out⟩
set_option maxRecDepth 100000 in
set_option maxHeartbeats 4000000 in
theorem mPut_yes (m : ManM) (hok : m.Ok) (hm : m.may = true) (w : World) : Calls Tryd.prog 9 #[.agg (mCells m)] w fun e w' => ∃ g, e = .returned (.tuple #[.slice (some ⟨g, 0, none⟩) 50 50, .int .i64 0]) ∧ w.heap.size ≤ g ∧ Blk w' g 66 (ucells m.bytes).toArray ∧ Below w.heap.size w w' := by
  have ha := (Below.refl w.heap.size w).alloc (Nat.le_refl _) (.cells (mCells m) 24)
  have hk := Blk.new w 24 (mCells m)
  have hc := may_any m (w.alloc (.cells (mCells m) 24))
  rw [hm] at hc
  have HBY := Lib.hid (bytes_any m hok)
  unfold mCells at ha hc HBY hk ⊢
  have HA := Lib.hid ha; have HC := Lib.hid hc; have HK := Lib.hid hk
  clear ha hc hm hk
  go_enter Tryd.func9, Tryd.ntmps9
  go_wp2_with fail
  refine HC.out.mono ?_
  rintro e w2 ⟨rfl, hb⟩
  have hk2 := HK.out.below hb HK.out.lt
  have c0 := hk2.cell 0; have c1 := hk2.cell 1; have c2 := hk2.cell 2; have c3 := hk2.cell 3; have c4 := hk2.cell 4; have c5 := hk2.cell 5; have c6 := hk2.cell 6
  simp only [List.getElem?_toArray, List.getElem?_cons_zero, List.getElem?_cons_succ] at c0 c1 c2 c3 c4 c5 c6
  have HB := Lib.hid (HA.out.trans (hb.mono HA.out.size))
  clear hb hk2 HC HK
  go_wp2_with fail
  refine (HBY.out w2).mono ?_
  rintro e w3 ⟨rfl, hb⟩
  have hb3 := HB.out.trans (hb.mono HB.out.size)
  have hk0 := Blk.new w3 66 zero50
  have hk1 := hk0.setRow (ucells m.bytes).toArray
  have hb4 := below_row (hb3.alloc hb3.size (.cells zero50 66)) hb3.size (ucells m.bytes).toArray
  have hle := hb3.size
  unfold zero50 at hk0 hk1 hb4
  have HK0 := Lib.hid hk0; have HK1 := Lib.hid hk1; have HB4 := Lib.hid hb4
  clear hk0 hk1 hb4 hb3 hb HB HBY c0 c1 c2 c3 c4 c5 c6
  go_wp2_with (first | (refine wpList_store_row rfl 66 (.tmp 4) (.tmp 9) rfl w3.heap.size (ucells m.bytes).toArray rfl rfl 66 _ HK0.out (raw_size m) rfl (ucells_oneA _) ?_))
  go_ret2
  exact ⟨w3.heap.size, rfl, hle, HK1.out, HB4.out⟩
end Go.Proofs.YtlcgkcafelpglaaDoor
