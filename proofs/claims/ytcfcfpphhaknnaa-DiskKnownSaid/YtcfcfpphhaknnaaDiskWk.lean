/- The laws' short call: works. -/
import Derived.Test.YtcfcfpphhaknnaaDk4
namespace Go.Proofs.Ytcfcfpphhaknnaa
open Go.RowKit

set_option maxRecDepth 100000 in
set_option maxHeartbeats 8000000 in
theorem works_any (w : World) : Calls Try.prog 7 #[] w fun e w' => e = .returned (.bool true) ∧ Below w.heap.size w w' := by
  have e1 : (⟨[], 100, 0, -1, false⟩ : DiskD).append ⟨#[97]⟩ ⟨#[1, 2]⟩ = (0, ⟨[⟨⟨#[97]⟩, ⟨#[1, 2]⟩, -1⟩], 100, 1, -1, false⟩) := nil_append rfl (by decide) (by decide)
  have e2 : (⟨[⟨⟨#[97]⟩, ⟨#[1, 2]⟩, -1⟩], 100, 1, -1, false⟩ : DiskD).step 0 ⟨#[97]⟩ ⟨#[97]⟩ 0 true = (0, ⟨[⟨⟨#[97]⟩, ⟨#[1, 2]⟩, 2⟩], 100, 2, -1, false⟩) := one_sync rfl
  have e3 : (⟨[⟨⟨#[97]⟩, ⟨#[1, 2]⟩, 2⟩], 100, 2, -1, false⟩ : DiskD).append ⟨#[97]⟩ ⟨#[3, 4]⟩ = (0, ⟨[⟨⟨#[97]⟩, ⟨#[1, 2, 3, 4]⟩, 2⟩], 100, 3, -1, false⟩) := one_append rfl (by decide) (by decide)
  have e5 : (⟨[⟨⟨#[97]⟩, ⟨#[1, 2, 3, 4]⟩, 2⟩], 100, 3, -1, true⟩ : DiskD).on [1] = ⟨[⟨⟨#[97]⟩, ⟨#[1, 2, 3]⟩, 3⟩], 100, 3, -1, false⟩ := one_on _ (some 1) _ rfl (by decide)
  have e6 : (⟨[⟨⟨#[97]⟩, ⟨#[1, 2, 3]⟩, 3⟩], 100, 3, -1, false⟩ : DiskD).read ⟨#[97]⟩ = (0, ⟨#[1, 2, 3]⟩) := one_read rfl
  have E1 := Lib.hid e1; have E2 := Lib.hid e2; have E3 := Lib.hid e3; have E5 := Lib.hid e5; have E6 := Lib.hid e6
  clear e1 e2 e3 e5 e6
  go_enter Try.func7, Try.ntmps7
  go_wp2_with fail
  refine (new_any 100 _).mono ?_
  rintro e w1 ⟨rfl, hd1, hb1⟩
  have hp1 := hd1.blk.lt
  have hd2 := hd1.below ((Below.refl w1.heap.size w1).alloc (Nat.le_refl _) (.cells (ucells ⟨#[1, 2]⟩).toArray 5)) (Nat.le_refl _)
  have hb2 := hb1.alloc hb1.size (.cells (ucells ⟨#[1, 2]⟩).toArray 5)
  have hc := d_append hd2 hb2.size (fit_small (by simp) (by simp <;> decide) (by decide) (by decide) (by decide) (by decide)) (by simp [DiskD.used, usedL] <;> decide) (bt_lit w1 ⟨#[1, 2]⟩ _ rfl).btr (by decide) E1.out
  have HC := Lib.hid hc; have HB2 := Lib.hid hb2
  clear hc hd1 hd2 hb1 hb2
  go_wp2_with fail
  refine HC.out.mono ?_
  rintro e w3 ⟨rfl, v3, o3⟩
  have hb3 := HB2.out.trans (o3.below.mono (Nat.le_refl _))
  have hc := d_sync o3.is hb3.size (fit_small (by simp) (by simp <;> decide) (by decide) (by decide) (by decide) (by decide)) E2.out
  have HC3 := Lib.hid hc; have HB3 := Lib.hid hb3
  clear hc hb3 o3
  go_wp2_with fail
  refine HC3.out.mono ?_
  rintro e w4 ⟨rfl, v4, o4⟩
  have hb4 := HB3.out.trans o4.below
  have hd5 := o4.is.below ((Below.refl w4.heap.size w4).alloc (Nat.le_refl _) (.cells (ucells ⟨#[3, 4]⟩).toArray 5)) (Nat.le_refl _)
  have hb5 := hb4.alloc hb4.size (.cells (ucells ⟨#[3, 4]⟩).toArray 5)
  have hc := d_append hd5 hb5.size (fit_small (by simp) (by simp <;> decide) (by decide) (by decide) (by decide) (by decide)) (by simp [DiskD.used, usedL] <;> decide) (bt_lit w4 ⟨#[3, 4]⟩ _ rfl).btr (by decide) E3.out
  have HC5 := Lib.hid hc; have HB5 := Lib.hid hb5
  clear hc hd5 hb4 hb5 o4
  go_wp2_with fail
  refine HC5.out.mono ?_
  rintro e w6 ⟨rfl, v6, o6⟩
  have hb6 := HB5.out.trans o6.below
  have hc := d_crash o6.is hb6.size rfl
  have HC6 := Lib.hid hc; have HB6 := Lib.hid hb6
  clear hc hb6 o6
  go_wp2_with fail
  refine HC6.out.mono ?_
  rintro e w7 ⟨rfl, v7, o7⟩
  have hb7 := HB6.out.trans o7.below
  have hd8 := o7.is.below ((Below.refl w7.heap.size w7).alloc (Nat.le_refl _) (.cells #[.int .i64 1] 3)) (Nat.le_refl _)
  have hb8 := hb7.alloc hb7.size (.cells #[.int .i64 1] 3)
  have hp8 := o7.is.blk.lt
  have hc := d_on hd8 hb8.size (fit_small (by simp) (by simp <;> decide) (by decide) (by decide) (by decide) (by decide)) (by simp [SafeOk]; decide) (A := some ⟨w7.heap.size, 0, none⟩) (c := 1) (keep := [1]) (rd_vals w7 [.int .i64 1] 3 w7.heap.size rfl) (fun ad he => by injection he with he; subst he; show w7.heap.size ≠ _; omega) (by simp) E5.out
  have HC8 := Lib.hid hc; have HB8 := Lib.hid hb8
  clear hc hd8 hb7 hb8 o7
  go_wp2_with fail
  refine HC8.out.mono ?_
  rintro e w9 ⟨rfl, v9, o9⟩
  have hb9 := HB8.out.trans o9.below
  have hc := d_read o9.is (fit_small (by simp) (by simp <;> decide) (by decide) (by decide) (by decide) (by decide)) E6.out
  have HC9 := Lib.hid hc; have HB9 := Lib.hid hb9; have H9 := Lib.hid o9.is
  clear hc hb9 o9
  go_wp2_with fail
  refine HC9.out.mono ?_
  rintro e w10 ⟨bv, rfl, hbt, hb10⟩
  have hcv := hbt.conv
  have hbz := HB9.out.trans (hb10.mono HB9.out.size)
  have hn := names_any w10 _ _ _ _ (H9.out.below hb10 (Nat.le_refl _)) (by simp)
  have HB10 := Lib.hid hbz; have HN := Lib.hid hn
  clear hbt hb10 hbz hn
  go_wp2_with fail
  refine HN.out.mono ?_
  rintro e w11 ⟨A, c, rfl, -, hb11⟩
  have HB11 := Lib.hid (HB10.out.trans (hb11.mono HB10.out.size))
  clear hb11
  go_wp2
  go_ret
  exact ⟨rfl, HB11.out⟩
end Go.Proofs.Ytcfcfpphhaknnaa
