/- The disk's Used, Read, Copy. -/
import Derived.Test.YtmgnpcoihehelaaDiskE
namespace Go.Proofs.Ytmgnpcoihehelaa
open Go.RowKit

theorem rd_vals (w : World) (l : List Value) (t : TypeId) (g : Nat) (hg : w.heap.size = g) : Rd (w.alloc (.cells l.toArray t)) 1 (some ⟨g, 0, none⟩) l.length l := by
  refine ⟨by simp, fun _ => ⟨_, rfl, by simp [← hg], fun j u hu => ?_⟩⟩
  exact cells_new w _ t g hg j u hu
/-- how many bytes all files have -/
def usedL (l : List FileD) : Nat := (l.map (·.b.size)).sum
def DiskD.used (D : DiskD) : Nat := usedL D.files
theorem usedL_take (l : List FileD) (k : Nat) (x : FileD) (h : l[k]? = some x) : usedL (l.take (k + 1)) = usedL (l.take k) + x.b.size := by
  rw [List.take_add_one, h]
  unfold usedL
  rw [List.map_append, List.sum_append]; simp
theorem usedL_le (l : List FileD) (k : Nat) : usedL (l.take k) ≤ usedL l := by
  conv => rhs; rw [← List.take_append_drop k l]
  unfold usedL
  rw [List.map_append, List.sum_append]; omega
set_option maxHeartbeats 4000000 in
theorem used_any (w : World) (base p : Nat) (v : Value) (D : DiskD) (h : DiskIs w base p v D) (hl : D.files.length ≤ 1000000000) (hu : D.used ≤ 1000000000000) :
    Calls Try.prog 16 #[.pointer (some ⟨p, 0, none⟩)] w fun e w' => e = .returned (.int .i64 D.used) ∧ Below w.heap.size w w' := by
  have c0 := h.blk.cell 0
  simp only [List.getElem?_toArray, List.getElem?_cons_zero] at c0
  obtain ⟨rows, hr, hR⟩ := h.row
  have hlen : rows.length = D.files.length := by rw [← hr, List.length_map]
  obtain ⟨A, c, rfl⟩ := own_shape hR.1
  have HR := Lib.hid hR; have HF := Lib.hid hr; have HL := Lib.hid hlen
  have hrl : rows.length ≤ 1000000000 := by omega
  unfold DiskD.used at *
  clear h hR hr hlen
  go_enter Try.func16, Try.ntmps16
  go_wp2
  go_loopg [2, 12] rows.length (fun gf vn vi wr => ∃ k : Nat, vi = .int .i64 k ∧ vn = .int .i64 (usedL (D.files.take k) : Nat) ∧ k + gf = rows.length ∧ Below w.heap.size w wr)
  case atStart => exact ⟨0, rfl, rfl, by omega, Below.refl _ _⟩
  case round =>
    obtain ⟨k, rfl, rfl, hk, hB⟩ := hrel
    cases gk with
    | zero =>
      obtain rfl : k = rows.length := by omega
      have hfull : D.files.take rows.length = D.files := List.take_of_length_le (by rw [HL.out]; exact Nat.le_refl _)
      rw [hfull]
      have HB := Lib.hid hB
      clear hB
      go_wp2
      go_ret
      exact ⟨rfl, HB.out⟩
    | succ gf =>
      obtain ⟨g, cap, x, A', c', hv, hx, hx2, hg, c1, c2, c3⟩ := HR.out.at_ (i := k) (by omega) hB
      simp only [Value.slice.injEq] at hv
      obtain ⟨rfl, -, rfl⟩ := hv
      have hfx : D.files[k]? = some x.1 := by rw [← HF.out, List.getElem?_map, hx]; rfl
      have hs := usedL_take _ _ _ hfx
      have hle := usedL_le D.files (k + 1)
      have hsz : usedL (D.files.take k) + x.1.b.size ≤ 1000000000000 := by omega
      have hbA := hB.alloc hB.size (.cells #[.string x.1.name, .slice A' x.1.b.size c', .int .i64 x.1.safe] 61)
      have hnb := (Blk.new wr 61 #[.string x.1.name, .slice A' x.1.b.size c', .int .i64 x.1.safe]).cell 1
      simp only [List.getElem?_toArray, List.getElem?_cons_zero, List.getElem?_cons_succ] at hnb
      have HS := Lib.hid hs; have HB := Lib.hid hbA
      have hkI : (k : Int) < (rows.length : Int) := by omega
      clear hs hle hx hx2 hfx hB hbA
      go_wp2
      go_roundg gf
      case measure => omega
      case rel => exact ⟨k + 1, by go_num, by rw [HS.out]; go_num, by omega, HB.out⟩
/-- what is read of a file -/
def DiskD.read (D : DiskD) (name : ByteArray) : Int × ByteArray :=
  if D.asked [name] ≠ 0 then (D.asked [name], ByteArray.empty)
  else if (findN (D.files.map (·.name)) name).2 = true then (0, ((D.files.map (·.b)).getD (findN (D.files.map (·.name)) name).1 ByteArray.empty)) else (5, ByteArray.empty)
theorem bt_nil (w : World) : Bt w (.slice none 0 0) ByteArray.empty := ⟨none, 0, rfl, Nat.le_refl _, fun h => absurd h (by decide)⟩
set_option maxHeartbeats 4000000 in
theorem read_any (w : World) (base p : Nat) (v : Value) (D : DiskD) (name : ByteArray) (h : DiskIs w base p v D) (hl : D.files.length ≤ 1000000000) (hb : ∀ f ∈ D.files, f.b.size ≤ 1000000000) :
    Calls Try.prog 14 #[.pointer (some ⟨p, 0, none⟩), .string name] w fun e w' => ∃ bv, e = .returned (.tuple #[bv, .int .i64 (D.read name).1]) ∧ Bt w' bv (D.read name).2 ∧ Below w.heap.size w w' := by
  have hrn := rd_vals w [.string name] 9 w.heap.size rfl
  have hBA := (Below.refl w.heap.size w).alloc (Nat.le_refl _) (.cells #[.string name] 9)
  have hA := asked_any _ base p v D (h.below hBA (Nat.le_refl _)) (some ⟨w.heap.size, 0, none⟩) 1 [name] hrn (by simp)
  have HA := Lib.hid hA; have HB := Lib.hid hBA; have H := Lib.hid h
  clear hA hrn h hBA
  unfold DiskD.read
  by_cases ha : D.asked [name] ≠ 0
  · rw [if_pos ha]
    have hab : (D.asked [name] != 0) = true := by rw [bne_iff_ne]; exact ha
    clear ha
    go_enter Try.func14, Try.ntmps14
    go_wp2_with fail
    refine HA.out.mono ?_
    rintro e w1 ⟨rfl, rfl⟩
    go_wp2
    go_ret2
    exact ⟨.slice none 0 0, rfl, bt_nil _, HB.out⟩
  · rw [if_neg ha]
    have ha0 : D.asked [name] = 0 := by omega
    rw [ha0] at HA
    have haf : ((0 : Int) != 0) = false := rfl
    have hDA := H.out.below HB.out (Nat.le_refl _)
    have HFI := Lib.hid (find_any _ base p v D hDA name (by omega))
    obtain ⟨rows, hr, hR⟩ := H.out.row
    obtain ⟨Ar, cr, rfl⟩ := own_shape hR.1
    have c0 := H.out.blk.cell 0
    simp only [List.getElem?_toArray, List.getElem?_cons_zero] at c0
    have hpl := H.out.blk.lt
    have HR := Lib.hid hR; have HL := Lib.hid hr
    obtain ⟨i, hi⟩ : ∃ i, (findN (D.files.map (·.name)) name).1 = i := ⟨_, rfl⟩
    cases ht : (findN (D.files.map (·.name)) name).2 with
    | false =>
      rw [ht, hi] at HFI
      rw [if_neg (by simp)]
      clear ha hDA hR hr c0
      go_enter Try.func14, Try.ntmps14
      go_wp2_with fail
      refine HA.out.mono ?_
      rintro e w1 ⟨rfl, rfl⟩
      go_wp2_with fail
      refine HFI.out.mono ?_
      rintro e w1 ⟨rfl, hb1⟩
      have HB1 := Lib.hid (HB.out.trans (hb1.mono HB.out.size))
      clear hb1
      go_wp2
      go_ret2
      exact ⟨.slice none 0 0, rfl, bt_nil _, HB1.out⟩
    | true =>
      have hlt : i < D.files.length := by
        have h1 : decide (bsGo (D.files.map (·.name)) name (D.files.map (·.name)).length 0 (D.files.map (·.name)).length < (D.files.map (·.name)).length) = true := by
          unfold findN at ht; simp only [Bool.and_eq_true] at ht; exact ht.1
        unfold findN at hi; dsimp only at hi
        rw [hi, List.length_map] at h1
        exact of_decide_eq_true h1
      have hrl : rows.length = D.files.length := by rw [← hr, List.length_map]
      rw [ht, hi] at HFI
      rw [if_pos rfl, hi]
      have hfi : D.files[i]? = some D.files[i] := List.getElem?_eq_getElem hlt
      have hbi : ((D.files.map (·.b)).getD i ByteArray.empty) = D.files[i].b := by rw [List.getD_eq_getElem?_getD, List.getElem?_map, hfi]; rfl
      have hbs := hb _ (List.getElem_mem hlt)
      rw [hbi]
      have hlr : i < rows.length := by omega
      have hiI : (i : Int) < (rows.length : Int) := by omega
      have hxm : ∀ x, rows[i]? = some x → x.1 = D.files[i] := by
        intro x hx
        have : D.files[i]? = some x.1 := by rw [← hr, List.getElem?_map, hx]; rfl
        rw [hfi] at this; injection this with this; exact this.symm
      have HX := Lib.hid hxm
      clear ha hDA hR hr hfi hbi hxm hrl hb ht hi
      go_enter Try.func14, Try.ntmps14
      go_wp2_with fail
      refine HA.out.mono ?_
      rintro e w1 ⟨rfl, rfl⟩
      go_wp2_with fail
      refine HFI.out.mono ?_
      rintro e w1 ⟨rfl, hb1⟩
      have hB1 := HB.out.trans (hb1.mono HB.out.size)
      have d0 := (hB1.cell (p := ⟨p, 0, none⟩) hpl).trans c0
      obtain ⟨g, cap, x, A', c', hv, hx, hx2, hg, c1, c2, c3⟩ := HR.out.at_ (i := i) hlr hB1
      simp only [Value.slice.injEq] at hv
      obtain ⟨rfl, -, rfl⟩ := hv
      have hbt := (HR.out.2 x (List.mem_of_getElem? hx)).at_ hB1 (Nat.le_refl _)
      rw [hx2, HX.out x hx] at hbt
      rw [HX.out x hx] at c2
      have HCl := Lib.hid (cloneB_any w1 _ _ hbt hbs)
      have HB1 := Lib.hid hB1
      clear hB1 hb1 hx hx2 hbt c0
      go_wp2_with fail
      refine HCl.out.mono ?_
      rintro e w2 ⟨bv, rfl, hbt2, _, hb2⟩
      go_wp2
      go_ret2
      exact ⟨bv, rfl, hbt2, HB1.out.trans (hb2.mono HB1.out.size)⟩
end Go.Proofs.Ytmgnpcoihehelaa
