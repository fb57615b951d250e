/- The disk's steps: moves. -/
import Derived.Test.YtmgnpcoihehelaaDiskQ
import Derived.Deep.RegionHeld3
import Derived.Deep.DrawnRows
namespace Go.Proofs.Ytmgnpcoihehelaa
open Go.RowKit

/-- a file's place in a row is taken: as it stands there, or put in -/
def putL (l : List FileD) (k : Nat) (there : Bool) (f : FileD) : List FileD := if there = true then l.set k f else l.take k ++ f :: l.drop k
theorem findN_lt (l : List ByteArray) (t : ByteArray) (h : (findN l t).2 = true) : (findN l t).1 < l.length := by
  have h1 : decide (bsGo l t l.length 0 l.length < l.length) = true := by
    unfold findN at h; simp only [Bool.and_eq_true] at h; exact h.1
  exact of_decide_eq_true h1
theorem bsGo_le (l : List ByteArray) (t : ByteArray) : ∀ (f i j : Nat), i ≤ j → bsGo l t f i j ≤ j := by
  intro f
  induction f with
  | zero => intro i j h; exact h
  | succ f ih =>
    intro i j h
    rw [bsGo]
    split
    · split
      · exact ih _ _ (by omega)
      · exact Nat.le_trans (ih _ _ (by omega)) (by omega)
    · exact h
theorem findN_le (l : List ByteArray) (t : ByteArray) : (findN l t).1 ≤ l.length := bsGo_le l t _ _ _ (Nat.zero_le _)
theorem rcells_set3 (l : List (FileD × Value)) (i : Nat) (x y : FileD × Value) (h : l[i]? = some x) : (((rcells l).set (i * 3) (.string y.1.name)).set (i * 3 + 1) y.2).set (i * 3 + 2) (.int .i64 y.1.safe) = rcells (l.set i y) := by
  have hlt := (List.getElem?_eq_some_iff.1 h).1
  obtain ⟨h1, h2⟩ := rcells_split l i x h
  obtain ⟨h3, h4⟩ := rcells_split (l.set i y) i y (by rw [List.getElem?_set_self hlt])
  rw [h1, h3, List.take_set_of_le (Nat.le_refl i), List.drop_set_of_lt (by omega)]
  rw [List.set_append_right _ _ (by omega), h2, List.set_append_right _ _ (by omega), h2, List.set_append_right _ _ (by omega), h2, show i * 3 - i * 3 = 0 by omega, show i * 3 + 1 - i * 3 = 1 by omega, show i * 3 + 2 - i * 3 = 2 by omega]
  simp [fcells]
/-- a file is written whole -/
theorem RowD.put {w : World} {base g cap : Nat} {rows : List (FileD × Value)} (h : RowD w base (.slice (some ⟨g, 0, none⟩) rows.length cap) rows) {i : Nat} {x y : FileD × Value} (hx : rows[i]? = some x) (hy : Bt w y.2 y.1.b) :
    RowD (((w.setCell ⟨g, i * 3, none⟩ (.string y.1.name)).setCell ⟨g, i * 3 + 1, none⟩ y.2).setCell ⟨g, i * 3 + 2, none⟩ (.int .i64 y.1.safe)) base (.slice (some ⟨g, 0, none⟩) rows.length cap) (rows.set i y) ∧
      Moved w (((w.setCell ⟨g, i * 3, none⟩ (.string y.1.name)).setCell ⟨g, i * 3 + 1, none⟩ y.2).setCell ⟨g, i * 3 + 2, none⟩ (.int .i64 y.1.safe)) g none := by
  have hm : Moved w (((w.setCell ⟨g, i * 3, none⟩ (.string y.1.name)).setCell ⟨g, i * 3 + 1, none⟩ y.2).setCell ⟨g, i * 3 + 2, none⟩ (.int .i64 y.1.safe)) g none := ((Moved.set_ w g (i * 3) none _).trans (Moved.set_ _ g (i * 3 + 1) none y.2) (.inl rfl)).trans (Moved.set_ _ g (i * 3 + 2) none _) (.inl rfl)
  rcases h.1.2 with ⟨hv, _⟩ | ⟨g', cap', cur, hv, hb1, hh, hcap, hmax, hcs, htk⟩
  · cases hv
  · simp only [Value.slice.injEq, Option.some.injEq, Addr.mk.injEq, and_true, true_and] at hv
    obtain ⟨rfl, rfl⟩ := hv
    have hblk : Blk w g 61 cur := hh
    have hk := ((hblk.set_ (i * 3) (.string y.1.name)).set_ (i * 3 + 1) y.2).set_ (i * 3 + 2) (.int .i64 y.1.safe)
    have hu : ∀ cs fz, w.heap[g]? ≠ some (Obj.cells cs 5 fz) := fun cs fz e => blk_type hblk e (by decide)
    refine ⟨⟨⟨by rw [rcells_length], .inr ⟨g, cap, _, by rw [List.length_set], hb1, hk, by rw [List.length_set]; exact hcap, hmax, by simpa using hcs, ?_⟩⟩, fun z hz => ?_⟩, hm⟩
    · rw [List.length_set, ← rcells_set3 rows i x y hx, ← htk]
      have hlt := (List.getElem?_eq_some_iff.1 hx).1
      simp only [Array.toList_setIfInBounds]
      rw [List.take_set, List.take_set, List.take_set]
    · rcases List.mem_or_eq_of_mem_set hz with hz | rfl
      · exact (h.2 z hz).moved hm hu (fun n hn => by cases hn)
      · exact hy.moved hm hu (fun n hn => by cases hn)
theorem Moved.drew_ {w w' : World} {p : Nat} {g : Option Nat} (h : Moved w w' p g) : Moved w w'.drew p g := ⟨h.os, h.tape, h.output, h.size, h.block⟩
theorem own_shape' {w : World} {b : Nat} {e : TypeId} {size : Nat} {v : Value} {n : Nat} {xs : List Value} (h : w.ownsRow b e size v n xs) : ∃ A m c, v = .slice A m c :=
  let ⟨A, c, h⟩ := own_shape h
  ⟨A, n, c, h⟩
attribute [local go_sem ↓] Go.wp_at_zero Go.wp_at_succ
set_option maxRecDepth 100000 in
set_option maxHeartbeats 8000000 in
theorem moves_any (w : World) (base p : Nat) (v : Value) (D : DiskD) (i n : Nat) (to : ByteArray) (f : FileD) (h : DiskIs w base p v D) (hi : D.files[i]? = some f) (hl : D.files.length ≤ 100000000) (hbase : base ≤ w.heap.size) :
    Calls Try.prog 64 #[.pointer (some ⟨p, 0, none⟩), .int .i64 i, .int .i64 n, .string to] w fun e w' => ∃ v', e = .returned (.tuple #[]) ∧
      DiskIs w' base p v' { D with files := putL (D.files.take i ++ D.files.drop (i + 1)) (findN ((D.files.take i ++ D.files.drop (i + 1)).map (·.name)) to).1 (findN ((D.files.take i ++ D.files.drop (i + 1)).map (·.name)) to).2 ⟨to, f.b, n⟩ } ∧
      Moved w w' p v.ownBlock ∧ (v'.ownBlock = v.ownBlock ∨ ∃ k, v'.ownBlock = some k ∧ w.heap.size ≤ k) := by
  obtain ⟨rows, hr, hR⟩ := h.row
  have hrl : rows.length = D.files.length := by rw [← hr, List.length_map]
  have hilt := (List.getElem?_eq_some_iff.1 hi).1
  obtain ⟨g, cap, x, A, c, hv, hx, hx2, hg, c1, c2, c3⟩ := hR.at_ (i := i) (by omega) (Below.refl _ _)
  subst hv
  have hxf : x.1 = f := by
    have : D.files[i]? = some x.1 := by rw [← hr, List.getElem?_map, hx]; rfl
    rw [hi] at this; injection this with this; exact this.symm
  have c0 := h.blk.cell 0
  simp only [List.getElem?_toArray, List.getElem?_cons_zero] at c0
  have hbx := hR.2 x (List.mem_of_getElem? hx)
  rw [hx2, hxf] at hbx
  rw [hxf] at c1 c2 c3
  have hB2 := (Below.refl w.heap.size w).alloc (Nat.le_refl _) (.cells #[.string to, .slice A f.b.size c, .int .i64 n] 61)
  have hD2 := h.below hB2 (Nat.le_refl _)
  have hC := drops_any _ base p _ D i n to hD2 hilt (by omega)
  have hbx2 := hbx.below hB2
  have hnb := Blk.new w 61 #[.string to, .slice A f.b.size c, .int .i64 n]
  have hown := h.own g rfl
  have hpl := h.blk.lt
  have hiI : (i : Int) < (rows.length : Int) := by omega
  have hir : i < rows.length := by omega
  have HC := Lib.hid hC; have HB2 := Lib.hid hB2; have HX2 := Lib.hid hbx2; have HN := Lib.hid hnb; have HD2 := Lib.hid hD2
  have HR2 := Lib.hid (own_type (World.ownsRow.alloc hR.1 (.cells #[.string to, .slice A f.b.size c, .int .i64 n] 61)) (t := 5) (by decide))
  clear hC hB2 hbx2 hbx hnb hD2 hR hr h hx hx2 hxf hi hrl
  obtain ⟨L, hL⟩ : ∃ L, D.files.take i ++ D.files.drop (i + 1) = L := ⟨_, rfl⟩
  have hLl : L.length ≤ 100000000 := by rw [← hL, List.length_append, List.length_take, List.length_drop]; omega
  rw [hL] at HC ⊢
  obtain ⟨k, hk⟩ : ∃ k, (findN (L.map (·.name)) to).1 = k := ⟨_, rfl⟩
  obtain ⟨th, hth⟩ : ∃ th, (findN (L.map (·.name)) to).2 = th := ⟨_, rfl⟩
  have hkl : k ≤ L.length := by have := findN_le (L.map (·.name)) to; rw [hk, List.length_map] at this; exact this
  have hkt : th = true → k < L.length := fun h => by have := findN_lt (L.map (·.name)) to (hth.trans h); rw [hk, List.length_map] at this; exact this
  rw [hk, hth]
  have HKT := Lib.hid hkt; have HK := Lib.hid hk; have HTH := Lib.hid hth
  have hsz2 : (w.alloc (.cells #[.string to, .slice A f.b.size c, .int .i64 n] 61)).heap.size = w.heap.size + 1 := by simp
  have HSZ2 := Lib.hid hsz2
  clear hL hk hth hkt hsz2
  go_enter Try.func64, Try.ntmps64
  go_wp2_with fail
  refine HC.out.mono ?_
  rintro e w3 ⟨v1, rfl, hD3, hm3, ho3⟩
  have hsz3 := hm3.size
  rw [HSZ2.out] at hsz3
  have hN3 : Blk w3 w.heap.size 61 #[.string to, .slice A f.b.size c, .int .i64 n] := (hm3.block w.heap.size (by simp) (by omega) (by simp [Value.ownBlock]; omega)).trans HN.out
  have hX3 := HX2.out.moved hm3 HD2.out.noU HR2.out
  have hF := find_any w3 base p v1 _ hD3 to (by show L.length ≤ _; omega)
  have hF2 : findN (L.map (·.name)) to = (k, th) := Prod.ext HK.out HTH.out
  dsimp only at hF
  rw [hF2] at hF
  have HF := Lib.hid hF; have HN3 := Lib.hid hN3; have HX3 := Lib.hid hX3; have HD3 := Lib.hid hD3; have HM3 := Lib.hid hm3; have HO3 := Lib.hid ho3
  clear hF hF2 hN3 hX3 hD3 hm3 ho3
  go_wp2_with fail
  refine HF.out.mono ?_
  rintro e w4 ⟨rfl, hb4⟩
  have hD4 := HD3.out.below hb4 (Nat.le_refl _)
  have hN4 := HN3.out.below hb4 (by omega)
  have hX4 := HX3.out.below hb4
  have hsz4 := hb4.size
  have d0 := hD4.blk.cell 0
  simp only [List.getElem?_toArray, List.getElem?_cons_zero] at d0
  have n0 := hN4.cell 0; have n1 := hN4.cell 1; have n2 := hN4.cell 2
  simp only [List.getElem?_toArray, List.getElem?_cons_zero, List.getElem?_cons_succ] at n0 n1 n2
  obtain ⟨rows4, hr4, hR4⟩ := hD4.row
  have hl4 : rows4.length = L.length := by have := congrArg List.length hr4; simpa using this
  have HL4 := Lib.hid hl4
  have hkr4 : k ≤ rows4.length := by omega
  have hlr4 : rows4.length ≤ 100000000 := by omega
  clear hl4
  cases th with
  | true =>
    have hk4 := HKT.out rfl
    have hl4 := HL4.out
    obtain ⟨g4, cap4, x4, A4, cc4, hv4, hx4, hx42, hg4, e1, e2, e3⟩ := hR4.at_ (i := k) (by omega) (Below.refl _ _)
    subst hv4
    have hgg : g4 = g := by
      have := HO3.out
      simpa [Value.ownBlock] using this
    have hgp : g4 ≠ p := fun e => hown.2.2 (hgg.symm.trans e)
    have hgw : g4 ≠ w.heap.size := by rw [hgg]; omega
    have hgp' := hgp.symm; have hgw' := hgw.symm
    have HGG := Lib.hid hgg
    clear hgg
    have hput := hR4.put (y := (⟨to, f.b, n⟩, .slice A f.b.size c)) hx4 hX4
    have hfin := hD4.row_put rfl hput.2 hput.1
    obtain ⟨cur, hgb⟩ : ∃ cur, Blk w4 g4 61 cur := by
      rcases hR4.1.2 with ⟨hv, _⟩ | ⟨g', cap', cur, hv, _, hh, _⟩
      · cases hv
      · simp only [Value.slice.injEq, Option.some.injEq, Addr.mk.injEq, and_true, true_and] at hv
        obtain ⟨rfl, rfl⟩ := hv
        exact ⟨cur, hh⟩
    have f0 := hgb.frozen (k * 3); have f1 := hgb.frozen (k * 3 + 1); have f2 := hgb.frozen (k * 3 + 2)
    have hkI : (k : Int) < (rows4.length : Int) := by omega
    have hkr : k < rows4.length := by omega
    have HFin := Lib.hid hfin; have HX4 := Lib.hid hx4; have HR4 := Lib.hid hr4; have HB4 := Lib.hid hb4
    clear hl4 hput hfin hgb hx4 hx42 hR4 hr4 hD4 hN4 hX4 hb4
    go_wp2_with fail
    go_region_held3 (fun w' => w'.cell? ⟨p, 0, none⟩ = some (.slice (some ⟨g4, 0, none⟩) rows4.length cap4) ∧ w'.cell? ⟨w.heap.size, 0, none⟩ = some (.string to) ∧ w'.cell? ⟨w.heap.size, 1, none⟩ = some (.slice A f.b.size c) ∧ w'.cell? ⟨w.heap.size, 2, none⟩ = some (.int .i64 n)) (go_keep) (fail)
    go_wp2
    refine bodyPost_ret (results_none rfl _ _ _) rfl ?_
    have hm : Moved w w4 p (some g) := ((Moved.of_below HB2.out p (some g)).trans HM3.out (.inl rfl)).trans (Moved.of_below HB4.out p (some g)) (.inl rfl)
    have hfs : (rows4.set k ((⟨to, f.b, n⟩ : FileD), Value.slice A f.b.size c)).map (·.1) = putL L k true ⟨to, f.b, n⟩ := by
      rw [List.map_set, HR4.out, putL, if_pos rfl]
    have hD := HFin.out.1
    rw [hfs] at hD
    refine ⟨_, rfl, hD, ?_, .inl HO3.out⟩
    exact (hm.trans HFin.out.2 (.inl (by show some g4 = some g; rw [HGG.out]))).drew_
  | false =>
    obtain ⟨A1, cc1, rfl⟩ := own_shape hR4.1
    have hbA := (Below.refl w4.heap.size w4).alloc (Nat.le_refl _) (.cells #[.string to, .slice A f.b.size c, .int .i64 n] 61)
    have hRA : RowD (w4.alloc (.cells #[.string to, .slice A f.b.size c, .int .i64 n] 61)).drew base (.slice A1 rows4.length cc1) rows4 := hR4.keep (fun g' hg' => hbA.block g' (hD4.own g' hg').2.1) (fun blk cs fz hh => hbA.block blk (Array.getElem?_eq_some_iff.1 hh).1)
    have hXA : Bt (w4.alloc (.cells #[.string to, .slice A f.b.size c, .int .i64 n] 61)).drew (.slice A f.b.size c) f.b := hX4.below hbA.drew
    have hown4 : ∀ g', (Value.slice A1 rows4.length cc1).ownBlock = some g' → g' = g := fun g' hg' => by
      have := HO3.out
      rw [hg'] at this
      simpa [Value.ownBlock] using this
    have hI := insert_any _ base _ rows4 k (⟨to, f.b, n⟩, .slice A f.b.size c) w4.heap.size 1 hRA (by omega) (by omega) (by simp; omega) (Blk.new w4 61 #[.string to, .slice A f.b.size c, .int .i64 n]) (fun e => by have := hown4 _ e; omega) hXA
    have hp4 : p < w4.heap.size := by omega
    have hwp : w.heap.size ≠ p := by omega
    have hwp' : p ≠ w.heap.size := by omega
    have fp := hD4.blk.frozen 0
    have hq : ∀ w5 : World, (w4.alloc (.cells #[.string to, .slice A f.b.size c, .int .i64 n] 61)).drew.grownBy w5 (Value.slice A1 rows4.length cc1).ownBlock → w5.heap[p]? = w4.heap[p]? := fun w5 hg5 =>
      (hg5.block p (by simp; omega) (fun e => hown.2.2 (hown4 p e.symm).symm)).trans (hbA.block p hp4)
    have hblk4 := hD4.blk
    have hq' : ∀ w5 : World, (w4.alloc (.cells #[.string to, .slice A f.b.size c, .int .i64 n] 61)).drew.grownBy w5 (Value.slice A1 rows4.length cc1).ownBlock → w5.cell? ⟨p, 0, none⟩ = some (.slice A1 rows4.length cc1) ∧ w5.frozen? ⟨p, 0, none⟩ = false := fun w5 hg5 => by
      have hb5 : Blk w5 p 56 _ := (hq w5 hg5).trans hblk4
      exact ⟨hb5.cell 0, hb5.frozen 0⟩
    have HQ := Lib.hid hq; have HQ' := Lib.hid hq'
    clear hq hq' hblk4
    have HI := Lib.hid hI; have HBA := Lib.hid hbA; have HOW := Lib.hid hown4; have HD4 := Lib.hid hD4; have HB4 := Lib.hid hb4; have HR4 := Lib.hid hr4
    clear hI hbA hRA hXA hown4 hD4 hN4 hX4 hb4 hR4 hr4
    go_wp2_with fail
    go_region_with (first | (go_at_call 29; (with_reducible refine HI.out.mono ?_); rintro e w5 ⟨v5, rfl, hR5, hg5, hb5⟩; obtain ⟨A5, n5, c5, rfl⟩ := own_shape' hR5.1; obtain ⟨q1, q2⟩ := HQ'.out w5 hg5; have HR5 := Lib.hid hR5; have HG5 := Lib.hid hg5; have HO5 := Lib.hid hb5; clear hR5 hg5 hb5))
    all_goals
      go_end0
      have hmA : Moved w4 w5 p (Value.slice A1 rows4.length cc1).ownBlock := (Moved.of_below HBA.out p (Value.slice A1 rows4.length cc1).ownBlock).drew_.trans (Moved.of_grown HG5.out p) (.inl rfl)
      have hfin := HD4.out.row_set hmA (HQ.out w5 HG5.out) HR5.out
      have hfs : (rows4.take k ++ ((⟨to, f.b, n⟩ : FileD), Value.slice A f.b.size c) :: rows4.drop k).map (·.1) = putL L k false ⟨to, f.b, n⟩ := by
        rw [List.map_append, List.map_cons, List.map_take, List.map_drop, HR4.out, putL, if_neg (by simp)]
      rw [hfs] at hfin
      have hm : Moved w w4 p (some g) := ((Moved.of_below HB2.out p (some g)).trans HM3.out (.inl rfl)).trans (Moved.of_below HB4.out p (some g)) (.inl rfl)
      refine ⟨_, rfl, hfin.1, ?_, ?_⟩
      · exact hm.trans hfin.2 (.inl (HO3.out.trans rfl))
      · rcases HO5.out with h5 | h5
        · exact .inl (h5.trans HO3.out)
        · exact .inr ⟨_, h5, by simp; omega⟩
end Go.Proofs.Ytmgnpcoihehelaa
