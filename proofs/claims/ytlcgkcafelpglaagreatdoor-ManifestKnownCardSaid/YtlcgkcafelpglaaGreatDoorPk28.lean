/- The manifest's bytes, as the program writes them: bytes, Put. The manifest's bytes, as the program writes them: Put. Arrays of bytes: held against one another, read out of a slice. -/
import Derived.Test.YtlcgkcafelpglaaGreatDoorPk25
import Derived.Laws.StructEq
import Derived.ChangeKeysEq
import Derived.Laws.Cover3
namespace Go.Proofs.YtlcgkcafelpglaaGreatDoor
open Go.RowKit Go.Maps

theorem rawInfo : (Tryz.prog.info? 111).map (·.size) = some 50 := by kernel_rfl
theorem infoU1 : (Tryz.prog.info? 5).map (·.size) = some 1 := by kernel_rfl
theorem longT_bytes (m : ManM) : longT (⟨#[]⟩ ++ digB 1 77) [m.n, m.epoch, m.step, m.sum, m.most] = m.b6 := by
  have h : (⟨#[]⟩ : ByteArray) ++ digB 1 77 = m.b1 := by
    apply ByteArray.ext
    rfl
  rw [h]; rfl
/-- what the program's own blocks are in bytes -/
structure ByS (w x : World) (m : ManM) (T : ByteArray) (Z : Array Value) : Prop where
  wri : WrIs x (w.heap.size + 2) T
  m : Blk x w.heap.size 38 (mCells m)
  raw : Blk x (w.heap.size + 1) 111 Z
  below : Below w.heap.size w x
theorem ByS.moved {w wr w2 : World} {m : ManM} {T T2 : ByteArray} {Z : Array Value} (h : ByS w wr m T Z) (hw : WrIs w2 (w.heap.size + 2) T2) (hm : Moved wr w2 (w.heap.size + 2) none) : ByS w w2 m T2 Z :=
  ⟨hw, moved_blk h.m hm (by omega) (by simp), moved_blk h.raw hm (by omega) (by simp), h.below.trans (hm.below (by omega) (by simp) h.below.size)⟩
theorem ByS.below_ {w wr w2 : World} {m : ManM} {T : ByteArray} {Z : Array Value} (h : ByS w wr m T Z) (hb : Below wr.heap.size wr w2) : ByS w w2 m T Z :=
  ⟨h.wri.below hb, h.m.below hb h.m.lt, h.raw.below hb h.raw.lt, h.below.trans (hb.mono h.below.size)⟩
theorem ByS.start (w : World) (m : ManM) (Z : Array Value) : ByS w (((w.alloc (.cells (mCells m) 38)).alloc (.cells Z 111)).alloc (.cells #[.pointer none, .int .i64 0] 135)) m ⟨#[]⟩ Z := by
  refine ⟨?_, ?_, ?_, ?_⟩
  · have h := WrIs.new ((w.alloc (.cells (mCells m) 38)).alloc (.cells Z 111))
    simpa using h
  · exact ((Blk.new w 38 (mCells m)).alloc _).alloc _
  · have h := (Blk.new (w.alloc (.cells (mCells m) 38)) 111 Z).alloc (.cells #[.pointer none, .int .i64 0] 135)
    simpa using h
  · exact (((Below.refl _ _).alloc (Nat.le_refl _) _).alloc (by simp) _).alloc (by simp; omega) _
theorem ByS.copied {w x : World} {m : ManM} {T : ByteArray} {Z : Array Value} {base : Nat} {v : Value} (h : ByS w x m T Z) (hZ : Z.size = 50) (ho : x.ownsRow base 5 1 v 50 (ucells m.bytes)) :
    (∀ ty, (Builtin.copy_ #[39, 39] ty #[.slice (some ⟨w.heap.size + 1, 0, none⟩) 50 50, v]).run Tryz.prog x = .ok (goInt 50) (x.setRow (w.heap.size + 1) (ucells m.bytes).toArray)) ∧
      Blk (x.setRow (w.heap.size + 1) (ucells m.bytes).toArray) (w.heap.size + 1) 111 (ucells m.bytes).toArray ∧ Below w.heap.size w (x.setRow (w.heap.size + 1) (ucells m.bytes).toArray) := by
  have hl : (ucells m.bytes).length = 50 := by rw [ucells_length, m.bytes_size]
  obtain ⟨g, cap, rfl, hg, hgl⟩ := World.ownsRow.form ho (by decide)
  refine ⟨fun ty => ?_, h.raw.setRow _, below_row h.below (by omega) _⟩
  have := run_copy_row (P := Tryz.prog) x 39 39 ty 5 (w.heap.size + 1) 0 50 50 ⟨g, 0, none⟩ 50 cap Z 111 (ucells m.bytes) Tryz.underlying39 infoU1 h.raw
    (by rw [hl]; rfl) (fun j u hu => ho.cells (g := g) rfl j u hu) (by rw [hl, hZ]; decide) (ucells_one _)
  have hd : Z.toList.drop 50 = [] := List.drop_eq_nil_of_le (by simp [hZ])
  rw [hl] at this
  simpa [hl, hd] using this
theorem ucells_oneA (s : ByteArray) : (ucells s).toArray.all (·.oneCell') = true := by
  rw [Array.all_eq_true_iff_forall_mem]
  intro x hx
  exact ucells_one s x (by simpa using hx)
theorem raw_size (m : ManM) : (Tryz.prog.info? 111).map (·.size) = some (ucells m.bytes).toArray.size := by
  rw [List.size_toArray, ucells_length, m.bytes_size]; exact rawInfo
def zero50 : Array Value := #[.int .u8 0, .int .u8 0, .int .u8 0, .int .u8 0, .int .u8 0, .int .u8 0, .int .u8 0, .int .u8 0, .int .u8 0, .int .u8 0, .int .u8 0, .int .u8 0, .int .u8 0, .int .u8 0, .int .u8 0, .int .u8 0, .int .u8 0, .int .u8 0, .int .u8 0, .int .u8 0, .int .u8 0, .int .u8 0, .int .u8 0, .int .u8 0, .int .u8 0, .int .u8 0, .int .u8 0, .int .u8 0, .int .u8 0, .int .u8 0, .int .u8 0, .int .u8 0, .int .u8 0, .int .u8 0, .int .u8 0, .int .u8 0, .int .u8 0, .int .u8 0, .int .u8 0, .int .u8 0, .int .u8 0, .int .u8 0, .int .u8 0, .int .u8 0, .int .u8 0, .int .u8 0, .int .u8 0, .int .u8 0, .int .u8 0, .int .u8 0]
set_option maxRecDepth 100000 in
set_option maxHeartbeats 8000000 in
theorem bytes_any (m : ManM) (hm : m.Ok) (w : World) : Calls Tryz.prog 69 #[.agg (mCells m)] w fun e w' => e = .returned (.agg (ucells m.bytes).toArray) ∧ Below w.heap.size w w' := by
  have hS0 := ByS.start w m zero50
  unfold mCells zero50 at hS0
  have HS0 := Lib.hid hS0
  clear hS0
  unfold mCells
  go_enter Tryz.func69, Tryz.ntmps69
  go_wp2_with fail
  generalize ((w.alloc _).alloc _).alloc _ = w3 at HS0 ⊢
  have hc := wByte_any w3 (w.heap.size + 2) ⟨#[]⟩ 77 (by decide) HS0.out.wri (by decide)
  have HC := Lib.hid hc
  clear hc
  refine HC.out.mono ?_
  rintro e w4 ⟨rfl, hW, hM⟩
  have h4 := HS0.out.moved hW hM
  have c0 := h4.m.cell 0; have c1 := h4.m.cell 1; have c2 := h4.m.cell 2; have c3 := h4.m.cell 3; have c4 := h4.m.cell 4
  simp only [mCells, List.getElem?_toArray, List.getElem?_cons_zero, List.getElem?_cons_succ] at c0 c1 c2 c3 c4
  have ha := (Below.refl w4.heap.size w4).alloc (Nat.le_refl _) (.cells #[.int .i64 m.n, .int .i64 m.epoch, .int .i64 m.step, .int .i64 m.sum, .int .i64 m.most] 2)
  have h5 := h4.below_ ha
  have hlt := h4.wri.lt
  have hc := longs_any (w4.alloc (.cells #[.int .i64 m.n, .int .i64 m.epoch, .int .i64 m.step, .int .i64 m.sum, .int .i64 m.most] 2)) (w.heap.size + 2) w4.heap.size (⟨#[]⟩ ++ digB 1 77) [m.n, m.epoch, m.step, m.sum, m.most] 5 h5.wri (by decide) (by simp) (Blk.new w4 2 _) (by omega)
  rw [longT_bytes] at hc
  have HC4 := Lib.hid hc; have HS5 := Lib.hid h5
  clear hc h4 h5 ha hW hM HC HS0 hlt
  go_wp2_with fail
  refine HC4.out.mono ?_
  rintro e w6 ⟨rfl, hW, hM⟩
  have h6 := HS5.out.moved hW hM
  have c5 := h6.m.cell 5
  simp only [mCells, List.getElem?_toArray, List.getElem?_cons_zero, List.getElem?_cons_succ] at c5
  obtain ⟨k, hk⟩ : ∃ k : Nat, (if m.done = true then 1 else 0) = k := ⟨_, rfl⟩
  have hk1 : k ≤ 1 := by rw [← hk]; split <;> omega
  have hb7 : m.b6 ++ digB 1 k = m.b7 := by rw [← hk]; rfl
  have hcY := wByte_any w6 (w.heap.size + 2) m.b6 k (by omega) h6.wri (by rw [m.s6]; decide)
  rw [hb7] at hcY
  have HCY := Lib.hid hcY; have HS6 := Lib.hid h6
  clear hcY h6 hW hM HC4 HS5 c0 c1 c2 c3 c4 hb7 hk1
  cases hd : m.done
  all_goals
    rw [hd] at c5 hk
    simp at hk
    subst hk
    clear hd
    go_wp2_with fail
    refine HCY.out.mono ?_
    rintro e w7 ⟨rfl, hW, hM⟩
    have h7 := HS6.out.moved hW hM
    have c6 := h7.m.cell 6
    simp only [mCells, List.getElem?_toArray, List.getElem?_cons_zero, List.getElem?_cons_succ] at c6
    have hcW : Calls Tryz.prog 92 _ _ _ := wWord_any w7 (w.heap.size + 2) m.b7 m.job hm.job h7.wri (by rw [m.s7]; decide)
    have HCW := Lib.hid hcW; have HS7 := Lib.hid h7
    clear hcW h7 hW hM HCY HS6 c5
    go_wp2_with fail
    refine HCW.out.mono ?_
    rintro e w8 ⟨rfl, hW, hM⟩
    have h8 : ByS w w8 m m.head zero50 := HS7.out.moved hW hM
    have hO := out_any w8 (w.heap.size + 2) m.head h8.wri (by rw [m.s8]; decide)
    have HO := Lib.hid hO; have HS8 := Lib.hid h8
    clear hO h8 hW hM HCW HS7 c6
    go_wp2_with fail
    refine HO.out.mono ?_
    rintro e w9 ⟨v9, rfl, ho9, hb9⟩
    have h9 := HS8.out.below_ hb9
    have hSm := sum_any w9 v9 m.head (Bt.of_own ho9) (by rw [m.s8]; decide)
    have HSm := Lib.hid hSm; have HS9 := Lib.hid h9
    clear hSm h9 ho9 hb9 HO HS8
    go_wp2_with fail
    refine HSm.out.mono ?_
    rintro e w10 ⟨rfl, hb10⟩
    have h10 := HS9.out.below_ hb10
    have hcW := wWord_any w10 (w.heap.size + 2) m.head (crcN m.head) (crcN_lt _) h10.wri (by rw [m.s8]; decide)
    have HCW := Lib.hid hcW; have HS10 := Lib.hid h10
    clear hcW h10 hb10 HSm HS9
    go_wp2_with fail
    refine HCW.out.mono ?_
    rintro e w11 ⟨rfl, hW, hM⟩
    have h11 : ByS w w11 m m.bytes zero50 := HS10.out.moved hW hM
    have HS11 := Lib.hid h11
    clear h11 hW hM HCW HS10
    go_wp2_with fail
    have h12 : ByS w w11.drew m m.bytes zero50 := HS11.out.below_ ((Below.refl _ _).drew)
    have hO := out_any w11.drew (w.heap.size + 2) m.bytes h12.wri (by rw [m.bytes_size]; decide)
    have HO := Lib.hid hO; have HS12 := Lib.hid h12
    clear hO h12 HS11
    go_region_law (first
      | (go_simp; refine HO.out.mono ?_; rintro e w13 ⟨v13, rfl, ho13, hb13⟩; have HC13 := Lib.hid ((HS12.out.below_ hb13).copied rfl (by rw [m.bytes_size] at ho13; exact ho13)); clear ho13 hb13; dsimp only)
      | (refine Go.Proofs.step_copy_runI rfl (.tmp 27) (.tmp 28) 39 39 rfl (.slice (some ⟨w.heap.size + 1, 0, none⟩) 50 50) v13 (by simp [Act.eval]) (by simp [Act.eval]) (HC13.out.1 _) ?_))
    all_goals
      have hk2 := HC13.out.2.1.setRow (ucells m.bytes).toArray
      have hb2 := below_row HC13.out.2.2 (Nat.le_succ w.heap.size) (ucells m.bytes).toArray
      have HK := Lib.hid HC13.out.2.1; have HK2 := Lib.hid hk2; have HB2 := Lib.hid hb2
      clear HC13 HO HS12 hk2 hb2
      go_wp2_with (first | (refine wpList_load_row rfl 111 (.tmp 2) rfl (w.heap.size + 1) rfl 111 (ucells m.bytes).toArray (0, 0) _ HK.out Tryz.underlying111 rfl (raw_size m) ?_) | (refine wpList_store_row rfl 111 (.tmp 2) (.tmp 30) rfl (w.heap.size + 1) (ucells m.bytes).toArray rfl rfl 111 (ucells m.bytes).toArray HK.out (raw_size m) rfl (ucells_oneA _) ?_))
      refine bodyPost_ret (v := .agg (ucells m.bytes).toArray) (results_cell_row (Tryz.results69) _ _ (w.heap.size + 1) 111 (ucells m.bytes).toArray (0, 0) _ rfl HK2.out Tryz.underlying111 rfl (raw_size m)) rfl ?_
      exact ⟨rfl, HB2.out⟩
end Go.Proofs.YtlcgkcafelpglaaGreatDoor
namespace Go.Proofs.YtlcgkcafelpglaaGreatDoor
open Go.RowKit Go.Maps

set_option maxRecDepth 100000 in
set_option maxHeartbeats 4000000 in
theorem mPut_no (m : ManM) (hm : m.may = false) (w : World) : Calls Tryz.prog 52 #[.agg (mCells m)] w fun e w' => e = .returned (.tuple #[.slice none 0 0, .int .i64 2]) ∧ Below w.heap.size w w' := by
  have ha := (Below.refl w.heap.size w).alloc (Nat.le_refl _) (.cells (mCells m) 38)
  have hc := may_any m (w.alloc (.cells (mCells m) 38))
  rw [hm] at hc
  unfold mCells at ha hc ⊢
  have HA := Lib.hid ha; have HC := Lib.hid hc
  clear ha hc hm
  go_enter Tryz.func52, Tryz.ntmps52
  go_wp2_with fail
  refine HC.out.mono ?_
  rintro e w2 ⟨rfl, hb⟩
  have HB := Lib.hid (HA.out.trans (hb.mono HA.out.size))
  clear hb
  go_wp2
  go_ret2
  exact ⟨rfl, HB.out⟩
set_option maxRecDepth 100000 in
set_option maxHeartbeats 4000000 in
theorem mPut_yes (m : ManM) (hok : m.Ok) (hm : m.may = true) (w : World) : Calls Tryz.prog 52 #[.agg (mCells m)] w fun e w' => ∃ g, e = .returned (.tuple #[.slice (some ⟨g, 0, none⟩) 50 50, .int .i64 0]) ∧ w.heap.size ≤ g ∧ Blk w' g 111 (ucells m.bytes).toArray ∧ Below w.heap.size w w' := by
  have ha := (Below.refl w.heap.size w).alloc (Nat.le_refl _) (.cells (mCells m) 38)
  have hk := Blk.new w 38 (mCells m)
  have hc := may_any m (w.alloc (.cells (mCells m) 38))
  rw [hm] at hc
  have HBY := Lib.hid (bytes_any m hok)
  unfold mCells at ha hc HBY hk ⊢
  have HA := Lib.hid ha; have HC := Lib.hid hc; have HK := Lib.hid hk
  clear ha hc hm hk
  go_enter Tryz.func52, Tryz.ntmps52
  go_wp2_with fail
  refine HC.out.mono ?_
  rintro e w2 ⟨rfl, hb⟩
  have hk2 := HK.out.below hb HK.out.lt
  have c0 := hk2.cell 0; have c1 := hk2.cell 1; have c2 := hk2.cell 2; have c3 := hk2.cell 3; have c4 := hk2.cell 4; have c5 := hk2.cell 5; have c6 := hk2.cell 6
  simp only [List.getElem?_toArray, List.getElem?_cons_zero, List.getElem?_cons_succ] at c0 c1 c2 c3 c4 c5 c6
  have HB := Lib.hid (HA.out.trans (hb.mono HA.out.size))
  clear hb hk2 HC HK
  go_wp2_with fail
  refine (HBY.out w2).mono ?_
  rintro e w3 ⟨rfl, hb⟩
  have hb3 := HB.out.trans (hb.mono HB.out.size)
  have hk0 := Blk.new w3 111 zero50
  have hk1 := hk0.setRow (ucells m.bytes).toArray
  have hb4 := below_row (hb3.alloc hb3.size (.cells zero50 111)) hb3.size (ucells m.bytes).toArray
  have hle := hb3.size
  unfold zero50 at hk0 hk1 hb4
  have HK0 := Lib.hid hk0; have HK1 := Lib.hid hk1; have HB4 := Lib.hid hb4
  clear hk0 hk1 hb4 hb3 hb HB HBY c0 c1 c2 c3 c4 c5 c6
  go_wp2_with (first | (refine wpList_store_row rfl 111 (.tmp 4) (.tmp 9) rfl w3.heap.size (ucells m.bytes).toArray rfl rfl 111 _ HK0.out (raw_size m) rfl (ucells_oneA _) ?_))
  go_ret2
  exact ⟨w3.heap.size, rfl, hle, HK1.out, HB4.out⟩
end Go.Proofs.YtlcgkcafelpglaaGreatDoor
namespace Go.Proofs.YtlcgkcafelpglaaGreatDoor
open Go.RowKit Go.Maps

theorem plainU : Tryz.prog.plainKey 5 = true := by kernel_rfl
theorem cellsU1 : Tryz.prog.cellsOf 5 = 1 := by kernel_rfl
theorem eqItems_u8 (d : Nat) (w : World) (xs ys : Array Value) (f g : Nat → Int) : ∀ (is : List Nat), (∀ i ∈ is, xs[i]? = some (.int .u8 (f i))) → (∀ i ∈ is, ys[i]? = some (.int .u8 (g i))) →
    (Op.eqItems (d + 1) 5 1 xs ys is).run Tryz.prog w = .ok (is.all fun i => f i == g i) w := by
  intro is
  induction is with
  | nil => intro _ _; simp [Op.eqItems]
  | cons i is ih =>
    intro hx hy
    have h1 := run_part_plain w plainU (off := i) (hx i (by simp))
    have h2 := run_part_plain w plainU (off := i) (hy i (by simp))
    have h3 := run_equalIn_int (P := Tryz.prog) w d 5 .u8 .u8 (f i) (g i) Tryz.underlying5
    have h4 := ih (fun j hj => hx j (List.mem_cons_of_mem _ hj)) (fun j hj => hy j (List.mem_cons_of_mem _ hj))
    simp only [Op.eqItems, Sem.run_bind, Nat.mul_one, h1, h2, h3, Result.andThen_ok, List.all_cons]
    cases he : (f i == g i)
    · simp
    · simpa using h4
theorem all_range {n : Nat} {p : Nat → Bool} : (List.range n).all p = true ↔ ∀ i, i < n → p i = true := by
  simp [List.all_eq_true]
theorem run_neq_raw (w : World) (s t : ByteArray) (hs : s.size = 50) (ht : t.size = 50) :
    (binOp .neq 111 (.agg (ucells s).toArray) (.agg (ucells t).toArray)).run Tryz.prog w = .ok (.bool (decide (s ≠ t))) w := by
  obtain ⟨i0, hi0, hz0, hz1, hz2⟩ := parts infoU
  have hcell : ∀ (s : ByteArray), s.size = 50 → ∀ i ∈ List.range 50, (ucells s).toArray[i]? = some (.int .u8 ((s.get! i).toNat : Int)) := fun s hs i hi => by
    rw [List.getElem?_toArray]
    exact ucells_at s i (by rw [hs]; exact List.mem_range.1 hi)
  have h := eqItems_u8 9998 w (ucells s).toArray (ucells t).toArray (fun i => ((s.get! i).toNat : Int)) (fun i => ((t.get! i).toNat : Int)) (List.range 50) (hcell s hs) (hcell t ht)
  have h2 := run_equalIn_array (P := Tryz.prog) (w := w) 9999 (ucells s).toArray (ucells t).toArray Tryz.underlying111 hi0
  rw [cellsU1, h] at h2
  have hiff : ((List.range 50).all fun i => ((s.get! i).toNat : Int) == ((t.get! i).toNat : Int)) = true ↔ s = t := by
    rw [all_range]
    constructor
    · intro h
      apply ByteArray.ext
      apply Array.ext
      · show s.size = t.size; rw [hs, ht]
      · intro i h1 h2
        have h1' : i < s.data.size := h1
        have h2' : i < t.data.size := h2
        have := h i (by rw [← hs]; exact h1')
        simp only [ByteArray.get!, getElem!_pos, h1', h2', beq_iff_eq, Int.natCast_inj] at this
        exact UInt8.toNat_inj.1 this
    · rintro rfl i _; simp
  have e : (!((List.range 50).all fun i => ((s.get! i).toNat : Int) == ((t.get! i).toNat : Int))) = decide (s ≠ t) := by
    cases hd : ((List.range 50).all fun i => ((s.get! i).toNat : Int) == ((t.get! i).toNat : Int))
    · have : s ≠ t := fun e => by rw [hiff.2 e] at hd; cases hd
      simp [this]
    · simp [hiff.1 hd]
  rw [run_neq_struct, h2, Result.andThen_ok, e]
theorem run_load_raw (w : World) (ad : Addr) (s : ByteArray) (hs : s.size = 50) (h : ∀ j u, (ucells s)[j]? = some u → w.cell? (ad.add j) = some u) :
    (Instr.loadAt 111 (.pointer (some ad))).run Tryz.prog w = .ok (.agg (ucells s).toArray) w := by
  have hl : (ucells s).length = 50 := by rw [ucells_length, hs]
  have h1 := run_loadCells_list (P := Tryz.prog) w ad (ucells s) h
  rw [hl] at h1
  have hagg : (isAgg 111).run Tryz.prog w = .ok true w := by
    unfold isAgg
    rw [Sem.run_bind, run_underlying Tryz.underlying111 w]
    rfl
  have hq : ∃ i, Tryz.prog.info? 111 = some i ∧ i.size = 50 := by
    have := rawInfo
    cases hx : Tryz.prog.info? 111 with
    | none => rw [hx] at this; cases this
    | some i => rw [hx] at this; exact ⟨i, rfl, by simpa using this⟩
  obtain ⟨i, hq, hs50⟩ := hq
  simp only [Instr.loadAt, Instr.sureAddr, Sem.run_bind, Sem.run_pure, Result.andThen_ok, loadVar, hagg, sizeOf, typeInfo, if_true]
  simp [hq, hs50, h1, Result.andThen]
theorem run_execOp_load {P : Program} {ρ : Operand → Value} {o : Oper} {t : TypeId} {x : Operand} {v : Value} {w : World} (ho : o.op = .load t x) (h : (Instr.loadAt t (ρ x)).run P w = .ok v w) : (execOp ρ o).run P w = .ok (.value v) w := by
  unfold execOp
  simp [ho, h, Result.andThen]
theorem run_execOp_conv {P : Program} {ρ : Operand → Value} {o : Oper} {t t' : TypeId} {x : Operand} {v : Value} {w : World} (ho : o.op = .convert t t' x) (h : (convert t t' (ρ x)).run P w = .ok v w) : (execOp ρ o).run P w = .ok (.value v) w := by
  unfold execOp
  simp [ho, h, Result.andThen]
theorem run_execOp_slice {P : Program} {ρ : Operand → Value} {o : Oper} {t : TypeId} {x lo hi : Operand} {v : Value} {w : World} (ho : o.op = .slice t x (some lo) (some hi) none) (h : (Instr.sliceAt t (ρ x) (some (ρ lo)) (some (ρ hi)) none).run P w = .ok v w) : (execOp ρ o).run P w = .ok (.value v) w := by
  unfold execOp
  simp [ho, h, Result.andThen]
theorem results_row_tmp {P : Program} {fn : Func} {p u : Tmp} {ty : TypeId} (h : fn.results = #[.cell p ty, .tmp u]) (tmps : Array Value) (w : World) (g : Nat) (t : TypeId) (cs : Array Value) (fr : Nat × Nat) (d : TypeDesc)
    (hp : tmps.getD p undef = .pointer (some ⟨g, 0, none⟩)) (hg : w.heap[g]? = some (.cells cs t fr))
    (hu : P.underlying ty = some d) (hd : (match d with | .struct _ | .array _ _ => true | _ => false) = true) (hi : (P.info? ty).map (·.size) = some cs.size) :
    (results fn tmps).run P w = .ok (.tuple #[.agg cs, tmps.getD u undef]) w := by
  have hp' : tmps[p]?.getD undef = .pointer (some ⟨g, 0, none⟩) := by simpa using hp
  simp [results, h, hp', asAddr, run_loadVar_row w g t ty cs fr d hg hu hd hi]
theorem infoMf : (Tryz.prog.info? 38).map (·.size) = some 7 := by kernel_rfl
theorem mCells_oneA (m : ManM) : (mCells m).all (·.oneCell') = true := by
  unfold mCells
  simp [Value.oneCell']
end Go.Proofs.YtlcgkcafelpglaaGreatDoor
