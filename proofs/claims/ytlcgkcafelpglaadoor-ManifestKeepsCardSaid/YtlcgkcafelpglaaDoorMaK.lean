/- The manifest's bytes, as the program writes them: bytes, Put. -/
import Derived.Test.YtlcgkcafelpglaaDoorMaJ
namespace Go.Proofs.YtlcgkcafelpglaaDoor
open Go.RowKit Go.Maps

theorem rawInfo : (Tryd.prog.info? 66).map (·.size) = some 50 := by kernel_rfl
theorem infoU1 : (Tryd.prog.info? 5).map (·.size) = some 1 := by kernel_rfl
theorem longT_bytes (m : ManM) : longT (⟨#[]⟩ ++ digB 1 77) [m.n, m.epoch, m.step, m.sum, m.most] = m.b6 := by
  have h : (⟨#[]⟩ : ByteArray) ++ digB 1 77 = m.b1 := by
    apply ByteArray.ext
    rfl
  rw [h]; rfl
/-- what the program's own blocks are in bytes -/
structure ByS (w x : World) (m : ManM) (T : ByteArray) (Z : Array Value) : Prop where
  wri : WrIs x (w.heap.size + 2) T
  m : Blk x w.heap.size 24 (mCells m)
  raw : Blk x (w.heap.size + 1) 66 Z
  below : Below w.heap.size w x
theorem ByS.moved {w wr w2 : World} {m : ManM} {T T2 : ByteArray} {Z : Array Value} (h : ByS w wr m T Z) (hw : WrIs w2 (w.heap.size + 2) T2) (hm : Moved wr w2 (w.heap.size + 2) none) : ByS w w2 m T2 Z :=
  ⟨hw, moved_blk h.m hm (by omega) (by simp), moved_blk h.raw hm (by omega) (by simp), h.below.trans (hm.below (by omega) (by simp) h.below.size)⟩
theorem ByS.below_ {w wr w2 : World} {m : ManM} {T : ByteArray} {Z : Array Value} (h : ByS w wr m T Z) (hb : Below wr.heap.size wr w2) : ByS w w2 m T Z :=
  ⟨h.wri.below hb, h.m.below hb h.m.lt, h.raw.below hb h.raw.lt, h.below.trans (hb.mono h.below.size)⟩
theorem ByS.start (w : World) (m : ManM) (Z : Array Value) : ByS w (((w.alloc (.cells (mCells m) 24)).alloc (.cells Z 66)).alloc (.cells #[.pointer none, .int .i64 0] 99)) m ⟨#[]⟩ Z := by
  refine ⟨?_, ?_, ?_, ?_⟩
  · have h := WrIs.new ((w.alloc (.cells (mCells m) 24)).alloc (.cells Z 66))
    simpa using h
  · exact ((Blk.new w 24 (mCells m)).alloc _).alloc _
  · have h := (Blk.new (w.alloc (.cells (mCells m) 24)) 66 Z).alloc (.cells #[.pointer none, .int .i64 0] 99)
    simpa using h
  · exact (((Below.refl _ _).alloc (Nat.le_refl _) _).alloc (by simp) _).alloc (by simp; omega) _
theorem ByS.copied {w x : World} {m : ManM} {T : ByteArray} {Z : Array Value} {base : Nat} {v : Value} (h : ByS w x m T Z) (hZ : Z.size = 50) (ho : x.ownsRow base 5 1 v 50 (ucells m.bytes)) :
    (∀ ty, (Builtin.copy_ #[25, 25] ty #[.slice (some ⟨w.heap.size + 1, 0, none⟩) 50 50, v]).run Tryd.prog x = .ok (goInt 50) (x.setRow (w.heap.size + 1) (ucells m.bytes).toArray)) ∧
      Blk (x.setRow (w.heap.size + 1) (ucells m.bytes).toArray) (w.heap.size + 1) 66 (ucells m.bytes).toArray ∧ Below w.heap.size w (x.setRow (w.heap.size + 1) (ucells m.bytes).toArray) := by
  have hl : (ucells m.bytes).length = 50 := by rw [ucells_length, m.bytes_size]
  obtain ⟨g, cap, rfl, hg, hgl⟩ := World.ownsRow.form ho (by decide)
  refine ⟨fun ty => ?_, h.raw.setRow _, below_row h.below (by omega) _⟩
  have := run_copy_row (P := Tryd.prog) x 25 25 ty 5 (w.heap.size + 1) 0 50 50 ⟨g, 0, none⟩ 50 cap Z 66 (ucells m.bytes) Tryd.underlying25 infoU1 h.raw
    (by rw [hl]; rfl) (fun j u hu => ho.cells (g := g) rfl j u hu) (by rw [hl, hZ]; decide) (ucells_one _)
  have hd : Z.toList.drop 50 = [] := List.drop_eq_nil_of_le (by simp [hZ])
  rw [hl] at this
  simpa [hl, hd] using this
theorem ucells_oneA (s : ByteArray) : (ucells s).toArray.all (·.oneCell') = true := by
  rw [Array.all_eq_true_iff_forall_mem]
  intro x hx
  exact ucells_one s x (by simpa using hx)
theorem raw_size (m : ManM) : (Tryd.prog.info? 66).map (·.size) = some (ucells m.bytes).toArray.size := by
  rw [List.size_toArray, ucells_length, m.bytes_size]; exact rawInfo
def zero50 : Array Value := #[.int .u8 0, .int .u8 0, .int .u8 0, .int .u8 0, .int .u8 0, .int .u8 0, .int .u8 0, .int .u8 0, .int .u8 0, .int .u8 0, .int .u8 0, .int .u8 0, .int .u8 0, .int .u8 0, .int .u8 0, .int .u8 0, .int .u8 0, .int .u8 0, .int .u8 0, .int .u8 0, .int .u8 0, .int .u8 0, .int .u8 0, .int .u8 0, .int .u8 0, .int .u8 0, .int .u8 0, .int .u8 0, .int .u8 0, .int .u8 0, .int .u8 0, .int .u8 0, .int .u8 0, .int .u8 0, .int .u8 0, .int .u8 0, .int .u8 0, .int .u8 0, .int .u8 0, .int .u8 0, .int .u8 0, .int .u8 0, .int .u8 0, .int .u8 0, .int .u8 0, .int .u8 0, .int .u8 0, .int .u8 0, .int .u8 0, .int .u8 0]
set_option maxRecDepth 100000 in
set_option maxHeartbeats 8000000 in
theorem bytes_any (m : ManM) (hm : m.Ok) (w : World) : Calls Tryd.prog 30 #[.agg (mCells m)] w fun e w' => e = .returned (.agg (ucells m.bytes).toArray) ∧ Below w.heap.size w w' := by
  have hS0 := ByS.start w m zero50
  unfold mCells zero50 at hS0
  have HS0 := Lib.hid hS0
  clear hS0
  unfold mCells
  go_enter Tryd.func30, Tryd.ntmps30
  go_wp2_with fail
  generalize ((w.alloc _).alloc _).alloc _ = w3 at HS0 ⊢
  have hc := wByte_any w3 (w.heap.size + 2) ⟨#[]⟩ 77 (by decide) HS0.out.wri (by decide)
  have HC := Lib.hid hc
  clear hc
  refine HC.out.mono ?_
  rintro e w4 ⟨rfl, hW, hM⟩
  have h4 := HS0.out.moved hW hM
  have c0 := h4.m.cell 0; have c1 := h4.m.cell 1; have c2 := h4.m.cell 2; have c3 := h4.m.cell 3; have c4 := h4.m.cell 4
  simp only [mCells, List.getElem?_toArray, List.getElem?_cons_zero, List.getElem?_cons_succ] at c0 c1 c2 c3 c4
  have ha := (Below.refl w4.heap.size w4).alloc (Nat.le_refl _) (.cells #[.int .i64 m.n, .int .i64 m.epoch, .int .i64 m.step, .int .i64 m.sum, .int .i64 m.most] 2)
  have h5 := h4.below_ ha
  have hlt := h4.wri.lt
  have hc := longs_any (w4.alloc (.cells #[.int .i64 m.n, .int .i64 m.epoch, .int .i64 m.step, .int .i64 m.sum, .int .i64 m.most] 2)) (w.heap.size + 2) w4.heap.size (⟨#[]⟩ ++ digB 1 77) [m.n, m.epoch, m.step, m.sum, m.most] 5 h5.wri (by decide) (by simp) (Blk.new w4 2 _) (by omega)
  rw [longT_bytes] at hc
  have HC4 := Lib.hid hc; have HS5 := Lib.hid h5
  clear hc h4 h5 ha hW hM HC HS0 hlt
  go_wp2_with fail
  refine HC4.out.mono ?_
  rintro e w6 ⟨rfl, hW, hM⟩
  have h6 := HS5.out.moved hW hM
  have c5 := h6.m.cell 5
  simp only [mCells, List.getElem?_toArray, List.getElem?_cons_zero, List.getElem?_cons_succ] at c5
  obtain ⟨k, hk⟩ : ∃ k : Nat, (if m.done = true then 1 else 0) = k := ⟨_, rfl⟩
  have hk1 : k ≤ 1 := by rw [← hk]; split <;> omega
  have hb7 : m.b6 ++ digB 1 k = m.b7 := by rw [← hk]; rfl
  have hcY := wByte_any w6 (w.heap.size + 2) m.b6 k (by omega) h6.wri (by rw [m.s6]; decide)
  rw [hb7] at hcY
  have HCY := Lib.hid hcY; have HS6 := Lib.hid h6
  clear hcY h6 hW hM HC4 HS5 c0 c1 c2 c3 c4 hb7 hk1
  cases hd : m.done
  all_goals
    rw [hd] at c5 hk
    simp at hk
    subst hk
    clear hd
    go_wp2_with fail
    refine HCY.out.mono ?_
    rintro e w7 ⟨rfl, hW, hM⟩
    have h7 := HS6.out.moved hW hM
    have c6 := h7.m.cell 6
    simp only [mCells, List.getElem?_toArray, List.getElem?_cons_zero, List.getElem?_cons_succ] at c6
    have hcW : Calls Tryd.prog 56 _ _ _ := wWord_any w7 (w.heap.size + 2) m.b7 m.job hm.job h7.wri (by rw [m.s7]; decide)
    have HCW := Lib.hid hcW; have HS7 := Lib.hid h7
    clear hcW h7 hW hM HCY HS6 c5
    go_wp2_with fail
    refine HCW.out.mono ?_
    rintro e w8 ⟨rfl, hW, hM⟩
    have h8 : ByS w w8 m m.head zero50 := HS7.out.moved hW hM
    have hO := out_any w8 (w.heap.size + 2) m.head h8.wri (by rw [m.s8]; decide)
    have HO := Lib.hid hO; have HS8 := Lib.hid h8
    clear hO h8 hW hM HCW HS7 c6
    go_wp2_with fail
    refine HO.out.mono ?_
    rintro e w9 ⟨v9, rfl, ho9, hb9⟩
    have h9 := HS8.out.below_ hb9
    have hSm := sum_any w9 v9 m.head (Bt.of_own ho9) (by rw [m.s8]; decide)
    have HSm := Lib.hid hSm; have HS9 := Lib.hid h9
    clear hSm h9 ho9 hb9 HO HS8
    go_wp2_with fail
    refine HSm.out.mono ?_
    rintro e w10 ⟨rfl, hb10⟩
    have h10 := HS9.out.below_ hb10
    have hcW := wWord_any w10 (w.heap.size + 2) m.head (crcN m.head) (crcN_lt _) h10.wri (by rw [m.s8]; decide)
    have HCW := Lib.hid hcW; have HS10 := Lib.hid h10
    clear hcW h10 hb10 HSm HS9
    go_wp2_with fail
    refine HCW.out.mono ?_
    rintro e w11 ⟨rfl, hW, hM⟩
    have h11 : ByS w w11 m m.bytes zero50 := HS10.out.moved hW hM
    have HS11 := Lib.hid h11
    clear h11 hW hM HCW HS10
    go_wp2_with fail
    have h12 : ByS w w11.drew m m.bytes zero50 := HS11.out.below_ ((Below.refl _ _).drew)
    have hO := out_any w11.drew (w.heap.size + 2) m.bytes h12.wri (by rw [m.bytes_size]; decide)
    have HO := Lib.hid hO; have HS12 := Lib.hid h12
    clear hO h12 HS11
    go_region_law (first
      | (go_simp; refine HO.out.mono ?_; rintro e w13 ⟨v13, rfl, ho13, hb13⟩; have HC13 := Lib.hid ((HS12.out.below_ hb13).copied rfl (by rw [m.bytes_size] at ho13; exact ho13)); clear ho13 hb13; dsimp only)
      | (refine Go.Proofs.step_copy_runI rfl (.tmp 27) (.tmp 28) 25 25 rfl (.slice (some ⟨w.heap.size + 1, 0, none⟩) 50 50) v13 (by simp [Act.eval]) (by simp [Act.eval]) (HC13.out.1 _) ?_))
    all_goals
      have hk2 := HC13.out.2.1.setRow (ucells m.bytes).toArray
      have hb2 := below_row HC13.out.2.2 (Nat.le_succ w.heap.size) (ucells m.bytes).toArray
      have HK := Lib.hid HC13.out.2.1; have HK2 := Lib.hid hk2; have HB2 := Lib.hid hb2
      clear HC13 HO HS12 hk2 hb2
      go_wp2_with (first | (refine wpList_load_row rfl 66 (.tmp 2) rfl (w.heap.size + 1) rfl 66 (ucells m.bytes).toArray (0, 0) _ HK.out Tryd.underlying66 rfl (raw_size m) ?_) | (refine wpList_store_row rfl 66 (.tmp 2) (.tmp 30) rfl (w.heap.size + 1) (ucells m.bytes).toArray rfl rfl 66 (ucells m.bytes).toArray HK.out (raw_size m) rfl (ucells_oneA _) ?_))
      refine bodyPost_ret (v := .agg (ucells m.bytes).toArray) (results_cell_row (Tryd.results30) _ _ (w.heap.size + 1) 66 (ucells m.bytes).toArray (0, 0) _ rfl HK2.out Tryd.underlying66 rfl (raw_size m)) rfl ?_
      exact ⟨rfl, HB2.out⟩
end Go.Proofs.YtlcgkcafelpglaaDoor
