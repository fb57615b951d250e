/- What the laws of manifests ask beside the program: plain, manifests held against one another, bytes of a text. -/
import Derived.Test.YtlcgkcafelpglaaDoorRfN
import Derived.Laws.IdiomStrings
namespace Go.Proofs.YtlcgkcafelpglaaDoor
open Go.RowKit Go.Maps

set_option maxRecDepth 100000 in
set_option maxHeartbeats 4000000 in
theorem plain_any (m : ManM) (w : World) : Calls Tryd.prog 11 #[.agg (mCells m)] w fun e w' => e = .returned (.agg (mCells m)) ∧ Below w.heap.size w w' := by
  have h7 : mCells m = #[.int .i64 m.n, .int .i64 m.epoch, .int .i64 m.step, .int .i64 m.sum, .int .i64 m.most, .bool m.done, .int .u32 m.job] := rfl
  have hb1 := (Below.refl w.heap.size w).alloc (Nat.le_refl _) (.cells (mCells m) 24)
  have hb2 := hb1.alloc hb1.size (.cells #[.int .i64 0, .int .i64 0, .int .i64 0, .int .i64 0, .int .i64 0, .bool false, .int .u32 0] 31)
  have hk := Blk.new (w.alloc (.cells (mCells m) 24)) 31 #[.int .i64 0, .int .i64 0, .int .i64 0, .int .i64 0, .int .i64 0, .bool false, .int .u32 0]
  rw [World.size_alloc] at hk
  have hk2 := hk.setRow (mCells m)
  have hb3 := below_row hb2 (Nat.le_succ w.heap.size) (mCells m)
  have hone := mCells_oneA m
  rw [h7] at hk hk2 hb3 hone ⊢
  have HK := Lib.hid hk; have HK2 := Lib.hid hk2; have HB3 := Lib.hid hb3; have HONE := Lib.hid hone
  clear hk hk2 hb1 hb2 hb3 hone h7
  go_enter Tryd.func11, Tryd.ntmps11
  go_wp2_with (first | (refine wpList_store_row rfl 31 (.tmp 2) (.tmp 17) rfl (w.heap.size + 1) #[.int .i64 m.n, .int .i64 m.epoch, .int .i64 m.step, .int .i64 m.sum, .int .i64 m.most, .bool m.done, .int .u32 m.job] rfl rfl 31 _ HK.out infoRf rfl HONE.out ?_))
  refine bodyPost_ret (results_cell_row (Tryd.results11) _ _ (w.heap.size + 1) 31 _ (0, 0) _ rfl HK2.out Tryd.underlying31 rfl infoRf) rfl ?_
  exact ⟨rfl, HB3.out⟩
theorem rf_struct : Tryd.prog.underlying 31 = some (.struct (Tryd.prog.fieldsOf 31)) := by kernel_rfl
theorem rf_plain : Tryd.prog.stoodInHeld 31 = false := by kernel_rfl
set_option maxHeartbeats 2000000 in
theorem run_eql_rf (m : ManM) (w : World) : (binOp .eql 31 (.agg (mCells m)) (.agg (mCells m))).run Tryd.prog w = .ok (.bool true) w := by
  rw [run_eql_struct, run_equalIn_agg _ _ _ _ _ rf_struct rf_plain]
  unfold mCells
  simp [go_sem]
theorem conv_in (T : ByteArray) (W : World) : ∃ v X, (convert 9 25 (.string T)).run Tryd.prog W = .ok v X ∧ BtR X v T ∧ Below W.heap.size W X := by
  have hcap := grownCap_ge W T.size 0 5
  refine ⟨_, _, run_bytes_of_string W 9 25 5 T Tryd.underlying9 Tryd.underlying25 Tryd.underlying5, ?_, ?_⟩
  · refine ⟨_, _, rfl, by omega, by rw [ucells_length, Nat.mul_one], fun h0 => ⟨_, rfl, by simp, fun j u hu => ?_⟩⟩
    have hj : j < T.size := by rw [← ucells_length]; exact (List.getElem?_eq_some_iff.1 hu).1
    have hj' : j < T.data.size := hj
    rw [addr_add, cell_of_row _ W.heap.size (0 + j) _ 5 _ (heap_alloc_new W.drew _), Nat.zero_add]
    rw [ucells_at T j hj] at hu
    injection hu with hu
    subst hu
    unfold bytesRow
    rw [Array.getElem?_append_left (by simpa using hj'), Array.getElem?_map, Array.getElem?_eq_getElem hj']
    simp [ByteArray.get!, getElem!_pos T.data j hj']
  · exact (Below.refl _ _).drew.alloc (Nat.le_refl _) _
theorem btr_of_cells {w : World} {A : Option Addr} {l : List UInt8} {c : Nat} (hc : l.length ≤ c) (h : 0 < l.length → ∃ ad, A = some ad ∧ ad.block < w.heap.size ∧ ∀ j (hj : j < l.length), w.cell? (ad.add j) = some (.int .u8 (l[j].toNat : Int))) : BtR w (.slice A l.length c) ⟨l.toArray⟩ := by
  have hs : (⟨l.toArray⟩ : ByteArray).size = l.length := by simp [ByteArray.size]
  refine ⟨A, c, by rw [hs], by omega, by rw [ucells_length, Nat.mul_one], fun h0 => ?_⟩
  rw [hs] at h0
  obtain ⟨ad, rfl, hb, hx⟩ := h h0
  refine ⟨ad, rfl, hb, fun j u hu => ?_⟩
  have hj : j < l.length := by have := (List.getElem?_eq_some_iff.1 hu).1; rwa [ucells_length, hs] at this
  rw [hx j hj]
  rw [← hu]
  unfold ucells
  rw [List.getElem?_map, List.getElem?_eq_getElem (by simpa using hj)]
  simp
theorem run_load_M (w : World) (g : Nat) (m : ManM) (h : Blk w g 24 (mCells m)) : (Instr.loadAt 24 (.pointer (some ⟨g, 0, none⟩))).run Tryd.prog w = .ok (.agg (mCells m)) w := by
  simp only [Instr.loadAt, Instr.sureAddr, Sem.run_bind, Sem.run_pure, Result.andThen_ok, run_loadVar_row w g 24 24 (mCells m) (0, 0) _ h Tryd.underlying24 rfl infoMf]
theorem run_load_rM (w : World) (g : Nat) (m : ManM) (h : Blk w g 31 (mCells m)) : (Instr.loadAt 31 (.pointer (some ⟨g, 0, none⟩))).run Tryd.prog w = .ok (.agg (mCells m)) w := by
  simp only [Instr.loadAt, Instr.sureAddr, Sem.run_bind, Sem.run_pure, Result.andThen_ok, run_loadVar_row w g 31 31 (mCells m) (0, 0) _ h Tryd.underlying31 rfl infoRf]
end Go.Proofs.YtlcgkcafelpglaaDoor
