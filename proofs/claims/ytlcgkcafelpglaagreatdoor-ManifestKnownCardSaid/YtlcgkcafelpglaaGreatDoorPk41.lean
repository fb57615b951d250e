/- Arguments of layer 20, opened: rows of manifests, rows of bools. A [][]byte argument. What the laws of manifests ask beside the program: plain, manifests held against one another, bytes of a text. Arguments of layer 20, opened: rows of calls, rows of numbers. -/
import Derived.Test.YtlcgkcafelpglaaGreatDoorPk40
import Derived.Test.YtlcgkcafelpglaaGreatDoorPk7
import Derived.Deep.Slices
import Derived.Test.YtlcgkcafelpglaaGreatDoorRfN
import Derived.Laws.IdiomStrings
namespace Go.Proofs.YtlcgkcafelpglaaGreatDoor
open Go.RowKit Go.WideShapes Go.ChangeShapes

/-- a row of manifests, a row of bools, as an argument -/
def Mans (w : World) (A : Option Addr) (l : List ManM) : Prop := 0 < l.length → ∃ b o, A = some ⟨b, o, none⟩ ∧ b < w.heap.size ∧ ∀ i m, l[i]? = some m → m.Ok ∧ ∀ j, j < 7 → w.cell? ⟨b, o + i * 7 + j, none⟩ = (mCells m)[j]?
def Bools (w : World) (A : Option Addr) (l : List Bool) : Prop := 0 < l.length → ∃ b o, A = some ⟨b, o, none⟩ ∧ b < w.heap.size ∧ ∀ i x, l[i]? = some x → w.cell? ⟨b, o + i, none⟩ = some (.bool x)
theorem Mans.below {w w' : World} {A : Option Addr} {l : List ManM} (h : Mans w A l) (hb : Below w.heap.size w w') : Mans w' A l := fun h0 => by
  obtain ⟨b, o, hA, hlt, hc⟩ := h h0
  exact ⟨b, o, hA, Nat.lt_of_lt_of_le hlt hb.size, fun i m hm => ⟨(hc i m hm).1, fun j hj => (hb.cell (p := ⟨b, o + i * 7 + j, none⟩) hlt).trans ((hc i m hm).2 j hj)⟩⟩
theorem Bools.below {w w' : World} {A : Option Addr} {l : List Bool} (h : Bools w A l) (hb : Below w.heap.size w w') : Bools w' A l := fun h0 => by
  obtain ⟨b, o, hA, hlt, hc⟩ := h h0
  exact ⟨b, o, hA, Nat.lt_of_lt_of_le hlt hb.size, fun i m hm => (hb.cell (p := ⟨b, o + i, none⟩) hlt).trans (hc i m hm)⟩
theorem cellsMap : 0 < Tryz.prog.cellsOf 38 := Nat.lt_of_lt_of_eq (Nat.zero_lt_succ 6) cellsMa.symm
theorem cellsBop : 0 < Tryz.prog.cellsOf 4 := Nat.lt_of_lt_of_eq (Nat.zero_lt_succ 0) cellsBo.symm
section
variable {H : Type} {enc : TypeId × Value → H} {W : World} {base : Nat} {v : Value} {d : DataW H} {ps : List MemPlace}
set_option maxRecDepth 100000 in
theorem open_mans (hv : Value.okWide Tryz.prog W .any base 58 v) (h : DataW.Trod enc Tryz.prog W 0 (fun _ => true) true 58 v d ps) :
    ∃ (A : Option Addr) (l : List ManM) (c : Nat), v = .slice A l.length c ∧ Mans W A l := by
  obtain ⟨A, len, c, rfl, h1, h2, hr⟩ := open_row Tryz.underlying58 cellsMap hv h
  rcases hr with rfl | ⟨b, o, rfl, hb, hx⟩
  · exact ⟨A, [], c, rfl, fun h => absurd h (Nat.lt_irrefl 0)⟩
  · rw [cellsMa] at hx
    have each : ∀ i, i < len → ∃ m : ManM, m.Ok ∧ ∀ j, j < 7 → W.cell? ⟨b, o + i * 7 + j, none⟩ = (mCells m)[j]? := by
      intro i hi
      obtain ⟨cs, k, y, hl, hc, ht⟩ := hx i hi
      obtain ⟨c0, c1, c2, c3, c4, c5, c6, rfl⟩ := list7 hl
      obtain ⟨m, hm, he⟩ := man_of ht
      exact ⟨m, hm, fun j hj => by rw [he, hc j hj, List.getElem?_toArray]⟩
    obtain ⟨l, rfl, hm⟩ := list_of_each each
    exact ⟨_, l, c, rfl, fun _ => ⟨b, o, rfl, hb, hm⟩⟩
set_option maxRecDepth 100000 in
theorem open_bools (hv : Value.okWide Tryz.prog W .any base 126 v) (h : DataW.Trod enc Tryz.prog W 0 (fun _ => true) true 126 v d ps) :
    ∃ (A : Option Addr) (l : List Bool) (c : Nat), v = .slice A l.length c ∧ Bools W A l := by
  obtain ⟨A, len, c, rfl, h1, h2, hr⟩ := open_row Tryz.underlying126 cellsBop hv h
  rcases hr with rfl | ⟨b, o, rfl, hb, hx⟩
  · exact ⟨A, [], c, rfl, fun h => absurd h (Nat.lt_irrefl 0)⟩
  · rw [cellsBo] at hx
    have each : ∀ i, i < len → ∃ x : Bool, W.cell? ⟨b, o + i, none⟩ = some (.bool x) := by
      intro i hi
      obtain ⟨cs, k, y, hl, hc, ht⟩ := hx i hi
      match cs, hl with
      | [c0], _ =>
        obtain ⟨x, e, _⟩ := DataW.trod_bool Tryz.underlying4 ht
        injection e with e _
        subst e
        exact ⟨x, by have := hc 0 (by decide); simpa using this⟩
    obtain ⟨l, rfl, hm⟩ := list_of_each each
    exact ⟨_, l, c, rfl, fun _ => ⟨b, o, rfl, hb, hm⟩⟩
end
end Go.Proofs.YtlcgkcafelpglaaGreatDoor
namespace Go.Proofs.YtlcgkcafelpglaaGreatDoor
open Go.RowKit Go.WideShapes Go.ChangeShapes

/-- bytes that a []byte's cells read as -/
def BytesAt (W : World) (A : Option Addr) (l : List UInt8) : Prop := 0 < l.length → ∃ ad, A = some ad ∧ ad.block < W.heap.size ∧ ∀ j (hj : j < l.length), W.cell? (ad.add j) = some (.int .u8 (l[j].toNat : Int))
theorem open_btr_cells {P : Program} {H : Type} {enc : TypeId × Value → H} {t e : TypeId} (ht : P.underlying t = some (.slice e)) (he : P.underlying e = some (.int .u8)) (hc : P.cellsOf e = 1) {W : World} {n : Nat} {cs : List Value} {x : DataW H × List MemPlace}
    (hn : DataW.trod enc P W 0 (fun _ => true) true n t cs = some x) : ∃ (A : Option Addr) (l : List UInt8) (c : Nat), cs = [.slice A l.length c] ∧ l.length ≤ c ∧ BytesAt W A l := by
  rcases open_ints ht he hc hn with ⟨hcs, _⟩ | ⟨a, len, cap, zs, hcs, _, hl, hm, hz, _, hcell, hw⟩
  · exact ⟨none, [], 0, hcs, Nat.le_refl _, fun h => absurd h (by simp)⟩
  · simp only [if_true] at hz
    have hlen : ((zs.take len).map fun z => UInt8.ofNat z.toNat).length = len := by rw [List.length_map, List.length_take]; omega
    refine ⟨some a, (zs.take len).map fun z => UInt8.ofNat z.toNat, cap, by rw [hlen]; exact hcs, by rw [hlen]; exact hl, fun h0 => ⟨a, rfl, ?_, fun j hj => ?_⟩⟩
    · have := hcell 0 (by rw [hlen] at h0; omega)
      have h1 := World.block_lt_of_cell? _ _ this
      rw [block_of_add] at h1
      exact h1
    · have hj' : j < len := by rw [hlen] at hj; exact hj
      rw [hcell j (by omega)]
      have hwj := bounds_u8 (hw (zs.getD j 0) (by rw [List.getD_eq_getElem?_getD, List.getElem?_eq_getElem (by omega)]; exact List.getElem_mem _))
      have e1 : (((zs.take len).map fun z => UInt8.ofNat z.toNat)[j]).toNat = (zs.getD j 0).toNat := by
        rw [List.getElem_map, List.getElem_take, UInt8.toNat_ofNat']
        have e2 : zs.getD j 0 = zs[j] := by rw [List.getD_eq_getElem?_getD, List.getElem?_eq_getElem (by omega)]; rfl
        rw [e2] at hwj ⊢
        omega
      rw [e1, Int.toNat_of_nonneg hwj.1]
/-- a [][]byte argument -/
theorem open_btrs {P : Program} {H : Type} {enc : TypeId × Value → H} {t e b : TypeId} (ht : P.underlying t = some (.slice e)) (he : P.underlying e = some (.slice b)) (hb : P.underlying b = some (.int .u8)) (ce : P.cellsOf e = 1) (cb : P.cellsOf b = 1)
    {W : World} {base : Nat} {v : Value} {d : DataW H} {ps : List MemPlace} (hv : Value.okWide P W .any base t v) (h : DataW.Trod enc P W 0 (fun _ => true) true t v d ps) :
    ∃ (A : Option Addr) (xs : List (Value × List UInt8)) (c : Nat), v = .slice A xs.length c ∧ xs.length ≤ c ∧ c ≤ maxLen ∧
      (0 < xs.length → ∃ ad, A = some ad ∧ ad.block < W.heap.size ∧ ∀ j x, xs[j]? = some x → W.cell? (ad.add j) = some x.1) ∧ ∀ x ∈ xs, ∃ A' c', x.1 = .slice A' x.2.length c' ∧ x.2.length ≤ c' ∧ BytesAt W A' x.2 := by
  obtain ⟨a0, len0, cap0, rfl⟩ := okWide_slice ht hv
  obtain ⟨n, hn⟩ := h
  rcases Go.Deep.open_slice1 ht ce hn with ⟨hcs, _⟩ | ⟨a, len, cap, m, n', V, D, Pl, hcs, _, hl, hm, hmm, _, hx⟩
  · simp [Value.cells] at hcs
    obtain ⟨rfl, rfl, rfl⟩ := hcs
    exact ⟨none, [], 0, rfl, Nat.le_refl _, Nat.zero_le _, (fun h => absurd h (by simp)), by simp⟩
  · simp [Value.cells] at hcs
    obtain ⟨rfl, rfl, rfl⟩ := hcs
    simp only [if_true] at hmm
    subst hmm
    have each : ∀ i, ∃ l : List UInt8, i < len0 → ∃ A' c', V i = .slice A' l.length c' ∧ l.length ≤ c' ∧ BytesAt W A' l := by
      intro i
      by_cases hi : i < len0
      · obtain ⟨A', l, c', h1, h2, h3⟩ := open_btr_cells he hb cb (hx i (by omega)).2
        injection h1 with h1 _
        exact ⟨l, fun _ => ⟨A', c', h1, h2, h3⟩⟩
      · exact ⟨[], fun h => absurd h hi⟩
    let f : Nat → List UInt8 := fun i => Classical.choose (each i)
    have hf : ∀ i, i < len0 → ∃ A' c', V i = .slice A' (f i).length c' ∧ (f i).length ≤ c' ∧ BytesAt W A' (f i) := fun i => Classical.choose_spec (each i)
    have hlen : ((List.range len0).map fun i => (V i, f i)).length = len0 := by simp
    refine ⟨some a, (List.range len0).map fun i => (V i, f i), m, by rw [hlen], by rw [hlen]; exact hl, hm, fun h0 => ⟨a, rfl, ?_, fun j x hj => ?_⟩, fun x hx' => ?_⟩
    · rw [hlen] at h0
      have := (hx 0 (by omega)).1
      have h1 := World.block_lt_of_cell? _ _ this
      rw [block_of_add] at h1
      exact h1
    · rw [List.getElem?_map, Option.map_eq_some_iff] at hj
      obtain ⟨i, hi, rfl⟩ := hj
      have hjl := (List.getElem?_eq_some_iff.1 hi).1
      simp at hjl
      rw [List.getElem?_range hjl] at hi
      injection hi with hi
      subst hi
      exact (hx j (by omega)).1
    · obtain ⟨i, hi, rfl⟩ := List.mem_map.1 hx'
      exact hf i (List.mem_range.1 hi)
end Go.Proofs.YtlcgkcafelpglaaGreatDoor
namespace Go.Proofs.YtlcgkcafelpglaaGreatDoor
open Go.RowKit Go.Maps

set_option maxRecDepth 100000 in
set_option maxHeartbeats 4000000 in
theorem plain_any (m : ManM) (w : World) : Calls Tryz.prog 13 #[.agg (mCells m)] w fun e w' => e = .returned (.agg (mCells m)) ∧ Below w.heap.size w w' := by
  have h7 : mCells m = #[.int .i64 m.n, .int .i64 m.epoch, .int .i64 m.step, .int .i64 m.sum, .int .i64 m.most, .bool m.done, .int .u32 m.job] := rfl
  have hb1 := (Below.refl w.heap.size w).alloc (Nat.le_refl _) (.cells (mCells m) 38)
  have hb2 := hb1.alloc hb1.size (.cells #[.int .i64 0, .int .i64 0, .int .i64 0, .int .i64 0, .int .i64 0, .bool false, .int .u32 0] 46)
  have hk := Blk.new (w.alloc (.cells (mCells m) 38)) 46 #[.int .i64 0, .int .i64 0, .int .i64 0, .int .i64 0, .int .i64 0, .bool false, .int .u32 0]
  rw [World.size_alloc] at hk
  have hk2 := hk.setRow (mCells m)
  have hb3 := below_row hb2 (Nat.le_succ w.heap.size) (mCells m)
  have hone := mCells_oneA m
  rw [h7] at hk hk2 hb3 hone ⊢
  have HK := Lib.hid hk; have HK2 := Lib.hid hk2; have HB3 := Lib.hid hb3; have HONE := Lib.hid hone
  clear hk hk2 hb1 hb2 hb3 hone h7
  go_enter Tryz.func13, Tryz.ntmps13
  go_wp2_with (first | (refine wpList_store_row rfl 46 (.tmp 2) (.tmp 17) rfl (w.heap.size + 1) #[.int .i64 m.n, .int .i64 m.epoch, .int .i64 m.step, .int .i64 m.sum, .int .i64 m.most, .bool m.done, .int .u32 m.job] rfl rfl 46 _ HK.out infoRf rfl HONE.out ?_))
  refine bodyPost_ret (results_cell_row (Tryz.results13) _ _ (w.heap.size + 1) 46 _ (0, 0) _ rfl HK2.out Tryz.underlying46 rfl infoRf) rfl ?_
  exact ⟨rfl, HB3.out⟩
theorem rf_struct : Tryz.prog.underlying 46 = some (.struct (Tryz.prog.fieldsOf 46)) := by kernel_rfl
theorem rf_plain : Tryz.prog.stoodInHeld 46 = false := by kernel_rfl
set_option maxHeartbeats 2000000 in
theorem run_eql_rf (m : ManM) (w : World) : (binOp .eql 46 (.agg (mCells m)) (.agg (mCells m))).run Tryz.prog w = .ok (.bool true) w := by
  rw [run_eql_struct, run_equalIn_agg _ _ _ _ _ rf_struct rf_plain]
  unfold mCells
  simp [go_sem]
theorem conv_in (T : ByteArray) (W : World) : ∃ v X, (convert 9 39 (.string T)).run Tryz.prog W = .ok v X ∧ BtR X v T ∧ Below W.heap.size W X := by
  have hcap := grownCap_ge W T.size 0 5
  refine ⟨_, _, run_bytes_of_string W 9 39 5 T Tryz.underlying9 Tryz.underlying39 Tryz.underlying5, ?_, ?_⟩
  · refine ⟨_, _, rfl, by omega, by rw [ucells_length, Nat.mul_one], fun h0 => ⟨_, rfl, by simp, fun j u hu => ?_⟩⟩
    have hj : j < T.size := by rw [← ucells_length]; exact (List.getElem?_eq_some_iff.1 hu).1
    have hj' : j < T.data.size := hj
    rw [addr_add, cell_of_row _ W.heap.size (0 + j) _ 5 _ (heap_alloc_new W.drew _), Nat.zero_add]
    rw [ucells_at T j hj] at hu
    injection hu with hu
    subst hu
    unfold bytesRow
    rw [Array.getElem?_append_left (by simpa using hj'), Array.getElem?_map, Array.getElem?_eq_getElem hj']
    simp [ByteArray.get!, getElem!_pos T.data j hj']
  · exact (Below.refl _ _).drew.alloc (Nat.le_refl _) _
theorem btr_of_cells {w : World} {A : Option Addr} {l : List UInt8} {c : Nat} (hc : l.length ≤ c) (h : 0 < l.length → ∃ ad, A = some ad ∧ ad.block < w.heap.size ∧ ∀ j (hj : j < l.length), w.cell? (ad.add j) = some (.int .u8 (l[j].toNat : Int))) : BtR w (.slice A l.length c) ⟨l.toArray⟩ := by
  have hs : (⟨l.toArray⟩ : ByteArray).size = l.length := by simp [ByteArray.size]
  refine ⟨A, c, by rw [hs], by omega, by rw [ucells_length, Nat.mul_one], fun h0 => ?_⟩
  rw [hs] at h0
  obtain ⟨ad, rfl, hb, hx⟩ := h h0
  refine ⟨ad, rfl, hb, fun j u hu => ?_⟩
  have hj : j < l.length := by have := (List.getElem?_eq_some_iff.1 hu).1; rwa [ucells_length, hs] at this
  rw [hx j hj]
  rw [← hu]
  unfold ucells
  rw [List.getElem?_map, List.getElem?_eq_getElem (by simpa using hj)]
  simp
theorem run_load_M (w : World) (g : Nat) (m : ManM) (h : Blk w g 38 (mCells m)) : (Instr.loadAt 38 (.pointer (some ⟨g, 0, none⟩))).run Tryz.prog w = .ok (.agg (mCells m)) w := by
  simp only [Instr.loadAt, Instr.sureAddr, Sem.run_bind, Sem.run_pure, Result.andThen_ok, run_loadVar_row w g 38 38 (mCells m) (0, 0) _ h Tryz.underlying38 rfl infoMf]
theorem run_load_rM (w : World) (g : Nat) (m : ManM) (h : Blk w g 46 (mCells m)) : (Instr.loadAt 46 (.pointer (some ⟨g, 0, none⟩))).run Tryz.prog w = .ok (.agg (mCells m)) w := by
  simp only [Instr.loadAt, Instr.sureAddr, Sem.run_bind, Sem.run_pure, Result.andThen_ok, run_loadVar_row w g 46 46 (mCells m) (0, 0) _ h Tryz.underlying46 rfl infoRf]
end Go.Proofs.YtlcgkcafelpglaaGreatDoor
namespace Go.Proofs.YtlcgkcafelpglaaGreatDoor
open Go.RowKit Go.WideShapes Go.ChangeShapes

/-- a call of a law's row -/
structure CallM where
  kind : Int
  m : ManM
  name : ByteArray
  b : ByteArray
  n : Int
  keep : List Int
/-- a call's twelve cells -/
structure CallAt (w : World) (b o : Nat) (c : CallM) : Prop where
  kb : 0 ≤ c.kind ∧ c.kind ≤ 255
  ok : c.m.Ok
  nb : In64 c.n
  keepb : ∀ z ∈ c.keep, In64 z
  k : w.cell? ⟨b, o, none⟩ = some (.int .u8 c.kind)
  m : ∀ j, j < 7 → w.cell? ⟨b, o + 1 + j, none⟩ = (mCells c.m)[j]?
  name : w.cell? ⟨b, o + 8, none⟩ = some (.string c.name)
  bs : ∃ A cc, w.cell? ⟨b, o + 9, none⟩ = some (.slice A c.b.size cc) ∧ BtR w (.slice A c.b.size cc) c.b
  n : w.cell? ⟨b, o + 10, none⟩ = some (.int .i64 c.n)
  keep : ∃ A cc, w.cell? ⟨b, o + 11, none⟩ = some (.slice A c.keep.length cc) ∧ Rd w 1 A c.keep.length (c.keep.map (Value.int .i64))
theorem CallAt.below {w w' : World} {b o : Nat} {c : CallM} (h : CallAt w b o c) (hlt : b < w.heap.size) (hb : Below w.heap.size w w') : CallAt w' b o c := by
  have hc : ∀ j, w'.cell? ⟨b, j, none⟩ = w.cell? ⟨b, j, none⟩ := fun j => hb.cell (p := ⟨b, j, none⟩) hlt
  obtain ⟨A, cc, h1, h2⟩ := h.bs
  obtain ⟨A2, cc2, h3, h4⟩ := h.keep
  exact ⟨h.kb, h.ok, h.nb, h.keepb, (hc _).trans h.k, fun j hj => (hc _).trans (h.m j hj), (hc _).trans h.name, ⟨A, cc, (hc _).trans h1, h2.below hb⟩, (hc _).trans h.n, ⟨A2, cc2, (hc _).trans h3, h4.below hb⟩⟩
/-- a row of calls, of numbers, as an argument -/
def CallsA (w : World) (A : Option Addr) (l : List CallM) : Prop := 0 < l.length → ∃ b o, A = some ⟨b, o, none⟩ ∧ b < w.heap.size ∧ ∀ i c, l[i]? = some c → CallAt w b (o + i * 12) c
theorem CallsA.below {w w' : World} {A : Option Addr} {l : List CallM} (h : CallsA w A l) (hb : Below w.heap.size w w') : CallsA w' A l := fun h0 => by
  obtain ⟨b, o, hA, hlt, hc⟩ := h h0
  exact ⟨b, o, hA, Nat.lt_of_lt_of_le hlt hb.size, fun i m hm => (hc i m hm).below hlt hb⟩
section
variable {P : Program} {H : Type} {enc : TypeId × Value → H} {t : TypeId} {W : World}
theorem struct_at {fs : Array Field} {n : Nat} {cs : List Value} {x : DataW H × List MemPlace} (ht : P.underlying t = some (.struct fs)) (h : DataW.trod enc P W 0 (fun _ => true) true n t cs = some x) (i : Nat) (f : Field) (hi : fs[i]? = some f)
    (hc : P.cellsOf f.type = 1) {v : Value} (hv : cs[f.offset]? = some v) : ∃ m y, DataW.trod enc P W 0 (fun _ => true) true m f.type [v] = some y := by
  obtain ⟨xs, m, _, _, hl, hlen, hf⟩ := DataW.trod_struct ht h
  have := hf i f hi
  rw [hc, one_of_drop hv, List.getElem?_eq_getElem (by rw [hlen]; exact (Array.getElem?_eq_some_iff.1 hi).1)] at this
  exact ⟨m, _, this⟩
theorem struct_many {fs : Array Field} {n : Nat} {cs : List Value} {x : DataW H × List MemPlace} (ht : P.underlying t = some (.struct fs)) (h : DataW.trod enc P W 0 (fun _ => true) true n t cs = some x) (i : Nat) (f : Field) (hi : fs[i]? = some f)
    {t' : TypeId} (e1 : f.type = t') {k : Nat} (e2 : P.cellsOf t' = k) {cs' : List Value} (e3 : (cs.drop f.offset).take k = cs') : ∃ m y, DataW.trod enc P W 0 (fun _ => true) true m t' cs' = some y := by
  subst e1 e2 e3
  obtain ⟨xs, m, _, _, hl, hlen, hf⟩ := DataW.trod_struct ht h
  have := hf i f hi
  rw [List.getElem?_eq_getElem (by rw [hlen]; exact (Array.getElem?_eq_some_iff.1 hi).1)] at this
  exact ⟨m, _, this⟩
end
theorem list12 {α : Type} {cs : List α} (h : cs.length = 12) : ∃ c0 c1 c2 c3 c4 c5 c6 c7 c8 c9 c10 c11, cs = [c0, c1, c2, c3, c4, c5, c6, c7, c8, c9, c10, c11] := by
  match cs, h with
  | [c0, c1, c2, c3, c4, c5, c6, c7, c8, c9, c10, c11], _ => exact ⟨c0, c1, c2, c3, c4, c5, c6, c7, c8, c9, c10, c11, rfl⟩
theorem cellsCa : Tryz.prog.cellsOf 42 = 12 := by kernel_rfl
theorem cellsCap : 0 < Tryz.prog.cellsOf 42 := Nat.lt_of_lt_of_eq (Nat.zero_lt_succ 11) cellsCa.symm
theorem cellsStr : Tryz.prog.cellsOf 9 = 1 := by kernel_rfl
theorem cellsBy : Tryz.prog.cellsOf 39 = 1 := by kernel_rfl
theorem cellsIs : Tryz.prog.cellsOf 40 = 1 := by kernel_rfl
theorem cellsIp : 0 < Tryz.prog.cellsOf 3 := Nat.lt_of_lt_of_eq (Nat.zero_lt_succ 0) cellsI.symm
theorem ints_of {H : Type} {enc : TypeId × Value → H} {W : World} {A : Option Addr} {len : Nat} (hr : len = 0 ∨ ∃ b o, A = some ⟨b, o, none⟩ ∧ b < W.heap.size ∧
      ∀ i, i < len → ∃ cs' m y, cs'.length = Tryz.prog.cellsOf 3 ∧ (∀ j, j < Tryz.prog.cellsOf 3 → W.cell? ⟨b, o + i * Tryz.prog.cellsOf 3 + j, none⟩ = cs'[j]?) ∧ DataW.trod enc Tryz.prog W 0 (fun _ => true) true m 3 cs' = some y) :
    ∃ l : List Int, l.length = len ∧ Rd W 1 A l.length (l.map (Value.int .i64)) ∧ ∀ z ∈ l, In64 z := by
  rcases hr with rfl | ⟨b, o, rfl, hb, hx⟩
  · exact ⟨[], rfl, ⟨by simp, fun h => absurd h (Nat.lt_irrefl 0)⟩, by simp⟩
  · rw [cellsI] at hx
    have each : ∀ i, i < len → ∃ z : Int, W.cell? ⟨b, o + i, none⟩ = some (.int .i64 z) ∧ In64 z := by
      intro i hi
      obtain ⟨cs, k, y, hl, hc, ht⟩ := hx i hi
      match cs, hl with
      | [c0], _ =>
        obtain ⟨z, e, _, hw⟩ := DataW.trod_int Tryz.underlying3 ht
        injection e with e _
        subst e
        exact ⟨z, by have := hc 0 (by decide); simpa using this, in64_of hw⟩
    obtain ⟨l, hl, hm⟩ := list_of_each each
    refine ⟨l, hl, ⟨by simp, fun _ => ⟨⟨b, o, none⟩, rfl, hb, fun j u hu => ?_⟩⟩, fun z hz => ?_⟩
    · rw [List.getElem?_map] at hu
      cases hj : l[j]? with
      | none => rw [hj] at hu; cases hu
      | some z =>
        rw [hj] at hu
        injection hu with hu
        subst hu
        rw [addr_add]
        exact (hm j z hj).1
    · obtain ⟨i, hi, rfl⟩ := List.mem_iff_getElem.1 hz
      exact (hm i _ (List.getElem?_eq_getElem hi)).2
section
variable {H : Type} {enc : TypeId × Value → H} {W : World} {base : Nat} {v : Value} {d : DataW H} {ps : List MemPlace}
set_option maxRecDepth 100000 in
theorem open_ints (hv : Value.okWide Tryz.prog W .any base 40 v) (h : DataW.Trod enc Tryz.prog W 0 (fun _ => true) true 40 v d ps) :
    ∃ (A : Option Addr) (l : List Int) (c : Nat), v = .slice A l.length c ∧ Rd W 1 A l.length (l.map (Value.int .i64)) ∧ ∀ z ∈ l, In64 z := by
  obtain ⟨A, len, c, rfl, h1, h2, hr⟩ := open_row Tryz.underlying40 cellsIp hv h
  obtain ⟨l, rfl, hR, hw⟩ := ints_of hr
  exact ⟨A, l, c, rfl, hR, hw⟩
set_option maxRecDepth 100000 in
theorem open_calls (hv : Value.okWide Tryz.prog W .any base 22 v) (h : DataW.Trod enc Tryz.prog W 0 (fun _ => true) true 22 v d ps) :
    ∃ (A : Option Addr) (l : List CallM) (c : Nat), v = .slice A l.length c ∧ CallsA W A l := by
  obtain ⟨A, len, c, rfl, h1, h2, hr⟩ := open_row Tryz.underlying22 cellsCap hv h
  rcases hr with rfl | ⟨b, o, rfl, hb, hx⟩
  · exact ⟨A, [], c, rfl, fun h => absurd h (Nat.lt_irrefl 0)⟩
  · rw [cellsCa] at hx
    have each : ∀ i, i < len → ∃ c : CallM, CallAt W b (o + i * 12) c := by
      intro i hi
      obtain ⟨cs, k, y, hl, hc, ht⟩ := hx i hi
      obtain ⟨c0, c1, c2, c3, c4, c5, c6, c7, c8, c9, c10, c11, rfl⟩ := list12 hl
      obtain ⟨z0, rfl, w0⟩ := struct_int Tryz.underlying42 ht 0 _ rfl Tryz.underlying5 cellsU8 (v := c0) rfl
      obtain ⟨k1, y1, t1⟩ := struct_many Tryz.underlying42 ht 1 _ rfl (t' := 38) rfl cellsMa rfl
      obtain ⟨m, hm, he⟩ := man_of t1
      obtain ⟨k2, y2, t2⟩ := struct_at Tryz.underlying42 ht 2 _ rfl cellsStr (v := c8) rfl
      obtain ⟨s, e2, _⟩ := DataW.trod_string Tryz.underlying9 t2
      simp only [List.cons.injEq, and_true] at e2
      subst e2
      obtain ⟨k3, y3, t3⟩ := struct_at Tryz.underlying42 ht 3 _ rfl cellsBy (v := c9) rfl
      obtain ⟨A3, l3, cc3, e3, hl3, hb3⟩ := open_btr_cells Tryz.underlying39 Tryz.underlying5 cellsU8 t3
      simp only [List.cons.injEq, and_true] at e3
      subst e3
      obtain ⟨z4, rfl, w4⟩ := struct_int Tryz.underlying42 ht 4 _ rfl Tryz.underlying3 cellsI (v := c10) rfl
      obtain ⟨k5, y5, t5⟩ := struct_at Tryz.underlying42 ht 5 _ rfl cellsIs (v := c11) rfl
      obtain ⟨A5, len5, cc5, e5, _, _, hr5⟩ := open_row_cells Tryz.underlying40 cellsIp t5
      simp only [List.cons.injEq, and_true] at e5
      subst e5
      obtain ⟨l5, rfl, hR5, hw5⟩ := ints_of hr5
      have hs3 : (⟨l3.toArray⟩ : ByteArray).size = l3.length := by simp [ByteArray.size]
      have hbr := btr_of_cells hl3 hb3
      have g : ∀ (j : Nat) (u : Value), ([Value.int .u8 z0, c1, c2, c3, c4, c5, c6, c7, .string s, .slice A3 l3.length cc3, .int .i64 z4, .slice A5 l5.length cc5] : List Value)[j]? = some u → j < 12 → W.cell? ⟨b, o + i * 12 + j, none⟩ = some u := fun j u hu hj => (hc j hj).trans hu
      refine ⟨⟨z0, m, s, ⟨l3.toArray⟩, z4, l5⟩, bounds_u8 w0, hm, in64_of w4, hw5, g 0 _ rfl (by decide), fun j hj => ?_, g 8 _ rfl (by decide), ⟨A3, cc3, by show _ = some (Value.slice A3 (⟨l3.toArray⟩ : ByteArray).size cc3); rw [hs3]; exact g 9 _ rfl (by decide), hbr⟩, g 10 _ rfl (by decide), ⟨A5, cc5, g 11 _ rfl (by decide), hR5⟩⟩
      show W.cell? ⟨b, o + i * 12 + 1 + j, none⟩ = (mCells m)[j]?
      rw [he, Nat.add_assoc, hc (1 + j) (by omega)]
      match j, hj with
      | 0, _ => rfl
      | 1, _ => rfl
      | 2, _ => rfl
      | 3, _ => rfl
      | 4, _ => rfl
      | 5, _ => rfl
      | 6, _ => rfl
    obtain ⟨l, rfl, hm⟩ := list_of_each each
    exact ⟨_, l, c, rfl, fun _ => ⟨b, o, rfl, hb, hm⟩⟩
end
end Go.Proofs.YtlcgkcafelpglaaGreatDoor
