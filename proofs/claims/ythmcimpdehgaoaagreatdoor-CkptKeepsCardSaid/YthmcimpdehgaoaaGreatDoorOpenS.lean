/- Arguments opened: parts of structs, rows of numbers; a table that is laid among others; bytes of a text. -/
import Derived.Test.YthmcimpdehgaoaaGreatDoorPk42
import Derived.Test.YthmcimpdehgaoaaGreatDoorPk43
import Derived.Test.YthmcimpdehgaoaaGreatDoorRec
import Derived.Test.YthmcimpdehgaoaaGreatDoorDk4
import Derived.Lib.LaidTab
import Derived.Laws.IdiomStrings
namespace Go.Proofs.YthmcimpdehgaoaaGreatDoor
open Go.RowKit Go.WideShapes Go.ChangeShapes

theorem laidMet_tail {P : Program} {W : World} {x : String × DataW Unit} {L : List (String × DataW Unit)} (h : laidMet P (x :: L) W) : laidMet P L W := by
  obtain ⟨ps, ⟨g', t', cs, fuel, p, q, hg', ht', hvar, hd, htl, heq⟩, hn, hr⟩ := h
  subst heq
  exact ⟨q, htl, (List.nodup_append.1 hn).2.1, fun b off hm => hr b off (List.mem_append_right _ hm)⟩
section
variable {P : Program} {H : Type} {enc : TypeId × Value → H} {t : TypeId} {W : World}
theorem one_of_drop {cs : List Value} {i : Nat} {v : Value} (h : cs[i]? = some v) : (cs.drop i).take 1 = [v] := by
  obtain ⟨hlt, rfl⟩ := List.getElem?_eq_some_iff.1 h
  rw [List.drop_eq_getElem_cons hlt]
  rfl
theorem struct_int {fs : Array Field} {n : Nat} {cs : List Value} {x : DataW H × List MemPlace} (ht : P.underlying t = some (.struct fs)) (h : DataW.trod enc P W 0 (fun _ => true) true n t cs = some x) (i : Nat) (f : Field) (hi : fs[i]? = some f) {k : IntKind}
    (hu : P.underlying f.type = some (.int k)) (hc : P.cellsOf f.type = 1) {v : Value} (hv : cs[f.offset]? = some v) : ∃ z, v = .int k z ∧ (Lit.int k z).wf = true := by
  obtain ⟨xs, m, _, _, hl, hlen, hf⟩ := DataW.trod_struct ht h
  have := hf i f hi
  rw [hc, one_of_drop hv, List.getElem?_eq_getElem (by rw [hlen]; exact (Array.getElem?_eq_some_iff.1 hi).1)] at this
  obtain ⟨z, h1, _, h2⟩ := DataW.trod_int hu this
  injection h1 with h1 _
  exact ⟨z, h1, h2⟩
theorem struct_bool {fs : Array Field} {n : Nat} {cs : List Value} {x : DataW H × List MemPlace} (ht : P.underlying t = some (.struct fs)) (h : DataW.trod enc P W 0 (fun _ => true) true n t cs = some x) (i : Nat) (f : Field) (hi : fs[i]? = some f)
    (hu : P.underlying f.type = some .bool) (hc : P.cellsOf f.type = 1) {v : Value} (hv : cs[f.offset]? = some v) : ∃ z, v = .bool z := by
  obtain ⟨xs, m, _, _, hl, hlen, hf⟩ := DataW.trod_struct ht h
  have := hf i f hi
  rw [hc, one_of_drop hv, List.getElem?_eq_getElem (by rw [hlen]; exact (Array.getElem?_eq_some_iff.1 hi).1)] at this
  obtain ⟨z, h1, _⟩ := DataW.trod_bool hu this
  injection h1 with h1 _
  exact ⟨z, h1⟩
theorem struct_at {fs : Array Field} {n : Nat} {cs : List Value} {x : DataW H × List MemPlace} (ht : P.underlying t = some (.struct fs)) (h : DataW.trod enc P W 0 (fun _ => true) true n t cs = some x) (i : Nat) (f : Field) (hi : fs[i]? = some f)
    (hc : P.cellsOf f.type = 1) {v : Value} (hv : cs[f.offset]? = some v) : ∃ m y, DataW.trod enc P W 0 (fun _ => true) true m f.type [v] = some y := by
  obtain ⟨xs, m, _, _, hl, hlen, hf⟩ := DataW.trod_struct ht h
  have := hf i f hi
  rw [hc, one_of_drop hv, List.getElem?_eq_getElem (by rw [hlen]; exact (Array.getElem?_eq_some_iff.1 hi).1)] at this
  exact ⟨m, _, this⟩
theorem struct_many {fs : Array Field} {n : Nat} {cs : List Value} {x : DataW H × List MemPlace} (ht : P.underlying t = some (.struct fs)) (h : DataW.trod enc P W 0 (fun _ => true) true n t cs = some x) (i : Nat) (f : Field) (hi : fs[i]? = some f)
    {t' : TypeId} (e1 : f.type = t') {k : Nat} (e2 : P.cellsOf t' = k) {cs' : List Value} (e3 : (cs.drop f.offset).take k = cs') : ∃ m y, DataW.trod enc P W 0 (fun _ => true) true m t' cs' = some y := by
  subst e1 e2 e3
  obtain ⟨xs, m, _, _, hl, hlen, hf⟩ := DataW.trod_struct ht h
  have := hf i f hi
  rw [List.getElem?_eq_getElem (by rw [hlen]; exact (Array.getElem?_eq_some_iff.1 hi).1)] at this
  exact ⟨m, _, this⟩
end
theorem cellsI : Tryz.prog.cellsOf 3 = 1 := by kernel_rfl
theorem cellsI64 : Tryz.prog.cellsOf 2 = 1 := by kernel_rfl
theorem cellsU32 : Tryz.prog.cellsOf 84 = 1 := by kernel_rfl
theorem cellsBo : Tryz.prog.cellsOf 4 = 1 := by kernel_rfl
theorem cellsU8 : Tryz.prog.cellsOf 5 = 1 := by kernel_rfl
theorem in64_of {z : Int} (h : (Lit.int .i64 z).wf = true) : In64 z := by
  have := bounds_i64 h
  exact ⟨this.1, this.2⟩
theorem cellsStr : Tryz.prog.cellsOf 9 = 1 := by kernel_rfl
theorem cellsBy : Tryz.prog.cellsOf 33 = 1 := by kernel_rfl
theorem cellsIs : Tryz.prog.cellsOf 34 = 1 := by kernel_rfl
theorem cellsIp : 0 < Tryz.prog.cellsOf 3 := Nat.lt_of_lt_of_eq (Nat.zero_lt_succ 0) cellsI.symm
theorem ints_of {H : Type} {enc : TypeId × Value → H} {W : World} {A : Option Addr} {len : Nat} (hr : len = 0 ∨ ∃ b o, A = some ⟨b, o, none⟩ ∧ b < W.heap.size ∧
      ∀ i, i < len → ∃ cs' m y, cs'.length = Tryz.prog.cellsOf 3 ∧ (∀ j, j < Tryz.prog.cellsOf 3 → W.cell? ⟨b, o + i * Tryz.prog.cellsOf 3 + j, none⟩ = cs'[j]?) ∧ DataW.trod enc Tryz.prog W 0 (fun _ => true) true m 3 cs' = some y) :
    ∃ l : List Int, l.length = len ∧ Rd W 1 A l.length (l.map (Value.int .i64)) ∧ ∀ z ∈ l, In64 z := by
  rcases hr with rfl | ⟨b, o, rfl, hb, hx⟩
  · exact ⟨[], rfl, ⟨by simp, fun h => absurd h (Nat.lt_irrefl 0)⟩, by simp⟩
  · rw [cellsI] at hx
    have each : ∀ i, i < len → ∃ z : Int, W.cell? ⟨b, o + i, none⟩ = some (.int .i64 z) ∧ In64 z := by
      intro i hi
      obtain ⟨cs, k, y, hl, hc, ht⟩ := hx i hi
      match cs, hl with
      | [c0], _ =>
        obtain ⟨z, e, _, hw⟩ := DataW.trod_int Tryz.underlying3 ht
        injection e with e _
        subst e
        exact ⟨z, by have := hc 0 (by decide); simpa using this, in64_of hw⟩
    obtain ⟨l, hl, hm⟩ := list_of_each each
    refine ⟨l, hl, ⟨by simp, fun _ => ⟨⟨b, o, none⟩, rfl, hb, fun j u hu => ?_⟩⟩, fun z hz => ?_⟩
    · rw [List.getElem?_map] at hu
      cases hj : l[j]? with
      | none => rw [hj] at hu; cases hu
      | some z =>
        rw [hj] at hu
        injection hu with hu
        subst hu
        rw [addr_add]
        exact (hm j z hj).1
    · obtain ⟨i, hi, rfl⟩ := List.mem_iff_getElem.1 hz
      exact (hm i _ (List.getElem?_eq_getElem hi)).2
section
variable {H : Type} {enc : TypeId × Value → H} {W : World} {base : Nat} {v : Value} {d : DataW H} {ps : List MemPlace}
set_option maxRecDepth 100000 in
theorem open_ints (hv : Value.okWide Tryz.prog W .any base 34 v) (h : DataW.Trod enc Tryz.prog W 0 (fun _ => true) true 34 v d ps) :
    ∃ (A : Option Addr) (l : List Int) (c : Nat), v = .slice A l.length c ∧ Rd W 1 A l.length (l.map (Value.int .i64)) ∧ ∀ z ∈ l, In64 z := by
  obtain ⟨A, len, c, rfl, h1, h2, hr⟩ := open_row Tryz.underlying34 cellsIp hv h
  obtain ⟨l, rfl, hR, hw⟩ := ints_of hr
  exact ⟨A, l, c, rfl, hR, hw⟩
end
theorem conv_in (T : ByteArray) (W : World) : ∃ v X, (convert 9 33 (.string T)).run Tryz.prog W = .ok v X ∧ BtR X v T ∧ Below W.heap.size W X := by
  have hcap := grownCap_ge W T.size 0 5
  refine ⟨_, _, run_bytes_of_string W 9 33 5 T Tryz.underlying9 Tryz.underlying33 Tryz.underlying5, ?_, ?_⟩
  · refine ⟨_, _, rfl, by omega, by rw [ucells_length, Nat.mul_one], fun h0 => ⟨_, rfl, by simp, fun j u hu => ?_⟩⟩
    have hj : j < T.size := by rw [← ucells_length]; exact (List.getElem?_eq_some_iff.1 hu).1
    have hj' : j < T.data.size := hj
    rw [addr_add, cell_of_row _ W.heap.size (0 + j) _ 5 _ (heap_alloc_new W.drew _), Nat.zero_add]
    rw [ucells_at T j hj] at hu
    injection hu with hu
    subst hu
    unfold bytesRow
    rw [Array.getElem?_append_left (by simpa using hj'), Array.getElem?_map, Array.getElem?_eq_getElem hj']
    simp [ByteArray.get!, getElem!_pos T.data j hj']
  · exact (Below.refl _ _).drew.alloc (Nat.le_refl _) _
theorem btr_of_cells {w : World} {A : Option Addr} {l : List UInt8} {c : Nat} (hc : l.length ≤ c) (h : 0 < l.length → ∃ ad, A = some ad ∧ ad.block < w.heap.size ∧ ∀ j (hj : j < l.length), w.cell? (ad.add j) = some (.int .u8 (l[j].toNat : Int))) : BtR w (.slice A l.length c) ⟨l.toArray⟩ := by
  have hs : (⟨l.toArray⟩ : ByteArray).size = l.length := by simp [ByteArray.size]
  refine ⟨A, c, by rw [hs], by omega, by rw [ucells_length, Nat.mul_one], fun h0 => ?_⟩
  rw [hs] at h0
  obtain ⟨ad, rfl, hb, hx⟩ := h h0
  refine ⟨ad, rfl, hb, fun j u hu => ?_⟩
  have hj : j < l.length := by have := (List.getElem?_eq_some_iff.1 hu).1; rwa [ucells_length, hs] at this
  rw [hx j hj]
  rw [← hu]
  unfold ucells
  rw [List.getElem?_map, List.getElem?_eq_getElem (by simpa using hj)]
  simp
end Go.Proofs.YthmcimpdehgaoaaGreatDoor
