/- Arguments of layer 20, opened: manifests; a table that is laid among others. -/
import Derived.Test.YtlcgkcafelpglaaDoorArgs
import Derived.Test.YtlcgkcafelpglaaDoorOpenRow
import Derived.Test.YtlcgkcafelpglaaDoorMaJ
import Derived.Lib.LaidTab
namespace Go.Proofs.YtlcgkcafelpglaaDoor
open Go.RowKit Go.WideShapes Go.ChangeShapes

theorem laidMet_tail {P : Program} {W : World} {x : String × DataW Unit} {L : List (String × DataW Unit)} (h : laidMet P (x :: L) W) : laidMet P L W := by
  obtain ⟨ps, ⟨g', t', cs, fuel, p, q, hg', ht', hvar, hd, htl, heq⟩, hn, hr⟩ := h
  subst heq
  exact ⟨q, htl, (List.nodup_append.1 hn).2.1, fun b off hm => hr b off (List.mem_append_right _ hm)⟩
section
variable {P : Program} {H : Type} {enc : TypeId × Value → H} {t : TypeId} {W : World}
theorem one_of_drop {cs : List Value} {i : Nat} {v : Value} (h : cs[i]? = some v) : (cs.drop i).take 1 = [v] := by
  obtain ⟨hlt, rfl⟩ := List.getElem?_eq_some_iff.1 h
  rw [List.drop_eq_getElem_cons hlt]
  rfl
theorem struct_int {fs : Array Field} {n : Nat} {cs : List Value} {x : DataW H × List MemPlace} (ht : P.underlying t = some (.struct fs)) (h : DataW.trod enc P W 0 (fun _ => true) true n t cs = some x) (i : Nat) (f : Field) (hi : fs[i]? = some f) {k : IntKind}
    (hu : P.underlying f.type = some (.int k)) (hc : P.cellsOf f.type = 1) {v : Value} (hv : cs[f.offset]? = some v) : ∃ z, v = .int k z ∧ (Lit.int k z).wf = true := by
  obtain ⟨xs, m, _, _, hl, hlen, hf⟩ := DataW.trod_struct ht h
  have := hf i f hi
  rw [hc, one_of_drop hv, List.getElem?_eq_getElem (by rw [hlen]; exact (Array.getElem?_eq_some_iff.1 hi).1)] at this
  obtain ⟨z, h1, _, h2⟩ := DataW.trod_int hu this
  injection h1 with h1 _
  exact ⟨z, h1, h2⟩
theorem struct_bool {fs : Array Field} {n : Nat} {cs : List Value} {x : DataW H × List MemPlace} (ht : P.underlying t = some (.struct fs)) (h : DataW.trod enc P W 0 (fun _ => true) true n t cs = some x) (i : Nat) (f : Field) (hi : fs[i]? = some f)
    (hu : P.underlying f.type = some .bool) (hc : P.cellsOf f.type = 1) {v : Value} (hv : cs[f.offset]? = some v) : ∃ z, v = .bool z := by
  obtain ⟨xs, m, _, _, hl, hlen, hf⟩ := DataW.trod_struct ht h
  have := hf i f hi
  rw [hc, one_of_drop hv, List.getElem?_eq_getElem (by rw [hlen]; exact (Array.getElem?_eq_some_iff.1 hi).1)] at this
  obtain ⟨z, h1, _⟩ := DataW.trod_bool hu this
  injection h1 with h1 _
  exact ⟨z, h1⟩
end
theorem array7 {α : Type} {cs : Array α} (h : cs.size = 7) : ∃ c0 c1 c2 c3 c4 c5 c6, cs = #[c0, c1, c2, c3, c4, c5, c6] := by
  obtain ⟨l⟩ := cs
  match l, h with
  | [c0, c1, c2, c3, c4, c5, c6], _ => exact ⟨c0, c1, c2, c3, c4, c5, c6, rfl⟩
theorem list7 {α : Type} {cs : List α} (h : cs.length = 7) : ∃ c0 c1 c2 c3 c4 c5 c6, cs = [c0, c1, c2, c3, c4, c5, c6] := by
  match cs, h with
  | [c0, c1, c2, c3, c4, c5, c6], _ => exact ⟨c0, c1, c2, c3, c4, c5, c6, rfl⟩
theorem cellsMa : Tryd.prog.cellsOf 24 = 7 := by kernel_rfl
theorem cellsI : Tryd.prog.cellsOf 3 = 1 := by kernel_rfl
theorem cellsI64 : Tryd.prog.cellsOf 2 = 1 := by kernel_rfl
theorem cellsU32 : Tryd.prog.cellsOf 22 = 1 := by kernel_rfl
theorem cellsBo : Tryd.prog.cellsOf 4 = 1 := by kernel_rfl
theorem cellsU8 : Tryd.prog.cellsOf 5 = 1 := by kernel_rfl
theorem in64_of {z : Int} (h : (Lit.int .i64 z).wf = true) : In64 z := by
  have := bounds_i64 h
  exact ⟨this.1, this.2⟩
/-- a manifest's cells are a manifest -/
theorem man_of {H : Type} {enc : TypeId × Value → H} {W : World} {n : Nat} {c0 c1 c2 c3 c4 c5 c6 : Value} {x : DataW H × List MemPlace} (hn : DataW.trod enc Tryd.prog W 0 (fun _ => true) true n 24 [c0, c1, c2, c3, c4, c5, c6] = some x) :
    ∃ m : ManM, m.Ok ∧ mCells m = #[c0, c1, c2, c3, c4, c5, c6] := by
  obtain ⟨z0, rfl, w0⟩ := struct_int Tryd.underlying24 hn 0 _ rfl Tryd.underlying2 cellsI64 (v := c0) rfl
  obtain ⟨z1, rfl, w1⟩ := struct_int Tryd.underlying24 hn 1 _ rfl Tryd.underlying2 cellsI64 (v := c1) rfl
  obtain ⟨z2, rfl, w2⟩ := struct_int Tryd.underlying24 hn 2 _ rfl Tryd.underlying3 cellsI (v := c2) rfl
  obtain ⟨z3, rfl, w3⟩ := struct_int Tryd.underlying24 hn 3 _ rfl Tryd.underlying2 cellsI64 (v := c3) rfl
  obtain ⟨z4, rfl, w4⟩ := struct_int Tryd.underlying24 hn 4 _ rfl Tryd.underlying2 cellsI64 (v := c4) rfl
  obtain ⟨z5, rfl⟩ := struct_bool Tryd.underlying24 hn 5 _ rfl Tryd.underlying4 cellsBo (v := c5) rfl
  obtain ⟨z6, rfl, w6⟩ := struct_int Tryd.underlying24 hn 6 _ rfl Tryd.underlying22 cellsU32 (v := c6) rfl
  have b6 := bounds_u32 w6
  refine ⟨⟨z0, z1, z2, z3, z4, z5, z6.toNat⟩, ⟨in64_of w0, in64_of w1, in64_of w2, in64_of w3, in64_of w4, by show z6.toNat < 4294967296; omega⟩, ?_⟩
  show (#[Value.int .i64 z0, Value.int .i64 z1, Value.int .i64 z2, Value.int .i64 z3, Value.int .i64 z4, Value.bool z5, Value.int .u32 ((z6.toNat : Nat) : Int)] : Array Value) = _
  rw [Int.toNat_of_nonneg b6.1]
set_option maxRecDepth 100000 in
theorem open_man {H : Type} {enc : TypeId × Value → H} {W : World} {base : Nat} {v : Value} {d : DataW H} {ps : List MemPlace} (hv : Value.okWide Tryd.prog W .any base 24 v) (h : DataW.Trod enc Tryd.prog W 0 (fun _ => true) true 24 v d ps) :
    ∃ m : ManM, v = .agg (mCells m) ∧ m.Ok := by
  obtain ⟨cs, rfl, hsz⟩ := okWide_struct Tryd.underlying24 hv
  rw [cellsMa] at hsz
  obtain ⟨c0, c1, c2, c3, c4, c5, c6, rfl⟩ := array7 hsz
  obtain ⟨n, hn⟩ := h
  obtain ⟨m, hm, he⟩ := man_of hn
  exact ⟨m, by rw [he], hm⟩
end Go.Proofs.YtlcgkcafelpglaaDoor
