/- Arguments of layer 20, opened: rows of calls, rows of numbers. -/
import Derived.Test.YtlcgkcafelpglaaGreatDoorPk45
namespace Go.Proofs.YtlcgkcafelpglaaGreatDoor
open Go.RowKit Go.WideShapes Go.ChangeShapes

/-- a call of a law's row -/
structure CallM where
  kind : Int
  m : ManM
  name : ByteArray
  b : ByteArray
  n : Int
  keep : List Int
/-- a call's twelve cells -/
structure CallAt (w : World) (b o : Nat) (c : CallM) : Prop where
  kb : 0 ≤ c.kind ∧ c.kind ≤ 255
  ok : c.m.Ok
  nb : In64 c.n
  keepb : ∀ z ∈ c.keep, In64 z
  k : w.cell? ⟨b, o, none⟩ = some (.int .u8 c.kind)
  m : ∀ j, j < 7 → w.cell? ⟨b, o + 1 + j, none⟩ = (mCells c.m)[j]?
  name : w.cell? ⟨b, o + 8, none⟩ = some (.string c.name)
  bs : ∃ A cc, w.cell? ⟨b, o + 9, none⟩ = some (.slice A c.b.size cc) ∧ BtR w (.slice A c.b.size cc) c.b
  n : w.cell? ⟨b, o + 10, none⟩ = some (.int .i64 c.n)
  keep : ∃ A cc, w.cell? ⟨b, o + 11, none⟩ = some (.slice A c.keep.length cc) ∧ Rd w 1 A c.keep.length (c.keep.map (Value.int .i64))
theorem CallAt.below {w w' : World} {b o : Nat} {c : CallM} (h : CallAt w b o c) (hlt : b < w.heap.size) (hb : Below w.heap.size w w') : CallAt w' b o c := by
  have hc : ∀ j, w'.cell? ⟨b, j, none⟩ = w.cell? ⟨b, j, none⟩ := fun j => hb.cell (p := ⟨b, j, none⟩) hlt
  obtain ⟨A, cc, h1, h2⟩ := h.bs
  obtain ⟨A2, cc2, h3, h4⟩ := h.keep
  exact ⟨h.kb, h.ok, h.nb, h.keepb, (hc _).trans h.k, fun j hj => (hc _).trans (h.m j hj), (hc _).trans h.name, ⟨A, cc, (hc _).trans h1, h2.below hb⟩, (hc _).trans h.n, ⟨A2, cc2, (hc _).trans h3, h4.below hb⟩⟩
/-- a row of calls, of numbers, as an argument -/
def CallsA (w : World) (A : Option Addr) (l : List CallM) : Prop := 0 < l.length → ∃ b o, A = some ⟨b, o, none⟩ ∧ b < w.heap.size ∧ ∀ i c, l[i]? = some c → CallAt w b (o + i * 12) c
theorem CallsA.below {w w' : World} {A : Option Addr} {l : List CallM} (h : CallsA w A l) (hb : Below w.heap.size w w') : CallsA w' A l := fun h0 => by
  obtain ⟨b, o, hA, hlt, hc⟩ := h h0
  exact ⟨b, o, hA, Nat.lt_of_lt_of_le hlt hb.size, fun i m hm => (hc i m hm).below hlt hb⟩
section
variable {P : Program} {H : Type} {enc : TypeId × Value → H} {t : TypeId} {W : World}
theorem struct_at {fs : Array Field} {n : Nat} {cs : List Value} {x : DataW H × List MemPlace} (ht : P.underlying t = some (.struct fs)) (h : DataW.trod enc P W 0 (fun _ => true) true n t cs = some x) (i : Nat) (f : Field) (hi : fs[i]? = some f)
    (hc : P.cellsOf f.type = 1) {v : Value} (hv : cs[f.offset]? = some v) : ∃ m y, DataW.trod enc P W 0 (fun _ => true) true m f.type [v] = some y := by
  obtain ⟨xs, m, _, _, hl, hlen, hf⟩ := DataW.trod_struct ht h
  have := hf i f hi
  rw [hc, one_of_drop hv, List.getElem?_eq_getElem (by rw [hlen]; exact (Array.getElem?_eq_some_iff.1 hi).1)] at this
  exact ⟨m, _, this⟩
theorem struct_many {fs : Array Field} {n : Nat} {cs : List Value} {x : DataW H × List MemPlace} (ht : P.underlying t = some (.struct fs)) (h : DataW.trod enc P W 0 (fun _ => true) true n t cs = some x) (i : Nat) (f : Field) (hi : fs[i]? = some f)
    {t' : TypeId} (e1 : f.type = t') {k : Nat} (e2 : P.cellsOf t' = k) {cs' : List Value} (e3 : (cs.drop f.offset).take k = cs') : ∃ m y, DataW.trod enc P W 0 (fun _ => true) true m t' cs' = some y := by
  subst e1 e2 e3
  obtain ⟨xs, m, _, _, hl, hlen, hf⟩ := DataW.trod_struct ht h
  have := hf i f hi
  rw [List.getElem?_eq_getElem (by rw [hlen]; exact (Array.getElem?_eq_some_iff.1 hi).1)] at this
  exact ⟨m, _, this⟩
end
theorem list12 {α : Type} {cs : List α} (h : cs.length = 12) : ∃ c0 c1 c2 c3 c4 c5 c6 c7 c8 c9 c10 c11, cs = [c0, c1, c2, c3, c4, c5, c6, c7, c8, c9, c10, c11] := by
  match cs, h with
  | [c0, c1, c2, c3, c4, c5, c6, c7, c8, c9, c10, c11], _ => exact ⟨c0, c1, c2, c3, c4, c5, c6, c7, c8, c9, c10, c11, rfl⟩
theorem cellsCa : Tryz.prog.cellsOf 42 = 12 := by kernel_rfl
theorem cellsCap : 0 < Tryz.prog.cellsOf 42 := Nat.lt_of_lt_of_eq (Nat.zero_lt_succ 11) cellsCa.symm
theorem cellsStr : Tryz.prog.cellsOf 9 = 1 := by kernel_rfl
theorem cellsBy : Tryz.prog.cellsOf 39 = 1 := by kernel_rfl
theorem cellsIs : Tryz.prog.cellsOf 40 = 1 := by kernel_rfl
theorem cellsIp : 0 < Tryz.prog.cellsOf 3 := Nat.lt_of_lt_of_eq (Nat.zero_lt_succ 0) cellsI.symm
theorem ints_of {H : Type} {enc : TypeId × Value → H} {W : World} {A : Option Addr} {len : Nat} (hr : len = 0 ∨ ∃ b o, A = some ⟨b, o, none⟩ ∧ b < W.heap.size ∧
      ∀ i, i < len → ∃ cs' m y, cs'.length = Tryz.prog.cellsOf 3 ∧ (∀ j, j < Tryz.prog.cellsOf 3 → W.cell? ⟨b, o + i * Tryz.prog.cellsOf 3 + j, none⟩ = cs'[j]?) ∧ DataW.trod enc Tryz.prog W 0 (fun _ => true) true m 3 cs' = some y) :
    ∃ l : List Int, l.length = len ∧ Rd W 1 A l.length (l.map (Value.int .i64)) ∧ ∀ z ∈ l, In64 z := by
  rcases hr with rfl | ⟨b, o, rfl, hb, hx⟩
  · exact ⟨[], rfl, ⟨by simp, fun h => absurd h (Nat.lt_irrefl 0)⟩, by simp⟩
  · rw [cellsI] at hx
    have each : ∀ i, i < len → ∃ z : Int, W.cell? ⟨b, o + i, none⟩ = some (.int .i64 z) ∧ In64 z := by
      intro i hi
      obtain ⟨cs, k, y, hl, hc, ht⟩ := hx i hi
      match cs, hl with
      | [c0], _ =>
        obtain ⟨z, e, _, hw⟩ := DataW.trod_int Tryz.underlying3 ht
        injection e with e _
        subst e
        exact ⟨z, by have := hc 0 (by decide); simpa using this, in64_of hw⟩
    obtain ⟨l, hl, hm⟩ := list_of_each each
    refine ⟨l, hl, ⟨by simp, fun _ => ⟨⟨b, o, none⟩, rfl, hb, fun j u hu => ?_⟩⟩, fun z hz => ?_⟩
    · rw [List.getElem?_map] at hu
      cases hj : l[j]? with
      | none => rw [hj] at hu; cases hu
      | some z =>
        rw [hj] at hu
        injection hu with hu
        subst hu
        rw [addr_add]
        exact (hm j z hj).1
    · obtain ⟨i, hi, rfl⟩ := List.mem_iff_getElem.1 hz
      exact (hm i _ (List.getElem?_eq_getElem hi)).2
section
variable {H : Type} {enc : TypeId × Value → H} {W : World} {base : Nat} {v : Value} {d : DataW H} {ps : List MemPlace}
set_option maxRecDepth 100000 in
theorem open_ints (hv : Value.okWide Tryz.prog W .any base 40 v) (h : DataW.Trod enc Tryz.prog W 0 (fun _ => true) true 40 v d ps) :
    ∃ (A : Option Addr) (l : List Int) (c : Nat), v = .slice A l.length c ∧ Rd W 1 A l.length (l.map (Value.int .i64)) ∧ ∀ z ∈ l, In64 z := by
  obtain ⟨A, len, c, rfl, h1, h2, hr⟩ := open_row Tryz.underlying40 cellsIp hv h
  obtain ⟨l, rfl, hR, hw⟩ := ints_of hr
  exact ⟨A, l, c, rfl, hR, hw⟩
set_option maxRecDepth 100000 in
theorem open_calls (hv : Value.okWide Tryz.prog W .any base 22 v) (h : DataW.Trod enc Tryz.prog W 0 (fun _ => true) true 22 v d ps) :
    ∃ (A : Option Addr) (l : List CallM) (c : Nat), v = .slice A l.length c ∧ CallsA W A l := by
  obtain ⟨A, len, c, rfl, h1, h2, hr⟩ := open_row Tryz.underlying22 cellsCap hv h
  rcases hr with rfl | ⟨b, o, rfl, hb, hx⟩
  · exact ⟨A, [], c, rfl, fun h => absurd h (Nat.lt_irrefl 0)⟩
  · rw [cellsCa] at hx
    have each : ∀ i, i < len → ∃ c : CallM, CallAt W b (o + i * 12) c := by
      intro i hi
      obtain ⟨cs, k, y, hl, hc, ht⟩ := hx i hi
      obtain ⟨c0, c1, c2, c3, c4, c5, c6, c7, c8, c9, c10, c11, rfl⟩ := list12 hl
      obtain ⟨z0, rfl, w0⟩ := struct_int Tryz.underlying42 ht 0 _ rfl Tryz.underlying5 cellsU8 (v := c0) rfl
      obtain ⟨k1, y1, t1⟩ := struct_many Tryz.underlying42 ht 1 _ rfl (t' := 38) rfl cellsMa rfl
      obtain ⟨m, hm, he⟩ := man_of t1
      obtain ⟨k2, y2, t2⟩ := struct_at Tryz.underlying42 ht 2 _ rfl cellsStr (v := c8) rfl
      obtain ⟨s, e2, _⟩ := DataW.trod_string Tryz.underlying9 t2
      simp only [List.cons.injEq, and_true] at e2
      subst e2
      obtain ⟨k3, y3, t3⟩ := struct_at Tryz.underlying42 ht 3 _ rfl cellsBy (v := c9) rfl
      obtain ⟨A3, l3, cc3, e3, hl3, hb3⟩ := open_btr_cells Tryz.underlying39 Tryz.underlying5 cellsU8 t3
      simp only [List.cons.injEq, and_true] at e3
      subst e3
      obtain ⟨z4, rfl, w4⟩ := struct_int Tryz.underlying42 ht 4 _ rfl Tryz.underlying3 cellsI (v := c10) rfl
      obtain ⟨k5, y5, t5⟩ := struct_at Tryz.underlying42 ht 5 _ rfl cellsIs (v := c11) rfl
      obtain ⟨A5, len5, cc5, e5, _, _, hr5⟩ := open_row_cells Tryz.underlying40 cellsIp t5
      simp only [List.cons.injEq, and_true] at e5
      subst e5
      obtain ⟨l5, rfl, hR5, hw5⟩ := ints_of hr5
      have hs3 : (⟨l3.toArray⟩ : ByteArray).size = l3.length := by simp [ByteArray.size]
      have hbr := btr_of_cells hl3 hb3
      have g : ∀ (j : Nat) (u : Value), ([Value.int .u8 z0, c1, c2, c3, c4, c5, c6, c7, .string s, .slice A3 l3.length cc3, .int .i64 z4, .slice A5 l5.length cc5] : List Value)[j]? = some u → j < 12 → W.cell? ⟨b, o + i * 12 + j, none⟩ = some u := fun j u hu hj => (hc j hj).trans hu
      refine ⟨⟨z0, m, s, ⟨l3.toArray⟩, z4, l5⟩, bounds_u8 w0, hm, in64_of w4, hw5, g 0 _ rfl (by decide), fun j hj => ?_, g 8 _ rfl (by decide), ⟨A3, cc3, by show _ = some (Value.slice A3 (⟨l3.toArray⟩ : ByteArray).size cc3); rw [hs3]; exact g 9 _ rfl (by decide), hbr⟩, g 10 _ rfl (by decide), ⟨A5, cc5, g 11 _ rfl (by decide), hR5⟩⟩
      show W.cell? ⟨b, o + i * 12 + 1 + j, none⟩ = (mCells m)[j]?
      rw [he, Nat.add_assoc, hc (1 + j) (by omega)]
      match j, hj with
      | 0, _ => rfl
      | 1, _ => rfl
      | 2, _ => rfl
      | 3, _ => rfl
      | 4, _ => rfl
      | 5, _ => rfl
      | 6, _ => rfl
    obtain ⟨l, rfl, hm⟩ := list_of_each each
    exact ⟨_, l, c, rfl, fun _ => ⟨b, o, rfl, hb, hm⟩⟩
end
end Go.Proofs.YtlcgkcafelpglaaGreatDoor
