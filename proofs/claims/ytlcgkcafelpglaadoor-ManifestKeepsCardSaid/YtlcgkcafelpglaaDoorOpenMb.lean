/- Arguments of layer 20, opened: rows of manifests, rows of bools. -/
import Derived.Test.YtlcgkcafelpglaaDoorOpenMa
import Derived.Test.YtlcgkcafelpglaaDoorRec2
namespace Go.Proofs.YtlcgkcafelpglaaDoor
open Go.RowKit Go.WideShapes Go.ChangeShapes

/-- a row of manifests, a row of bools, as an argument -/
def Mans (w : World) (A : Option Addr) (l : List ManM) : Prop := 0 < l.length → ∃ b o, A = some ⟨b, o, none⟩ ∧ b < w.heap.size ∧ ∀ i m, l[i]? = some m → m.Ok ∧ ∀ j, j < 7 → w.cell? ⟨b, o + i * 7 + j, none⟩ = (mCells m)[j]?
def Bools (w : World) (A : Option Addr) (l : List Bool) : Prop := 0 < l.length → ∃ b o, A = some ⟨b, o, none⟩ ∧ b < w.heap.size ∧ ∀ i x, l[i]? = some x → w.cell? ⟨b, o + i, none⟩ = some (.bool x)
theorem Mans.below {w w' : World} {A : Option Addr} {l : List ManM} (h : Mans w A l) (hb : Below w.heap.size w w') : Mans w' A l := fun h0 => by
  obtain ⟨b, o, hA, hlt, hc⟩ := h h0
  exact ⟨b, o, hA, Nat.lt_of_lt_of_le hlt hb.size, fun i m hm => ⟨(hc i m hm).1, fun j hj => (hb.cell (p := ⟨b, o + i * 7 + j, none⟩) hlt).trans ((hc i m hm).2 j hj)⟩⟩
theorem Bools.below {w w' : World} {A : Option Addr} {l : List Bool} (h : Bools w A l) (hb : Below w.heap.size w w') : Bools w' A l := fun h0 => by
  obtain ⟨b, o, hA, hlt, hc⟩ := h h0
  exact ⟨b, o, hA, Nat.lt_of_lt_of_le hlt hb.size, fun i m hm => (hb.cell (p := ⟨b, o + i, none⟩) hlt).trans (hc i m hm)⟩
theorem cellsMap : 0 < Tryd.prog.cellsOf 24 := Nat.lt_of_lt_of_eq (Nat.zero_lt_succ 6) cellsMa.symm
theorem cellsBop : 0 < Tryd.prog.cellsOf 4 := Nat.lt_of_lt_of_eq (Nat.zero_lt_succ 0) cellsBo.symm
section
variable {H : Type} {enc : TypeId × Value → H} {W : World} {base : Nat} {v : Value} {d : DataW H} {ps : List MemPlace}
set_option maxRecDepth 100000 in
theorem open_mans (hv : Value.okWide Tryd.prog W .any base 39 v) (h : DataW.Trod enc Tryd.prog W 0 (fun _ => true) true 39 v d ps) :
    ∃ (A : Option Addr) (l : List ManM) (c : Nat), v = .slice A l.length c ∧ Mans W A l := by
  obtain ⟨A, len, c, rfl, h1, h2, hr⟩ := open_row Tryd.underlying39 cellsMap hv h
  rcases hr with rfl | ⟨b, o, rfl, hb, hx⟩
  · exact ⟨A, [], c, rfl, fun h => absurd h (Nat.lt_irrefl 0)⟩
  · rw [cellsMa] at hx
    have each : ∀ i, i < len → ∃ m : ManM, m.Ok ∧ ∀ j, j < 7 → W.cell? ⟨b, o + i * 7 + j, none⟩ = (mCells m)[j]? := by
      intro i hi
      obtain ⟨cs, k, y, hl, hc, ht⟩ := hx i hi
      obtain ⟨c0, c1, c2, c3, c4, c5, c6, rfl⟩ := list7 hl
      obtain ⟨m, hm, he⟩ := man_of ht
      exact ⟨m, hm, fun j hj => by rw [he, hc j hj, List.getElem?_toArray]⟩
    obtain ⟨l, rfl, hm⟩ := list_of_each each
    exact ⟨_, l, c, rfl, fun _ => ⟨b, o, rfl, hb, hm⟩⟩
set_option maxRecDepth 100000 in
theorem open_bools (hv : Value.okWide Tryd.prog W .any base 40 v) (h : DataW.Trod enc Tryd.prog W 0 (fun _ => true) true 40 v d ps) :
    ∃ (A : Option Addr) (l : List Bool) (c : Nat), v = .slice A l.length c ∧ Bools W A l := by
  obtain ⟨A, len, c, rfl, h1, h2, hr⟩ := open_row Tryd.underlying40 cellsBop hv h
  rcases hr with rfl | ⟨b, o, rfl, hb, hx⟩
  · exact ⟨A, [], c, rfl, fun h => absurd h (Nat.lt_irrefl 0)⟩
  · rw [cellsBo] at hx
    have each : ∀ i, i < len → ∃ x : Bool, W.cell? ⟨b, o + i, none⟩ = some (.bool x) := by
      intro i hi
      obtain ⟨cs, k, y, hl, hc, ht⟩ := hx i hi
      match cs, hl with
      | [c0], _ =>
        obtain ⟨x, e, _⟩ := DataW.trod_bool Tryd.underlying4 ht
        injection e with e _
        subst e
        exact ⟨x, by have := hc 0 (by decide); simpa using this⟩
    obtain ⟨l, rfl, hm⟩ := list_of_each each
    exact ⟨_, l, c, rfl, fun _ => ⟨b, o, rfl, hb, hm⟩⟩
end
end Go.Proofs.YtlcgkcafelpglaaDoor
