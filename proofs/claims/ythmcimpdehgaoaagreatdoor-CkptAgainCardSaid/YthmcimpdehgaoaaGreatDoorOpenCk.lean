/- Arguments of layer 19, opened: rows of calls. -/
import Derived.Test.YthmcimpdehgaoaaGreatDoorOpenS
namespace Go.Proofs.YthmcimpdehgaoaaGreatDoor
open Go.RowKit Go.WideShapes Go.ChangeShapes

/-- a call of a law's row -/
structure CallC where
  kind : Int
  step : Int
  name : ByteArray
  b : ByteArray
  n : Int
  keep : List Int
/-- a call's six cells -/
structure CallAt (w : World) (b o : Nat) (c : CallC) : Prop where
  kb : 0 ≤ c.kind ∧ c.kind ≤ 255
  sb : In64 c.step
  nb : In64 c.n
  keepb : ∀ z ∈ c.keep, In64 z
  k : w.cell? ⟨b, o, none⟩ = some (.int .u8 c.kind)
  s : w.cell? ⟨b, o + 1, none⟩ = some (.int .i64 c.step)
  name : w.cell? ⟨b, o + 2, none⟩ = some (.string c.name)
  bs : ∃ A cc, w.cell? ⟨b, o + 3, none⟩ = some (.slice A c.b.size cc) ∧ BtR w (.slice A c.b.size cc) c.b
  n : w.cell? ⟨b, o + 4, none⟩ = some (.int .i64 c.n)
  keep : ∃ A cc, w.cell? ⟨b, o + 5, none⟩ = some (.slice A c.keep.length cc) ∧ Rd w 1 A c.keep.length (c.keep.map (Value.int .i64))
theorem CallAt.below {w w' : World} {b o : Nat} {c : CallC} (h : CallAt w b o c) (hlt : b < w.heap.size) (hb : Below w.heap.size w w') : CallAt w' b o c := by
  have hc : ∀ j, w'.cell? ⟨b, j, none⟩ = w.cell? ⟨b, j, none⟩ := fun j => hb.cell (p := ⟨b, j, none⟩) hlt
  obtain ⟨A, cc, h1, h2⟩ := h.bs
  obtain ⟨A2, cc2, h3, h4⟩ := h.keep
  exact ⟨h.kb, h.sb, h.nb, h.keepb, (hc _).trans h.k, (hc _).trans h.s, (hc _).trans h.name, ⟨A, cc, (hc _).trans h1, h2.below hb⟩, (hc _).trans h.n, ⟨A2, cc2, (hc _).trans h3, h4.below hb⟩⟩
/-- a row of calls, as an argument -/
def CallsA (w : World) (A : Option Addr) (l : List CallC) : Prop := 0 < l.length → ∃ b o, A = some ⟨b, o, none⟩ ∧ b < w.heap.size ∧ ∀ i c, l[i]? = some c → CallAt w b (o + i * 6) c
theorem CallsA.below {w w' : World} {A : Option Addr} {l : List CallC} (h : CallsA w A l) (hb : Below w.heap.size w w') : CallsA w' A l := fun h0 => by
  obtain ⟨b, o, hA, hlt, hc⟩ := h h0
  exact ⟨b, o, hA, Nat.lt_of_lt_of_le hlt hb.size, fun i m hm => (hc i m hm).below hlt hb⟩
theorem list6 {α : Type} {cs : List α} (h : cs.length = 6) : ∃ c0 c1 c2 c3 c4 c5, cs = [c0, c1, c2, c3, c4, c5] := by
  match cs, h with
  | [c0, c1, c2, c3, c4, c5], _ => exact ⟨c0, c1, c2, c3, c4, c5, rfl⟩
theorem cellsCa : Tryz.prog.cellsOf 36 = 6 := by kernel_rfl
theorem cellsCap : 0 < Tryz.prog.cellsOf 36 := Nat.lt_of_lt_of_eq (Nat.zero_lt_succ 5) cellsCa.symm
section
variable {H : Type} {enc : TypeId × Value → H} {W : World} {base : Nat} {v : Value} {d : DataW H} {ps : List MemPlace}
set_option maxRecDepth 100000 in
theorem open_calls (hv : Value.okWide Tryz.prog W .any base 22 v) (h : DataW.Trod enc Tryz.prog W 0 (fun _ => true) true 22 v d ps) :
    ∃ (A : Option Addr) (l : List CallC) (c : Nat), v = .slice A l.length c ∧ CallsA W A l := by
  obtain ⟨A, len, c, rfl, h1, h2, hr⟩ := open_row Tryz.underlying22 cellsCap hv h
  rcases hr with rfl | ⟨b, o, rfl, hb, hx⟩
  · exact ⟨A, [], c, rfl, fun h => absurd h (Nat.lt_irrefl 0)⟩
  · rw [cellsCa] at hx
    have each : ∀ i, i < len → ∃ c : CallC, CallAt W b (o + i * 6) c := by
      intro i hi
      obtain ⟨cs, k, y, hl, hc, ht⟩ := hx i hi
      obtain ⟨c0, c1, c2, c3, c4, c5, rfl⟩ := list6 hl
      obtain ⟨z0, rfl, w0⟩ := struct_int Tryz.underlying36 ht 0 _ rfl Tryz.underlying5 cellsU8 (v := c0) rfl
      obtain ⟨z1, rfl, w1⟩ := struct_int Tryz.underlying36 ht 1 _ rfl Tryz.underlying3 cellsI (v := c1) rfl
      obtain ⟨k2, y2, t2⟩ := struct_at Tryz.underlying36 ht 2 _ rfl cellsStr (v := c2) rfl
      obtain ⟨s, e2, _⟩ := DataW.trod_string Tryz.underlying9 t2
      simp only [List.cons.injEq, and_true] at e2
      subst e2
      obtain ⟨k3, y3, t3⟩ := struct_at Tryz.underlying36 ht 3 _ rfl cellsBy (v := c3) rfl
      obtain ⟨A3, l3, cc3, e3, hl3, hb3⟩ := open_btr_cells Tryz.underlying33 Tryz.underlying5 cellsU8 t3
      simp only [List.cons.injEq, and_true] at e3
      subst e3
      obtain ⟨z4, rfl, w4⟩ := struct_int Tryz.underlying36 ht 4 _ rfl Tryz.underlying3 cellsI (v := c4) rfl
      obtain ⟨k5, y5, t5⟩ := struct_at Tryz.underlying36 ht 5 _ rfl cellsIs (v := c5) rfl
      obtain ⟨A5, len5, cc5, e5, _, _, hr5⟩ := open_row_cells Tryz.underlying34 cellsIp t5
      simp only [List.cons.injEq, and_true] at e5
      subst e5
      obtain ⟨l5, rfl, hR5, hw5⟩ := ints_of hr5
      have hs3 : (⟨l3.toArray⟩ : ByteArray).size = l3.length := by simp [ByteArray.size]
      have hbr := btr_of_cells hl3 hb3
      have g : ∀ (j : Nat) (u : Value), ([Value.int .u8 z0, .int .i64 z1, .string s, .slice A3 l3.length cc3, .int .i64 z4, .slice A5 l5.length cc5] : List Value)[j]? = some u → j < 6 → W.cell? ⟨b, o + i * 6 + j, none⟩ = some u := fun j u hu hj => (hc j hj).trans hu
      exact ⟨⟨z0, z1, s, ⟨l3.toArray⟩, z4, l5⟩, bounds_u8 w0, in64_of w1, in64_of w4, hw5, g 0 _ rfl (by decide), g 1 _ rfl (by decide), g 2 _ rfl (by decide), ⟨A3, cc3, by show _ = some (Value.slice A3 (⟨l3.toArray⟩ : ByteArray).size cc3); rw [hs3]; exact g 3 _ rfl (by decide), hbr⟩, g 4 _ rfl (by decide), ⟨A5, cc5, g 5 _ rfl (by decide), hR5⟩⟩
    obtain ⟨l, rfl, hm⟩ := list_of_each each
    exact ⟨_, l, c, rfl, fun _ => ⟨b, o, rfl, hb, hm⟩⟩
end
end Go.Proofs.YthmcimpdehgaoaaGreatDoor
