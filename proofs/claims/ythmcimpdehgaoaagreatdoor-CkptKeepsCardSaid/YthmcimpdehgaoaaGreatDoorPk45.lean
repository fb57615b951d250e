/- Arguments of layer 19, opened: rows of calls. The laws' bound on rows of calls: large. -/
import Derived.Test.YthmcimpdehgaoaaGreatDoorOpenS
import Derived.Deep.LoopGhost
import Derived.Deep.QuietTactic
import Derived.BigQuiet
import Derived.IntWalk
namespace Go.Proofs.YthmcimpdehgaoaaGreatDoor
open Go.RowKit Go.WideShapes Go.ChangeShapes

/-- a call of a law's row -/
structure CallC where
  kind : Int
  step : Int
  name : ByteArray
  b : ByteArray
  n : Int
  keep : List Int
/-- a call's six cells -/
structure CallAt (w : World) (b o : Nat) (c : CallC) : Prop where
  kb : 0 ≤ c.kind ∧ c.kind ≤ 255
  sb : In64 c.step
  nb : In64 c.n
  keepb : ∀ z ∈ c.keep, In64 z
  k : w.cell? ⟨b, o, none⟩ = some (.int .u8 c.kind)
  s : w.cell? ⟨b, o + 1, none⟩ = some (.int .i64 c.step)
  name : w.cell? ⟨b, o + 2, none⟩ = some (.string c.name)
  bs : ∃ A cc, w.cell? ⟨b, o + 3, none⟩ = some (.slice A c.b.size cc) ∧ BtR w (.slice A c.b.size cc) c.b
  n : w.cell? ⟨b, o + 4, none⟩ = some (.int .i64 c.n)
  keep : ∃ A cc, w.cell? ⟨b, o + 5, none⟩ = some (.slice A c.keep.length cc) ∧ Rd w 1 A c.keep.length (c.keep.map (Value.int .i64))
theorem CallAt.below {w w' : World} {b o : Nat} {c : CallC} (h : CallAt w b o c) (hlt : b < w.heap.size) (hb : Below w.heap.size w w') : CallAt w' b o c := by
  have hc : ∀ j, w'.cell? ⟨b, j, none⟩ = w.cell? ⟨b, j, none⟩ := fun j => hb.cell (p := ⟨b, j, none⟩) hlt
  obtain ⟨A, cc, h1, h2⟩ := h.bs
  obtain ⟨A2, cc2, h3, h4⟩ := h.keep
  exact ⟨h.kb, h.sb, h.nb, h.keepb, (hc _).trans h.k, (hc _).trans h.s, (hc _).trans h.name, ⟨A, cc, (hc _).trans h1, h2.below hb⟩, (hc _).trans h.n, ⟨A2, cc2, (hc _).trans h3, h4.below hb⟩⟩
/-- a row of calls, as an argument -/
def CallsA (w : World) (A : Option Addr) (l : List CallC) : Prop := 0 < l.length → ∃ b o, A = some ⟨b, o, none⟩ ∧ b < w.heap.size ∧ ∀ i c, l[i]? = some c → CallAt w b (o + i * 6) c
theorem CallsA.below {w w' : World} {A : Option Addr} {l : List CallC} (h : CallsA w A l) (hb : Below w.heap.size w w') : CallsA w' A l := fun h0 => by
  obtain ⟨b, o, hA, hlt, hc⟩ := h h0
  exact ⟨b, o, hA, Nat.lt_of_lt_of_le hlt hb.size, fun i m hm => (hc i m hm).below hlt hb⟩
theorem list6 {α : Type} {cs : List α} (h : cs.length = 6) : ∃ c0 c1 c2 c3 c4 c5, cs = [c0, c1, c2, c3, c4, c5] := by
  match cs, h with
  | [c0, c1, c2, c3, c4, c5], _ => exact ⟨c0, c1, c2, c3, c4, c5, rfl⟩
theorem cellsCa : Tryz.prog.cellsOf 36 = 6 := by kernel_rfl
theorem cellsCap : 0 < Tryz.prog.cellsOf 36 := Nat.lt_of_lt_of_eq (Nat.zero_lt_succ 5) cellsCa.symm
section
variable {H : Type} {enc : TypeId × Value → H} {W : World} {base : Nat} {v : Value} {d : DataW H} {ps : List MemPlace}
set_option maxRecDepth 100000 in
theorem open_calls (hv : Value.okWide Tryz.prog W .any base 22 v) (h : DataW.Trod enc Tryz.prog W 0 (fun _ => true) true 22 v d ps) :
    ∃ (A : Option Addr) (l : List CallC) (c : Nat), v = .slice A l.length c ∧ CallsA W A l := by
  obtain ⟨A, len, c, rfl, h1, h2, hr⟩ := open_row Tryz.underlying22 cellsCap hv h
  rcases hr with rfl | ⟨b, o, rfl, hb, hx⟩
  · exact ⟨A, [], c, rfl, fun h => absurd h (Nat.lt_irrefl 0)⟩
  · rw [cellsCa] at hx
    have each : ∀ i, i < len → ∃ c : CallC, CallAt W b (o + i * 6) c := by
      intro i hi
      obtain ⟨cs, k, y, hl, hc, ht⟩ := hx i hi
      obtain ⟨c0, c1, c2, c3, c4, c5, rfl⟩ := list6 hl
      obtain ⟨z0, rfl, w0⟩ := struct_int Tryz.underlying36 ht 0 _ rfl Tryz.underlying5 cellsU8 (v := c0) rfl
      obtain ⟨z1, rfl, w1⟩ := struct_int Tryz.underlying36 ht 1 _ rfl Tryz.underlying3 cellsI (v := c1) rfl
      obtain ⟨k2, y2, t2⟩ := struct_at Tryz.underlying36 ht 2 _ rfl cellsStr (v := c2) rfl
      obtain ⟨s, e2, _⟩ := DataW.trod_string Tryz.underlying9 t2
      simp only [List.cons.injEq, and_true] at e2
      subst e2
      obtain ⟨k3, y3, t3⟩ := struct_at Tryz.underlying36 ht 3 _ rfl cellsBy (v := c3) rfl
      obtain ⟨A3, l3, cc3, e3, hl3, hb3⟩ := open_btr_cells Tryz.underlying33 Tryz.underlying5 cellsU8 t3
      simp only [List.cons.injEq, and_true] at e3
      subst e3
      obtain ⟨z4, rfl, w4⟩ := struct_int Tryz.underlying36 ht 4 _ rfl Tryz.underlying3 cellsI (v := c4) rfl
      obtain ⟨k5, y5, t5⟩ := struct_at Tryz.underlying36 ht 5 _ rfl cellsIs (v := c5) rfl
      obtain ⟨A5, len5, cc5, e5, _, _, hr5⟩ := open_row_cells Tryz.underlying34 cellsIp t5
      simp only [List.cons.injEq, and_true] at e5
      subst e5
      obtain ⟨l5, rfl, hR5, hw5⟩ := ints_of hr5
      have hs3 : (⟨l3.toArray⟩ : ByteArray).size = l3.length := by simp [ByteArray.size]
      have hbr := btr_of_cells hl3 hb3
      have g : ∀ (j : Nat) (u : Value), ([Value.int .u8 z0, .int .i64 z1, .string s, .slice A3 l3.length cc3, .int .i64 z4, .slice A5 l5.length cc5] : List Value)[j]? = some u → j < 6 → W.cell? ⟨b, o + i * 6 + j, none⟩ = some u := fun j u hu hj => (hc j hj).trans hu
      exact ⟨⟨z0, z1, s, ⟨l3.toArray⟩, z4, l5⟩, bounds_u8 w0, in64_of w1, in64_of w4, hw5, g 0 _ rfl (by decide), g 1 _ rfl (by decide), g 2 _ rfl (by decide), ⟨A3, cc3, by show _ = some (Value.slice A3 (⟨l3.toArray⟩ : ByteArray).size cc3); rw [hs3]; exact g 3 _ rfl (by decide), hbr⟩, g 4 _ rfl (by decide), ⟨A5, cc5, g 5 _ rfl (by decide), hR5⟩⟩
    obtain ⟨l, rfl, hm⟩ := list_of_each each
    exact ⟨_, l, c, rfl, fun _ => ⟨b, o, rfl, hb, hm⟩⟩
end
end Go.Proofs.YthmcimpdehgaoaaGreatDoor
namespace Go.Proofs.YthmcimpdehgaoaaGreatDoor
open Go.RowKit Go.Maps

def wCall (c : CallC) : Int := 1 + min (c.name.size : Int) 5001 + min (c.b.size : Int) 5001 + min (c.keep.length : Int) 5001
def wSum (l : List CallC) : Int := (l.map wCall).sum
def bSum (l : List CallC) : Nat := (l.map (·.b.size)).sum
theorem wCall_pos (c : CallC) : 1 ≤ wCall c := by unfold wCall; omega
theorem wSum_snoc {l : List CallC} {i : Nat} {c : CallC} (h : l[i]? = some c) : wSum (l.take (i + 1)) = wSum (l.take i) + wCall c := by
  unfold wSum
  rw [List.take_add_one, h, Option.toList_some, List.map_append, List.sum_append]
  simp
theorem bSum_snoc {l : List CallC} {i : Nat} {c : CallC} (h : l[i]? = some c) : bSum (l.take (i + 1)) = bSum (l.take i) + c.b.size := by
  unfold bSum
  rw [List.take_add_one, h, Option.toList_some, List.map_append, List.sum_append]
  simp
theorem wSum_small : ∀ (l : List CallC), wSum l ≤ 5000 → (∀ c ∈ l, c.name.size ≤ 5000 ∧ c.b.size ≤ 5000 ∧ c.keep.length ≤ 5000) ∧ (bSum l : Int) ≤ wSum l ∧ 0 ≤ wSum l
  | [], _ => ⟨(fun _ h => by cases h), Int.le_refl _, Int.le_refl _⟩
  | c :: r, h => by
    have hw : wSum (c :: r) = wCall c + wSum r := by unfold wSum; rw [List.map_cons, List.sum_cons]
    have hb : bSum (c :: r) = c.b.size + bSum r := by unfold bSum; rw [List.map_cons, List.sum_cons]
    have hp := wCall_pos c
    obtain ⟨h1, h2, h3⟩ := wSum_small r (by omega)
    have hc : wCall c ≤ 5000 := by omega
    unfold wCall at hc hw
    refine ⟨fun x hx => ?_, by omega, by omega⟩
    rcases List.mem_cons.1 hx with rfl | hx
    · exact ⟨by omega, by omega, by omega⟩
    · exact h1 x hx
def SmallC (l : List CallC) : Prop := l.length ≤ 60 ∧ (∀ c ∈ l, c.name.size ≤ 5000 ∧ c.b.size ≤ 5000 ∧ c.keep.length ≤ 5000) ∧ bSum l ≤ 5000
/-- how large ends -/
def LargeP (l : List CallC) (w : World) (e : Ending) (w' : World) : Prop := ∃ b : Bool, e = .returned (.bool b) ∧ Below w.heap.size w w' ∧ (b = false → SmallC l)
def LgInv (l : List CallC) (i : Nat) (n : Int) : Prop := n = wSum (l.take i)
theorem LgInv.step {l : List CallC} {i : Nat} {n n' : Int} {c : CallC} (h : LgInv l i n) (hc : l[i]? = some c) (hn : n' = n + wCall c) : LgInv l (i + 1) n' := by
  unfold LgInv at *
  rw [wSum_snoc hc, hn, h]
theorem LgInv.done {l : List CallC} {n : Int} (h : LgInv l l.length n) (hn : n ≤ 5000) (hl : l.length ≤ 60) : SmallC l := by
  unfold LgInv at h
  rw [List.take_length] at h
  obtain ⟨h1, h2, h3⟩ := wSum_small l (by omega)
  exact ⟨hl, h1, by omega⟩
set_option maxRecDepth 100000 in
set_option maxHeartbeats 4000000 in
theorem large_any (w : World) (A : Option Addr) (c : Nat) (l : List CallC) (hA : CallsA w A l) :
    Calls Tryz.prog 8 #[.slice A l.length c] w (LargeP l w) := by
  have HA := Lib.hid hA
  clear hA
  by_cases hl : l.length ≤ 60
  · have hlI : ¬ (60 : Int) < (l.length : Int) := by omega
    go_enter Tryz.func8, Tryz.ntmps8
    go_wp2
    go_loopg [3, 4] l.length (fun gf vn vi wr => ∃ (i : Nat) (n : Int), vn = .int .i64 n ∧ vi = .int .i64 i ∧ i + gf = l.length ∧ 0 ≤ n ∧ n ≤ 20004 ∧ LgInv l i n ∧ Below w.heap.size w wr)
    case atStart => exact ⟨0, 0, rfl, rfl, by omega, by decide, by decide, rfl, Below.refl _ _⟩
    case round =>
      obtain ⟨i, n, rfl, rfl, hi, hn0, hn1, hinv, hb⟩ := hrel
      have HB := Lib.hid hb; have HI := Lib.hid hinv
      clear hb hinv
      cases gk with
      | zero =>
        obtain rfl : i = l.length := by omega
        clear hi
        by_cases hn : n ≤ 5000
        · have hnb : decide ((5000 : Int) < n) = false := decide_eq_false (by omega)
          have hn' : ¬ (5000 : Int) < n := by omega
          go_wp2
          go_ret
          exact ⟨false, rfl, HB.out, fun _ => HI.out.done hn hl⟩
        · have hnb : decide ((5000 : Int) < n) = true := decide_eq_true (by omega)
          have hn' : (5000 : Int) < n := by omega
          go_wp2
          go_ret
          exact ⟨true, rfl, HB.out, fun e => by cases e⟩
      | succ gf =>
        obtain ⟨x, hx⟩ : ∃ x, l[i]? = some x := ⟨_, List.getElem?_eq_getElem (by omega)⟩
        obtain ⟨bb, oo, rfl, hlt, hcl⟩ := (HA.out.below HB.out) (by omega)
        have hcx := hcl i x hx
        have hiI : (i : Int) < (l.length : Int) := by omega
        have hcn := hcx.name
        obtain ⟨A1, cc1, hcb, -⟩ := hcx.bs
        obtain ⟨A2, cc2, hck, -⟩ := hcx.keep
        have HX := Lib.hid hx
        clear hcx hcl hx
        by_cases hn : n ≤ 5000
        · obtain ⟨x1, hx1⟩ : ∃ x1, min (x.name.size : Int) 5001 = x1 := ⟨_, rfl⟩
          obtain ⟨x2, hx2⟩ : ∃ x2, min (x.b.size : Int) 5001 = x2 := ⟨_, rfl⟩
          obtain ⟨x3, hx3⟩ : ∃ x3, min (x.keep.length : Int) 5001 = x3 := ⟨_, rfl⟩
          have b1 : 0 ≤ x1 ∧ x1 ≤ 5001 := by omega
          have b2 : 0 ≤ x2 ∧ x2 ≤ 5001 := by omega
          have b3 : 0 ≤ x3 ∧ x3 ≤ 5001 := by omega
          have hst := HI.out.step HX.out (n' := n + 1 + x1 + x2 + x3) (by unfold wCall; omega)
          have HST := Lib.hid hst
          have hle : n + 1 + x1 + x2 + x3 ≤ 20004 ∧ 0 ≤ n + 1 + x1 + x2 + x3 := by omega
          have hdb : decide (n ≤ (5000 : Int)) = true := decide_eq_true hn
          have hm1 : min (5001 : Int) (x.name.size : Int) = x1 := by omega
          have hm2 : min (5001 : Int) (x.b.size : Int) = x2 := by omega
          have hm3 : min (5001 : Int) (x.keep.length : Int) = x3 := by omega
          have w1 : IntKind.i64.wrap (n + 1) = n + 1 := IntWalk.i64_in _ (by omega)
          have w2 : IntKind.i64.wrap (n + 1 + x1) = n + 1 + x1 := IntWalk.i64_in _ (by omega)
          have w3 : IntKind.i64.wrap (n + 1 + x1 + x2) = n + 1 + x1 + x2 := IntWalk.i64_in _ (by omega)
          have w4 : IntKind.i64.wrap (n + 1 + x1 + x2 + x3) = n + 1 + x1 + x2 + x3 := IntWalk.i64_in _ (by omega)
          clear hst
          go_upto_region 7 with (fail)
          go_quiet (fail)
          clear w1 w2 w3 w4
          go_wp2
          go_roundg gf
          case measure => omega
          case rel => exact ⟨i + 1, n + 1 + x1 + x2 + x3, rfl, by go_num, by omega, hle.2, hle.1, HST.out, below_drewN HB.out _⟩
        · have hdb : decide (n ≤ (5000 : Int)) = false := decide_eq_false hn
          have hn' : (5000 : Int) < n := by omega
          have hnb : decide ((5000 : Int) < n) = true := decide_eq_true (by omega)
          go_wp2
          go_ret
          exact ⟨true, rfl, HB.out, fun e => by cases e⟩
  · have hlI : (60 : Int) < (l.length : Int) := by omega
    go_enter Tryz.func8, Tryz.ntmps8
    go_wp2
    go_ret
    exact ⟨true, rfl, Below.refl _ _, fun e => by cases e⟩
end Go.Proofs.YthmcimpdehgaoaaGreatDoor
