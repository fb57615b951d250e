/- A [][]byte argument. Numbers of 64 bits, plain. Arguments opened: parts of structs, rows of numbers; a table that is laid among others; bytes of a text. Arguments of layer 19, opened: rows of calls. The disk's calls that chapter 16's laws ask beside the rest: Steps, Cut; the names of numbers. -/
import Derived.Test.YthmcimpdehgaoaaGreatDoorPk34
import Derived.Deep.Slices
import Derived.Test.YthmcimpdehgaoaaGreatDoorPk6
import Derived.Test.YthmcimpdehgaoaaGreatDoorPk7
import Derived.Test.YthmcimpdehgaoaaGreatDoorPk9
import Derived.Test.YthmcimpdehgaoaaGreatDoorDk4
import Derived.Lib.LaidTab
import Derived.Laws.IdiomStrings
namespace Go.Proofs.YthmcimpdehgaoaaGreatDoor
open Go.RowKit Go.WideShapes Go.ChangeShapes

/-- bytes that a []byte's cells read as -/
def BytesAt (W : World) (A : Option Addr) (l : List UInt8) : Prop := 0 < l.length → ∃ ad, A = some ad ∧ ad.block < W.heap.size ∧ ∀ j (hj : j < l.length), W.cell? (ad.add j) = some (.int .u8 (l[j].toNat : Int))
theorem open_btr_cells {P : Program} {H : Type} {enc : TypeId × Value → H} {t e : TypeId} (ht : P.underlying t = some (.slice e)) (he : P.underlying e = some (.int .u8)) (hc : P.cellsOf e = 1) {W : World} {n : Nat} {cs : List Value} {x : DataW H × List MemPlace}
    (hn : DataW.trod enc P W 0 (fun _ => true) true n t cs = some x) : ∃ (A : Option Addr) (l : List UInt8) (c : Nat), cs = [.slice A l.length c] ∧ l.length ≤ c ∧ BytesAt W A l := by
  rcases open_ints ht he hc hn with ⟨hcs, _⟩ | ⟨a, len, cap, zs, hcs, _, hl, hm, hz, _, hcell, hw⟩
  · exact ⟨none, [], 0, hcs, Nat.le_refl _, fun h => absurd h (by simp)⟩
  · simp only [if_true] at hz
    have hlen : ((zs.take len).map fun z => UInt8.ofNat z.toNat).length = len := by rw [List.length_map, List.length_take]; omega
    refine ⟨some a, (zs.take len).map fun z => UInt8.ofNat z.toNat, cap, by rw [hlen]; exact hcs, by rw [hlen]; exact hl, fun h0 => ⟨a, rfl, ?_, fun j hj => ?_⟩⟩
    · have := hcell 0 (by rw [hlen] at h0; omega)
      have h1 := World.block_lt_of_cell? _ _ this
      rw [block_of_add] at h1
      exact h1
    · have hj' : j < len := by rw [hlen] at hj; exact hj
      rw [hcell j (by omega)]
      have hwj := bounds_u8 (hw (zs.getD j 0) (by rw [List.getD_eq_getElem?_getD, List.getElem?_eq_getElem (by omega)]; exact List.getElem_mem _))
      have e1 : (((zs.take len).map fun z => UInt8.ofNat z.toNat)[j]).toNat = (zs.getD j 0).toNat := by
        rw [List.getElem_map, List.getElem_take, UInt8.toNat_ofNat']
        have e2 : zs.getD j 0 = zs[j] := by rw [List.getD_eq_getElem?_getD, List.getElem?_eq_getElem (by omega)]; rfl
        rw [e2] at hwj ⊢
        omega
      rw [e1, Int.toNat_of_nonneg hwj.1]
/-- a [][]byte argument -/
theorem open_btrs {P : Program} {H : Type} {enc : TypeId × Value → H} {t e b : TypeId} (ht : P.underlying t = some (.slice e)) (he : P.underlying e = some (.slice b)) (hb : P.underlying b = some (.int .u8)) (ce : P.cellsOf e = 1) (cb : P.cellsOf b = 1)
    {W : World} {base : Nat} {v : Value} {d : DataW H} {ps : List MemPlace} (hv : Value.okWide P W .any base t v) (h : DataW.Trod enc P W 0 (fun _ => true) true t v d ps) :
    ∃ (A : Option Addr) (xs : List (Value × List UInt8)) (c : Nat), v = .slice A xs.length c ∧ xs.length ≤ c ∧ c ≤ maxLen ∧
      (0 < xs.length → ∃ ad, A = some ad ∧ ad.block < W.heap.size ∧ ∀ j x, xs[j]? = some x → W.cell? (ad.add j) = some x.1) ∧ ∀ x ∈ xs, ∃ A' c', x.1 = .slice A' x.2.length c' ∧ x.2.length ≤ c' ∧ BytesAt W A' x.2 := by
  obtain ⟨a0, len0, cap0, rfl⟩ := okWide_slice ht hv
  obtain ⟨n, hn⟩ := h
  rcases Go.Deep.open_slice1 ht ce hn with ⟨hcs, _⟩ | ⟨a, len, cap, m, n', V, D, Pl, hcs, _, hl, hm, hmm, _, hx⟩
  · simp [Value.cells] at hcs
    obtain ⟨rfl, rfl, rfl⟩ := hcs
    exact ⟨none, [], 0, rfl, Nat.le_refl _, Nat.zero_le _, (fun h => absurd h (by simp)), by simp⟩
  · simp [Value.cells] at hcs
    obtain ⟨rfl, rfl, rfl⟩ := hcs
    simp only [if_true] at hmm
    subst hmm
    have each : ∀ i, ∃ l : List UInt8, i < len0 → ∃ A' c', V i = .slice A' l.length c' ∧ l.length ≤ c' ∧ BytesAt W A' l := by
      intro i
      by_cases hi : i < len0
      · obtain ⟨A', l, c', h1, h2, h3⟩ := open_btr_cells he hb cb (hx i (by omega)).2
        injection h1 with h1 _
        exact ⟨l, fun _ => ⟨A', c', h1, h2, h3⟩⟩
      · exact ⟨[], fun h => absurd h hi⟩
    let f : Nat → List UInt8 := fun i => Classical.choose (each i)
    have hf : ∀ i, i < len0 → ∃ A' c', V i = .slice A' (f i).length c' ∧ (f i).length ≤ c' ∧ BytesAt W A' (f i) := fun i => Classical.choose_spec (each i)
    have hlen : ((List.range len0).map fun i => (V i, f i)).length = len0 := by simp
    refine ⟨some a, (List.range len0).map fun i => (V i, f i), m, by rw [hlen], by rw [hlen]; exact hl, hm, fun h0 => ⟨a, rfl, ?_, fun j x hj => ?_⟩, fun x hx' => ?_⟩
    · rw [hlen] at h0
      have := (hx 0 (by omega)).1
      have h1 := World.block_lt_of_cell? _ _ this
      rw [block_of_add] at h1
      exact h1
    · rw [List.getElem?_map, Option.map_eq_some_iff] at hj
      obtain ⟨i, hi, rfl⟩ := hj
      have hjl := (List.getElem?_eq_some_iff.1 hi).1
      simp at hjl
      rw [List.getElem?_range hjl] at hi
      injection hi with hi
      subst hi
      exact (hx j (by omega)).1
    · obtain ⟨i, hi, rfl⟩ := List.mem_map.1 hx'
      exact hf i (List.mem_range.1 hi)
end Go.Proofs.YthmcimpdehgaoaaGreatDoor
namespace Go.Proofs.YthmcimpdehgaoaaGreatDoor

def In64 (z : Int) : Prop := -9223372036854775808 ≤ z ∧ z ≤ 9223372036854775807
theorem in64_0 : In64 0 := ⟨by decide, by decide⟩
def u64 (z : Int) : Nat := (z % 18446744073709551616).toNat
def i64 (n : Nat) : Int := if n < 9223372036854775808 then (n : Int) else (n : Int) - 18446744073709551616
theorem u64_lt (z : Int) : u64 z < 18446744073709551616 := by unfold u64; omega
theorem i64_u64 {z : Int} (h : In64 z) : i64 (u64 z) = z := by
  unfold In64 at h
  unfold i64 u64
  split <;> omega
theorem u64_i64 {n : Nat} (h : n < 18446744073709551616) : u64 (i64 n) = n := by
  unfold i64 u64
  split <;> omega
theorem i64_in {n : Nat} (h : n < 18446744073709551616) : In64 (i64 n) := by
  unfold i64 In64
  split <;> omega
theorem ext_num {b : ByteArray} {i j : Nat} (h : j - i ≤ 8) : numB (b.extract i j) < 18446744073709551616 := by
  refine Nat.lt_of_lt_of_le (numB_lt _) ?_
  have : (b.extract i j).size ≤ 8 := by rw [ByteArray.size_extract]; omega
  exact Nat.le_trans (Nat.pow_le_pow_right (by decide) this) (by decide)
end Go.Proofs.YthmcimpdehgaoaaGreatDoor
namespace Go.Proofs.YthmcimpdehgaoaaGreatDoor
open Go.RowKit Go.WideShapes Go.ChangeShapes

theorem laidMet_tail {P : Program} {W : World} {x : String × DataW Unit} {L : List (String × DataW Unit)} (h : laidMet P (x :: L) W) : laidMet P L W := by
  obtain ⟨ps, ⟨g', t', cs, fuel, p, q, hg', ht', hvar, hd, htl, heq⟩, hn, hr⟩ := h
  subst heq
  exact ⟨q, htl, (List.nodup_append.1 hn).2.1, fun b off hm => hr b off (List.mem_append_right _ hm)⟩
section
variable {P : Program} {H : Type} {enc : TypeId × Value → H} {t : TypeId} {W : World}
theorem one_of_drop {cs : List Value} {i : Nat} {v : Value} (h : cs[i]? = some v) : (cs.drop i).take 1 = [v] := by
  obtain ⟨hlt, rfl⟩ := List.getElem?_eq_some_iff.1 h
  rw [List.drop_eq_getElem_cons hlt]
  rfl
theorem struct_int {fs : Array Field} {n : Nat} {cs : List Value} {x : DataW H × List MemPlace} (ht : P.underlying t = some (.struct fs)) (h : DataW.trod enc P W 0 (fun _ => true) true n t cs = some x) (i : Nat) (f : Field) (hi : fs[i]? = some f) {k : IntKind}
    (hu : P.underlying f.type = some (.int k)) (hc : P.cellsOf f.type = 1) {v : Value} (hv : cs[f.offset]? = some v) : ∃ z, v = .int k z ∧ (Lit.int k z).wf = true := by
  obtain ⟨xs, m, _, _, hl, hlen, hf⟩ := DataW.trod_struct ht h
  have := hf i f hi
  rw [hc, one_of_drop hv, List.getElem?_eq_getElem (by rw [hlen]; exact (Array.getElem?_eq_some_iff.1 hi).1)] at this
  obtain ⟨z, h1, _, h2⟩ := DataW.trod_int hu this
  injection h1 with h1 _
  exact ⟨z, h1, h2⟩
theorem struct_bool {fs : Array Field} {n : Nat} {cs : List Value} {x : DataW H × List MemPlace} (ht : P.underlying t = some (.struct fs)) (h : DataW.trod enc P W 0 (fun _ => true) true n t cs = some x) (i : Nat) (f : Field) (hi : fs[i]? = some f)
    (hu : P.underlying f.type = some .bool) (hc : P.cellsOf f.type = 1) {v : Value} (hv : cs[f.offset]? = some v) : ∃ z, v = .bool z := by
  obtain ⟨xs, m, _, _, hl, hlen, hf⟩ := DataW.trod_struct ht h
  have := hf i f hi
  rw [hc, one_of_drop hv, List.getElem?_eq_getElem (by rw [hlen]; exact (Array.getElem?_eq_some_iff.1 hi).1)] at this
  obtain ⟨z, h1, _⟩ := DataW.trod_bool hu this
  injection h1 with h1 _
  exact ⟨z, h1⟩
theorem struct_at {fs : Array Field} {n : Nat} {cs : List Value} {x : DataW H × List MemPlace} (ht : P.underlying t = some (.struct fs)) (h : DataW.trod enc P W 0 (fun _ => true) true n t cs = some x) (i : Nat) (f : Field) (hi : fs[i]? = some f)
    (hc : P.cellsOf f.type = 1) {v : Value} (hv : cs[f.offset]? = some v) : ∃ m y, DataW.trod enc P W 0 (fun _ => true) true m f.type [v] = some y := by
  obtain ⟨xs, m, _, _, hl, hlen, hf⟩ := DataW.trod_struct ht h
  have := hf i f hi
  rw [hc, one_of_drop hv, List.getElem?_eq_getElem (by rw [hlen]; exact (Array.getElem?_eq_some_iff.1 hi).1)] at this
  exact ⟨m, _, this⟩
theorem struct_many {fs : Array Field} {n : Nat} {cs : List Value} {x : DataW H × List MemPlace} (ht : P.underlying t = some (.struct fs)) (h : DataW.trod enc P W 0 (fun _ => true) true n t cs = some x) (i : Nat) (f : Field) (hi : fs[i]? = some f)
    {t' : TypeId} (e1 : f.type = t') {k : Nat} (e2 : P.cellsOf t' = k) {cs' : List Value} (e3 : (cs.drop f.offset).take k = cs') : ∃ m y, DataW.trod enc P W 0 (fun _ => true) true m t' cs' = some y := by
  subst e1 e2 e3
  obtain ⟨xs, m, _, _, hl, hlen, hf⟩ := DataW.trod_struct ht h
  have := hf i f hi
  rw [List.getElem?_eq_getElem (by rw [hlen]; exact (Array.getElem?_eq_some_iff.1 hi).1)] at this
  exact ⟨m, _, this⟩
end
theorem cellsI : Tryz.prog.cellsOf 3 = 1 := by kernel_rfl
theorem cellsI64 : Tryz.prog.cellsOf 2 = 1 := by kernel_rfl
theorem cellsU32 : Tryz.prog.cellsOf 84 = 1 := by kernel_rfl
theorem cellsBo : Tryz.prog.cellsOf 4 = 1 := by kernel_rfl
theorem cellsU8 : Tryz.prog.cellsOf 5 = 1 := by kernel_rfl
theorem in64_of {z : Int} (h : (Lit.int .i64 z).wf = true) : In64 z := by
  have := bounds_i64 h
  exact ⟨this.1, this.2⟩
theorem cellsStr : Tryz.prog.cellsOf 9 = 1 := by kernel_rfl
theorem cellsBy : Tryz.prog.cellsOf 33 = 1 := by kernel_rfl
theorem cellsIs : Tryz.prog.cellsOf 34 = 1 := by kernel_rfl
theorem cellsIp : 0 < Tryz.prog.cellsOf 3 := Nat.lt_of_lt_of_eq (Nat.zero_lt_succ 0) cellsI.symm
theorem ints_of {H : Type} {enc : TypeId × Value → H} {W : World} {A : Option Addr} {len : Nat} (hr : len = 0 ∨ ∃ b o, A = some ⟨b, o, none⟩ ∧ b < W.heap.size ∧
      ∀ i, i < len → ∃ cs' m y, cs'.length = Tryz.prog.cellsOf 3 ∧ (∀ j, j < Tryz.prog.cellsOf 3 → W.cell? ⟨b, o + i * Tryz.prog.cellsOf 3 + j, none⟩ = cs'[j]?) ∧ DataW.trod enc Tryz.prog W 0 (fun _ => true) true m 3 cs' = some y) :
    ∃ l : List Int, l.length = len ∧ Rd W 1 A l.length (l.map (Value.int .i64)) ∧ ∀ z ∈ l, In64 z := by
  rcases hr with rfl | ⟨b, o, rfl, hb, hx⟩
  · exact ⟨[], rfl, ⟨by simp, fun h => absurd h (Nat.lt_irrefl 0)⟩, by simp⟩
  · rw [cellsI] at hx
    have each : ∀ i, i < len → ∃ z : Int, W.cell? ⟨b, o + i, none⟩ = some (.int .i64 z) ∧ In64 z := by
      intro i hi
      obtain ⟨cs, k, y, hl, hc, ht⟩ := hx i hi
      match cs, hl with
      | [c0], _ =>
        obtain ⟨z, e, _, hw⟩ := DataW.trod_int Tryz.underlying3 ht
        injection e with e _
        subst e
        exact ⟨z, by have := hc 0 (by decide); simpa using this, in64_of hw⟩
    obtain ⟨l, hl, hm⟩ := list_of_each each
    refine ⟨l, hl, ⟨by simp, fun _ => ⟨⟨b, o, none⟩, rfl, hb, fun j u hu => ?_⟩⟩, fun z hz => ?_⟩
    · rw [List.getElem?_map] at hu
      cases hj : l[j]? with
      | none => rw [hj] at hu; cases hu
      | some z =>
        rw [hj] at hu
        injection hu with hu
        subst hu
        rw [addr_add]
        exact (hm j z hj).1
    · obtain ⟨i, hi, rfl⟩ := List.mem_iff_getElem.1 hz
      exact (hm i _ (List.getElem?_eq_getElem hi)).2
section
variable {H : Type} {enc : TypeId × Value → H} {W : World} {base : Nat} {v : Value} {d : DataW H} {ps : List MemPlace}
set_option maxRecDepth 100000 in
theorem open_ints (hv : Value.okWide Tryz.prog W .any base 34 v) (h : DataW.Trod enc Tryz.prog W 0 (fun _ => true) true 34 v d ps) :
    ∃ (A : Option Addr) (l : List Int) (c : Nat), v = .slice A l.length c ∧ Rd W 1 A l.length (l.map (Value.int .i64)) ∧ ∀ z ∈ l, In64 z := by
  obtain ⟨A, len, c, rfl, h1, h2, hr⟩ := open_row Tryz.underlying34 cellsIp hv h
  obtain ⟨l, rfl, hR, hw⟩ := ints_of hr
  exact ⟨A, l, c, rfl, hR, hw⟩
end
theorem conv_in (T : ByteArray) (W : World) : ∃ v X, (convert 9 33 (.string T)).run Tryz.prog W = .ok v X ∧ BtR X v T ∧ Below W.heap.size W X := by
  have hcap := grownCap_ge W T.size 0 5
  refine ⟨_, _, run_bytes_of_string W 9 33 5 T Tryz.underlying9 Tryz.underlying33 Tryz.underlying5, ?_, ?_⟩
  · refine ⟨_, _, rfl, by omega, by rw [ucells_length, Nat.mul_one], fun h0 => ⟨_, rfl, by simp, fun j u hu => ?_⟩⟩
    have hj : j < T.size := by rw [← ucells_length]; exact (List.getElem?_eq_some_iff.1 hu).1
    have hj' : j < T.data.size := hj
    rw [addr_add, cell_of_row _ W.heap.size (0 + j) _ 5 _ (heap_alloc_new W.drew _), Nat.zero_add]
    rw [ucells_at T j hj] at hu
    injection hu with hu
    subst hu
    unfold bytesRow
    rw [Array.getElem?_append_left (by simpa using hj'), Array.getElem?_map, Array.getElem?_eq_getElem hj']
    simp [ByteArray.get!, getElem!_pos T.data j hj']
  · exact (Below.refl _ _).drew.alloc (Nat.le_refl _) _
theorem btr_of_cells {w : World} {A : Option Addr} {l : List UInt8} {c : Nat} (hc : l.length ≤ c) (h : 0 < l.length → ∃ ad, A = some ad ∧ ad.block < w.heap.size ∧ ∀ j (hj : j < l.length), w.cell? (ad.add j) = some (.int .u8 (l[j].toNat : Int))) : BtR w (.slice A l.length c) ⟨l.toArray⟩ := by
  have hs : (⟨l.toArray⟩ : ByteArray).size = l.length := by simp [ByteArray.size]
  refine ⟨A, c, by rw [hs], by omega, by rw [ucells_length, Nat.mul_one], fun h0 => ?_⟩
  rw [hs] at h0
  obtain ⟨ad, rfl, hb, hx⟩ := h h0
  refine ⟨ad, rfl, hb, fun j u hu => ?_⟩
  have hj : j < l.length := by have := (List.getElem?_eq_some_iff.1 hu).1; rwa [ucells_length, hs] at this
  rw [hx j hj]
  rw [← hu]
  unfold ucells
  rw [List.getElem?_map, List.getElem?_eq_getElem (by simpa using hj)]
  simp
end Go.Proofs.YthmcimpdehgaoaaGreatDoor
namespace Go.Proofs.YthmcimpdehgaoaaGreatDoor
open Go.RowKit Go.WideShapes Go.ChangeShapes

/-- a call of a law's row -/
structure CallC where
  kind : Int
  step : Int
  name : ByteArray
  b : ByteArray
  n : Int
  keep : List Int
/-- a call's six cells -/
structure CallAt (w : World) (b o : Nat) (c : CallC) : Prop where
  kb : 0 ≤ c.kind ∧ c.kind ≤ 255
  sb : In64 c.step
  nb : In64 c.n
  keepb : ∀ z ∈ c.keep, In64 z
  k : w.cell? ⟨b, o, none⟩ = some (.int .u8 c.kind)
  s : w.cell? ⟨b, o + 1, none⟩ = some (.int .i64 c.step)
  name : w.cell? ⟨b, o + 2, none⟩ = some (.string c.name)
  bs : ∃ A cc, w.cell? ⟨b, o + 3, none⟩ = some (.slice A c.b.size cc) ∧ BtR w (.slice A c.b.size cc) c.b
  n : w.cell? ⟨b, o + 4, none⟩ = some (.int .i64 c.n)
  keep : ∃ A cc, w.cell? ⟨b, o + 5, none⟩ = some (.slice A c.keep.length cc) ∧ Rd w 1 A c.keep.length (c.keep.map (Value.int .i64))
theorem CallAt.below {w w' : World} {b o : Nat} {c : CallC} (h : CallAt w b o c) (hlt : b < w.heap.size) (hb : Below w.heap.size w w') : CallAt w' b o c := by
  have hc : ∀ j, w'.cell? ⟨b, j, none⟩ = w.cell? ⟨b, j, none⟩ := fun j => hb.cell (p := ⟨b, j, none⟩) hlt
  obtain ⟨A, cc, h1, h2⟩ := h.bs
  obtain ⟨A2, cc2, h3, h4⟩ := h.keep
  exact ⟨h.kb, h.sb, h.nb, h.keepb, (hc _).trans h.k, (hc _).trans h.s, (hc _).trans h.name, ⟨A, cc, (hc _).trans h1, h2.below hb⟩, (hc _).trans h.n, ⟨A2, cc2, (hc _).trans h3, h4.below hb⟩⟩
/-- a row of calls, as an argument -/
def CallsA (w : World) (A : Option Addr) (l : List CallC) : Prop := 0 < l.length → ∃ b o, A = some ⟨b, o, none⟩ ∧ b < w.heap.size ∧ ∀ i c, l[i]? = some c → CallAt w b (o + i * 6) c
theorem CallsA.below {w w' : World} {A : Option Addr} {l : List CallC} (h : CallsA w A l) (hb : Below w.heap.size w w') : CallsA w' A l := fun h0 => by
  obtain ⟨b, o, hA, hlt, hc⟩ := h h0
  exact ⟨b, o, hA, Nat.lt_of_lt_of_le hlt hb.size, fun i m hm => (hc i m hm).below hlt hb⟩
theorem list6 {α : Type} {cs : List α} (h : cs.length = 6) : ∃ c0 c1 c2 c3 c4 c5, cs = [c0, c1, c2, c3, c4, c5] := by
  match cs, h with
  | [c0, c1, c2, c3, c4, c5], _ => exact ⟨c0, c1, c2, c3, c4, c5, rfl⟩
theorem cellsCa : Tryz.prog.cellsOf 36 = 6 := by kernel_rfl
theorem cellsCap : 0 < Tryz.prog.cellsOf 36 := Nat.lt_of_lt_of_eq (Nat.zero_lt_succ 5) cellsCa.symm
section
variable {H : Type} {enc : TypeId × Value → H} {W : World} {base : Nat} {v : Value} {d : DataW H} {ps : List MemPlace}
set_option maxRecDepth 100000 in
theorem open_calls (hv : Value.okWide Tryz.prog W .any base 22 v) (h : DataW.Trod enc Tryz.prog W 0 (fun _ => true) true 22 v d ps) :
    ∃ (A : Option Addr) (l : List CallC) (c : Nat), v = .slice A l.length c ∧ CallsA W A l := by
  obtain ⟨A, len, c, rfl, h1, h2, hr⟩ := open_row Tryz.underlying22 cellsCap hv h
  rcases hr with rfl | ⟨b, o, rfl, hb, hx⟩
  · exact ⟨A, [], c, rfl, fun h => absurd h (Nat.lt_irrefl 0)⟩
  · rw [cellsCa] at hx
    have each : ∀ i, i < len → ∃ c : CallC, CallAt W b (o + i * 6) c := by
      intro i hi
      obtain ⟨cs, k, y, hl, hc, ht⟩ := hx i hi
      obtain ⟨c0, c1, c2, c3, c4, c5, rfl⟩ := list6 hl
      obtain ⟨z0, rfl, w0⟩ := struct_int Tryz.underlying36 ht 0 _ rfl Tryz.underlying5 cellsU8 (v := c0) rfl
      obtain ⟨z1, rfl, w1⟩ := struct_int Tryz.underlying36 ht 1 _ rfl Tryz.underlying3 cellsI (v := c1) rfl
      obtain ⟨k2, y2, t2⟩ := struct_at Tryz.underlying36 ht 2 _ rfl cellsStr (v := c2) rfl
      obtain ⟨s, e2, _⟩ := DataW.trod_string Tryz.underlying9 t2
      simp only [List.cons.injEq, and_true] at e2
      subst e2
      obtain ⟨k3, y3, t3⟩ := struct_at Tryz.underlying36 ht 3 _ rfl cellsBy (v := c3) rfl
      obtain ⟨A3, l3, cc3, e3, hl3, hb3⟩ := open_btr_cells Tryz.underlying33 Tryz.underlying5 cellsU8 t3
      simp only [List.cons.injEq, and_true] at e3
      subst e3
      obtain ⟨z4, rfl, w4⟩ := struct_int Tryz.underlying36 ht 4 _ rfl Tryz.underlying3 cellsI (v := c4) rfl
      obtain ⟨k5, y5, t5⟩ := struct_at Tryz.underlying36 ht 5 _ rfl cellsIs (v := c5) rfl
      obtain ⟨A5, len5, cc5, e5, _, _, hr5⟩ := open_row_cells Tryz.underlying34 cellsIp t5
      simp only [List.cons.injEq, and_true] at e5
      subst e5
      obtain ⟨l5, rfl, hR5, hw5⟩ := ints_of hr5
      have hs3 : (⟨l3.toArray⟩ : ByteArray).size = l3.length := by simp [ByteArray.size]
      have hbr := btr_of_cells hl3 hb3
      have g : ∀ (j : Nat) (u : Value), ([Value.int .u8 z0, .int .i64 z1, .string s, .slice A3 l3.length cc3, .int .i64 z4, .slice A5 l5.length cc5] : List Value)[j]? = some u → j < 6 → W.cell? ⟨b, o + i * 6 + j, none⟩ = some u := fun j u hu hj => (hc j hj).trans hu
      exact ⟨⟨z0, z1, s, ⟨l3.toArray⟩, z4, l5⟩, bounds_u8 w0, in64_of w1, in64_of w4, hw5, g 0 _ rfl (by decide), g 1 _ rfl (by decide), g 2 _ rfl (by decide), ⟨A3, cc3, by show _ = some (Value.slice A3 (⟨l3.toArray⟩ : ByteArray).size cc3); rw [hs3]; exact g 3 _ rfl (by decide), hbr⟩, g 4 _ rfl (by decide), ⟨A5, cc5, g 5 _ rfl (by decide), hR5⟩⟩
    obtain ⟨l, rfl, hm⟩ := list_of_each each
    exact ⟨_, l, c, rfl, fun _ => ⟨b, o, rfl, hb, hm⟩⟩
end
end Go.Proofs.YthmcimpdehgaoaaGreatDoor
namespace Go.Proofs.YthmcimpdehgaoaaGreatDoor
open Go.RowKit

set_option maxHeartbeats 1000000 in
theorem steps_any [Forb] (w : World) (base p : Nat) (v : Value) (D : DiskD) (h : DiskIs w base p v D) :
    Calls Tryz.prog 59 #[.pointer (some ⟨p, 0, none⟩)] w fun e w' => e = .returned (.int .i64 D.steps) ∧ w' = w := by
  obtain ⟨_, hb, _⟩ := h
  have c2 := hb.cell 2
  simp only [List.getElem?_toArray, List.getElem?_cons_zero, List.getElem?_cons_succ] at c2
  go_enter Tryz.func59, Tryz.ntmps59
  go_wp2
  go_ret
  exact ⟨rfl, rfl⟩
section
variable [Forb] (w : World) (base p : Nat) (v : Value) (D : DiskD) (h : DiskIs w base p v D) (hbase : base ≤ w.heap.size) (hf : Fit D)
include h hbase hf
set_option maxHeartbeats 2000000 in
theorem cut_any (name : ByteArray) (n : Int) : Calls Tryz.prog 30 #[.pointer (some ⟨p, 0, none⟩), .string name, .int .i64 n] w fun e w' => e = .returned (.int .i64 (D.step 1 name name n false).1) ∧ Leaves w w' base p v (D.step 1 name name n false).2 := by
  have HS := Lib.hid (step_any w base p v D 1 (.inr (.inl rfl)) name name n false h hf.len hbase hf.size hf.steps hf.steps0 hf.left hf.left1)
  clear h hbase hf
  go_enter Tryz.func30, Tryz.ntmps30
  go_wp2_with fail
  refine HS.out.mono ?_
  rintro e w1 ⟨rfl, hL⟩
  have HL := Lib.hid hL
  clear hL
  go_wp2
  go_ret
  exact ⟨rfl, HL.out⟩
end
/-- the name of a number -/
def nm (i : Nat) : ByteArray := ⟨#[110, UInt8.ofNat (97 + i)]⟩
theorem nm_conv (i : Nat) (hi : i ≤ 100) (w : World) : (convert 33 9 (.slice (some ⟨w.heap.size, 0, none⟩) 1 1)).run Tryz.prog (w.alloc (.cells #[.int .u8 (97 + (i : Int))] 5)) = .ok (.string ⟨#[UInt8.ofNat (97 + i)]⟩) (w.alloc (.cells #[.int .u8 (97 + (i : Int))] 5)) :=
  run_convert_bytes_back (P := Tryz.prog) _ 33 9 5 ⟨w.heap.size, 0, none⟩ 1 [UInt8.ofNat (97 + i)] Tryz.underlying33 Tryz.underlying5 Tryz.underlying9 (fun j hj => by
    obtain rfl : j = 0 := by simpa using hj
    have := (Blk.new w 5 #[.int .u8 (97 + (i : Int))]).cell 0
    have h2 : ((UInt8.ofNat (97 + i)).toNat : Int) = 97 + (i : Int) := by
      rw [UInt8.toNat_ofNat']
      omega
    simp only [List.getElem_cons_zero, h2]
    exact this)
section
variable [Forb] {w : World} {B p : Nat} {v : Value} {D D' : DiskD} {E : Int} (h : DiskIs w B p v D) (hB : B ≤ w.heap.size)
include h hB
theorem d_cut (hf : Fit D) {name : ByteArray} {n : Int} (hE : D.step 1 name name n false = (E, D')) :
    Calls Tryz.prog 30 #[.pointer (some ⟨p, 0, none⟩), .string name, .int .i64 n] w fun e w' => e = .returned (.int .i64 E) ∧ ∃ v1, Out B w w' p v D' v1 :=
  (cut_any w B p v D h hB hf name n).mono fun e w' ⟨he, hl⟩ => by rw [hE] at he hl; exact ⟨he, hl.out h hB⟩
end
end Go.Proofs.YthmcimpdehgaoaaGreatDoor
