/- Chapter 16's rows of calls as arguments; few. -/
import Derived.Test.YtcfcfpphhaknnaaTkC
import Derived.Deep.LoopGhost
import Derived.IntWalk
namespace Go.Proofs.Ytcfcfpphhaknnaa
open Go.RowKit Go.Maps

def In64T (n : Int) : Prop := -9223372036854775808 ≤ n ∧ n ≤ 9223372036854775807
/-- a call as it lies -/
structure CallAtT (w : World) (b o : Nat) (c : CallD) : Prop where
  kb : 0 ≤ c.kind ∧ c.kind ≤ 255
  nb : In64T c.n
  keepb : ∀ z ∈ c.keep, In64T z
  k : w.cell? ⟨b, o, none⟩ = some (.int .u8 c.kind)
  name : w.cell? ⟨b, o + 1, none⟩ = some (.string c.name)
  dst : w.cell? ⟨b, o + 2, none⟩ = some (.string c.dst)
  bs : ∃ A cc, w.cell? ⟨b, o + 3, none⟩ = some (.slice A c.b.size cc) ∧ BtR w (.slice A c.b.size cc) c.b
  n : w.cell? ⟨b, o + 4, none⟩ = some (.int .i64 c.n)
  keep : ∃ A cc, w.cell? ⟨b, o + 5, none⟩ = some (.slice A c.keep.length cc) ∧ Rd w 1 A c.keep.length (c.keep.map (Value.int .i64))
theorem CallAtT.below {w w' : World} {b o : Nat} {c : CallD} (h : CallAtT w b o c) (hlt : b < w.heap.size) (hb : Below w.heap.size w w') : CallAtT w' b o c := by
  have hc : ∀ j, w'.cell? ⟨b, j, none⟩ = w.cell? ⟨b, j, none⟩ := fun j => hb.cell (p := ⟨b, j, none⟩) hlt
  obtain ⟨A, cc, h1, h2⟩ := h.bs
  obtain ⟨A2, cc2, h3, h4⟩ := h.keep
  exact ⟨h.kb, h.nb, h.keepb, (hc _).trans h.k, (hc _).trans h.name, (hc _).trans h.dst, ⟨A, cc, (hc _).trans h1, h2.below hb⟩, (hc _).trans h.n, ⟨A2, cc2, (hc _).trans h3, h4.below hb⟩⟩
def CallsT (w : World) (A : Option Addr) (l : List CallD) : Prop := 0 < l.length → ∃ b o, A = some ⟨b, o, none⟩ ∧ b < w.heap.size ∧ ∀ i c, l[i]? = some c → CallAtT w b (o + i * 6) c
theorem CallsT.below {w w' : World} {A : Option Addr} {l : List CallD} (h : CallsT w A l) (hb : Below w.heap.size w w') : CallsT w' A l := fun h0 => by
  obtain ⟨b, o, hA, hlt, hc⟩ := h h0
  exact ⟨b, o, hA, Nat.lt_of_lt_of_le hlt hb.size, fun i m hm => (hc i m hm).below hlt hb⟩
def sumT (l : List CallD) : Nat := (l.map (·.b.size)).sum
/-- what the laws ask of rows of calls -/
structure FewT (most : Nat) (l : List CallD) : Prop where
  len : l.length ≤ most
  sum : sumT l ≤ 4000
  name : ∀ c ∈ l, c.name.size ≤ 140
  dst : ∀ c ∈ l, c.dst.size ≤ 140
  keep : ∀ c ∈ l, c.keep.length ≤ 40
theorem sumT_take (l : List CallD) (i : Nat) (c : CallD) (h : l[i]? = some c) : sumT (l.take (i + 1)) = sumT (l.take i) + c.b.size := by
  unfold sumT
  rw [List.take_add_one, h]
  simp
theorem sumT_le (l : List CallD) (i : Nat) : sumT (l.take i) ≤ sumT l := by
  have h8 : sumT l = sumT (l.take i) + sumT (l.drop i) := by
    unfold sumT
    rw [← List.sum_append, ← List.map_append, List.take_append_drop]
  omega
theorem FewT.size {most : Nat} {l : List CallD} (h : FewT most l) : ∀ c ∈ l, c.b.size ≤ 4000 := fun c hc => by
  obtain ⟨i, hi, rfl⟩ := List.mem_iff_getElem.1 hc
  have h1 := sumT_take l i _ (List.getElem?_eq_getElem hi)
  have h2 := sumT_le l (i + 1)
  have h3 := h.sum
  omega
set_option maxRecDepth 100000 in
set_option maxHeartbeats 4000000 in
theorem few_true (w : World) (A : Option Addr) (c : Nat) (l : List CallD) (most : Nat) (hA : CallsT w A l) (hF : FewT most l) (hm : most ≤ 1000) :
    Calls Try.prog 35 #[.slice A l.length c, .int .i64 most] w fun e w' => e = .returned (.bool true) ∧ Below w.heap.size w w' := by
  have HA := Lib.hid hA; have HF := Lib.hid hF
  have hlm := hF.len
  have hlmI : (l.length : Int) ≤ (most : Int) := by omega
  clear hA hF
  go_enter Try.func35, Try.ntmps35
  go_wp2
  go_loopg [5, 6] l.length (fun gf vn vi wr => ∃ i n : Nat, vn = .int .i64 n ∧ vi = .int .i64 i ∧ i + gf = l.length ∧ n = sumT (l.take i) ∧ Below w.heap.size w wr)
  case atStart => exact ⟨0, 0, rfl, rfl, by omega, rfl, Below.refl _ _⟩
  case round =>
    obtain ⟨i, n, rfl, rfl, hi, hn, hb⟩ := hrel
    have hn4 : n ≤ 4000 := by rw [hn]; exact Nat.le_trans (sumT_le l i) HF.out.sum
    have HB := Lib.hid hb; have HN := Lib.hid hn
    clear hb hn
    cases gk with
    | zero =>
      obtain rfl : i = l.length := by omega
      clear hi
      have hnI : (n : Int) ≤ 4000 := by omega
      go_wp2
      go_ret
      exact ⟨rfl, HB.out⟩
    | succ gf =>
      obtain ⟨x, hx⟩ : ∃ x, l[i]? = some x := ⟨_, List.getElem?_eq_getElem (by omega)⟩
      obtain ⟨bb, oo, rfl, hlt, hcl⟩ := (HA.out.below HB.out) (by omega)
      have hcx := hcl i x hx
      have hiI : (i : Int) < (l.length : Int) := by omega
      have hcn := hcx.name
      have hcd := hcx.dst
      obtain ⟨A1, cc1, hcb, -⟩ := hcx.bs
      obtain ⟨A2, cc2, hck, -⟩ := hcx.keep
      have hm1 := List.mem_of_getElem? hx
      have s1 : ¬ (140 : Int) < (x.name.size : Int) := by have := HF.out.name x hm1; omega
      have s2 : ¬ (140 : Int) < (x.dst.size : Int) := by have := HF.out.dst x hm1; omega
      have s3 : ¬ (40 : Int) < (x.keep.length : Int) := by have := HF.out.keep x hm1; omega
      have s4 : ¬ (4000 : Int) < (x.b.size : Int) := by have := HF.out.size x hm1; omega
      have hst : n + x.b.size = sumT (l.take (i + 1)) := by rw [sumT_take l i x hx, HN.out]
      have HST := Lib.hid hst
      have w1 : IntKind.i64.wrap ((n : Int) + (x.b.size : Int)) = (n : Int) + (x.b.size : Int) := IntWalk.i64_in _ (by omega)
      clear hcx hcl hx hm1 hst
      go_wp2
      go_roundg gf
      case measure => omega
      case rel => exact ⟨i + 1, n + x.b.size, by go_num, by go_num, by omega, HST.out, HB.out⟩
end Go.Proofs.Ytcfcfpphhaknnaa
