/- The step of a file's name, by CutPrefix and Atoi. strconv.Atoi of any string, in one contract. slices.Sort of a row of ints that the call has built. -/
import Derived.Test.YthmcimpdehgaoaaGreatDoorPk8
import Derived.Lib.AtoiAll
import Derived.Lib.Strings
import Derived.Test.YthmcimpdehgaoaaGreatDoorShelf
import Derived.Test.YthmcimpdehgaoaaGreatDoorMem
import Derived.Lib.AtoiErrMem
import Derived.Sort.OwnSortedInts
namespace Go.Proofs.YthmcimpdehgaoaaGreatDoor
open Go.RowKit

theorem fold_ge : ∀ (l : List UInt8) (a : Nat), a ≤ l.foldl (fun a c => a * 10 + (c.toNat - 48)) a
  | [], _ => Nat.le_refl _
  | c :: r, a => Nat.le_trans (by omega) (fold_ge r (a * 10 + (c.toNat - 48)))
theorem parseU_fold : ∀ (l : List UInt8) (a : Nat), (∀ c ∈ l, 48 ≤ c.toNat ∧ c.toNat ≤ 57) → l.foldl (fun a c => a * 10 + (c.toNat - 48)) a < 9223372036854775808 → Lib.parseUint10 a l = .ok (l.foldl (fun a c => a * 10 + (c.toNat - 48)) a)
  | [], _, _, _ => rfl
  | c :: r, a, hd, hl => by
    have h1 := fold_ge r (a * 10 + (c.toNat - 48))
    rw [List.foldl_cons] at hl ⊢
    rw [Lib.parseUint10, if_pos (hd c (by simp)), if_neg (by omega), if_neg (by omega)]
    exact parseU_fold r _ (fun x hx => hd x (by simp [hx])) hl
theorem atoi_dec {n : Nat} (hn : n ≤ 1073741824) : Lib.atoiAll (Lib.decDigits n) = .ok (n : Int) := by
  have hd := decDigits_lt n
  have hv := decDigits_val n
  obtain ⟨l, hl⟩ : ∃ l, Lib.decDigits n = l := ⟨_, rfl⟩
  have hne : l ≠ [] := by
    intro h0
    rw [← hl, Lib.decDigits] at h0
    split at h0 <;> simp at h0
  rw [hl] at hd hv ⊢
  cases l with
  | nil => exact absurd rfl hne
  | cons c r =>
    have hc := hd c (by simp)
    have hp : Lib.parseMag (c :: r) = .ok n := by
      unfold Lib.parseMag
      rw [if_neg (by simp), parseU_fold _ 0 hd (by rw [hv]; omega), hv]
    unfold Lib.atoiAll
    dsimp only
    rw [if_neg (by omega), hp]
    dsimp only
    rw [if_neg (by omega), if_neg (by omega), if_neg (by omega)]
def preC : List UInt8 := [99, 107, 46]
/-- a file that is taken: what the two calls say of it -/
theorem stepOf_parts {f : ByteArray} {n : Nat} (h : stepOf f = some n) : Lib.hasPrefix f.data.toList preC = true ∧ Lib.trimPrefix f.data.toList preC = Lib.decDigits n ∧ Lib.atoiAll (Lib.trimPrefix f.data.toList preC) = .ok (n : Int) ∧ n ≤ 1073741824 ∧ nameC n = f := by
  obtain ⟨hn, hf⟩ := stepOf_some.1 h
  have hl := nameC_list n
  rw [hf] at hl
  have hp : Lib.hasPrefix f.data.toList preC = true := by
    rw [hl]; unfold Lib.hasPrefix preC
    rw [List.isPrefixOf_iff_prefix]
    exact List.prefix_append _ _
  have ht : Lib.trimPrefix f.data.toList preC = Lib.decDigits n := by
    unfold Lib.trimPrefix
    rw [if_pos hp, hl]
    exact List.drop_left' rfl
  exact ⟨hp, ht, by rw [ht]; exact atoi_dec hn, hn, hf⟩
/-- what the test of a name says -/
def takesC (f : ByteArray) (v : Int) (err : Bool) : Bool := Lib.hasPrefix f.data.toList preC && !err && decide (0 ≤ v) && decide (v ≤ 1073741824) && decide (nameC v.toNat = f)
theorem takes_ok {f : ByteArray} {v : Int} (h : Lib.atoiAll (Lib.trimPrefix f.data.toList preC) = .ok v) : stepOf f = if takesC f v false = true then some v.toNat else none := by
  split
  · rename_i ht
    unfold takesC at ht
    simp at ht
    exact stepOf_some.2 ⟨by omega, ht.2⟩
  · rename_i ht
    cases hs : stepOf f with
    | none => rfl
    | some n =>
      obtain ⟨h1, h2, h3, h4, h5⟩ := stepOf_parts hs
      rw [h] at h3
      injection h3 with h3
      subst h3
      exact absurd (by unfold takesC; simp [h1, h5]; omega) ht
theorem takes_err {f : ByteArray} (h : ∀ v, Lib.atoiAll (Lib.trimPrefix f.data.toList preC) ≠ .ok v) : stepOf f = none := by
  cases hs : stepOf f with
  | none => rfl
  | some n => exact absurd (stepOf_parts hs).2.2.1 (h _)
end Go.Proofs.YthmcimpdehgaoaaGreatDoor
namespace Go.Proofs.YthmcimpdehgaoaaGreatDoor
open Go.RowKit

/-- strconv's two errors, laid below the call's own -/
def Ev (B : Nat) (w : World) : Prop := ∀ w', Below B w w' → (∃ tp p, w'.var? Tryz.prog "strconv.ErrSyntax" = some #[.iface tp p]) ∧ (∃ tp p, w'.var? Tryz.prog "strconv.ErrRange" = some #[.iface tp p])
theorem Ev.on {B : Nat} {w w' : World} (h : Ev B w) (hb : Below B w w') : Ev B w' := fun w2 h2 => h w2 (hb.trans h2)
theorem Ev.at_ {w W : World} (h : Ev w.heap.size w) (hb : Below w.heap.size w W) : Ev W.heap.size W := fun w2 h2 => h w2 (hb.trans (h2.mono hb.size))
/-- Atoi's answer -/
def AtoiA (s : ByteArray) (x ev : Value) : Prop :=
  (∃ v, x = .int .i64 v ∧ ev = .nilIface ∧ Lib.atoiAll s.data.toList = .ok v) ∨ (∃ v N, x = .int .i64 v ∧ ev = .iface 175 (.pointer (some ⟨N, 0, none⟩)) ∧ ∀ v, Lib.atoiAll s.data.toList ≠ .ok v)
theorem catoi_any (w : World) (hV : Ev w.heap.size w) (s : ByteArray) (hs : s.size ≤ 281474976710656) :
    Calls Tryz.prog 89 #[.string s] w fun e w' => (∃ x ev, e = .returned (.tuple #[x, ev]) ∧ AtoiA s x ev) ∧ Below w.heap.size w w' := by
  obtain ⟨⟨t1, p1, h1⟩, t2, p2, h2⟩ := hV w (Below.refl _ _)
  cases ha : Lib.atoiAll s.data.toList
  · rename_i v
    refine (Tryz.strconv_Atoi_ok s (by omega) v ha w).mono ?_
    rintro e w' ⟨rfl, hw⟩
    refine ⟨⟨_, _, rfl, .inl ⟨v, rfl, rfl, ha⟩⟩, ?_⟩
    rcases hw with rfl | ⟨t, rfl⟩
    · exact Below.refl _ _
    · exact Lib.bytesWorld_below w _ t
  · refine (Tryz.strconv_Atoi_syntax_var s hs ha t1 p1 w h1).mono ?_
    rintro e w' ⟨N, rfl, -, -, hb⟩
    exact ⟨⟨_, _, rfl, .inr ⟨_, N, rfl, rfl, fun v hv => by rw [ha] at hv; cases hv⟩⟩, hb⟩
  · refine (Tryz.strconv_Atoi_range_var s hs ha t2 p2 w h2).mono ?_
    rintro e w' ⟨N, rfl, -, -, hb⟩
    exact ⟨⟨_, _, rfl, .inr ⟨_, N, rfl, rfl, fun v hv => by rw [ha] at hv; cases hv⟩⟩, hb⟩
end Go.Proofs.YthmcimpdehgaoaaGreatDoor
namespace Go.Proofs.YthmcimpdehgaoaaGreatDoor
open Go.RowKit Go.Sort Go.ChangeShapes Go.WideShapes

theorem sortI_any (w : World) (base : Nat) (A : Option Addr) (cap : Nat) (l : List Int) (h : w.ownsRow base 3 1 (.slice A l.length cap) l.length (l.map (Value.int .i64))) (hbase : base ≤ w.heap.size) (hl : l.length ≤ 1000000000) :
    Calls Tryz.prog 90 #[.slice A l.length cap] w fun e w' => e = .returned (.tuple #[]) ∧ w'.ownsRow base 3 1 (.slice A l.length cap) l.length ((l.mergeSort fun x y => decide (x ≤ y)).map (Value.int .i64)) ∧ Below base w w' := by
  rcases h.2 with ⟨hv, h0⟩ | ⟨g, cap', cur, hv, hg, hb, hn, hcap, hsz, ht⟩
  · have hl0 : l = [] := List.eq_nil_of_length_eq_zero h0
    subst hl0
    refine (Tryz.slices_Sort_int_none A cap w).mono ?_
    rintro e w' ⟨rfl, rfl⟩
    exact ⟨rfl, by simpa using h, Below.refl _ _⟩
  · simp only [Value.slice.injEq] at hv
    obtain ⟨rfl, -, rfl⟩ := hv
    have hlt : g < w.heap.size := (Array.getElem?_eq_some_iff.1 hb).1
    refine (Tryz.slices_Sort_int g 0 cap l w (holds_of_blockI hb (by rw [Nat.mul_one] at ht; exact ht)) hlt (by omega)).mono ?_
    rintro e w' ⟨rfl, n, os, rfl⟩
    have hgr := grownBy_sortedI (w := w) (g := g) (n := n) (os := os) (l.mergeSort fun x y => decide (x ≤ y)).toArray
    exact ⟨rfl, ownsRow_sortedI (by simp) hg hb hn hcap hsz, ⟨hgr.os, hgr.tape, hgr.output, hgr.size, fun i hi => hgr.block i (by omega) (by intro e; injection e with e; omega)⟩⟩
/-- the sorted steps -/
theorem sort_cast (l : List Nat) : (l.map fun n : Nat => (n : Int)).mergeSort (fun x y => decide (x ≤ y)) = l.mergeSort.map fun n : Nat => (n : Int) := by
  symm
  refine List.map_mergeSort fun a _ b _ => ?_
  simp
end Go.Proofs.YthmcimpdehgaoaaGreatDoor
