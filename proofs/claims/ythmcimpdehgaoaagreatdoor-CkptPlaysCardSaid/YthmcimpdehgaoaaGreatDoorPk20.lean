/- The reference's store of checkpoints: the step of a file's name; in plain words. The step of a file's name, by CutPrefix and Atoi. strconv.Atoi of any string, in one contract. slices.Sort of a row of ints that the call has built. What calls of a disk leave, one behind the other; Off. The table of powers that strconv reads. -/
import Derived.Test.YthmcimpdehgaoaaGreatDoorPk16
import Derived.Lib.AtoiAll
import Derived.Lib.Strings
import Derived.Test.YthmcimpdehgaoaaGreatDoorShelf
import Derived.Test.YthmcimpdehgaoaaGreatDoorPk0
import Derived.Lib.AtoiErrMem
import Derived.Sort.OwnSortedInts
import Derived.Test.YthmcimpdehgaoaaGreatDoorDk4
import Derived.Lib.LaidTab
import Derived.Shelf.Abstract
import Derived.Lib.AppendIntMem
namespace Go.Proofs.YthmcimpdehgaoaaGreatDoor
open Go.RowKit

def dvalC (l : List UInt8) : Nat := l.foldl (fun a c => a * 10 + (c.toNat - 48)) 0
theorem dvalC_snoc (l : List UInt8) (c : UInt8) : dvalC (l ++ [c]) = dvalC l * 10 + (c.toNat - 48) := by
  unfold dvalC
  rw [List.foldl_append]
  rfl
theorem dvalC_go : ∀ (l : List UInt8) (a : Nat), (∀ c ∈ l, 48 ≤ c.toNat ∧ c.toNat ≤ 57) → l.foldl (fun a c => a * 10 + (c.toNat - 48)) a < (a + 1) * 10 ^ l.length := by
  intro l
  induction l with
  | nil => intro a _; simp
  | cons c l ih =>
    intro a h
    have h2 := h c List.mem_cons_self
    have h1 := ih (a * 10 + (c.toNat - 48)) (fun x hx => h x (List.mem_cons_of_mem _ hx))
    rw [List.foldl_cons, List.length_cons, Nat.pow_succ]
    refine Nat.lt_of_lt_of_le h1 ?_
    have e : (a + 1) * (10 ^ l.length * 10) = (a * 10 + 10) * 10 ^ l.length := by
      rw [show a * 10 + 10 = (a + 1) * 10 from by omega, Nat.mul_assoc, Nat.mul_comm 10]
    rw [e]
    exact Nat.mul_le_mul_right _ (by omega)
theorem dvalC_lt (l : List UInt8) (h : ∀ c ∈ l, 48 ≤ c.toNat ∧ c.toNat ≤ 57) : dvalC l < 10 ^ l.length := by
  have := dvalC_go l 0 h
  rw [Nat.zero_add, Nat.one_mul] at this
  exact this
theorem decDigits_len : ∀ (k u : Nat), 0 < k → u < 10 ^ k → (Lib.decDigits u).length ≤ k ∧ 0 < (Lib.decDigits u).length := by
  intro k
  induction k with
  | zero => intro u h _; omega
  | succ k ih =>
    intro u _ hu
    rw [Lib.decDigits]
    split
    · exact ⟨by simp, by simp⟩
    · rename_i h
      have hk : 0 < k := by
        by_cases hk : k = 0
        · subst hk; simp at hu; omega
        · omega
      rw [Nat.pow_succ] at hu
      have h1 := ih (u / 10) hk (by omega)
      rw [List.length_append]
      exact ⟨by simp; omega, by simp⟩
/-- what a step's name is like -/
theorem stepOf_shape {T : ByteArray} {m : Nat} (h : stepOf T = some m) : 4 ≤ T.size ∧ T.size ≤ 13 ∧ T.data.toList.take 3 = [99, 107, 46] ∧ (∀ c ∈ T.data.toList.drop 3, 48 ≤ c.toNat ∧ c.toNat ≤ 57) ∧ dvalC (T.data.toList.drop 3) = m ∧ m ≤ 1073741824 ∧ nameC m = T := by
  obtain ⟨hm, rfl⟩ := stepOf_some.1 h
  have hl := decDigits_len 10 m (by decide) (by omega)
  have hs : (nameC m).size = 3 + (Lib.decDigits m).length := by
    have : (nameC m).size = (nameC m).data.toList.length := by simp
    rw [this, nameC_list, List.length_append]
    rfl
  rw [nameC_list]
  refine ⟨by omega, by omega, rfl, fun c hc => decDigits_lt m c hc, ?_, hm, rfl⟩
  exact decDigits_val m
theorem stepOf_none_iff {T : ByteArray} (h : ∀ m, stepOf T ≠ some m) : stepOf T = none := by
  cases hx : stepOf T with
  | none => rfl
  | some m => exact absurd hx (h m)
noncomputable def stepI (T : ByteArray) : Int := match stepOf T with
  | some n => (n : Int)
  | none => -1
theorem stepI_none {T : ByteArray} (h : ∀ m, stepOf T ≠ some m) : stepI T = -1 := by unfold stepI; rw [stepOf_none_iff h]
theorem stepI_some {T : ByteArray} {n : Nat} (h : n ≤ 1073741824) (hn : nameC n = T) : stepI T = n := by unfold stepI; rw [stepOf_some.2 ⟨h, hn⟩]
theorem take_snoc (T : ByteArray) (i : Nat) (h3 : 3 ≤ i) (hi : i < T.size) : (T.data.toList.drop 3).take (i + 1 - 3) = (T.data.toList.drop 3).take (i - 3) ++ [T.get! i] := by
  have hs : T.size = T.data.size := rfl
  rw [show i + 1 - 3 = (i - 3) + 1 from by omega, List.take_add_one, List.getElem?_drop, show 3 + (i - 3) = i from by omega, Array.getElem?_toList, Array.getElem?_eq_getElem (by omega)]
  simp only [ByteArray.get!, getElem!_pos, show i < T.data.size from by omega]
  rfl
end Go.Proofs.YthmcimpdehgaoaaGreatDoor
namespace Go.Proofs.YthmcimpdehgaoaaGreatDoor
open Go.RowKit

theorem fold_ge : ∀ (l : List UInt8) (a : Nat), a ≤ l.foldl (fun a c => a * 10 + (c.toNat - 48)) a
  | [], _ => Nat.le_refl _
  | c :: r, a => Nat.le_trans (by omega) (fold_ge r (a * 10 + (c.toNat - 48)))
theorem parseU_fold : ∀ (l : List UInt8) (a : Nat), (∀ c ∈ l, 48 ≤ c.toNat ∧ c.toNat ≤ 57) → l.foldl (fun a c => a * 10 + (c.toNat - 48)) a < 9223372036854775808 → Lib.parseUint10 a l = .ok (l.foldl (fun a c => a * 10 + (c.toNat - 48)) a)
  | [], _, _, _ => rfl
  | c :: r, a, hd, hl => by
    have h1 := fold_ge r (a * 10 + (c.toNat - 48))
    rw [List.foldl_cons] at hl ⊢
    rw [Lib.parseUint10, if_pos (hd c (by simp)), if_neg (by omega), if_neg (by omega)]
    exact parseU_fold r _ (fun x hx => hd x (by simp [hx])) hl
theorem atoi_dec {n : Nat} (hn : n ≤ 1073741824) : Lib.atoiAll (Lib.decDigits n) = .ok (n : Int) := by
  have hd := decDigits_lt n
  have hv := decDigits_val n
  obtain ⟨l, hl⟩ : ∃ l, Lib.decDigits n = l := ⟨_, rfl⟩
  have hne : l ≠ [] := by
    intro h0
    rw [← hl, Lib.decDigits] at h0
    split at h0 <;> simp at h0
  rw [hl] at hd hv ⊢
  cases l with
  | nil => exact absurd rfl hne
  | cons c r =>
    have hc := hd c (by simp)
    have hp : Lib.parseMag (c :: r) = .ok n := by
      unfold Lib.parseMag
      rw [if_neg (by simp), parseU_fold _ 0 hd (by rw [hv]; omega), hv]
    unfold Lib.atoiAll
    dsimp only
    rw [if_neg (by omega), hp]
    dsimp only
    rw [if_neg (by omega), if_neg (by omega), if_neg (by omega)]
def preC : List UInt8 := [99, 107, 46]
/-- a file that is taken: what the two calls say of it -/
theorem stepOf_parts {f : ByteArray} {n : Nat} (h : stepOf f = some n) : Lib.hasPrefix f.data.toList preC = true ∧ Lib.trimPrefix f.data.toList preC = Lib.decDigits n ∧ Lib.atoiAll (Lib.trimPrefix f.data.toList preC) = .ok (n : Int) ∧ n ≤ 1073741824 ∧ nameC n = f := by
  obtain ⟨hn, hf⟩ := stepOf_some.1 h
  have hl := nameC_list n
  rw [hf] at hl
  have hp : Lib.hasPrefix f.data.toList preC = true := by
    rw [hl]; unfold Lib.hasPrefix preC
    rw [List.isPrefixOf_iff_prefix]
    exact List.prefix_append _ _
  have ht : Lib.trimPrefix f.data.toList preC = Lib.decDigits n := by
    unfold Lib.trimPrefix
    rw [if_pos hp, hl]
    exact List.drop_left' rfl
  exact ⟨hp, ht, by rw [ht]; exact atoi_dec hn, hn, hf⟩
/-- what the test of a name says -/
def takesC (f : ByteArray) (v : Int) (err : Bool) : Bool := Lib.hasPrefix f.data.toList preC && !err && decide (0 ≤ v) && decide (v ≤ 1073741824) && decide (nameC v.toNat = f)
theorem takes_ok {f : ByteArray} {v : Int} (h : Lib.atoiAll (Lib.trimPrefix f.data.toList preC) = .ok v) : stepOf f = if takesC f v false = true then some v.toNat else none := by
  split
  · rename_i ht
    unfold takesC at ht
    simp at ht
    exact stepOf_some.2 ⟨by omega, ht.2⟩
  · rename_i ht
    cases hs : stepOf f with
    | none => rfl
    | some n =>
      obtain ⟨h1, h2, h3, h4, h5⟩ := stepOf_parts hs
      rw [h] at h3
      injection h3 with h3
      subst h3
      exact absurd (by unfold takesC; simp [h1, h5]; omega) ht
theorem takes_err {f : ByteArray} (h : ∀ v, Lib.atoiAll (Lib.trimPrefix f.data.toList preC) ≠ .ok v) : stepOf f = none := by
  cases hs : stepOf f with
  | none => rfl
  | some n => exact absurd (stepOf_parts hs).2.2.1 (h _)
end Go.Proofs.YthmcimpdehgaoaaGreatDoor
namespace Go.Proofs.YthmcimpdehgaoaaGreatDoor
open Go.RowKit

/-- strconv's two errors, laid below the call's own -/
def Ev (B : Nat) (w : World) : Prop := ∀ w', Below B w w' → (∃ tp p, w'.var? Tryz.prog "strconv.ErrSyntax" = some #[.iface tp p]) ∧ (∃ tp p, w'.var? Tryz.prog "strconv.ErrRange" = some #[.iface tp p])
theorem Ev.on {B : Nat} {w w' : World} (h : Ev B w) (hb : Below B w w') : Ev B w' := fun w2 h2 => h w2 (hb.trans h2)
theorem Ev.at_ {w W : World} (h : Ev w.heap.size w) (hb : Below w.heap.size w W) : Ev W.heap.size W := fun w2 h2 => h w2 (hb.trans (h2.mono hb.size))
/-- Atoi's answer -/
def AtoiA (s : ByteArray) (x ev : Value) : Prop :=
  (∃ v, x = .int .i64 v ∧ ev = .nilIface ∧ Lib.atoiAll s.data.toList = .ok v) ∨ (∃ v N, x = .int .i64 v ∧ ev = .iface 175 (.pointer (some ⟨N, 0, none⟩)) ∧ ∀ v, Lib.atoiAll s.data.toList ≠ .ok v)
theorem catoi_any (w : World) (hV : Ev w.heap.size w) (s : ByteArray) (hs : s.size ≤ 281474976710656) :
    Calls Tryz.prog 89 #[.string s] w fun e w' => (∃ x ev, e = .returned (.tuple #[x, ev]) ∧ AtoiA s x ev) ∧ Below w.heap.size w w' := by
  obtain ⟨⟨t1, p1, h1⟩, t2, p2, h2⟩ := hV w (Below.refl _ _)
  cases ha : Lib.atoiAll s.data.toList
  · rename_i v
    refine (Tryz.strconv_Atoi_ok s (by omega) v ha w).mono ?_
    rintro e w' ⟨rfl, hw⟩
    refine ⟨⟨_, _, rfl, .inl ⟨v, rfl, rfl, ha⟩⟩, ?_⟩
    rcases hw with rfl | ⟨t, rfl⟩
    · exact Below.refl _ _
    · exact Lib.bytesWorld_below w _ t
  · refine (Tryz.strconv_Atoi_syntax_var s hs ha t1 p1 w h1).mono ?_
    rintro e w' ⟨N, rfl, -, -, hb⟩
    exact ⟨⟨_, _, rfl, .inr ⟨_, N, rfl, rfl, fun v hv => by rw [ha] at hv; cases hv⟩⟩, hb⟩
  · refine (Tryz.strconv_Atoi_range_var s hs ha t2 p2 w h2).mono ?_
    rintro e w' ⟨N, rfl, -, -, hb⟩
    exact ⟨⟨_, _, rfl, .inr ⟨_, N, rfl, rfl, fun v hv => by rw [ha] at hv; cases hv⟩⟩, hb⟩
end Go.Proofs.YthmcimpdehgaoaaGreatDoor
namespace Go.Proofs.YthmcimpdehgaoaaGreatDoor
open Go.RowKit Go.Sort Go.ChangeShapes Go.WideShapes

theorem sortI_any (w : World) (base : Nat) (A : Option Addr) (cap : Nat) (l : List Int) (h : w.ownsRow base 3 1 (.slice A l.length cap) l.length (l.map (Value.int .i64))) (hbase : base ≤ w.heap.size) (hl : l.length ≤ 1000000000) :
    Calls Tryz.prog 90 #[.slice A l.length cap] w fun e w' => e = .returned (.tuple #[]) ∧ w'.ownsRow base 3 1 (.slice A l.length cap) l.length ((l.mergeSort fun x y => decide (x ≤ y)).map (Value.int .i64)) ∧ Below base w w' := by
  rcases h.2 with ⟨hv, h0⟩ | ⟨g, cap', cur, hv, hg, hb, hn, hcap, hsz, ht⟩
  · have hl0 : l = [] := List.eq_nil_of_length_eq_zero h0
    subst hl0
    refine (Tryz.slices_Sort_int_none A cap w).mono ?_
    rintro e w' ⟨rfl, rfl⟩
    exact ⟨rfl, by simpa using h, Below.refl _ _⟩
  · simp only [Value.slice.injEq] at hv
    obtain ⟨rfl, -, rfl⟩ := hv
    have hlt : g < w.heap.size := (Array.getElem?_eq_some_iff.1 hb).1
    refine (Tryz.slices_Sort_int g 0 cap l w (holds_of_blockI hb (by rw [Nat.mul_one] at ht; exact ht)) hlt (by omega)).mono ?_
    rintro e w' ⟨rfl, n, os, rfl⟩
    have hgr := grownBy_sortedI (w := w) (g := g) (n := n) (os := os) (l.mergeSort fun x y => decide (x ≤ y)).toArray
    exact ⟨rfl, ownsRow_sortedI (by simp) hg hb hn hcap hsz, ⟨hgr.os, hgr.tape, hgr.output, hgr.size, fun i hi => hgr.block i (by omega) (by intro e; injection e with e; omega)⟩⟩
/-- the sorted steps -/
theorem sort_cast (l : List Nat) : (l.map fun n : Nat => (n : Int)).mergeSort (fun x y => decide (x ≤ y)) = l.mergeSort.map fun n : Nat => (n : Int) := by
  symm
  refine List.map_mergeSort fun a _ b _ => ?_
  simp
end Go.Proofs.YthmcimpdehgaoaaGreatDoor
namespace Go.Proofs.YthmcimpdehgaoaaGreatDoor
open Go.RowKit Go.Maps

section
variable [Forb] {w w1 w2 : World} {B p gs : Nat} {v v1 v2 : Value} {D D1 D2 : DiskD}
theorem Out.of_below (h : DiskIs w B p v D) (hB : B ≤ w.heap.size) (hb : Below w.heap.size w w1) : Out B w w1 p v D v :=
  ⟨h.below hb (Nat.le_refl _), hb.mono hB, fun _ _ hx => hx.below hb, fun g _ _ _ _ _ hg => hb.block g (Array.getElem?_eq_some_iff.1 hg).1, fun _ _ _ _ h2 ha => ⟨h2.below hb (Nat.le_refl _), ha⟩⟩
theorem Out.trans (o : Out B w w1 p v D1 v1) (q : Out B w1 w2 p v1 D2 v2) : Out B w w2 p v D2 v2 :=
  ⟨q.is, o.below.trans q.below, fun x s h => q.bt x s (o.bt x s h), fun g cs t fz h1 h2 hh => by
    have e := o.blk g cs t fz h1 h2 hh
    exact (q.blk g cs t fz h1 h2 (e.trans hh)).trans e, fun B' p' v' D' h2 ha => by
    obtain ⟨a, b⟩ := o.other B' p' v' D' h2 ha
    exact q.other B' p' v' D' a b⟩
theorem Out.keep_blk (o : Out B w w1 p v D1 v1) {g : Nat} {t : TypeId} {cs : Array Value} (h : Blk w g t cs) (h1 : t ≠ 68) (h2 : t ≠ 90) : Blk w1 g t cs := (o.blk g cs t _ h1 h2 h).trans h
end
set_option maxHeartbeats 1000000 in
theorem off_any [Forb] (w : World) (B p : Nat) (v : Value) (D : DiskD) (h : DiskIs w B p v D) :
    Calls Tryz.prog 18 #[.pointer (some ⟨p, 0, none⟩)] w fun e w' => e = .returned (.bool D.off) ∧ w' = w := by
  have c4 := h.blk.cell 4
  simp only [List.getElem?_toArray, List.getElem?_cons_zero, List.getElem?_cons_succ] at c4
  clear h
  go_enter Tryz.func18, Tryz.ntmps18
  go_wp2
  go_ret
  exact ⟨rfl, rfl⟩
end Go.Proofs.YthmcimpdehgaoaaGreatDoor
namespace Go.Proofs.YthmcimpdehgaoaaGreatDoor
open Go.RowKit

/-- the table of powers that strconv reads lies below the call's own -/
def Tb (B : Nat) (w : World) : Prop := Lib.TabBelow Tryz.prog B w "internal/strconv.uint64pow10" .u64 Lib.pow10Tab
theorem Tb.on {B : Nat} {w w' : World} (h : Tb B w) (hb : Below B w w') : Tb B w' := Lib.TabBelow.on h hb
theorem Tb.at_ {w W : World} (h : Tb w.heap.size w) (hb : Below w.heap.size w W) : Tb W.heap.size W := fun w2 h2 => h w2 (hb.trans (h2.mono hb.size))
end Go.Proofs.YthmcimpdehgaoaaGreatDoor
