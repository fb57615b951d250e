/- The step of a file's name, by CutPrefix and Atoi. strconv.Atoi of any string, in one contract. slices.Sort of a row of ints that the call has built. A store of checkpoints: all. -/
import Derived.Test.YthmcimpdehgaoaaGreatDoorPk7
import Derived.Lib.AtoiAll
import Derived.Lib.Strings
import Derived.Test.YthmcimpdehgaoaaGreatDoorShelf
import Derived.Test.YthmcimpdehgaoaaGreatDoorMem
import Derived.Lib.AtoiErrMem
import Derived.Sort.OwnSortedInts
import Derived.Test.YthmcimpdehgaoaaGreatDoorPk15
import Derived.Deep.DeepCutAuto
namespace Go.Proofs.YthmcimpdehgaoaaGreatDoor
open Go.RowKit

theorem fold_ge : ∀ (l : List UInt8) (a : Nat), a ≤ l.foldl (fun a c => a * 10 + (c.toNat - 48)) a
  | [], _ => Nat.le_refl _
  | c :: r, a => Nat.le_trans (by omega) (fold_ge r (a * 10 + (c.toNat - 48)))
theorem parseU_fold : ∀ (l : List UInt8) (a : Nat), (∀ c ∈ l, 48 ≤ c.toNat ∧ c.toNat ≤ 57) → l.foldl (fun a c => a * 10 + (c.toNat - 48)) a < 9223372036854775808 → Lib.parseUint10 a l = .ok (l.foldl (fun a c => a * 10 + (c.toNat - 48)) a)
  | [], _, _, _ => rfl
  | c :: r, a, hd, hl => by
    have h1 := fold_ge r (a * 10 + (c.toNat - 48))
    rw [List.foldl_cons] at hl ⊢
    rw [Lib.parseUint10, if_pos (hd c (by simp)), if_neg (by omega), if_neg (by omega)]
    exact parseU_fold r _ (fun x hx => hd x (by simp [hx])) hl
theorem atoi_dec {n : Nat} (hn : n ≤ 1073741824) : Lib.atoiAll (Lib.decDigits n) = .ok (n : Int) := by
  have hd := decDigits_lt n
  have hv := decDigits_val n
  obtain ⟨l, hl⟩ : ∃ l, Lib.decDigits n = l := ⟨_, rfl⟩
  have hne : l ≠ [] := by
    intro h0
    rw [← hl, Lib.decDigits] at h0
    split at h0 <;> simp at h0
  rw [hl] at hd hv ⊢
  cases l with
  | nil => exact absurd rfl hne
  | cons c r =>
    have hc := hd c (by simp)
    have hp : Lib.parseMag (c :: r) = .ok n := by
      unfold Lib.parseMag
      rw [if_neg (by simp), parseU_fold _ 0 hd (by rw [hv]; omega), hv]
    unfold Lib.atoiAll
    dsimp only
    rw [if_neg (by omega), hp]
    dsimp only
    rw [if_neg (by omega), if_neg (by omega), if_neg (by omega)]
def preC : List UInt8 := [99, 107, 46]
/-- a file that is taken: what the two calls say of it -/
theorem stepOf_parts {f : ByteArray} {n : Nat} (h : stepOf f = some n) : Lib.hasPrefix f.data.toList preC = true ∧ Lib.trimPrefix f.data.toList preC = Lib.decDigits n ∧ Lib.atoiAll (Lib.trimPrefix f.data.toList preC) = .ok (n : Int) ∧ n ≤ 1073741824 ∧ nameC n = f := by
  obtain ⟨hn, hf⟩ := stepOf_some.1 h
  have hl := nameC_list n
  rw [hf] at hl
  have hp : Lib.hasPrefix f.data.toList preC = true := by
    rw [hl]; unfold Lib.hasPrefix preC
    rw [List.isPrefixOf_iff_prefix]
    exact List.prefix_append _ _
  have ht : Lib.trimPrefix f.data.toList preC = Lib.decDigits n := by
    unfold Lib.trimPrefix
    rw [if_pos hp, hl]
    exact List.drop_left' rfl
  exact ⟨hp, ht, by rw [ht]; exact atoi_dec hn, hn, hf⟩
/-- what the test of a name says -/
def takesC (f : ByteArray) (v : Int) (err : Bool) : Bool := Lib.hasPrefix f.data.toList preC && !err && decide (0 ≤ v) && decide (v ≤ 1073741824) && decide (nameC v.toNat = f)
theorem takes_ok {f : ByteArray} {v : Int} (h : Lib.atoiAll (Lib.trimPrefix f.data.toList preC) = .ok v) : stepOf f = if takesC f v false = true then some v.toNat else none := by
  split
  · rename_i ht
    unfold takesC at ht
    simp at ht
    exact stepOf_some.2 ⟨by omega, ht.2⟩
  · rename_i ht
    cases hs : stepOf f with
    | none => rfl
    | some n =>
      obtain ⟨h1, h2, h3, h4, h5⟩ := stepOf_parts hs
      rw [h] at h3
      injection h3 with h3
      subst h3
      exact absurd (by unfold takesC; simp [h1, h5]; omega) ht
theorem takes_err {f : ByteArray} (h : ∀ v, Lib.atoiAll (Lib.trimPrefix f.data.toList preC) ≠ .ok v) : stepOf f = none := by
  cases hs : stepOf f with
  | none => rfl
  | some n => exact absurd (stepOf_parts hs).2.2.1 (h _)
end Go.Proofs.YthmcimpdehgaoaaGreatDoor
namespace Go.Proofs.YthmcimpdehgaoaaGreatDoor
open Go.RowKit

/-- strconv's two errors, laid below the call's own -/
def Ev (B : Nat) (w : World) : Prop := ∀ w', Below B w w' → (∃ tp p, w'.var? Tryz.prog "strconv.ErrSyntax" = some #[.iface tp p]) ∧ (∃ tp p, w'.var? Tryz.prog "strconv.ErrRange" = some #[.iface tp p])
theorem Ev.on {B : Nat} {w w' : World} (h : Ev B w) (hb : Below B w w') : Ev B w' := fun w2 h2 => h w2 (hb.trans h2)
theorem Ev.at_ {w W : World} (h : Ev w.heap.size w) (hb : Below w.heap.size w W) : Ev W.heap.size W := fun w2 h2 => h w2 (hb.trans (h2.mono hb.size))
/-- Atoi's answer -/
def AtoiA (s : ByteArray) (x ev : Value) : Prop :=
  (∃ v, x = .int .i64 v ∧ ev = .nilIface ∧ Lib.atoiAll s.data.toList = .ok v) ∨ (∃ v N, x = .int .i64 v ∧ ev = .iface 175 (.pointer (some ⟨N, 0, none⟩)) ∧ ∀ v, Lib.atoiAll s.data.toList ≠ .ok v)
theorem catoi_any (w : World) (hV : Ev w.heap.size w) (s : ByteArray) (hs : s.size ≤ 281474976710656) :
    Calls Tryz.prog 89 #[.string s] w fun e w' => (∃ x ev, e = .returned (.tuple #[x, ev]) ∧ AtoiA s x ev) ∧ Below w.heap.size w w' := by
  obtain ⟨⟨t1, p1, h1⟩, t2, p2, h2⟩ := hV w (Below.refl _ _)
  cases ha : Lib.atoiAll s.data.toList
  · rename_i v
    refine (Tryz.strconv_Atoi_ok s (by omega) v ha w).mono ?_
    rintro e w' ⟨rfl, hw⟩
    refine ⟨⟨_, _, rfl, .inl ⟨v, rfl, rfl, ha⟩⟩, ?_⟩
    rcases hw with rfl | ⟨t, rfl⟩
    · exact Below.refl _ _
    · exact Lib.bytesWorld_below w _ t
  · refine (Tryz.strconv_Atoi_syntax_var s hs ha t1 p1 w h1).mono ?_
    rintro e w' ⟨N, rfl, -, -, hb⟩
    exact ⟨⟨_, _, rfl, .inr ⟨_, N, rfl, rfl, fun v hv => by rw [ha] at hv; cases hv⟩⟩, hb⟩
  · refine (Tryz.strconv_Atoi_range_var s hs ha t2 p2 w h2).mono ?_
    rintro e w' ⟨N, rfl, -, -, hb⟩
    exact ⟨⟨_, _, rfl, .inr ⟨_, N, rfl, rfl, fun v hv => by rw [ha] at hv; cases hv⟩⟩, hb⟩
end Go.Proofs.YthmcimpdehgaoaaGreatDoor
namespace Go.Proofs.YthmcimpdehgaoaaGreatDoor
open Go.RowKit Go.Sort Go.ChangeShapes Go.WideShapes

theorem sortI_any (w : World) (base : Nat) (A : Option Addr) (cap : Nat) (l : List Int) (h : w.ownsRow base 3 1 (.slice A l.length cap) l.length (l.map (Value.int .i64))) (hbase : base ≤ w.heap.size) (hl : l.length ≤ 1000000000) :
    Calls Tryz.prog 90 #[.slice A l.length cap] w fun e w' => e = .returned (.tuple #[]) ∧ w'.ownsRow base 3 1 (.slice A l.length cap) l.length ((l.mergeSort fun x y => decide (x ≤ y)).map (Value.int .i64)) ∧ Below base w w' := by
  rcases h.2 with ⟨hv, h0⟩ | ⟨g, cap', cur, hv, hg, hb, hn, hcap, hsz, ht⟩
  · have hl0 : l = [] := List.eq_nil_of_length_eq_zero h0
    subst hl0
    refine (Tryz.slices_Sort_int_none A cap w).mono ?_
    rintro e w' ⟨rfl, rfl⟩
    exact ⟨rfl, by simpa using h, Below.refl _ _⟩
  · simp only [Value.slice.injEq] at hv
    obtain ⟨rfl, -, rfl⟩ := hv
    have hlt : g < w.heap.size := (Array.getElem?_eq_some_iff.1 hb).1
    refine (Tryz.slices_Sort_int g 0 cap l w (holds_of_blockI hb (by rw [Nat.mul_one] at ht; exact ht)) hlt (by omega)).mono ?_
    rintro e w' ⟨rfl, n, os, rfl⟩
    have hgr := grownBy_sortedI (w := w) (g := g) (n := n) (os := os) (l.mergeSort fun x y => decide (x ≤ y)).toArray
    exact ⟨rfl, ownsRow_sortedI (by simp) hg hb hn hcap hsz, ⟨hgr.os, hgr.tape, hgr.output, hgr.size, fun i hi => hgr.block i (by omega) (by intro e; injection e with e; omega)⟩⟩
/-- the sorted steps -/
theorem sort_cast (l : List Nat) : (l.map fun n : Nat => (n : Int)).mergeSort (fun x y => decide (x ≤ y)) = l.mergeSort.map fun n : Nat => (n : Int) := by
  symm
  refine List.map_mergeSort fun a _ b _ => ?_
  simp
end Go.Proofs.YthmcimpdehgaoaaGreatDoor
namespace Go.Proofs.YthmcimpdehgaoaaGreatDoor
open Go.RowKit Go.Maps

noncomputable def stepsN (l : List ByteArray) : List Nat := l.filterMap stepOf
theorem stepsN_snoc {l : List ByteArray} {i : Nat} {t : ByteArray} (h : l[i]? = some t) : stepsN (l.take (i + 1)) = stepsN (l.take i) ++ (stepOf t).toList := by
  unfold stepsN
  rw [List.take_add_one, h, Option.toList_some, List.filterMap_append]
  cases hs : stepOf t <;> simp [hs]
theorem stepsN_none {l : List ByteArray} {i : Nat} {t : ByteArray} (h : l[i]? = some t) (hs : stepOf t = none) : stepsN (l.take (i + 1)) = stepsN (l.take i) := by rw [stepsN_snoc h, hs]; simp
theorem stepsN_len (l : List ByteArray) (i : Nat) : (stepsN (l.take i)).length ≤ i := Nat.le_trans (List.length_filterMap_le _ _) (List.length_take_le _ _)
def intsN (l : List Nat) : List Value := l.map fun n : Nat => Value.int .i64 (n : Int)
theorem intsN_snoc (l : List Nat) (n : Nat) : intsN (l ++ [n]) = intsN l ++ [.int .i64 (n : Int)] := by unfold intsN; rw [List.map_append]; rfl
theorem bsize (s : ByteArray) : s.size = s.data.toList.length := Array.length_toList.symm
theorem cbeq_ (x y : ByteArray) : (x.toList == y.toList) = decide (x = y) := by
  by_cases h : x = y
  · subst h; simp
  · rw [decide_eq_false h]
    refine beq_eq_false_iff_ne.2 fun e => h ?_
    rw [ByteArray.toList_eq, ByteArray.toList_eq] at e
    exact ByteArray.ext (Array.ext' e)
theorem no1 {T : ByteArray} {v : Int} (h : stepOf T = if takesC T v false = true then some v.toNat else none) (hp : Lib.hasPrefix T.data.toList preC = false) : stepOf T = none := by rw [h, if_neg]; unfold takesC; simp [hp]
theorem no2 {T : ByteArray} {v : Int} (h : stepOf T = if takesC T v false = true then some v.toNat else none) (hp : ¬ 0 ≤ v) : stepOf T = none := by rw [h, if_neg]; unfold takesC; simp; omega
theorem no3 {T : ByteArray} {v : Int} (h : stepOf T = if takesC T v false = true then some v.toNat else none) (hp : ¬ v ≤ 1073741824) : stepOf T = none := by rw [h, if_neg]; unfold takesC; simp; omega
theorem no4 {T : ByteArray} {n : Nat} (h : stepOf T = if takesC T n false = true then some (n : Int).toNat else none) (hp : nameC n ≠ T) : stepOf T = none := by rw [h, if_neg]; unfold takesC; simp [hp]
theorem yes5 {T : ByteArray} {n : Nat} (hn : n ≤ 1073741824) (hp : nameC n = T) : stepOf T = some n := stepOf_some.2 ⟨hn, hp⟩
theorem infoInt : (Tryz.prog.info? 3).map (fun i => (i.zero, i.size, i.bytes)) = some (some (.int .i64 0), 1, 8) := by kernel_rfl
theorem preC_eq : (⟨#[99, 107, 46]⟩ : ByteArray).data.toList = preC := rfl
set_option maxRecDepth 100000 in
set_option maxHeartbeats 16000000 in
theorem call_loop [Forb] (w : World) (B p gs : Nat) (v : Value) (D : DiskD) (h : DiskIs w B p v D) (hs : CkSt w gs p) (hf : Fit D) (hnm : ∀ f ∈ D.files, f.name.size ≤ 1000) (hT : Tb w.heap.size w) (hV : Ev w.heap.size w) :
    Calls Tryz.prog 44 #[.pointer (some ⟨gs, 0, none⟩)] w fun e w' => ∃ A c, e = .returned (.slice A (allC D).length c) ∧ w'.ownsRow w.heap.size 3 1 (.slice A (allC D).length c) (allC D).length (intsN (allC D)) ∧ Below w.heap.size w w' := by
  obtain ⟨i0, hi0, hz0, hz1, hz2⟩ := parts infoInt
  have hc0 : w.cell? ⟨gs, 0, none⟩ = some (.pointer (some ⟨p, 0, none⟩)) := Blk.cell hs 0
  have HNM := Lib.hid (names_any w B p v D h hf.len)
  obtain ⟨l, hl⟩ : ∃ l, D.files.map (·.name) = l := ⟨_, rfl⟩
  have hlen : D.files.length = l.length := by rw [← hl, List.length_map]
  have hll : l.length ≤ 100000000 := by rw [← hlen]; exact hf.len
  have hmap : D.files.map (fun f => Value.string f.name) = l.map Value.string := by rw [← hl, List.map_map]; rfl
  have hall : allC D = (stepsN l).mergeSort := by unfold allC stepsOf stepsN; rw [hl]
  have hnl : ∀ t ∈ l, t.size ≤ 1000 := by rw [← hl]; intro t ht; obtain ⟨f, hf, rfl⟩ := List.mem_map.1 ht; exact hnm f hf
  rw [hlen, hmap] at HNM
  rw [hall]
  have HI0 := Lib.hid hi0; have HZ0 := Lib.hid hz0; have HT := Lib.hid hT; have HV := Lib.hid hV; have HNL := Lib.hid hnl
  clear h hs hf hnm hT hV hl hlen hmap hall hnl hi0 hz0
  go_enter Tryz.func44, Tryz.ntmps44
  go_wp2_with fail
  refine HNM.out.mono ?_
  rintro e w1 ⟨An, cn, rfl, hrd, hb1⟩
  have HR := Lib.hid hrd; have HB1 := Lib.hid hb1
  have hq1 := hb1.size
  clear hrd hb1 HNM hc0
  go_upto_region 3 with (fail)
  go_loopg [3, 16] l.length (fun gf vs vi wr => ∃ i : Nat, vi = .int .i64 i ∧ i + gf = l.length ∧ wr.ownsRow w1.heap.size 3 1 vs (stepsN (l.take i)).length (intsN (stepsN (l.take i))) ∧ Below w1.heap.size w1 wr)
  case atStart => exact ⟨0, rfl, by omega, World.ownsRow_nil _ _ _ _, Below.refl _ _⟩
  case round =>
    obtain ⟨i, rfl, hi, hown, hB⟩ := hrel
    cases gk with
    | zero =>
      obtain rfl : i = l.length := by omega
      rw [List.take_length] at hown
      obtain ⟨A, c, rfl⟩ := own_shape hown
      have hln : (stepsN l).length ≤ 100000000 := by have := stepsN_len l l.length; rw [List.take_length] at this; omega
      have hso := sortI_any wr w1.heap.size A c ((stepsN l).map fun n : Nat => (n : Int)) (by rw [List.length_map, List.map_map]; exact hown) hB.size (by rw [List.length_map]; omega)
      rw [List.length_map, sort_cast, List.map_map] at hso
      have HSO := Lib.hid hso; have HB := Lib.hid hB
      clear hown hB hso
      go_wp2_with fail
      refine HSO.out.mono ?_
      rintro e w2 ⟨rfl, ho2, hb2⟩
      have HO2 := Lib.hid ho2; have HB2 := Lib.hid (HB.out.trans hb2)
      clear ho2 hb2 HSO HB
      go_wp2
      go_ret
      exact ⟨A, c, by rw [List.length_mergeSort]; rfl, by rw [List.length_mergeSort]; exact own_mono HO2.out hq1, HB1.out.trans (HB2.out.mono hq1)⟩
    | succ gf =>
      have hiI : (i : Int) < (l.length : Int) := by omega
      have hir : i < l.length := by omega
      obtain ⟨ad, u, rfl, hx, hcx⟩ := (HR.out.below hB).at_ (k := i) hir
      obtain ⟨T, hT0⟩ : ∃ T, l[i]? = some T := ⟨l[i], List.getElem?_eq_getElem hir⟩
      have hu : u = .string T := by rw [List.getElem?_map, hT0] at hx; injection hx with hx; exact hx.symm
      subst hu
      have hTs : T.size ≤ 1000 := HNL.out T (List.mem_of_getElem? hT0)
      have hcp := Tryz.strings_CutPrefix T ⟨#[99, 107, 46]⟩ wr
      rw [preC_eq] at hcp
      obtain ⟨hp, hhp⟩ : ∃ hp, Lib.hasPrefix T.data.toList preC = hp := ⟨_, rfl⟩
      obtain ⟨S, hS⟩ : ∃ S : ByteArray, (⟨(Lib.trimPrefix T.data.toList preC).toArray⟩ : ByteArray) = S := ⟨_, rfl⟩
      have hSd : S.data.toList = Lib.trimPrefix T.data.toList preC := by rw [← hS]
      have hSl : S.size ≤ 281474976710656 := by
        have h1 := Lib.trimPrefix_le T.data.toList preC
        rw [← hSd] at h1
        have h2 := bsize S
        have h3 := bsize T
        omega
      have HAT := Lib.hid (catoi_any wr (HV.out.at_ (HB1.out.trans (hB.mono hq1))) S hSl)
      rw [hhp, hS] at hcp
      have HCP := Lib.hid hcp
      have HO4 := Lib.hid hown; have HB4 := Lib.hid hB
      have HX := Lib.hid hcx
      have HSD := Lib.hid hSd
      clear hcp hown hB hS hSl hSd hx
      obtain ⟨Lc, hLc⟩ : ∃ Lc, stepsN (l.take i) = Lc := ⟨_, rfl⟩
      have hLl : Lc.length ≤ i := by rw [← hLc]; exact stepsN_len l i
      rw [hLc] at HO4
      obtain ⟨Ao, co, rfl⟩ := own_shape HO4.out
      go_wp2_with fail
      refine HCP.out.mono ?_
      rintro e w4 ⟨rfl, rfl⟩
      clear HCP HX hcx
      go_wp2_with fail
      refine HAT.out.mono ?_
      rintro e w5 ⟨⟨x, ev, rfl, ha⟩, hb5⟩
      have HO5 := Lib.hid (ownC_below HO4.out hb5); have HB5 := Lib.hid (HB4.out.trans (hb5.mono HB4.out.size))
      clear hb5 HO4 HB4 HAT
      have hN0 : ∀ (hno : stepOf T = none), stepsN (l.take (i + 1)) = Lc := fun hno => (stepsN_none hT0 hno).trans hLc
      have HN0 := Lib.hid hN0
      clear hN0
      rcases ha with ⟨vv, rfl, rfl, ha⟩ | ⟨vv, N, rfl, rfl, ha⟩
      case inr =>
        have hno := takes_err (f := T) (by rw [← HSD.out]; exact ha)
        clear ha
        cases hp with
        | false =>
          have HN := Lib.hid (HN0.out hno)
          go_wp2
          go_roundg gf
          case measure => omega
          case rel => exact ⟨i + 1, by go_num, by omega, by rw [HN.out]; exact HO5.out, HB5.out⟩
        | true =>
          have HN := Lib.hid (HN0.out hno)
          go_wp2
          go_roundg gf
          case measure => omega
          case rel => exact ⟨i + 1, by go_num, by omega, by rw [HN.out]; exact HO5.out, HB5.out⟩
      have HST := Lib.hid (takes_ok (f := T) (v := vv) (by rw [← HSD.out]; exact ha))
      clear ha
      cases hp with
      | false =>
        have hno := no1 HST.out hhp
        have HN := Lib.hid (HN0.out hno)
        go_wp2
        go_roundg gf
        case measure => omega
        case rel => exact ⟨i + 1, by go_num, by omega, by rw [HN.out]; exact HO5.out, HB5.out⟩
      | true =>
        by_cases h0 : 0 ≤ vv
        case neg =>
          have hno := no2 HST.out h0
          have HN := Lib.hid (HN0.out hno)
          go_wp2
          go_roundg gf
          case measure => omega
          case rel => exact ⟨i + 1, by go_num, by omega, by rw [HN.out]; exact HO5.out, HB5.out⟩
        by_cases h1 : vv ≤ 1073741824
        case neg =>
          have hno := no3 HST.out h1
          have HN := Lib.hid (HN0.out hno)
          go_wp2
          go_roundg gf
          case measure => omega
          case rel => exact ⟨i + 1, by go_num, by omega, by rw [HN.out]; exact HO5.out, HB5.out⟩
        obtain ⟨n, rfl⟩ : ∃ n : Nat, vv = (n : Int) := ⟨vv.toNat, by omega⟩
        have HNA := Lib.hid (cname_any w5 (HT.out.at_ (HB1.out.trans (HB5.out.mono hq1))) n (by omega))
        obtain ⟨Y, hY⟩ : ∃ Y, nameC n = Y := ⟨_, rfl⟩
        rw [hY] at HNA
        go_wp2_with fail
        refine HNA.out.mono ?_
        rintro e w6 ⟨rfl, hb6⟩
        have HO6 := Lib.hid (ownC_below HO5.out hb6); have HB6 := Lib.hid (HB5.out.trans (hb6.mono HB5.out.size))
        clear hb6 HO5 HB5 HNA
        by_cases hYT : Y = T
        case neg =>
          have hno := no4 HST.out (by rw [hY]; exact hYT)
          have hYb : (Y.toList == T.toList) = false := by rw [cbeq_]; exact decide_eq_false hYT
          have HN := Lib.hid (HN0.out hno)
          go_wp2
          go_roundg gf
          case measure => omega
          case rel => exact ⟨i + 1, by go_num, by omega, by rw [HN.out]; exact HO6.out, HB6.out⟩
        have hs := yes5 (T := T) (n := n) (by omega) (hY.trans hYT)
        have hsn : stepsN (l.take (i + 1)) = Lc ++ [n] := by rw [stepsN_snoc hT0, hLc, hs]; rfl
        have HSN := Lib.hid hsn
        have hYb : (Y.toList == T.toList) = true := by rw [cbeq_]; exact decide_eq_true hYT
        clear hsn hs HST HN0
        go_wp2_with (at_builtin; refine wpList_app _ w6 rfl (.tmp 49) (.tmp 51) 34 rfl w1.heap.size 3 i0 (.int .i64 0) 1 8 Tryz.underlying34 HI0.out HZ0.out hz1 hz2 rfl (by decide) (by decide) _ Lc.length _ rfl HO6 [.int .i64 (n : Int)] rfl rfl rfl w6.heap.size rfl rfl (by omega) HB6.out.size ?_; intro v3 w3 h2 h3 h4; have HO7 := Lib.hid h2.out; have HB7 := Lib.hid h4.out; clear h2 h3 h4)
        go_roundg gf
        case measure => omega
        case rel => exact ⟨i + 1, by go_num, by omega, by rw [HSN.out, intsN_snoc, List.length_append]; exact HO7.out, HB6.out.trans HB7.out⟩
end Go.Proofs.YthmcimpdehgaoaaGreatDoor
