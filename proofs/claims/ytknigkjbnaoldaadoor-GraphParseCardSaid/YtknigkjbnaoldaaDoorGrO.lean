/- Both Prints. -/
import Derived.Test.YtknigkjbnaoldaaDoorGrN
import Derived.Test.YtknigkjbnaoldaaDoorWordsD
import Derived.Test.YtknigkjbnaoldaaDoorShelf
namespace Go.Proofs.YtknigkjbnaoldaaDoor
open Go.RowKit

/-- what is printed: a text, and an error -/
def printE (g : Gr) : ByteArray := if checkL g = 0 then printG g else ⟨#[]⟩
def PrintP (w : World) (g : Gr) (e : Ending) (w' : World) : Prop := e = .returned (.tuple #[.string (printE g), .int .i64 (checkL g)]) ∧ Below w.heap.size w w'
theorem printP_err {w w' : World} {g : Gr} {e : Ending} {k : Int} (h : checkL g = k) (hk : k ≠ 0) (he : e = .returned (.tuple #[.string ⟨#[]⟩, .int .i64 k])) (hb : Below w.heap.size w w') : PrintP w g e w' := by
  refine ⟨?_, hb⟩
  unfold printE
  rw [if_neg (by rw [h]; exact hk), h]
  exact he
theorem printP_ok {w w' : World} {g : Gr} {e : Ending} (h : checkL g = 0) (he : e = .returned (.tuple #[.string (printG g), .int .i64 0])) (hb : Below w.heap.size w w') : PrintP w g e w' := by
  refine ⟨?_, hb⟩
  unfold printE
  rw [if_pos h, h]
  exact he
/-- a line of the closure's: one number -/
theorem clo_one (B b g : Nat) (bs : List Value) (word : ByteArray) (n : Int) (w : World) (h : Lib.IsBuilder 65 5 B b bs w) (hlen : bs.length + word.size + 1000 ≤ 140737488355328) (hB0 : 0 < B) (hBw : B ≤ w.heap.size) (hF : Firsts w) (hg : Blk w g 2 #[.int .i64 n]) (hgb : g ≠ b) (hr : -9223372036854775808 ≤ n ∧ n ≤ 9223372036854775807) :
    Calls Tryd.prog 42 #[.string word, .slice (some ⟨g, 0, none⟩) 1 1, .pointer (some ⟨b, 0, none⟩)] w fun e w' => e = .returned (.tuple #[]) ∧ CSt w w' B b g bs (lineT word [n]) [n] :=
  clo_any B b g bs word [n] w h (by simp; omega) hB0 hBw hF hg hgb (by simpa using hr) (by simp)
theorem clo_three (B b g : Nat) (bs : List Value) (word : ByteArray) (n m k : Int) (w : World) (h : Lib.IsBuilder 65 5 B b bs w) (hlen : bs.length + word.size + 1000 ≤ 140737488355328) (hB0 : 0 < B) (hBw : B ≤ w.heap.size) (hF : Firsts w) (hg : Blk w g 2 #[.int .i64 n, .int .i64 m, .int .i64 k]) (hgb : g ≠ b) (hr : (-9223372036854775808 ≤ n ∧ n ≤ 9223372036854775807) ∧ (-9223372036854775808 ≤ m ∧ m ≤ 9223372036854775807) ∧ (-9223372036854775808 ≤ k ∧ k ≤ 9223372036854775807)) :
    Calls Tryd.prog 42 #[.string word, .slice (some ⟨g, 0, none⟩) 3 3, .pointer (some ⟨b, 0, none⟩)] w fun e w' => e = .returned (.tuple #[]) ∧ CSt w w' B b g bs (lineT word [n, m, k]) [n, m, k] :=
  clo_any B b g bs word [n, m, k] w h (by simp; omega) hB0 hBw hF hg hgb (by
    intro x hx
    simp only [List.mem_cons, List.not_mem_nil, or_false] at hx
    rcases hx with rfl | rfl | rfl
    · exact hr.1
    · exact hr.2.1
    · exact hr.2.2) (by simp)
theorem builder_new (B : Nat) (w : World) (hB : B ≤ w.heap.size) : Lib.BuilderAt 65 5 B w.heap.size (.pointer none) [] (w.alloc (.cells #[.pointer none, .slice none 0 0] 65)) :=
  ⟨hB, .slice none 0 0, Blk.new w _ _, World.ownsRow_nil _ _ _ _, by simp [Value.ownBlock]⟩
/-- the state of Print's loop -/
structure PrSt (w wr : World) (b : Nat) (t : ByteArray) : Prop where
  below : Below w.heap.size w wr
  bld : Lib.BuilderAt 65 5 w.heap.size b (.pointer (some ⟨b, 0, none⟩)) (Lib.strCells t) wr
theorem edge_range {g : Gr} (h : checkL g = 0) {e : Edg} (he : e ∈ g.2) : (-9223372036854775808 ≤ e.1 ∧ e.1 ≤ 9223372036854775807) ∧ (-9223372036854775808 ≤ e.2.1 ∧ e.2.1 ≤ 9223372036854775807) ∧ (-9223372036854775808 ≤ e.2.2 ∧ e.2.2 ≤ 9223372036854775807) := by
  obtain ⟨h1, h2, _, h4, _⟩ := check_ok h
  have := h4 e he
  unfold fitsE at this
  have := of_decide_eq_true this
  omega
set_option maxRecDepth 100000 in
set_option maxHeartbeats 4000000 in
theorem pPrint_any (w : World) (n : Int) (A : Option Addr) (c : Nat) (l : List Edg) (h : Rs edgC 3 w A l) (hF : Firsts w) :
    Calls Tryd.prog 21 #[.agg #[.int .i64 n, .slice A l.length c]] w (PrintP w (n, l)) := by
  have hB := (Below.refl w.heap.size w).alloc (Nat.le_refl _) (.cells #[.int .i64 n, .slice A l.length c] 25)
  have hK := Blk.new w 25 #[.int .i64 n, .slice A l.length c]
  have hc := check_any _ n A c l (h.alloc (.cells #[.int .i64 n, .slice A l.length c] 25))
  by_cases hk : checkL (n, l) = 0
  · have hlim := check_ok hk
    have hrange := fun e he => edge_range hk (e := e) he
    have hout := fun (w' : World) (e : Ending) => printP_ok (w := w) (w' := w') (g := (n, l)) (e := e) hk
    rw [hk] at hc
    have h0 := firsts_lt hF
    have HR := Lib.hid h; have HB := Lib.hid hB; have HK := Lib.hid hK; have HC := Lib.hid hc; have HF := Lib.hid hF; have HL := Lib.hid hlim; have HRG := Lib.hid hrange; have HO := Lib.hid hout
    clear h hB hK hc hF hlim hrange hout hk
    go_enter Tryd.func21, Tryd.ntmps21
    go_wp2_with fail
    refine HC.out.mono ?_
    clear HC
    rintro e w1 ⟨rfl, hb1⟩
    have hB1 := HB.out.trans (hb1.mono HB.out.size)
    have hK1 := HK.out.below hb1 HK.out.lt
    have hs1 : w.heap.size + 1 ≤ w1.heap.size := by have := hb1.size; simpa using this
    have hs2 : w.heap.size < w1.heap.size := by omega
    have g0 := hK1.cell 0; have g1 := hK1.cell 1
    simp only [List.getElem?_toArray, List.getElem?_cons_zero, List.getElem?_cons_succ] at g0 g1
    -- the builder, and the first row
    have hbld := builder_new w.heap.size w1 hB1.size
    have hB2 := (hB1.alloc hB1.size (.cells #[.pointer none, .slice none 0 0] 65)).alloc (by have := hB1.size; simp; omega) (.cells #[.int .i64 n] 2)
    have hrow := Blk.new (w1.alloc (.cells #[.pointer none, .slice none 0 0] 65)) 2 #[.int .i64 n]
    rw [show (w1.alloc (.cells #[.pointer none, .slice none 0 0] 65)).heap.size = w1.heap.size + 1 by simp] at hrow
    have hK2 := (hK1.alloc (.cells #[.pointer none, .slice none 0 0] 65)).alloc (.cells #[.int .i64 n] 2)
    have hclo := clo_one w.heap.size w1.heap.size (w1.heap.size + 1) [] wVertices n _ (.inl (builder_alloc hbld (.cells #[.int .i64 n] 2))) (by decide) h0 hB2.size (firsts_below HF.out hB2 h0) hrow (by omega) (by have := HL.out; omega)
    have HB2 := Lib.hid hB2; have HK2 := Lib.hid hK2; have HCLO := Lib.hid hclo
    clear hB1 hbld hB2 hrow hK2 hclo hK1 hb1 HB HK
    unfold wVertices at HCLO
    go_wp2_with fail
    refine HCLO.out.mono ?_
    clear HCLO g0 g1
    rintro e w2 ⟨rfl, hst⟩
    have hK3 := HK2.out.kept hst.kept (by omega) (by decide)
    have g1 := hK3.cell 1
    simp only [List.getElem?_toArray, List.getElem?_cons_zero, List.getElem?_cons_succ] at g1
    have HST : Hid (PrSt w w2 w1.heap.size (lineT wVertices [n])) := Lib.hid ⟨HB2.out.trans hst.below, hst.bld⟩
    clear hst hK3 HB2 HK2
    go_wp2
    go_loopg [23] l.length (fun gf vi wr => ∃ i : Nat, vi = .int .i64 i ∧ i + gf = l.length ∧ PrSt w wr w1.heap.size (edgesT (lineT wVertices [n]) (l.take i)))
    case atStart => exact ⟨0, rfl, by omega, HST.out⟩
    case round =>
      clear HST
      obtain ⟨i, rfl, hi, hst⟩ := hrel
      have HST := Lib.hid hst
      have hts := edgesT_size (lineT wVertices [n]) (l.take i)
      have htl := lineT_size wVertices [n]
      have hwv : wVertices.size = 8 := rfl
      have hwe : wEdge.size = 4 := rfl
      have hll := HL.out.2.2.1
      rw [List.length_take, Nat.min_eq_left (by omega)] at hts
      simp only [List.length_cons, List.length_nil] at htl
      cases gk with
      | zero =>
        obtain rfl : i = l.length := by omega
        rw [List.take_length] at hst
        have hsb := Tryd.Builder_String_any w.heap.size w1.heap.size (edgesT (lineT wVertices [n]) l).data.toList wr (.inr hst.bld) hst.below.size
        have HSB := Lib.hid hsb; have HBB := Lib.hid hst.below
        clear hst hsb hts htl HST
        go_wp2_with fail
        refine HSB.out.mono ?_
        rintro e w3 ⟨rfl, hb3⟩
        have HB3 := Lib.hid (HBB.out.trans hb3)
        clear hb3
        go_wp2
        go_ret2
        exact HO.out _ _ (by simp [printG]) HB3.out
      | succ gf =>
        have hiI : (i : Int) < (l.length : Int) := by omega
        obtain ⟨b, oo, x, rfl, hb, hx, x1, x2, x3⟩ := edg_at (HR.out.below hst.below) (i := i) (by omega)
        have hrg := HRG.out x (List.mem_of_getElem? hx)
        have hsn := edgesT_snoc (lineT wVertices [n]) (l.take i) x
        rw [← take_snoc_ hx] at hsn
        have hB2 := (hst.below.alloc hst.below.size (.cells #[.int .i64 x.1, .int .i64 x.2.1, .int .i64 x.2.2] 35)).alloc (by have := hst.below.size; simp; omega) (.cells #[.int .i64 x.1, .int .i64 x.2.1, .int .i64 x.2.2] 2)
        have hrow := Blk.new (wr.alloc (.cells #[.int .i64 x.1, .int .i64 x.2.1, .int .i64 x.2.2] 35)) 2 #[.int .i64 x.1, .int .i64 x.2.1, .int .i64 x.2.2]
        rw [show (wr.alloc (.cells #[.int .i64 x.1, .int .i64 x.2.1, .int .i64 x.2.2] 35)).heap.size = wr.heap.size + 1 by simp] at hrow
        have hlt := hst.bld.lt
        have hclo := clo_three w.heap.size w1.heap.size (wr.heap.size + 1) _ wEdge x.1 x.2.1 x.2.2 _ (.inr (builder_alloc (builder_alloc hst.bld (.cells #[.int .i64 x.1, .int .i64 x.2.1, .int .i64 x.2.2] 35)) (.cells #[.int .i64 x.1, .int .i64 x.2.1, .int .i64 x.2.2] 2))) (by rw [Lib.strCells_length]; omega) h0 hB2.size (firsts_below HF.out hB2 h0) hrow (by omega) hrg
        have HB2 := Lib.hid hB2; have HCLO := Lib.hid hclo; have HSN := Lib.hid hsn
        have hi2 : i < 8192 := by have : l.length ≤ 8192 := hll; omega
        clear hst hB2 hrow hclo hsn hrg hlt hts htl hwv hwe hll hx
        unfold wEdge at HCLO
        go_wp2_with fail
        refine HCLO.out.mono ?_
        clear HCLO
        rintro e w3 ⟨rfl, hst3⟩
        have HW : Hid (PrSt w w3 w1.heap.size (edgesT (lineT wVertices [n]) (l.take (i + 1)))) := Lib.hid ⟨HB2.out.trans hst3.below, by rw [HSN.out, strCells_append]; exact hst3.bld⟩
        clear hst3
        go_wp2
        go_roundg gf
        case measure => omega
        case rel => exact ⟨i + 1, by go_num, by omega, HW.out⟩
  · have hne : (checkL (n, l) != 0) = true := by simp [hk]
    have hout := fun (w' : World) (e : Ending) => printP_err (w := w) (w' := w') (g := (n, l)) (e := e) rfl hk
    obtain ⟨K, hK⟩ : ∃ K, checkL (n, l) = K := ⟨_, rfl⟩
    rw [hK] at hc hne hout
    have HB := Lib.hid hB; have HC := Lib.hid hc; have HO := Lib.hid hout
    clear h hB hc hF hK hout hk
    go_enter Tryd.func21, Tryd.ntmps21
    go_wp2_with fail
    refine HC.out.mono ?_
    clear HC
    rintro e w1 ⟨rfl, hb1⟩
    have HB1 := Lib.hid (HB.out.trans (hb1.mono HB.out.size))
    clear hb1
    go_wp2
    go_ret2
    exact HO.out _ _ rfl HB1.out
end Go.Proofs.YtknigkjbnaoldaaDoor
