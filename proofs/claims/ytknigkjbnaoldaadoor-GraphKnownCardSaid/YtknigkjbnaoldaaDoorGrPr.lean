/- The program's Print: what it writes, its closure. Both Prints. The reference's Print. Both Parses answer alike; what the examples of 'works' are. The examples of layer 4: 'works' answers true. GraphParse: any text is the graph that the document says. -/
import Derived.Test.YtknigkjbnaoldaaDoorBuild
import Derived.Test.YtknigkjbnaoldaaDoorGrE
import Derived.Test.YtknigkjbnaoldaaDoorWordsC
import Derived.Test.YtknigkjbnaoldaaDoorWordsD
import Derived.Test.YtknigkjbnaoldaaDoorShelf
import Derived.Test.YtknigkjbnaoldaaDoorGrM
import Derived.Test.YtknigkjbnaoldaaDoorGrU
import Derived.Test.YtknigkjbnaoldaaDoorGrC
namespace Go.Proofs.YtknigkjbnaoldaaDoor
open Go.RowKit

def wSp : ByteArray := ⟨#[32]⟩
def wNl : ByteArray := ⟨#[10]⟩
def numsT (l : List Int) : ByteArray := l.foldl (fun t n => t ++ (wSp ++ printOf n 0)) ⟨#[]⟩
def lineT (word : ByteArray) (l : List Int) : ByteArray := word ++ numsT l ++ wNl
def edgesT (t : ByteArray) (l : List Edg) : ByteArray := l.foldl (fun t e => t ++ lineT wEdge [e.1, e.2.1, e.2.2]) t
/-- a graph's text -/
def printG (g : Gr) : ByteArray := edgesT (lineT wVertices [g.1]) g.2
theorem numsT_snoc (l : List Int) (n : Int) : numsT (l ++ [n]) = numsT l ++ (wSp ++ printOf n 0) := by unfold numsT; rw [List.foldl_append]; rfl
theorem edgesT_snoc (t : ByteArray) (l : List Edg) (e : Edg) : edgesT t (l ++ [e]) = edgesT t l ++ lineT wEdge [e.1, e.2.1, e.2.2] := by unfold edgesT; rw [List.foldl_append]; rfl
theorem snoc_ind {α : Type} {P : List α → Prop} (h0 : P []) (h1 : ∀ l a, P l → P (l ++ [a])) (l : List α) : P l := by
  have h : ∀ r : List α, P r.reverse := fun r => by
    induction r with
    | nil => exact h0
    | cons a r ih => rw [List.reverse_cons]; exact h1 _ _ ih
  have := h l.reverse
  rwa [List.reverse_reverse] at this
theorem printOf_size (n k : Int) : (printOf n k).size ≤ 76 := by
  unfold printOf
  split
  · have h1 := encD_size k (digs 19 n.toNat)
    have h2 := digs_length 19 n.toNat
    omega
  · decide
theorem numsT_size (l : List Int) : (numsT l).size ≤ 80 * l.length := by
  refine snoc_ind (P := fun l => (numsT l).size ≤ 80 * l.length) (by decide) ?_ l
  · intro l n ih
    rw [numsT_snoc, ByteArray.size_append, ByteArray.size_append, List.length_append]
    have := printOf_size n 0
    have h1 : wSp.size = 1 := rfl
    simp only [List.length_cons, List.length_nil]
    omega
theorem lineT_size (word : ByteArray) (l : List Int) : (lineT word l).size ≤ word.size + 80 * l.length + 1 := by
  unfold lineT
  rw [ByteArray.size_append, ByteArray.size_append]
  have := numsT_size l
  have h1 : wNl.size = 1 := rfl
  omega
theorem edgesT_size (t : ByteArray) (l : List Edg) : (edgesT t l).size ≤ t.size + 250 * l.length := by
  refine snoc_ind (P := fun l => (edgesT t l).size ≤ t.size + 250 * l.length) (by simp [edgesT]) ?_ l
  · intro l e ih
    rw [edgesT_snoc, ByteArray.size_append, List.length_append]
    have h1 := lineT_size wEdge [e.1, e.2.1, e.2.2]
    have h2 : wEdge.size = 4 := rfl
    simp only [List.length_cons, List.length_nil] at h1 ⊢
    omega
theorem builder_alloc {T e : TypeId} {B b : Nat} {p : Value} {bs : List Value} {w : World} (h : Lib.BuilderAt T e B b p bs w) (o : Obj) : Lib.BuilderAt T e B b p bs (w.alloc o) := by
  have hlt := h.lt
  obtain ⟨hB, v, hb, hown, hne⟩ := h
  exact ⟨hB, v, (Lib.alloc_old w o b hlt).trans hb, hown.alloc o, hne⟩
theorem builder_drewN {T e : TypeId} {B b : Nat} {p : Value} {bs : List Value} {w : World} (h : Lib.BuilderAt T e B b p bs w) (q : Nat) : Lib.BuilderAt T e B b p bs (w.drewN q) := h
theorem kept_drewN {e : TypeId} {b : Option Nat} {a w : World} (h : Lib.OthersKept e b a w) (q : Nat) : Lib.OthersKept e b a (w.drewN q) := h
/-- the state of the closure's loop -/
structure CSt (w wr : World) (B b g : Nat) (bs : List Value) (t : ByteArray) (ns : List Int) : Prop where
  below : Below B w wr
  kept : Lib.OthersKept 5 (some b) w wr
  bld : Lib.BuilderAt 65 5 B b (.pointer (some ⟨b, 0, none⟩)) (bs ++ Lib.strCells t) wr
  row : Blk wr g 2 (ns.map (Value.int .i64)).toArray
theorem CSt.write {w wr w' : World} {B b g : Nat} {bs : List Value} {t s : ByteArray} {ns : List Int} (h : CSt w wr B b g bs t ns) (hg : g ≠ b)
    (h1 : Lib.BuilderAt 65 5 B b (.pointer (some ⟨b, 0, none⟩)) ((bs ++ Lib.strCells t) ++ Lib.strCells s) w') (h2 : Below B wr w') (h3 : Lib.OthersKept 5 (some b) wr w') : CSt w w' B b g bs (t ++ s) ns :=
  ⟨h.below.trans h2, h.kept.trans h3, by rw [strCells_append, ← List.append_assoc]; exact h1, h.row.kept h3 hg (by decide)⟩
theorem CSt.drewN {w wr : World} {B b g : Nat} {bs : List Value} {t : ByteArray} {ns : List Int} (h : CSt w wr B b g bs t ns) (q : Nat) : CSt w (wr.drewN q) B b g bs t ns :=
  ⟨below_drewN h.below q, h.kept, h.bld, h.row⟩
set_option maxRecDepth 100000 in
set_option maxHeartbeats 4000000 in
theorem clo_any (B b g : Nat) (bs : List Value) (word : ByteArray) (ns : List Int) (w : World) (h : Lib.IsBuilder 65 5 B b bs w) (hlen : bs.length + word.size + 80 * ns.length + 100 ≤ 140737488355328) (hB0 : 0 < B) (hBw : B ≤ w.heap.size) (hF : Firsts w) (hg : Blk w g 2 (ns.map (Value.int .i64)).toArray) (hgb : g ≠ b) (hr : ∀ n ∈ ns, -9223372036854775808 ≤ n ∧ n ≤ 9223372036854775807) (hl : ns.length ≤ 1000000) :
    Calls Tryd.prog 42 #[.string word, .slice (some ⟨g, 0, none⟩) ns.length ns.length, .pointer (some ⟨b, 0, none⟩)] w fun e w' => e = .returned (.tuple #[]) ∧ CSt w w' B b g bs (lineT word ns) ns := by
  have hc := writeString_any B b bs word w h (by omega) hBw
  have HC := Lib.hid hc; have HG := Lib.hid hg; have HF := Lib.hid hF; have HR := Lib.hid hr
  clear h hc hg hF hr
  go_enter Tryd.func42, Tryd.ntmps42
  go_wp2_with fail
  refine HC.out.mono ?_
  clear HC
  rintro e w1 ⟨rfl, h1, h2, h3⟩
  have HST : Hid (CSt w w1 B b g bs word ns) := Lib.hid ⟨h2, h3, h1, HG.out.kept h3 hgb (by decide)⟩
  clear h1 h2 h3
  go_wp2
  go_loopg [11] ns.length (fun gf vi wr => ∃ i : Nat, vi = .int .i64 i ∧ i + gf = ns.length ∧ CSt w wr B b g bs (word ++ numsT (ns.take i)) ns)
  case atStart => exact ⟨0, rfl, by omega, by
    have : word ++ numsT (ns.take 0) = word := by simp only [numsT, List.take_zero, List.foldl_nil]; exact ByteArray.append_empty
    rw [this]; exact HST.out⟩
  case round =>
    clear HST
    obtain ⟨i, rfl, hi, hst⟩ := hrel
    have HST := Lib.hid hst
    have hbl : (bs ++ Lib.strCells (word ++ numsT (ns.take i))).length ≤ bs.length + word.size + 80 * i := by
      rw [List.length_append, Lib.strCells_length, ByteArray.size_append]
      have := numsT_size (ns.take i)
      rw [List.length_take, Nat.min_eq_left (by omega)] at this
      omega
    cases gk with
    | zero =>
      obtain rfl : i = ns.length := by omega
      rw [List.take_length] at hbl
      have hc := writeString_any B b _ wNl _ (.inr hst.bld) (by rw [List.take_length]; have h1 : wNl.size = 1 := rfl; omega) (Nat.le_trans hBw hst.below.size)
      have HC := Lib.hid hc
      clear hst hc
      unfold wNl at HC
      go_wp2_with fail
      refine HC.out.mono ?_
      rintro e w2 ⟨rfl, h1, h2, h3⟩
      have hw := HST.out.write hgb (s := wNl) h1 h2 h3
      rw [List.take_length] at hw
      have HW := Lib.hid hw
      clear hw h1 h2 h3 HC
      go_wp2
      go_end0
      exact ⟨rfl, HW.out⟩
    | succ gf =>
      have hiI : (i : Int) < (ns.length : Int) := by omega
      obtain ⟨n, hn⟩ : ∃ n, ns[i]? = some n := ⟨_, List.getElem?_eq_getElem (by omega)⟩
      have hx : wr.cell? ⟨g, i, none⟩ = some (.int .i64 n) := by
        have := hst.row.cell i
        simpa [hn] using this
      have hnr := HR.out n (List.mem_of_getElem? hn)
      have hF2 : Firsts wr := firsts_below HF.out hst.below hB0
      have hp := print_any n 0 wr hnr.1 hnr.2 hF2
      have hpz := printOf_size n 0
      have hsn : numsT (ns.take (i + 1)) = numsT (ns.take i) ++ (wSp ++ printOf n 0) := by rw [take_snoc_ hn, numsT_snoc]
      obtain ⟨P, hP⟩ : ∃ P, printOf n 0 = P := ⟨_, rfl⟩
      rw [hP] at hp hpz hsn
      have HP := Lib.hid hp; have HSN := Lib.hid hsn
      clear hp hsn hP hF2 hst
      go_wp2_with fail
      refine HP.out.mono ?_
      clear HP
      rintro e w2 ⟨rfl, q, rfl⟩
      have hst2 := HST.out.drewN q
      have hc := writeString_any B b _ (wSp ++ P) _ (.inr hst2.bld) (by rw [ByteArray.size_append]; have h1 : wSp.size = 1 := rfl; omega) (Nat.le_trans hBw hst2.below.size)
      have HC := Lib.hid hc; have HST2 := Lib.hid hst2
      clear hst2 hc
      unfold wSp at HC
      go_wp2_with fail
      refine HC.out.mono ?_
      clear HC
      rintro e w3 ⟨rfl, h1, h2, h3⟩
      have hw := HST2.out.write hgb (s := wSp ++ P) h1 h2 h3
      rw [ByteArray.append_assoc, ← HSN.out] at hw
      have HW := Lib.hid hw
      clear hw h1 h2 h3
      go_wp2
      go_roundg gf
      case measure => omega
      case rel => exact ⟨i + 1, by go_num, by omega, HW.out⟩
end Go.Proofs.YtknigkjbnaoldaaDoor
namespace Go.Proofs.YtknigkjbnaoldaaDoor
open Go.RowKit

/-- what is printed: a text, and an error -/
def printE (g : Gr) : ByteArray := if checkL g = 0 then printG g else ⟨#[]⟩
def PrintP (w : World) (g : Gr) (e : Ending) (w' : World) : Prop := e = .returned (.tuple #[.string (printE g), .int .i64 (checkL g)]) ∧ Below w.heap.size w w'
theorem printP_err {w w' : World} {g : Gr} {e : Ending} {k : Int} (h : checkL g = k) (hk : k ≠ 0) (he : e = .returned (.tuple #[.string ⟨#[]⟩, .int .i64 k])) (hb : Below w.heap.size w w') : PrintP w g e w' := by
  refine ⟨?_, hb⟩
  unfold printE
  rw [if_neg (by rw [h]; exact hk), h]
  exact he
theorem printP_ok {w w' : World} {g : Gr} {e : Ending} (h : checkL g = 0) (he : e = .returned (.tuple #[.string (printG g), .int .i64 0])) (hb : Below w.heap.size w w') : PrintP w g e w' := by
  refine ⟨?_, hb⟩
  unfold printE
  rw [if_pos h, h]
  exact he
/-- a line of the closure's: one number -/
theorem clo_one (B b g : Nat) (bs : List Value) (word : ByteArray) (n : Int) (w : World) (h : Lib.IsBuilder 65 5 B b bs w) (hlen : bs.length + word.size + 1000 ≤ 140737488355328) (hB0 : 0 < B) (hBw : B ≤ w.heap.size) (hF : Firsts w) (hg : Blk w g 2 #[.int .i64 n]) (hgb : g ≠ b) (hr : -9223372036854775808 ≤ n ∧ n ≤ 9223372036854775807) :
    Calls Tryd.prog 42 #[.string word, .slice (some ⟨g, 0, none⟩) 1 1, .pointer (some ⟨b, 0, none⟩)] w fun e w' => e = .returned (.tuple #[]) ∧ CSt w w' B b g bs (lineT word [n]) [n] :=
  clo_any B b g bs word [n] w h (by simp; omega) hB0 hBw hF hg hgb (by simpa using hr) (by simp)
theorem clo_three (B b g : Nat) (bs : List Value) (word : ByteArray) (n m k : Int) (w : World) (h : Lib.IsBuilder 65 5 B b bs w) (hlen : bs.length + word.size + 1000 ≤ 140737488355328) (hB0 : 0 < B) (hBw : B ≤ w.heap.size) (hF : Firsts w) (hg : Blk w g 2 #[.int .i64 n, .int .i64 m, .int .i64 k]) (hgb : g ≠ b) (hr : (-9223372036854775808 ≤ n ∧ n ≤ 9223372036854775807) ∧ (-9223372036854775808 ≤ m ∧ m ≤ 9223372036854775807) ∧ (-9223372036854775808 ≤ k ∧ k ≤ 9223372036854775807)) :
    Calls Tryd.prog 42 #[.string word, .slice (some ⟨g, 0, none⟩) 3 3, .pointer (some ⟨b, 0, none⟩)] w fun e w' => e = .returned (.tuple #[]) ∧ CSt w w' B b g bs (lineT word [n, m, k]) [n, m, k] :=
  clo_any B b g bs word [n, m, k] w h (by simp; omega) hB0 hBw hF hg hgb (by
    intro x hx
    simp only [List.mem_cons, List.not_mem_nil, or_false] at hx
    rcases hx with rfl | rfl | rfl
    · exact hr.1
    · exact hr.2.1
    · exact hr.2.2) (by simp)
theorem builder_new (B : Nat) (w : World) (hB : B ≤ w.heap.size) : Lib.BuilderAt 65 5 B w.heap.size (.pointer none) [] (w.alloc (.cells #[.pointer none, .slice none 0 0] 65)) :=
  ⟨hB, .slice none 0 0, Blk.new w _ _, World.ownsRow_nil _ _ _ _, by simp [Value.ownBlock]⟩
/-- the state of Print's loop -/
structure PrSt (w wr : World) (b : Nat) (t : ByteArray) : Prop where
  below : Below w.heap.size w wr
  bld : Lib.BuilderAt 65 5 w.heap.size b (.pointer (some ⟨b, 0, none⟩)) (Lib.strCells t) wr
theorem edge_range {g : Gr} (h : checkL g = 0) {e : Edg} (he : e ∈ g.2) : (-9223372036854775808 ≤ e.1 ∧ e.1 ≤ 9223372036854775807) ∧ (-9223372036854775808 ≤ e.2.1 ∧ e.2.1 ≤ 9223372036854775807) ∧ (-9223372036854775808 ≤ e.2.2 ∧ e.2.2 ≤ 9223372036854775807) := by
  obtain ⟨h1, h2, _, h4, _⟩ := check_ok h
  have := h4 e he
  unfold fitsE at this
  have := of_decide_eq_true this
  omega
set_option maxRecDepth 100000 in
set_option maxHeartbeats 4000000 in
theorem pPrint_any (w : World) (n : Int) (A : Option Addr) (c : Nat) (l : List Edg) (h : Rs edgC 3 w A l) (hF : Firsts w) :
    Calls Tryd.prog 21 #[.agg #[.int .i64 n, .slice A l.length c]] w (PrintP w (n, l)) := by
  have hB := (Below.refl w.heap.size w).alloc (Nat.le_refl _) (.cells #[.int .i64 n, .slice A l.length c] 25)
  have hK := Blk.new w 25 #[.int .i64 n, .slice A l.length c]
  have hc := check_any _ n A c l (h.alloc (.cells #[.int .i64 n, .slice A l.length c] 25))
  by_cases hk : checkL (n, l) = 0
  · have hlim := check_ok hk
    have hrange := fun e he => edge_range hk (e := e) he
    have hout := fun (w' : World) (e : Ending) => printP_ok (w := w) (w' := w') (g := (n, l)) (e := e) hk
    rw [hk] at hc
    have h0 := firsts_lt hF
    have HR := Lib.hid h; have HB := Lib.hid hB; have HK := Lib.hid hK; have HC := Lib.hid hc; have HF := Lib.hid hF; have HL := Lib.hid hlim; have HRG := Lib.hid hrange; have HO := Lib.hid hout
    clear h hB hK hc hF hlim hrange hout hk
    go_enter Tryd.func21, Tryd.ntmps21
    go_wp2_with fail
    refine HC.out.mono ?_
    clear HC
    rintro e w1 ⟨rfl, hb1⟩
    have hB1 := HB.out.trans (hb1.mono HB.out.size)
    have hK1 := HK.out.below hb1 HK.out.lt
    have hs1 : w.heap.size + 1 ≤ w1.heap.size := by have := hb1.size; simpa using this
    have hs2 : w.heap.size < w1.heap.size := by omega
    have g0 := hK1.cell 0; have g1 := hK1.cell 1
    simp only [List.getElem?_toArray, List.getElem?_cons_zero, List.getElem?_cons_succ] at g0 g1
    -- the builder, and the first row
    have hbld := builder_new w.heap.size w1 hB1.size
    have hB2 := (hB1.alloc hB1.size (.cells #[.pointer none, .slice none 0 0] 65)).alloc (by have := hB1.size; simp; omega) (.cells #[.int .i64 n] 2)
    have hrow := Blk.new (w1.alloc (.cells #[.pointer none, .slice none 0 0] 65)) 2 #[.int .i64 n]
    rw [show (w1.alloc (.cells #[.pointer none, .slice none 0 0] 65)).heap.size = w1.heap.size + 1 by simp] at hrow
    have hK2 := (hK1.alloc (.cells #[.pointer none, .slice none 0 0] 65)).alloc (.cells #[.int .i64 n] 2)
    have hclo := clo_one w.heap.size w1.heap.size (w1.heap.size + 1) [] wVertices n _ (.inl (builder_alloc hbld (.cells #[.int .i64 n] 2))) (by decide) h0 hB2.size (firsts_below HF.out hB2 h0) hrow (by omega) (by have := HL.out; omega)
    have HB2 := Lib.hid hB2; have HK2 := Lib.hid hK2; have HCLO := Lib.hid hclo
    clear hB1 hbld hB2 hrow hK2 hclo hK1 hb1 HB HK
    unfold wVertices at HCLO
    go_wp2_with fail
    refine HCLO.out.mono ?_
    clear HCLO g0 g1
    rintro e w2 ⟨rfl, hst⟩
    have hK3 := HK2.out.kept hst.kept (by omega) (by decide)
    have g1 := hK3.cell 1
    simp only [List.getElem?_toArray, List.getElem?_cons_zero, List.getElem?_cons_succ] at g1
    have HST : Hid (PrSt w w2 w1.heap.size (lineT wVertices [n])) := Lib.hid ⟨HB2.out.trans hst.below, hst.bld⟩
    clear hst hK3 HB2 HK2
    go_wp2
    go_loopg [23] l.length (fun gf vi wr => ∃ i : Nat, vi = .int .i64 i ∧ i + gf = l.length ∧ PrSt w wr w1.heap.size (edgesT (lineT wVertices [n]) (l.take i)))
    case atStart => exact ⟨0, rfl, by omega, HST.out⟩
    case round =>
      clear HST
      obtain ⟨i, rfl, hi, hst⟩ := hrel
      have HST := Lib.hid hst
      have hts := edgesT_size (lineT wVertices [n]) (l.take i)
      have htl := lineT_size wVertices [n]
      have hwv : wVertices.size = 8 := rfl
      have hwe : wEdge.size = 4 := rfl
      have hll := HL.out.2.2.1
      rw [List.length_take, Nat.min_eq_left (by omega)] at hts
      simp only [List.length_cons, List.length_nil] at htl
      cases gk with
      | zero =>
        obtain rfl : i = l.length := by omega
        rw [List.take_length] at hst
        have hsb := Tryd.Builder_String_any w.heap.size w1.heap.size (edgesT (lineT wVertices [n]) l).data.toList wr (.inr hst.bld) hst.below.size
        have HSB := Lib.hid hsb; have HBB := Lib.hid hst.below
        clear hst hsb hts htl HST
        go_wp2_with fail
        refine HSB.out.mono ?_
        rintro e w3 ⟨rfl, hb3⟩
        have HB3 := Lib.hid (HBB.out.trans hb3)
        clear hb3
        go_wp2
        go_ret2
        exact HO.out _ _ (by simp [printG]) HB3.out
      | succ gf =>
        have hiI : (i : Int) < (l.length : Int) := by omega
        obtain ⟨b, oo, x, rfl, hb, hx, x1, x2, x3⟩ := edg_at (HR.out.below hst.below) (i := i) (by omega)
        have hrg := HRG.out x (List.mem_of_getElem? hx)
        have hsn := edgesT_snoc (lineT wVertices [n]) (l.take i) x
        rw [← take_snoc_ hx] at hsn
        have hB2 := (hst.below.alloc hst.below.size (.cells #[.int .i64 x.1, .int .i64 x.2.1, .int .i64 x.2.2] 35)).alloc (by have := hst.below.size; simp; omega) (.cells #[.int .i64 x.1, .int .i64 x.2.1, .int .i64 x.2.2] 2)
        have hrow := Blk.new (wr.alloc (.cells #[.int .i64 x.1, .int .i64 x.2.1, .int .i64 x.2.2] 35)) 2 #[.int .i64 x.1, .int .i64 x.2.1, .int .i64 x.2.2]
        rw [show (wr.alloc (.cells #[.int .i64 x.1, .int .i64 x.2.1, .int .i64 x.2.2] 35)).heap.size = wr.heap.size + 1 by simp] at hrow
        have hlt := hst.bld.lt
        have hclo := clo_three w.heap.size w1.heap.size (wr.heap.size + 1) _ wEdge x.1 x.2.1 x.2.2 _ (.inr (builder_alloc (builder_alloc hst.bld (.cells #[.int .i64 x.1, .int .i64 x.2.1, .int .i64 x.2.2] 35)) (.cells #[.int .i64 x.1, .int .i64 x.2.1, .int .i64 x.2.2] 2))) (by rw [Lib.strCells_length]; omega) h0 hB2.size (firsts_below HF.out hB2 h0) hrow (by omega) hrg
        have HB2 := Lib.hid hB2; have HCLO := Lib.hid hclo; have HSN := Lib.hid hsn
        have hi2 : i < 8192 := by have : l.length ≤ 8192 := hll; omega
        clear hst hB2 hrow hclo hsn hrg hlt hts htl hwv hwe hll hx
        unfold wEdge at HCLO
        go_wp2_with fail
        refine HCLO.out.mono ?_
        clear HCLO
        rintro e w3 ⟨rfl, hst3⟩
        have HW : Hid (PrSt w w3 w1.heap.size (edgesT (lineT wVertices [n]) (l.take (i + 1)))) := Lib.hid ⟨HB2.out.trans hst3.below, by rw [HSN.out, strCells_append]; exact hst3.bld⟩
        clear hst3
        go_wp2
        go_roundg gf
        case measure => omega
        case rel => exact ⟨i + 1, by go_num, by omega, HW.out⟩
  · have hne : (checkL (n, l) != 0) = true := by simp [hk]
    have hout := fun (w' : World) (e : Ending) => printP_err (w := w) (w' := w') (g := (n, l)) (e := e) rfl hk
    obtain ⟨K, hK⟩ : ∃ K, checkL (n, l) = K := ⟨_, rfl⟩
    rw [hK] at hc hne hout
    have HB := Lib.hid hB; have HC := Lib.hid hc; have HO := Lib.hid hout
    clear h hB hc hF hK hout hk
    go_enter Tryd.func21, Tryd.ntmps21
    go_wp2_with fail
    refine HC.out.mono ?_
    clear HC
    rintro e w1 ⟨rfl, hb1⟩
    have HB1 := Lib.hid (HB.out.trans (hb1.mono HB.out.size))
    clear hb1
    go_wp2
    go_ret2
    exact HO.out _ _ rfl HB1.out
end Go.Proofs.YtknigkjbnaoldaaDoor
namespace Go.Proofs.YtknigkjbnaoldaaDoor
open Go.RowKit

theorem text_v (n : Int) : ((⟨#[118, 101, 114, 116, 105, 99, 101, 115, 32]⟩ : ByteArray) ++ printOf n 0) ++ ⟨#[10]⟩ = lineT wVertices [n] := by
  unfold lineT numsT wSp wNl wVertices
  apply ByteArray.ext
  simp [ByteArray.data_append]
theorem text_e (T : ByteArray) (e : Edg) : ((((((T ++ ⟨#[101, 100, 103, 101, 32]⟩) ++ printOf e.1 0) ++ ⟨#[32]⟩) ++ printOf e.2.1 0) ++ ⟨#[32]⟩) ++ printOf e.2.2 0) ++ ⟨#[10]⟩ = T ++ lineT wEdge [e.1, e.2.1, e.2.2] := by
  unfold lineT numsT wSp wNl wEdge
  apply ByteArray.ext
  simp [ByteArray.data_append]
set_option maxRecDepth 100000 in
set_option maxHeartbeats 8000000 in
theorem rPrint_any (w : World) (n : Int) (A : Option Addr) (c : Nat) (l : List Edg) (h : Rs edgC 3 w A l) :
    Calls Tryd.prog 22 #[.agg #[.int .i64 n, .slice A l.length c]] w (PrintP w (n, l)) := by
  have hS := GBox.start w n A c l
  have hc := refCheck_any _ n A c l (h.alloc (.cells #[.int .i64 n, .slice A l.length c] 25))
  by_cases hk : checkL (n, l) = 0
  · have hlim := check_ok hk
    have hrange := fun e he => edge_range hk (e := e) he
    have hout := fun (w' : World) (e : Ending) => printP_ok (w := w) (w' := w') (g := (n, l)) (e := e) hk
    rw [hk] at hc
    have HR := Lib.hid h; have HC := Lib.hid hc; have HL := Lib.hid hlim; have HRG := Lib.hid hrange; have HO := Lib.hid hout; have HS := Lib.hid hS
    clear h hS hc hlim hrange hout hk
    go_enter Tryd.func22, Tryd.ntmps22
    go_wp2_with fail
    refine HC.out.mono ?_
    clear HC
    rintro e w1 ⟨rfl, hb1⟩
    have hS1 := HS.out.step hb1
    have g0 := hS1.cells.1; have g1 := hS1.cells.2
    have hp := printR_any n 0 w1 (by have := HL.out; omega) (by have := HL.out; omega)
    have htv := text_v n
    have hpz := printOf_size n 0
    generalize printOf n 0 = P at hp htv hpz
    have HS1 := Lib.hid hS1; have HP := Lib.hid hp; have HTV := Lib.hid htv
    clear hS1 hb1 hp htv HS
    go_wp2_with fail
    refine HP.out.mono ?_
    clear HP g0 g1
    rintro e w2 ⟨rfl, hb2⟩
    have HS2 := Lib.hid (HS1.out.step hb2)
    clear hb2 HS1
    go_wp2
    go_loopg [5, 6] l.length (fun gf vs vi wr => ∃ i : Nat, vi = .int .i64 i ∧ vs = .string (edgesT (lineT wVertices [n]) (l.take i)) ∧ i + gf = l.length ∧ GBox w wr n A c l)
    case atStart => exact ⟨0, rfl, by rw [HTV.out]; rfl, by omega, HS2.out⟩
    case round =>
      clear HS2 HTV
      obtain ⟨i, rfl, rfl, hi, hst⟩ := hrel
      have g1 := hst.cells.2
      have hlt := hst.lt
      have hts := edgesT_size (lineT wVertices [n]) (l.take i)
      have htl := lineT_size wVertices [n]
      have hwv : wVertices.size = 8 := rfl
      have hll := HL.out.2.2.1
      rw [List.length_take, Nat.min_eq_left (by omega)] at hts
      simp only [List.length_cons, List.length_nil] at htl
      cases gk with
      | zero =>
        obtain rfl : i = l.length := by omega
        have HBB := Lib.hid hst.below
        rw [List.take_length]
        clear hst hts htl
        go_wp2
        go_ret2
        exact HO.out _ _ rfl HBB.out
      | succ gf =>
        have hiI : (i : Int) < (l.length : Int) := by omega
        have hi2 : i < 8192 := by have : l.length ≤ 8192 := hll; omega
        obtain ⟨b, oo, x, rfl, hb, hx, x1, x2, x3⟩ := edg_at (HR.out.below hst.below) (i := i) (by omega)
        have hrg := HRG.out x (List.mem_of_getElem? hx)
        have hsn := edgesT_snoc (lineT wVertices [n]) (l.take i) x
        rw [← take_snoc_ hx, ← text_e] at hsn
        have hTz : (edgesT (lineT wVertices [n]) (l.take i)).size ≤ 3000000 := by
          have : l.length ≤ 8192 := hll
          omega
        have hSA := hst.alloc (.cells #[.int .i64 x.1, .int .i64 x.2.1, .int .i64 x.2.2] 35)
        have hkA := Blk.new wr 35 #[.int .i64 x.1, .int .i64 x.2.1, .int .i64 x.2.2]
        have hss : ∀ w', Below (wr.alloc (.cells #[.int .i64 x.1, .int .i64 x.2.1, .int .i64 x.2.2] 35)).heap.size (wr.alloc (.cells #[.int .i64 x.1, .int .i64 x.2.1, .int .i64 x.2.2] 35)) w' → w'.cell? ⟨wr.heap.size, 0, none⟩ = some (.int .i64 x.1) ∧ w'.cell? ⟨wr.heap.size, 1, none⟩ = some (.int .i64 x.2.1) ∧ w'.cell? ⟨wr.heap.size, 2, none⟩ = some (.int .i64 x.2.2) ∧ Below (wr.alloc (.cells #[.int .i64 x.1, .int .i64 x.2.1, .int .i64 x.2.2] 35)).heap.size (wr.alloc (.cells #[.int .i64 x.1, .int .i64 x.2.1, .int .i64 x.2.2] 35)) w' := fun w' hb' => ⟨(hkA.below hb' hkA.lt).cell 0, (hkA.below hb' hkA.lt).cell 1, (hkA.below hb' hkA.lt).cell 2, hb'⟩
        have hp1 := fun W => printR_any x.1 0 W hrg.1.1 hrg.1.2
        have hp2 := fun W => printR_any x.2.1 0 W hrg.2.1.1 hrg.2.1.2
        have hp3 := fun W => printR_any x.2.2 0 W hrg.2.2.1 hrg.2.2.2
        have hz1 := printOf_size x.1 0; have hz2 := printOf_size x.2.1 0; have hz3 := printOf_size x.2.2 0
        obtain ⟨T, hT⟩ : ∃ T, edgesT (lineT wVertices [n]) (l.take i) = T := ⟨_, rfl⟩
        obtain ⟨P1, hP1⟩ : ∃ T, printOf x.1 0 = T := ⟨_, rfl⟩
        obtain ⟨P2, hP2⟩ : ∃ T, printOf x.2.1 0 = T := ⟨_, rfl⟩
        obtain ⟨P3, hP3⟩ : ∃ T, printOf x.2.2 0 = T := ⟨_, rfl⟩
        rw [hT] at hTz hsn ⊢
        rw [hP1] at hp1 hz1 hsn
        rw [hP2] at hp2 hz2 hsn
        rw [hP3] at hp3 hz3 hsn
        have HSA := Lib.hid hSA; have HSS := Lib.hid hss; have H1 := Lib.hid hp1; have H2 := Lib.hid hp2; have H3 := Lib.hid hp3; have HSN := Lib.hid hsn
        clear hst hSA hss hkA hp1 hp2 hp3 hsn hT hP1 hP2 hP3 hrg hts htl hwv hll hx
        go_wp2_with fail
        refine wp_region_noPanic ?_
        refine wp_region_held_drew (S := (fun w' => w'.cell? ⟨wr.heap.size, 0, none⟩ = some (.int .i64 x.1) ∧ w'.cell? ⟨wr.heap.size, 1, none⟩ = some (.int .i64 x.2.1) ∧ w'.cell? ⟨wr.heap.size, 2, none⟩ = some (.int .i64 x.2.2) ∧ Below (wr.alloc (.cells #[.int .i64 x.1, .int .i64 x.2.1, .int .i64 x.2.2] 35)).heap.size (wr.alloc (.cells #[.int .i64 x.1, .int .i64 x.2.1, .int .i64 x.2.2] 35)) w')) (by kernel_rfl) ?_ (fun hHeld => ?_)
        · exact HSS.out _ (below_drewN (Below.refl _ _) 1)
        refine wpAnyH_take (i := 0) (v := ?v0g1_) rfl (by kernel_rfl) (by kernel_rfl) (by kernel_rfl) (fun _ _ _ h => h) (Or.inl ⟨by rfl, ?y0g1_⟩) (by assumption) ?r0g1_
        case y0g1_ => (intro w hSw; (try dsimp only at hSw); go_simp; try with_reducible rfl)
        change wpAnyH _ _ _ _ _ _ _ (Act.put _ (some 30) _) _; simp only [Act.put, List.setIfInBounds_toArray, List.set_cons_zero, List.set_cons_succ]
        refine wpAnyH_take (i := 1) (v := ?v1g1_) rfl (by kernel_rfl) (by kernel_rfl) (by kernel_rfl) (fun _ _ _ h => h) (Or.inl ⟨by rfl, ?y1g1_⟩) (by assumption) ?r1g1_
        case y1g1_ => (intro w hSw; (try dsimp only at hSw); go_simp; rw [if_neg (by (try simp only [ByteArray.size_append]); omega)]; try with_reducible rfl)
        change wpAnyH _ _ _ _ _ _ _ (Act.put _ (some 31) _) _; simp only [Act.put, List.setIfInBounds_toArray, List.set_cons_zero, List.set_cons_succ]
        refine wpAnyH_take (i := 2) (v := ?v2g1_) rfl (by kernel_rfl) (by kernel_rfl) (by kernel_rfl) (fun _ _ _ h => h) (Or.inl ⟨by rfl, ?y2g1_⟩) (by assumption) ?r2g1_
        case y2g1_ => (intro w hSw; (try dsimp only at hSw); go_simp; try with_reducible rfl)
        change wpAnyH _ _ _ _ _ _ _ (Act.put _ (some 32) _) _; simp only [Act.put, List.setIfInBounds_toArray, List.set_cons_zero, List.set_cons_succ]
        refine wpAnyH_take (i := 3) (v := ?v3g1_) rfl (by kernel_rfl) (by kernel_rfl) (by kernel_rfl) (fun _ _ _ h => h) (Or.inl ⟨by rfl, ?y3g1_⟩) (by assumption) ?r3g1_
        case y3g1_ => (intro w hSw; (try dsimp only at hSw); go_simp; try with_reducible rfl)
        change wpAnyH _ _ _ _ _ _ _ (Act.put _ (some 33) _) _; simp only [Act.put, List.setIfInBounds_toArray, List.set_cons_zero, List.set_cons_succ]
        refine wpAnyH_take (i := 7) (v := ?v7g1_) rfl (by kernel_rfl) (by kernel_rfl) (by kernel_rfl) (fun _ _ _ h => h) (Or.inl ⟨by rfl, ?y7g1_⟩) (by assumption) ?r7g1_
        case y7g1_ => (intro w hSw; (try dsimp only at hSw); go_simp; try with_reducible rfl)
        change wpAnyH _ _ _ _ _ _ _ (Act.put _ (some 37) _) _; simp only [Act.put, List.setIfInBounds_toArray, List.set_cons_zero, List.set_cons_succ]
        refine wpAnyH_take (i := 8) (v := ?v8g1_) rfl (by kernel_rfl) (by kernel_rfl) (by kernel_rfl) (fun _ _ _ h => h) (Or.inl ⟨by rfl, ?y8g1_⟩) (by assumption) ?r8g1_
        case y8g1_ => (intro w hSw; (try dsimp only at hSw); go_simp; try with_reducible rfl)
        change wpAnyH _ _ _ _ _ _ _ (Act.put _ (some 38) _) _; simp only [Act.put, List.setIfInBounds_toArray, List.set_cons_zero, List.set_cons_succ]
        refine wpAnyH_take (i := 12) (v := ?v12g1_) rfl (by kernel_rfl) (by kernel_rfl) (by kernel_rfl) (fun _ _ _ h => h) (Or.inl ⟨by rfl, ?y12g1_⟩) (by assumption) ?r12g1_
        case y12g1_ => (intro w hSw; (try dsimp only at hSw); go_simp; try with_reducible rfl)
        change wpAnyH _ _ _ _ _ _ _ (Act.put _ (some 42) _) _; simp only [Act.put, List.setIfInBounds_toArray, List.set_cons_zero, List.set_cons_succ]
        refine wpAnyH_take (i := 13) (v := ?v13g1_) rfl (by kernel_rfl) (by kernel_rfl) (by kernel_rfl) (fun _ _ _ h => h) (Or.inl ⟨by rfl, ?y13g1_⟩) (by assumption) ?r13g1_
        case y13g1_ => (intro w hSw; (try dsimp only at hSw); go_simp; try with_reducible rfl)
        change wpAnyH _ _ _ _ _ _ _ (Act.put _ (some 43) _) _; simp only [Act.put, List.setIfInBounds_toArray, List.set_cons_zero, List.set_cons_succ]
        refine wpAnyH_ready (rs := [4]) (by kernel_rfl) (by simp) ?_
        refine AllReadyH.cons rfl (fun K hK => ?_) AllReadyH.nil
        go_simp
        refine (H1.out _).mono ?_
        rintro e w2 ⟨rfl, hb2⟩
        have HB1 := Lib.hid (undrew hb2)
        clear hb2
        dsimp only
        refine hK.out _ _ ?_ (fun hHeld => ?_)
        · exact HSS.out _ HB1.out
        clear hK K
        try simp only [Act.put, List.setIfInBounds_toArray, List.set_cons_zero, List.set_cons_succ]
        refine wpAnyH_take (i := 5) (v := ?v5g1_) rfl (by kernel_rfl) (by kernel_rfl) (by kernel_rfl) (fun _ _ _ h => h) (Or.inl ⟨by rfl, ?y5g1_⟩) (by assumption) ?r5g1_
        case y5g1_ => (intro w hSw; (try dsimp only at hSw); go_simp; rw [if_neg (by (try simp only [ByteArray.size_append]); omega)]; try with_reducible rfl)
        change wpAnyH _ _ _ _ _ _ _ (Act.put _ (some 35) _) _; simp only [Act.put, List.setIfInBounds_toArray, List.set_cons_zero, List.set_cons_succ]
        refine wpAnyH_take (i := 6) (v := ?v6g1_) rfl (by kernel_rfl) (by kernel_rfl) (by kernel_rfl) (fun _ _ _ h => h) (Or.inl ⟨by rfl, ?y6g1_⟩) (by assumption) ?r6g1_
        case y6g1_ => (intro w hSw; (try dsimp only at hSw); go_simp; rw [if_neg (by (try simp only [ByteArray.size_append]); omega)]; try with_reducible rfl)
        change wpAnyH _ _ _ _ _ _ _ (Act.put _ (some 36) _) _; simp only [Act.put, List.setIfInBounds_toArray, List.set_cons_zero, List.set_cons_succ]
        refine wpAnyH_ready (rs := [9]) (by kernel_rfl) (by simp) ?_
        refine AllReadyH.cons rfl (fun K hK => ?_) AllReadyH.nil
        go_simp
        refine (H2.out _).mono ?_
        rintro e w3 ⟨rfl, hb3⟩
        have HB2 := Lib.hid (HB1.out.trans (hb3.mono HB1.out.size))
        clear hb3
        dsimp only
        refine hK.out _ _ ?_ (fun hHeld => ?_)
        · exact HSS.out _ HB2.out
        clear hK K
        try simp only [Act.put, List.setIfInBounds_toArray, List.set_cons_zero, List.set_cons_succ]
        refine wpAnyH_take (i := 10) (v := ?v10g1_) rfl (by kernel_rfl) (by kernel_rfl) (by kernel_rfl) (fun _ _ _ h => h) (Or.inl ⟨by rfl, ?y10g1_⟩) (by assumption) ?r10g1_
        case y10g1_ => (intro w hSw; (try dsimp only at hSw); go_simp; rw [if_neg (by (try simp only [ByteArray.size_append]); omega)]; try with_reducible rfl)
        change wpAnyH _ _ _ _ _ _ _ (Act.put _ (some 40) _) _; simp only [Act.put, List.setIfInBounds_toArray, List.set_cons_zero, List.set_cons_succ]
        refine wpAnyH_take (i := 11) (v := ?v11g1_) rfl (by kernel_rfl) (by kernel_rfl) (by kernel_rfl) (fun _ _ _ h => h) (Or.inl ⟨by rfl, ?y11g1_⟩) (by assumption) ?r11g1_
        case y11g1_ => (intro w hSw; (try dsimp only at hSw); go_simp; rw [if_neg (by (try simp only [ByteArray.size_append]); omega)]; try with_reducible rfl)
        change wpAnyH _ _ _ _ _ _ _ (Act.put _ (some 41) _) _; simp only [Act.put, List.setIfInBounds_toArray, List.set_cons_zero, List.set_cons_succ]
        refine wpAnyH_ready (rs := [14]) (by kernel_rfl) (by simp) ?_
        refine AllReadyH.cons rfl (fun K hK => ?_) AllReadyH.nil
        go_simp
        refine (H3.out _).mono ?_
        rintro e w4 ⟨rfl, hb4⟩
        have HB3 := Lib.hid (HB2.out.trans (hb4.mono HB2.out.size))
        clear hb4
        dsimp only
        refine hK.out _ _ ?_ (fun hHeld => ?_)
        · exact HSS.out _ HB3.out
        clear hK K
        try simp only [Act.put, List.setIfInBounds_toArray, List.set_cons_zero, List.set_cons_succ]
        refine wpAnyH_take (i := 15) (v := ?v15g1_) rfl (by kernel_rfl) (by kernel_rfl) (by kernel_rfl) (fun _ _ _ h => h) (Or.inl ⟨by rfl, ?y15g1_⟩) (by assumption) ?r15g1_
        case y15g1_ => (intro w hSw; (try dsimp only at hSw); go_simp; rw [if_neg (by (try simp only [ByteArray.size_append]); omega)]; try with_reducible rfl)
        change wpAnyH _ _ _ _ _ _ _ (Act.put _ (some 45) _) _; simp only [Act.put, List.setIfInBounds_toArray, List.set_cons_zero, List.set_cons_succ]
        refine wpAnyH_take (i := 16) (v := ?v16g1_) rfl (by kernel_rfl) (by kernel_rfl) (by kernel_rfl) (fun _ _ _ h => h) (Or.inl ⟨by rfl, ?y16g1_⟩) (by assumption) ?r16g1_
        case y16g1_ => (intro w hSw; (try dsimp only at hSw); go_simp; rw [if_neg (by (try simp only [ByteArray.size_append]); omega)]; try with_reducible rfl)
        change wpAnyH _ _ _ _ _ _ _ (Act.put _ (some 46) _) _; simp only [Act.put, List.setIfInBounds_toArray, List.set_cons_zero, List.set_cons_succ]
        refine wpAnyH_take (i := 17) (v := ?v17g1_) rfl (by kernel_rfl) (by kernel_rfl) (by kernel_rfl) (fun _ _ _ h => h) (Or.inl ⟨by rfl, ?y17g1_⟩) (by assumption) ?r17g1_
        case y17g1_ => (intro w hSw; (try dsimp only at hSw); go_simp; try with_reducible rfl)
        change wpAnyH _ _ _ _ _ _ _ (Act.put _ (some 5) _) _; simp only [Act.put, List.setIfInBounds_toArray, List.set_cons_zero, List.set_cons_succ]
        refine wpAnyH_done (by kernel_rfl) ?_ _
        refine NoPanic.normal ?_
        go_wp2
        go_roundg gf
        case measure => omega
        case rel => exact ⟨i + 1, by go_num, by rw [← HSN.out], by omega, HSA.out.step HB3.out⟩
  · have hne : (checkL (n, l) != 0) = true := by simp [hk]
    have hout := fun (w' : World) (e : Ending) => printP_err (w := w) (w' := w') (g := (n, l)) (e := e) rfl hk
    obtain ⟨K, hK⟩ : ∃ K, checkL (n, l) = K := ⟨_, rfl⟩
    rw [hK] at hc hne hout
    have HC := Lib.hid hc; have HO := Lib.hid hout; have HS := Lib.hid hS
    clear h hS hc hK hout hk
    go_enter Tryd.func22, Tryd.ntmps22
    go_wp2_with fail
    refine HC.out.mono ?_
    clear HC
    rintro e w1 ⟨rfl, hb1⟩
    have HB1 := Lib.hid (HS.out.step hb1).below
    clear hb1 HS
    go_wp2
    go_ret2
    exact HO.out _ _ rfl HB1.out
end Go.Proofs.YtknigkjbnaoldaaDoor
namespace Go.Proofs.YtknigkjbnaoldaaDoor
open Go.RowKit

/-- the document's graph of a text, the line that is wrong, and the error -/
def docG (s : ByteArray) : Gr × Nat × Int := textL wordsP (lineR numW) (linesP s)
theorem parse_doc (s : ByteArray) (w : World) (hs : s.size ≤ 262144) (hF : Firsts w) :
    Calls Tryd.prog 10 #[.string s] w (RParseP w (docG s)) := by
  refine (parse_any s w hs hF).mono ?_
  rintro R w' ⟨hb, A, c, l, hR, hc, ho, hso, hp⟩
  obtain ⟨h1, h2⟩ := text_rel numW wordsP (linesP s)
  have hl : l = (docG s).1.2 := rel_sorted h2 hso hp
  subst hl
  refine ⟨hb, A, c, ?_, hc, ho⟩
  rw [hR]
  have e1 : (textL wordsP (lineP numW) (linesP s)).1.1 = (docG s).1.1 := h2.n
  have e2 : (textL wordsP (lineP numW) (linesP s)).2 = (docG s).2 := h1
  rw [e1, e2]
theorem rparse_doc (s : ByteArray) (w : World) (hs : s.size ≤ 262144) :
    Calls Tryd.prog 11 #[.string s] w (RParseP w (docG s)) := rparse_any s w hs
def x1T : ByteArray := ⟨#[118, 101, 114, 116, 105, 99, 101, 115, 32, 51, 10, 98, 111, 116, 104, 32, 48, 32, 50, 32, 53, 10, 101, 100, 103, 101, 32, 49, 32, 48, 10]⟩
def x2T : ByteArray := ⟨#[118, 101, 114, 116, 105, 99, 101, 115, 32, 50, 10, 101, 100, 103, 101, 32, 48, 32, 49, 10, 101, 100, 103, 101, 32, 48, 32, 49, 32, 57]⟩
def x3T : ByteArray := ⟨#[118, 101, 114, 116, 105, 99, 101, 115, 32, 50, 10, 101, 100, 103, 101, 32, 48, 32, 50]⟩
def x5T : ByteArray := ⟨#[118, 101, 114, 116, 105, 99, 101, 115, 32, 51, 10, 101, 100, 103, 101, 32, 48, 32, 50, 32, 53, 10, 101, 100, 103, 101, 32, 49, 32, 48, 32, 49, 10, 101, 100, 103, 101, 32, 50, 32, 48, 32, 53, 10]⟩
theorem x1 : docG x1T = ((3, [(0, 2, 5), (1, 0, 1), (2, 0, 5)]), 0, 0) := by decide +kernel
theorem x2 : docG x2T = ((0, []), 3, 41) := by decide +kernel
theorem x3 : docG x3T = ((0, []), 2, 41) := by decide +kernel
theorem x4 : docG ⟨#[]⟩ = ((0, []), 1, 41) := by decide +kernel
theorem x5 : printE (3, [(0, 2, 5), (1, 0, 1), (2, 0, 5)]) = x5T := by decide +kernel
theorem x6 : checkL (3, [(0, 2, 5), (1, 0, 1), (2, 0, 5)]) = 0 := by decide +kernel
theorem x7 : outL [(0, 2, 5), (1, 0, 1), (2, 0, 5)] 0 = [(0, 2, 5)] := by decide +kernel
theorem x8 : backL [(0, 2, 5), (1, 0, 1), (2, 0, 5)] 0 = [(1, 0, 1), (2, 0, 5)] := by decide +kernel
theorem run_eql_edg (a b c a' b' c' : Int) (w : World) : (binOp .eql 35 (.agg #[.int .i64 a, .int .i64 b, .int .i64 c]) (.agg #[.int .i64 a', .int .i64 b', .int .i64 c'])).run Tryd.prog w = .ok (.bool (a == a' && b == b' && c == c')) w := by
  rw [run_eql_struct, run_equalIn_agg _ _ _ _ _ edg_struct edg_plain]
  cases h1 : a == a' <;> cases h2 : b == b' <;> cases h3 : c == c' <;> simp [go_sem, h1, h2, h3]
end Go.Proofs.YtknigkjbnaoldaaDoor
namespace Go.Proofs.YtknigkjbnaoldaaDoor
open Go.RowKit

/-- a call that reads a text: its answer written out -/
theorem parse_at (s : ByteArray) (n : Int) (l : List Edg) (k : Nat) (e0 : Int) (w : World) (hs : s.size ≤ 262144) (hF : Firsts w) (h : docG s = ((n, l), k, e0)) :
    Calls Tryd.prog 10 #[.string s] w fun R w' => ∃ A c, R = .returned (.tuple #[.agg #[.int .i64 n, .slice A l.length c], .int .i64 k, .int .i64 e0]) ∧ Rs edgC 3 w' A l ∧ Below w.heap.size w w' := by
  refine (parse_doc s w hs hF).mono ?_
  rw [h]
  rintro R w' ⟨hb, A, c, hR, _, ho⟩
  exact ⟨A, c, hR, Rs.of_own ho, hb⟩
theorem print_at' (w : World) (n : Int) (A : Option Addr) (c : Nat) (l : List Edg) (t : ByteArray) (k : Int) (h : Rs edgC 3 w A l) (hF : Firsts w) (h1 : printE (n, l) = t) (h2 : checkL (n, l) = k) :
    Calls Tryd.prog 21 #[.agg #[.int .i64 n, .slice A l.length c]] w fun R w' => R = .returned (.tuple #[.string t, .int .i64 k]) ∧ Below w.heap.size w w' := by
  refine (pPrint_any w n A c l h hF).mono ?_
  rintro R w' ⟨hR, hb⟩
  exact ⟨by rw [hR, h1, h2], hb⟩
theorem out_at (w : World) (n v : Int) (A : Option Addr) (c : Nat) (l m : List Edg) (h : Rs edgC 3 w A l) (hl : l.length ≤ 1000000000) (h1 : outL l v = m) :
    Calls Tryd.prog 14 #[.agg #[.int .i64 n, .slice A l.length c], .int .i64 v] w fun R w' => ∃ A c, R = .returned (.slice A m.length c) ∧ Rs edgC 3 w' A m ∧ Below w.heap.size w w' := by
  refine (pOut_any w n v A c l h hl).mono ?_
  rw [h1]
  rintro R w' ⟨r, rfl, ho, hb⟩
  obtain ⟨A', c', rfl, _⟩ := own_parts ho
  exact ⟨A', c', rfl, Rs.of_own ho, hb⟩
theorem back_at (w : World) (n v : Int) (A : Option Addr) (c : Nat) (l m : List Edg) (h : Rs edgC 3 w A l) (hl : l.length ≤ 1000000000) (h1 : backL l v = m) :
    Calls Tryd.prog 15 #[.agg #[.int .i64 n, .slice A l.length c], .int .i64 v] w fun R w' => ∃ A c, R = .returned (.slice A m.length c) ∧ Rs edgC 3 w' A m ∧ Below w.heap.size w w' := by
  refine (pBack_any w n v A c l h hl).mono ?_
  rw [h1]
  rintro R w' ⟨r, rfl, ho, hb⟩
  obtain ⟨A', c', rfl, _⟩ := own_parts ho
  exact ⟨A', c', rfl, Rs.of_own ho, hb⟩
/-- a call of Parse's that ends so -/
def Got (w : World) (n : Int) (l : List Edg) (m : Nat) (k e : Int) (R : Ending) (w' : World) : Prop :=
  ∃ A c, R = .returned (.tuple #[.agg #[.int .i64 n, .slice A m c], .int .i64 k, .int .i64 e]) ∧ Rs edgC 3 w' A l ∧ Below w.heap.size w w'
theorem got1 (w : World) (hF : Firsts w) : Calls Tryd.prog 10 #[.string ⟨#[118, 101, 114, 116, 105, 99, 101, 115, 32, 51, 10, 98, 111, 116, 104, 32, 48, 32, 50, 32, 53, 10, 101, 100, 103, 101, 32, 49, 32, 48, 10]⟩] w (Got w 3 [(0, 2, 5), (1, 0, 1), (2, 0, 5)] 3 0 0) := parse_at x1T 3 [(0, 2, 5), (1, 0, 1), (2, 0, 5)] 0 0 w (by decide) hF x1
theorem got2 (w : World) (hF : Firsts w) : Calls Tryd.prog 10 #[.string ⟨#[118, 101, 114, 116, 105, 99, 101, 115, 32, 50, 10, 101, 100, 103, 101, 32, 48, 32, 49, 10, 101, 100, 103, 101, 32, 48, 32, 49, 32, 57]⟩] w (Got w 0 [] 0 3 41) := parse_at x2T 0 [] 3 41 w (by decide) hF x2
theorem got3 (w : World) (hF : Firsts w) : Calls Tryd.prog 10 #[.string ⟨#[118, 101, 114, 116, 105, 99, 101, 115, 32, 50, 10, 101, 100, 103, 101, 32, 48, 32, 50]⟩] w (Got w 0 [] 0 2 41) := parse_at x3T 0 [] 2 41 w (by decide) hF x3
theorem got4 (w : World) (hF : Firsts w) : Calls Tryd.prog 10 #[.string ⟨#[]⟩] w (Got w 0 [] 0 1 41) := parse_at ⟨#[]⟩ 0 [] 1 41 w (by decide) hF x4
theorem got5 (w : World) (A : Option Addr) (c : Nat) (h : Rs edgC 3 w A [(0, 2, 5), (1, 0, 1), (2, 0, 5)]) (hF : Firsts w) :
    Calls Tryd.prog 21 #[.agg #[.int .i64 3, .slice A 3 c]] w fun R w' => R = .returned (.tuple #[.string x5T, .int .i64 0]) ∧ Below w.heap.size w w' := print_at' w 3 A c [(0, 2, 5), (1, 0, 1), (2, 0, 5)] x5T 0 h hF x5 x6
theorem got6 (w : World) (A : Option Addr) (c : Nat) (h : Rs edgC 3 w A [(0, 2, 5), (1, 0, 1), (2, 0, 5)]) :
    Calls Tryd.prog 14 #[.agg #[.int .i64 3, .slice A 3 c], .int .i64 0] w fun R w' => ∃ A c, R = .returned (.slice A 1 c) ∧ Rs edgC 3 w' A [(0, 2, 5)] ∧ Below w.heap.size w w' := out_at w 3 0 A c [(0, 2, 5), (1, 0, 1), (2, 0, 5)] [(0, 2, 5)] h (by decide) x7
theorem got7 (w : World) (A : Option Addr) (c : Nat) (h : Rs edgC 3 w A [(0, 2, 5), (1, 0, 1), (2, 0, 5)]) :
    Calls Tryd.prog 15 #[.agg #[.int .i64 3, .slice A 3 c], .int .i64 0] w fun R w' => ∃ A c, R = .returned (.slice A 2 c) ∧ Rs edgC 3 w' A [(1, 0, 1), (2, 0, 5)] ∧ Below w.heap.size w w' := back_at w 3 0 A c [(0, 2, 5), (1, 0, 1), (2, 0, 5)] [(1, 0, 1), (2, 0, 5)] h (by decide) x8
/-- the state of 'works' -/
structure WSt (w wr : World) (g : Nat) (A : Option Addr) (c : Nat) : Prop where
  below : Below w.heap.size w wr
  box : Blk wr g 25 #[.int .i64 3, .slice A 3 c]
  row : Rs edgC 3 wr A [(0, 2, 5), (1, 0, 1), (2, 0, 5)]
theorem WSt.alloc {w wr : World} {g : Nat} {A : Option Addr} {c : Nat} (h : WSt w wr g A c) (o : Obj) : WSt w (wr.alloc o) g A c := ⟨h.below.alloc h.below.size o, h.box.alloc o, h.row.alloc o⟩
theorem WSt.step {w wr w' : World} {g : Nat} {A : Option Addr} {c : Nat} (h : WSt w wr g A c) (hb : Below wr.heap.size wr w') : WSt w w' g A c := ⟨h.below.trans (hb.mono h.below.size), h.box.below hb h.box.lt, h.row.below hb⟩
theorem edg_pl : Tryd.prog.eqGuardType Tryd.prog.depth 35 = false := edg_guard
set_option maxRecDepth 100000 in
set_option maxHeartbeats 4000000 in
theorem works_any (w : World) (hF : Firsts w) : Calls Tryd.prog 9 #[] w fun e w' => e = .returned (.bool true) ∧ Below w.heap.size w w' := by
  have hz := firsts_lt hF
  have HF := Lib.hid hF
  have q1 : ∀ w, (binOp .eql 35 (.agg #[.int .i64 1, .int .i64 0, .int .i64 1]) (.agg #[.int .i64 1, .int .i64 0, .int .i64 1])).run Tryd.prog w = .ok (.bool true) w := fun w => run_eql_edg 1 0 1 1 0 1 w
  have q2 := edg_guard
  clear hF
  go_enter Tryd.func9, Tryd.ntmps9
  go_wp2_with fail
  refine (got1 w HF.out).mono ?_
  rintro e y1 ⟨A, c, rfl, hr1, hb1⟩
  have HS : Hid (WSt w (y1.alloc (.cells #[.int .i64 3, .slice A 3 c] 25)) y1.heap.size A c) := Lib.hid ⟨hb1.alloc hb1.size _, Blk.new y1 _ _, hr1.alloc _⟩
  clear hb1 hr1
  go_wp2_with fail
  refine (got2 _ (firsts_below HF.out HS.out.below hz)).mono ?_
  rintro e y2 ⟨A2, c2, rfl, -, hb2⟩
  have HS2 := Lib.hid ((HS.out.step hb2).alloc (.cells #[.int .i64 0, .slice A2 0 c2] 25))
  clear hb2 HS
  go_wp2_with fail
  refine (got3 _ (firsts_below HF.out HS2.out.below hz)).mono ?_
  rintro e y3 ⟨A3, c3, rfl, -, hb3⟩
  have HS3 := Lib.hid ((HS2.out.step hb3).alloc (.cells #[.int .i64 0, .slice A3 0 c3] 25))
  clear hb3 HS2
  go_wp2_with fail
  refine (got4 _ (firsts_below HF.out HS3.out.below hz)).mono ?_
  rintro e y4 ⟨A4, c4, rfl, -, hb4⟩
  have HS4 := Lib.hid ((HS3.out.step hb4).alloc (.cells #[.int .i64 0, .slice A4 0 c4] 25))
  clear hb4 HS3
  have g0 := HS4.out.box.cell 0; have g1 := HS4.out.box.cell 1
  simp only [List.getElem?_toArray, List.getElem?_cons_zero, List.getElem?_cons_succ] at g0 g1
  go_wp2_with fail
  refine (got5 _ A c HS4.out.row (firsts_below HF.out HS4.out.below hz)).mono ?_
  clear g0 g1
  rintro e y5 ⟨rfl, hb5⟩
  have HS5 := Lib.hid (HS4.out.step hb5)
  clear hb5 HS4
  have g0 := HS5.out.box.cell 0; have g1 := HS5.out.box.cell 1
  simp only [List.getElem?_toArray, List.getElem?_cons_zero, List.getElem?_cons_succ] at g0 g1
  obtain ⟨b, oo, x, rfl, hb, hx, z1, z2, z3⟩ := edg_at HS5.out.row (i := 1) (by decide)
  obtain rfl : x = (1, 0, 1) := by simpa using hx.symm
  unfold x5T
  dsimp only at z1 z2 z3
  clear hx
  simp only [Nat.one_mul] at z1 z2 z3
  go_wp2_with fail
  refine (got6 _ _ c HS5.out.row).mono ?_
  clear g0 g1 z1 z2 z3
  rintro e y6 ⟨A6, c6, rfl, -, hb6⟩
  have HS6 := Lib.hid (HS5.out.step hb6)
  clear hb6 HS5
  have g0 := HS6.out.box.cell 0; have g1 := HS6.out.box.cell 1
  simp only [List.getElem?_toArray, List.getElem?_cons_zero, List.getElem?_cons_succ] at g0 g1
  go_wp2_with fail
  refine (got7 _ _ c HS6.out.row).mono ?_
  clear g0 g1
  rintro e y7 ⟨A7, c7, rfl, -, hb7⟩
  have HS7 := Lib.hid (HS6.out.step hb7)
  clear hb7 HS6
  go_wp2
  go_ret
  exact ⟨rfl, HS7.out.below⟩
end Go.Proofs.YtknigkjbnaoldaaDoor
namespace Go.Proofs.YtknigkjbnaoldaaDoor
open Go.RowKit

theorem doc_few (s : ByteArray) : (docG s).1.2.length ≤ 8192 := by
  have h := (text_rel numW wordsP (linesP s)).2
  have h1 := h.perm.length_eq
  have h2 := h.few
  unfold docG
  omega
/-- a text that is read, by both: the same answer, as a list of edges -/
def Reads2 (n k e : Int) (l : List Edg) (w : World) (R : Ending) (w' : World) : Prop :=
  ∃ A c, R = .returned (.tuple #[.agg #[.int .i64 n, .slice A l.length c], .int .i64 k, .int .i64 e]) ∧ Rs edgC 3 w' A l ∧ Below w.heap.size w w'
theorem reads2 (s : ByteArray) (hs : s.size ≤ 262144) : ∃ (n k e : Int) (l : List Edg), docG s = ((n, l), k.toNat, e) ∧ 0 ≤ k ∧ l.length ≤ 8192 ∧
    (∀ w, Firsts w → Calls Tryd.prog 10 #[.string s] w (Reads2 n k e l w)) ∧
    (∀ w, Calls Tryd.prog 11 #[.string s] w (Reads2 n k e l w)) := by
  refine ⟨(docG s).1.1, (docG s).2.1, (docG s).2.2, (docG s).1.2, by simp, by omega, doc_few s, fun w hF => ?_, fun w => ?_⟩
  · refine (parse_doc s w hs hF).mono ?_
    rintro R w' ⟨hb, A, c, hR, _, ho⟩
    exact ⟨A, c, hR, Rs.of_own ho, hb⟩
  · refine (rparse_doc s w hs).mono ?_
    rintro R w' ⟨hb, A, c, hR, _, ho⟩
    exact ⟨A, c, hR, Rs.of_own ho, hb⟩
theorem same_true (w : World) (n : Int) (A B : Option Addr) (c d : Nat) (xs : List Edg) (ha : Rs edgC 3 w A xs) (hb : Rs edgC 3 w B xs) (hn : xs.length ≤ 8192) :
    Calls Tryd.prog 12 #[.agg #[.int .i64 n, .slice A xs.length c], .agg #[.int .i64 n, .slice B xs.length d]] w fun e w' => e = .returned (.bool true) ∧ Below w.heap.size w w' := by
  have := refSame_any w n n A B c d xs xs ha hb (by omega)
  rwa [decide_eq_true (show n = n ∧ xs = xs from ⟨rfl, rfl⟩)] at this
set_option maxRecDepth 100000 in
set_option maxHeartbeats 4000000 in
theorem lawParse_any (s : ByteArray) (w : World) (hF : Firsts w) :
    Calls Tryd.prog 3 #[.string s] w fun e w' => e = .returned (.bool true) ∧ Below w.heap.size w w' := by
  have hB := Below.refl w.heap.size w
  have hz := firsts_lt hF
  by_cases hl : 1500 < s.size
  · have HW := Lib.hid (works_any w hF)
    clear hF
    go_enter Tryd.func3, Tryd.ntmps3
    go_wp2_with fail
    refine HW.out.mono ?_
    rintro e x1 ⟨rfl, hb1⟩
    have HB := Lib.hid hb1
    clear hb1
    go_wp2
    go_ret
    exact ⟨rfl, HB.out⟩
  · obtain ⟨n, k, er, l, _, _, hl8, hp, hr⟩ := reads2 s (by omega)
    have HP := Lib.hid hp; have HR := Lib.hid hr; have HF := Lib.hid hF; have HB := Lib.hid hB
    clear hp hr hF hB
    go_enter Tryd.func3, Tryd.ntmps3
    go_wp2_with fail
    refine (HP.out w HF.out).mono ?_
    clear HP
    rintro e x1 ⟨A, c, rfl, hr1, hb1⟩
    have hB1 := (HB.out.trans hb1).alloc hb1.size (.cells #[.int .i64 n, .slice A l.length c] 25)
    have hk1 := Blk.new x1 25 #[.int .i64 n, .slice A l.length c]
    have HB1 := Lib.hid hB1; have HK1 := Lib.hid hk1; have HR1 := Lib.hid (hr1.alloc (.cells #[.int .i64 n, .slice A l.length c] 25))
    clear hB1 hk1 hr1 hb1 HB
    go_wp2_with fail
    refine (HR.out _).mono ?_
    clear HR
    rintro e x2 ⟨A2, c2, rfl, hr2, hb2⟩
    have hB2 := (HB1.out.trans (hb2.mono HB1.out.size)).alloc (HB1.out.trans (hb2.mono HB1.out.size)).size (.cells #[.int .i64 n, .slice A2 l.length c2] 25)
    have hk1 := (HK1.out.below hb2 HK1.out.lt).alloc (.cells #[.int .i64 n, .slice A2 l.length c2] 25)
    have hk2 := Blk.new x2 25 #[.int .i64 n, .slice A2 l.length c2]
    have hr1 := (HR1.out.below hb2).alloc (.cells #[.int .i64 n, .slice A2 l.length c2] 25)
    have hr2 := hr2.alloc (.cells #[.int .i64 n, .slice A2 l.length c2] 25)
    have g0 := hk1.cell 0; have g1 := hk1.cell 1; have y0 := hk2.cell 0; have y1 := hk2.cell 1
    simp only [List.getElem?_toArray, List.getElem?_cons_zero, List.getElem?_cons_succ] at g0 g1 y0 y1
    have hlt : x1.heap.size < x2.heap.size := by have := hb2.size; simp at this; omega
    have HS := Lib.hid (same_true _ n A A2 c c2 l hr1 hr2 hl8)
    have HB2 := Lib.hid hB2
    clear hB2 hk1 hk2 hr1 hr2 hb2 HB1 HK1 HR1
    rw [World.cell?_alloc_lt x2 _ ⟨x1.heap.size, 0, none⟩ hlt] at g0
    rw [World.cell?_alloc_lt x2 _ ⟨x1.heap.size, 1, none⟩ hlt] at g1
    go_wp2_with fail
    refine HS.out.mono ?_
    clear HS g0 g1 y0 y1
    rintro e x3 ⟨rfl, hb3⟩
    have HB3 := Lib.hid (HB2.out.trans (hb3.mono HB2.out.size))
    clear hb3 HB2
    go_wp2_with fail
    refine (works_any x3 (firsts_below HF.out HB3.out hz)).mono ?_
    rintro e x4 ⟨rfl, hb4⟩
    have HB4 := Lib.hid (HB3.out.trans (hb4.mono HB3.out.size))
    clear hb4
    go_wp2
    go_ret
    exact ⟨rfl, HB4.out⟩
end Go.Proofs.YtknigkjbnaoldaaDoor
