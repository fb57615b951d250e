/- The program's Print: what it writes, its closure. -/
import Derived.Test.YtknigkjbnaoldaaDoorBuild
import Derived.Test.YtknigkjbnaoldaaDoorGrE
import Derived.Test.YtknigkjbnaoldaaDoorWordsC
namespace Go.Proofs.YtknigkjbnaoldaaDoor
open Go.RowKit

def wSp : ByteArray := ⟨#[32]⟩
def wNl : ByteArray := ⟨#[10]⟩
def numsT (l : List Int) : ByteArray := l.foldl (fun t n => t ++ (wSp ++ printOf n 0)) ⟨#[]⟩
def lineT (word : ByteArray) (l : List Int) : ByteArray := word ++ numsT l ++ wNl
def edgesT (t : ByteArray) (l : List Edg) : ByteArray := l.foldl (fun t e => t ++ lineT wEdge [e.1, e.2.1, e.2.2]) t
/-- a graph's text -/
def printG (g : Gr) : ByteArray := edgesT (lineT wVertices [g.1]) g.2
theorem numsT_snoc (l : List Int) (n : Int) : numsT (l ++ [n]) = numsT l ++ (wSp ++ printOf n 0) := by unfold numsT; rw [List.foldl_append]; rfl
theorem edgesT_snoc (t : ByteArray) (l : List Edg) (e : Edg) : edgesT t (l ++ [e]) = edgesT t l ++ lineT wEdge [e.1, e.2.1, e.2.2] := by unfold edgesT; rw [List.foldl_append]; rfl
theorem snoc_ind {α : Type} {P : List α → Prop} (h0 : P []) (h1 : ∀ l a, P l → P (l ++ [a])) (l : List α) : P l := by
  have h : ∀ r : List α, P r.reverse := fun r => by
    induction r with
    | nil => exact h0
    | cons a r ih => rw [List.reverse_cons]; exact h1 _ _ ih
  have := h l.reverse
  rwa [List.reverse_reverse] at this
theorem printOf_size (n k : Int) : (printOf n k).size ≤ 76 := by
  unfold printOf
  split
  · have h1 := encD_size k (digs 19 n.toNat)
    have h2 := digs_length 19 n.toNat
    omega
  · decide
theorem numsT_size (l : List Int) : (numsT l).size ≤ 80 * l.length := by
  refine snoc_ind (P := fun l => (numsT l).size ≤ 80 * l.length) (by decide) ?_ l
  · intro l n ih
    rw [numsT_snoc, ByteArray.size_append, ByteArray.size_append, List.length_append]
    have := printOf_size n 0
    have h1 : wSp.size = 1 := rfl
    simp only [List.length_cons, List.length_nil]
    omega
theorem lineT_size (word : ByteArray) (l : List Int) : (lineT word l).size ≤ word.size + 80 * l.length + 1 := by
  unfold lineT
  rw [ByteArray.size_append, ByteArray.size_append]
  have := numsT_size l
  have h1 : wNl.size = 1 := rfl
  omega
theorem edgesT_size (t : ByteArray) (l : List Edg) : (edgesT t l).size ≤ t.size + 250 * l.length := by
  refine snoc_ind (P := fun l => (edgesT t l).size ≤ t.size + 250 * l.length) (by simp [edgesT]) ?_ l
  · intro l e ih
    rw [edgesT_snoc, ByteArray.size_append, List.length_append]
    have h1 := lineT_size wEdge [e.1, e.2.1, e.2.2]
    have h2 : wEdge.size = 4 := rfl
    simp only [List.length_cons, List.length_nil] at h1 ⊢
    omega
theorem builder_alloc {T e : TypeId} {B b : Nat} {p : Value} {bs : List Value} {w : World} (h : Lib.BuilderAt T e B b p bs w) (o : Obj) : Lib.BuilderAt T e B b p bs (w.alloc o) := by
  have hlt := h.lt
  obtain ⟨hB, v, hb, hown, hne⟩ := h
  exact ⟨hB, v, (Lib.alloc_old w o b hlt).trans hb, hown.alloc o, hne⟩
theorem builder_drewN {T e : TypeId} {B b : Nat} {p : Value} {bs : List Value} {w : World} (h : Lib.BuilderAt T e B b p bs w) (q : Nat) : Lib.BuilderAt T e B b p bs (w.drewN q) := h
theorem kept_drewN {e : TypeId} {b : Option Nat} {a w : World} (h : Lib.OthersKept e b a w) (q : Nat) : Lib.OthersKept e b a (w.drewN q) := h
/-- the state of the closure's loop -/
structure CSt (w wr : World) (B b g : Nat) (bs : List Value) (t : ByteArray) (ns : List Int) : Prop where
  below : Below B w wr
  kept : Lib.OthersKept 5 (some b) w wr
  bld : Lib.BuilderAt 65 5 B b (.pointer (some ⟨b, 0, none⟩)) (bs ++ Lib.strCells t) wr
  row : Blk wr g 2 (ns.map (Value.int .i64)).toArray
theorem CSt.write {w wr w' : World} {B b g : Nat} {bs : List Value} {t s : ByteArray} {ns : List Int} (h : CSt w wr B b g bs t ns) (hg : g ≠ b)
    (h1 : Lib.BuilderAt 65 5 B b (.pointer (some ⟨b, 0, none⟩)) ((bs ++ Lib.strCells t) ++ Lib.strCells s) w') (h2 : Below B wr w') (h3 : Lib.OthersKept 5 (some b) wr w') : CSt w w' B b g bs (t ++ s) ns :=
  ⟨h.below.trans h2, h.kept.trans h3, by rw [strCells_append, ← List.append_assoc]; exact h1, h.row.kept h3 hg (by decide)⟩
theorem CSt.drewN {w wr : World} {B b g : Nat} {bs : List Value} {t : ByteArray} {ns : List Int} (h : CSt w wr B b g bs t ns) (q : Nat) : CSt w (wr.drewN q) B b g bs t ns :=
  ⟨below_drewN h.below q, h.kept, h.bld, h.row⟩
set_option maxRecDepth 100000 in
set_option maxHeartbeats 4000000 in
theorem clo_any (B b g : Nat) (bs : List Value) (word : ByteArray) (ns : List Int) (w : World) (h : Lib.IsBuilder 65 5 B b bs w) (hlen : bs.length + word.size + 80 * ns.length + 100 ≤ 140737488355328) (hB0 : 0 < B) (hBw : B ≤ w.heap.size) (hF : Firsts w) (hg : Blk w g 2 (ns.map (Value.int .i64)).toArray) (hgb : g ≠ b) (hr : ∀ n ∈ ns, -9223372036854775808 ≤ n ∧ n ≤ 9223372036854775807) (hl : ns.length ≤ 1000000) :
    Calls Tryd.prog 42 #[.string word, .slice (some ⟨g, 0, none⟩) ns.length ns.length, .pointer (some ⟨b, 0, none⟩)] w fun e w' => e = .returned (.tuple #[]) ∧ CSt w w' B b g bs (lineT word ns) ns := by
  have hc := writeString_any B b bs word w h (by omega) hBw
  have HC := Lib.hid hc; have HG := Lib.hid hg; have HF := Lib.hid hF; have HR := Lib.hid hr
  clear h hc hg hF hr
  go_enter Tryd.func42, Tryd.ntmps42
  go_wp2_with fail
  refine HC.out.mono ?_
  clear HC
  rintro e w1 ⟨rfl, h1, h2, h3⟩
  have HST : Hid (CSt w w1 B b g bs word ns) := Lib.hid ⟨h2, h3, h1, HG.out.kept h3 hgb (by decide)⟩
  clear h1 h2 h3
  go_wp2
  go_loopg [11] ns.length (fun gf vi wr => ∃ i : Nat, vi = .int .i64 i ∧ i + gf = ns.length ∧ CSt w wr B b g bs (word ++ numsT (ns.take i)) ns)
  case atStart => exact ⟨0, rfl, by omega, by
    have : word ++ numsT (ns.take 0) = word := by simp only [numsT, List.take_zero, List.foldl_nil]; exact ByteArray.append_empty
    rw [this]; exact HST.out⟩
  case round =>
    clear HST
    obtain ⟨i, rfl, hi, hst⟩ := hrel
    have HST := Lib.hid hst
    have hbl : (bs ++ Lib.strCells (word ++ numsT (ns.take i))).length ≤ bs.length + word.size + 80 * i := by
      rw [List.length_append, Lib.strCells_length, ByteArray.size_append]
      have := numsT_size (ns.take i)
      rw [List.length_take, Nat.min_eq_left (by omega)] at this
      omega
    cases gk with
    | zero =>
      obtain rfl : i = ns.length := by omega
      rw [List.take_length] at hbl
      have hc := writeString_any B b _ wNl _ (.inr hst.bld) (by rw [List.take_length]; have h1 : wNl.size = 1 := rfl; omega) (Nat.le_trans hBw hst.below.size)
      have HC := Lib.hid hc
      clear hst hc
      unfold wNl at HC
      go_wp2_with fail
      refine HC.out.mono ?_
      rintro e w2 ⟨rfl, h1, h2, h3⟩
      have hw := HST.out.write hgb (s := wNl) h1 h2 h3
      rw [List.take_length] at hw
      have HW := Lib.hid hw
      clear hw h1 h2 h3 HC
      go_wp2
      go_end0
      exact ⟨rfl, HW.out⟩
    | succ gf =>
      have hiI : (i : Int) < (ns.length : Int) := by omega
      obtain ⟨n, hn⟩ : ∃ n, ns[i]? = some n := ⟨_, List.getElem?_eq_getElem (by omega)⟩
      have hx : wr.cell? ⟨g, i, none⟩ = some (.int .i64 n) := by
        have := hst.row.cell i
        simpa [hn] using this
      have hnr := HR.out n (List.mem_of_getElem? hn)
      have hF2 : Firsts wr := firsts_below HF.out hst.below hB0
      have hp := print_any n 0 wr hnr.1 hnr.2 hF2
      have hpz := printOf_size n 0
      have hsn : numsT (ns.take (i + 1)) = numsT (ns.take i) ++ (wSp ++ printOf n 0) := by rw [take_snoc_ hn, numsT_snoc]
      obtain ⟨P, hP⟩ : ∃ P, printOf n 0 = P := ⟨_, rfl⟩
      rw [hP] at hp hpz hsn
      have HP := Lib.hid hp; have HSN := Lib.hid hsn
      clear hp hsn hP hF2 hst
      go_wp2_with fail
      refine HP.out.mono ?_
      clear HP
      rintro e w2 ⟨rfl, q, rfl⟩
      have hst2 := HST.out.drewN q
      have hc := writeString_any B b _ (wSp ++ P) _ (.inr hst2.bld) (by rw [ByteArray.size_append]; have h1 : wSp.size = 1 := rfl; omega) (Nat.le_trans hBw hst2.below.size)
      have HC := Lib.hid hc; have HST2 := Lib.hid hst2
      clear hst2 hc
      unfold wSp at HC
      go_wp2_with fail
      refine HC.out.mono ?_
      clear HC
      rintro e w3 ⟨rfl, h1, h2, h3⟩
      have hw := HST2.out.write hgb (s := wSp ++ P) h1 h2 h3
      rw [ByteArray.append_assoc, ← HSN.out] at hw
      have HW := Lib.hid hw
      clear hw h1 h2 h3
      go_wp2
      go_roundg gf
      case measure => omega
      case rel => exact ⟨i + 1, by go_num, by omega, HW.out⟩
end Go.Proofs.YtknigkjbnaoldaaDoor
