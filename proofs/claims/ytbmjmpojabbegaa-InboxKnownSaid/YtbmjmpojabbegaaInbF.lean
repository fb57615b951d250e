/- The reference's Fold. -/
import Derived.Test.YtbmjmpojabbegaaInbE
namespace Go.Proofs.Ytbmjmpojabbegaa
open Go.RowKit

/-- messages put together, one a vertex -/
def foldL (k : Int) (l : List (Int × Int)) : List (Int × Int) := l.foldl (addL k) []
theorem foldL_snoc {k : Int} {l : List (Int × Int)} {i : Nat} {x : Int × Int} (h : l[i]? = some x) : foldL k (l.take (i + 1)) = addL k (foldL k (l.take i)) x := by
  unfold foldL
  rw [take_snoc_ h, List.foldl_append]; rfl
theorem foldL_len (k : Int) (l : List (Int × Int)) : (foldL k l).length ≤ l.length := by
  unfold foldL
  have : ∀ (l : List (Int × Int)) (a : List (Int × Int)), (l.foldl (addL k) a).length ≤ a.length + l.length := by
    intro l
    induction l with
    | nil => intro a; simp
    | cons x l ih =>
      intro a
      have h1 := ih (addL k a x)
      have h2 := addL_len k a x
      simp only [List.foldl_cons, List.length_cons]
      omega
  have := this l []
  simpa using this
attribute [local go_sem ↓] Go.wp_at_zero Go.wp_at_succ
set_option maxRecDepth 100000 in
set_option maxHeartbeats 4000000 in
theorem refFold_any (w : World) (k s o d e' : Int) (A : Option Addr) (c : Nat) (l : List (Int × Int)) (h : Rs msgC 2 w A l) (hl : l.length ≤ 1000000000) :
    Calls Try.prog 11 #[.agg #[.int .u8 k, .int .i64 s, .int .i64 o, .int .i64 d, .int .i64 e'], .slice A l.length c] w fun e w' => ∃ v, e = .returned v ∧ w'.ownsRow w.heap.size 29 2 v (foldL k l).length (rcs msgC (foldL k l)) ∧ Below w.heap.size w w' := by
  have HR := Lib.hid h
  have hJ := Blk.new w 23 #[.int .u8 k, .int .i64 s, .int .i64 o, .int .i64 d, .int .i64 e']
  have hB := (Below.refl w.heap.size w).alloc (Nat.le_refl _) (.cells #[.int .u8 k, .int .i64 s, .int .i64 o, .int .i64 d, .int .i64 e'] 23)
  have HJ := Lib.hid hJ; have HB := Lib.hid hB
  clear h hJ hB
  go_enter Try.func11, Try.ntmps11
  go_wp2
  go_loopg [5, 6] l.length (fun gf vo vi wr => ∃ i : Nat, vi = .int .i64 i ∧ i + gf = l.length ∧ Below w.heap.size w wr ∧ Blk wr w.heap.size 23 #[.int .u8 k, .int .i64 s, .int .i64 o, .int .i64 d, .int .i64 e'] ∧ wr.ownsRow (w.heap.size + 1) 29 2 vo (foldL k (l.take i)).length (rcs msgC (foldL k (l.take i))))
  case atStart => exact ⟨0, rfl, by omega, HB.out, HJ.out, World.ownsRow_nil _ _ _ _⟩
  case round =>
    clear HB HJ
    obtain ⟨i, rfl, hi, hB, hJ, hO⟩ := hrel
    cases gk with
    | zero =>
      obtain rfl : i = l.length := by omega
      rw [List.take_length] at hO
      have HB := Lib.hid hB; have HO := Lib.hid hO
      clear hB hJ hO
      go_wp2
      go_ret
      exact ⟨_, rfl, own_mono HO.out (show w.heap.size ≤ w.heap.size + 1 by omega), HB.out⟩
    | succ gf =>
      have hiI : (i : Int) < (l.length : Int) := by omega
      obtain ⟨b, oo, x, rfl, hb, hx, _, _⟩ := msg_at HR.out (i := i) (by omega)
      obtain ⟨_, _, y, hA, _, hy, x1, x2⟩ := msg_at (HR.out.below hB) (i := i) (by omega)
      obtain rfl : y = x := Option.some.inj (hy.symm.trans hx)
      simp only [Option.some.injEq, Addr.mk.injEq, and_true] at hA
      obtain ⟨rfl, rfl⟩ := hA
      have hle := foldL_len k (l.take i)
      have hll : (l.take i).length ≤ i := by rw [List.length_take]; omega
      have hs := foldL_snoc (k := k) hx
      have j0 := hJ.cell 0; have j1 := hJ.cell 1; have j2 := hJ.cell 2; have j3 := hJ.cell 3; have j4 := hJ.cell 4
      simp only [List.getElem?_toArray, List.getElem?_cons_zero, List.getElem?_cons_succ] at j0 j1 j2 j3 j4
      obtain ⟨A', c', rfl, hc'⟩ := own_parts hO
      have lt0 : w.heap.size < wr.heap.size := hJ.lt
      have ltb : b < wr.heap.size := Nat.lt_of_lt_of_le hb hB.size
      have HC := Lib.hid (Rs.of_own hO)
      have hln : (foldL k (l.take i)).length ≤ 1000000000 := by omega
      have HS := Lib.hid hs; have HB := Lib.hid hB; have HJ := Lib.hid hJ; have HO := Lib.hid hO; have HL := Lib.hid hln; have HCC := Lib.hid hc'
      clear hx hy hs hle hll hB hJ hO hln hc'
      go_wp2_with fail
      go_region_held3 (fun w' => w'.cell? ⟨w.heap.size, 0, none⟩ = some (.int .u8 k) ∧ w'.cell? ⟨w.heap.size, 1, none⟩ = some (.int .i64 s) ∧ w'.cell? ⟨w.heap.size, 2, none⟩ = some (.int .i64 o) ∧ w'.cell? ⟨w.heap.size, 3, none⟩ = some (.int .i64 d) ∧ w'.cell? ⟨w.heap.size, 4, none⟩ = some (.int .i64 e') ∧ w'.cell? ⟨b, oo + i * 2, none⟩ = some (.int .i64 y.1) ∧ w'.cell? ⟨b, oo + i * 2 + 1, none⟩ = some (.int .i64 y.2)) (go_keep) (first | (go_at_call 23; (with_reducible refine (refAddMsg_any _ k s o d e' A' c' _ y (by first | exact HC.out.drew | exact HC.out.drewN _ | exact HC.out) HCC.out HL.out).mono ?_); rintro e w2 ⟨v2, rfl, ho2, hb2⟩; have hcb : ∀ bb o2, bb < wr.heap.size → w2.cell? ⟨bb, o2, none⟩ = wr.cell? ⟨bb, o2, none⟩ := (fun bb o2 h => hb2.cell (p := ⟨bb, o2, none⟩) h); have HB2 := Lib.hid hb2; have HO2 := Lib.hid ho2; clear hb2 ho2))
      clear hcb j0 j1 j2 j3 j4 x1 x2
      go_wp2
      go_roundg gf
      case measure => omega
      case rel =>
        have hb2 : Below w.heap.size w w2 := Below.trans (by exact below_eta HB.out rfl rfl rfl rfl) (HB2.out.mono (B' := w.heap.size) (by show _ ≤ wr.heap.size; omega))
        refine ⟨i + 1, by go_num, by omega, hb2, Blk.below (w := wr.drew) HJ.out HB2.out lt0, ?_⟩
        rw [HS.out]
        exact own_mono HO2.out (show w.heap.size + 1 ≤ wr.heap.size by omega)
end Go.Proofs.Ytbmjmpojabbegaa
