/- The law InboxFold: it answers true. -/
import Derived.Test.YtbmjmpojabbegaaLawMerge
namespace Go.Proofs.Ytbmjmpojabbegaa
open Go.RowKit

/-- a row of the call's own, as a block that can be written -/
theorem own_blk2 {w : World} {B : Nat} {t : TypeId} {A : Option Addr} {c n k : Nat} {xs : List Value} (h : w.ownsRow B t k (.slice A n c) n xs) (hn : 0 < n) : ∃ g cur, A = some ⟨g, 0, none⟩ ∧ B ≤ g ∧ Blk w g t cur ∧ n * k ≤ cur.size := by
  rcases h.2 with ⟨_, h0⟩ | ⟨g, cap, cur, hv, hb, hg, hc, _, hs, _⟩
  · omega
  · injection hv with h1 h2 h3
    refine ⟨g, cur, h1, hb, hg, ?_⟩
    rw [hs]
    exact Nat.mul_le_mul_right _ hc
attribute [local go_sem ↓] Go.wp_at_zero Go.wp_at_succ
set_option maxRecDepth 100000 in
set_option maxHeartbeats 8000000 in
theorem lawFold_any (w : World) (k s o d e' : Int) (A : Option Addr) (c : Nat) (l : List (Int × Int)) (h : Rs msgC 2 w A l) (hwm : ∀ x ∈ l, (Lit.int .i64 x.1).wf = true) :
    Calls Try.prog 3 #[.agg #[.int .u8 k, .int .i64 s, .int .i64 o, .int .i64 d, .int .i64 e'], .slice A l.length c] w fun e w' => e = .returned (.bool true) ∧ Below w.heap.size w w' := by
  by_cases h2 : (200 : Int) < (l.length : Int)
  · clear h hwm
    go_enter Try.func3, Try.ntmps3
    go_wp2_with fail
    refine (works_any _).mono ?_
    rintro e w1 ⟨rfl, hb⟩
    have HB := Lib.hid ((job_below w _ _).trans (hb.mono (job_below w _ _).size))
    clear hb
    go_wp2
    go_ret
    exact ⟨rfl, HB.out⟩
  · have hl : l.length ≤ 200 := by omega
    obtain ⟨j0, hj0, hy0, hy1, hy2, -⟩ := parts infoM
    have hb := job_below w 23 #[.int .u8 k, .int .i64 s, .int .i64 o, .int .i64 d, .int .i64 e']
    have hj := JobAt.made w 23 k s o d e'
    have hfl := foldL_len k l
    have HR := Lib.hid (h.below hb); have HW := Lib.hid hwm; have HJ0 := Lib.hid hj0; have HY0 := Lib.hid hy0; have HFL := Lib.hid hfl
    have hown := Lib.hid (World.ownsRow_nil (w.alloc (.cells #[.int .u8 k, .int .i64 s, .int .i64 o, .int .i64 d, .int .i64 e'] 23)) (w.heap.size + 1) 29 2)
    have hq : ∀ (v2 : Value) (w2 : World), Hid (w2.ownsRow (w.heap.size + 1) 29 2 v2 (0 + l.length) ([] ++ rcs msgC l)) → Hid (Below (w.heap.size + 1) (w.alloc (.cells #[.int .u8 k, .int .i64 s, .int .i64 o, .int .i64 d, .int .i64 e'] 23)) w2) → ∃ A2 c2, v2 = .slice A2 l.length c2 ∧ JobAt w2 w.heap.size k s o d e' ∧ Hid (w2.ownsRow (w.heap.size + 1) 29 2 (.slice A2 l.length c2) l.length (rcs msgC l)) := fun v2 w2 h2 h4 => by
      have h2' : w2.ownsRow (w.heap.size + 1) 29 2 v2 l.length (rcs msgC l) := by have := h2.out; rwa [Nat.zero_add, List.nil_append] at this
      obtain ⟨A2, c2, rfl, _⟩ := own_parts h2'
      exact ⟨A2, c2, rfl, hj.below h4.out (by omega), Lib.hid h2'⟩
    have HB := Lib.hid hb; have HJ := Lib.hid hj; have HQ := Lib.hid hq
    clear hj0 hy0 hfl hb hj h hwm hq
    go_enter Try.func3, Try.ntmps3
    go_wp2_with (at_builtin; refine wpList_cat _ rfl (.tmp 12) (.tmp 13) 24 rfl (w.heap.size + 1) 29 j0 (.agg #[.int .i64 0, .int .i64 0]) 2 16 Try.underlying24 HJ0.out HY0.out hy1 hy2 rfl (by decide) (by decide) _ 0 _ rfl hown A l.length c (rcs msgC l) rfl (Lib.hid HR.out) (msgC_one _) (by omega) (by simp) ?_; intro v2 w2 h2 h3 h4; obtain ⟨A2, c2, rfl, ⟨k0, k1, k2, k3, k4⟩, HO2⟩ := HQ.out v2 w2 h2 h4; have HB2 := Lib.hid h4.out; clear h2 h3 h4)
    have HC := Lib.hid (c_fold w2 k s o d e' A2 c2 l (Rs.of_own HO2.out) (by omega) HW.out)
    refine HC.out.mono ?_
    clear HC
    rintro e w3 ⟨A3, c3, rfl, hr3, ho3, hb3⟩
    have hsz2 : w.heap.size + 1 ≤ w2.heap.size := by have := HB2.out.size; simp at this; exact this
    have hb23 := HB2.out.trans (hb3.mono hsz2)
    obtain ⟨k0, k1, k2, k3, k4⟩ := HJ.out.below hb23 (by omega)
    have hb02 := HB.out.trans (HB2.out.mono (Nat.le_succ _))
    have hrl := HR.out.below (by exact HB2.out.mono (by simp))
    have hc := c_refFold w3 k s o d e' A c l (hrl.below hb3) (by omega)
    have HC := Lib.hid hc; have HR3 := Lib.hid hr3; have HO3 := Lib.hid ho3; have HB3 := Lib.hid hb3; have HB02 := Lib.hid hb02; have HRL := Lib.hid hrl; have HRO := Lib.hid (Rs.of_own HO2.out)
    clear hc hr3 ho3 hb3 hb23 hb02 hrl HB2 HO2 HJ HB HR hown
    go_wp2_with fail
    refine HC.out.mono ?_
    clear HC
    rintro e w4 ⟨A4, c4, rfl, hr4, hb4⟩
    have hfl := HFL.out
    have hc := sameMessages_any w4 A3 A4 c3 c4 _ _ (HR3.out.below hb4) hr4 (by omega)
    rw [decide_eq_true rfl] at hc
    have HC := Lib.hid hc
    clear hc hr4
    have ho4 := own_below HO3.out hb4
    have hblk : 0 < (foldL k l).length → ∃ g cur, A3 = some ⟨g, 0, none⟩ ∧ w2.heap.size ≤ g ∧ Blk w4 g 29 cur ∧ (foldL k l).length * 2 ≤ cur.size := own_blk2 ho4
    have HK := Lib.hid hblk; have HB4 := Lib.hid (HB3.out.trans (hb4.mono HB3.out.size))
    clear ho4 hblk hb4 HB3 HR3 HO3 k0 k1 k2 k3 k4 HQ HJ0 HY0
    revert HK hfl HC
    generalize foldL k l = fl
    generalize fl.length = n
    intro hfl HC HK
    go_wp2_with fail
    refine HC.out.mono ?_
    clear HC
    rintro e w' ⟨rfl, q5, rfl⟩
    go_wp2
    go_loopg [7] n (fun gf vi wr => ∃ i : Nat, vi = .int .i64 i ∧ i + gf = n ∧ Below w2.heap.size w2 wr ∧ (0 < n → ∃ g cur, A3 = some ⟨g, 0, none⟩ ∧ w2.heap.size ≤ g ∧ Blk wr g 29 cur ∧ n * 2 ≤ cur.size))
    case atStart => exact ⟨0, rfl, by omega, below_drewN HB4.out _, HK.out⟩
    case round =>
      obtain ⟨i, rfl, hi, hB, hK⟩ := hrel
      cases gk with
      | zero =>
        obtain rfl : i = n := by omega
        have hc := sameMessages_any wr _ _ c2 c _ _ (HRO.out.below hB) (HRL.out.below hB) (by omega)
        rw [decide_eq_true rfl] at hc
        have HC := Lib.hid hc; have HB5 := Lib.hid (HB02.out.trans (hB.mono HB02.out.size))
        clear hc hB hK
        go_wp2_with fail
        refine HC.out.mono ?_
        clear HC
        rintro e w' ⟨rfl, q6, rfl⟩
        go_wp2_with fail
        refine (works_any _).mono ?_
        rintro e w7 ⟨rfl, hb7⟩
        have HB7 := Lib.hid ((below_drewN HB5.out q6).trans (hb7.mono (below_drewN HB5.out q6).size))
        clear hb7
        go_wp2
        go_ret
        exact ⟨rfl, HB7.out⟩
      | succ gf =>
        have hiI : (i : Int) < (n : Int) := by omega
        obtain ⟨g, cur, rfl, hg, hblk, hcur⟩ := hK (by omega)
        have f1 := hblk.frozen (i * 2 + 1)
        have n1 := hblk.cell (i * 2 + 1)
        rw [Array.getElem?_eq_getElem (by omega)] at n1
        have HB := Lib.hid hB; have HBL := Lib.hid hblk
        clear hB hK hblk HK
        go_wp2
        go_roundg gf
        case measure => omega
        case rel =>
          refine ⟨i + 1, by go_num, by omega, HB.out.setCell (p := ⟨g, i * 2 + 1, none⟩) hg _, fun _ => ⟨g, _, rfl, hg, HBL.out.set_ (i * 2 + 1) _, by simp; exact hcur⟩⟩
end Go.Proofs.Ytbmjmpojabbegaa
