/- The law InboxSplit: it answers true. -/
import Derived.Test.YtbmjmpojabbegaaInbT
namespace Go.Proofs.Ytbmjmpojabbegaa
open Go.RowKit

set_option maxHeartbeats 1000000 in
theorem splitNo_any (w : World) (A : Option Addr) (m c : Nat) (n : Int) (hn : n < 1 ∨ 64 < n) :
    Calls Try.prog 12 #[.slice A m c, .int .i64 n] w fun e w' => e = .returned (.slice none 0 0) ∧ w' = w := by
  by_cases h : n < 1
  · clear hn
    go_enter Try.func12, Try.ntmps12
    go_wp2
    go_ret
    exact ⟨rfl, rfl⟩
  · have h2 : 64 < n := by omega
    clear hn
    go_enter Try.func12, Try.ntmps12
    go_wp2
    go_ret
    exact ⟨rfl, rfl⟩
set_option maxHeartbeats 1000000 in
theorem refSplitNo_any (w : World) (A : Option Addr) (m c : Nat) (n : Int) (hn : n < 1 ∨ 64 < n) :
    Calls Try.prog 13 #[.slice A m c, .int .i64 n] w fun e w' => e = .returned (.slice none 0 0) ∧ w' = w := by
  by_cases h : n < 1
  · clear hn
    go_enter Try.func13, Try.ntmps13
    go_wp2
    go_ret
    exact ⟨rfl, rfl⟩
  · have h2 : 64 < n := by omega
    clear hn
    go_enter Try.func13, Try.ntmps13
    go_wp2
    go_ret
    exact ⟨rfl, rfl⟩
/-- the contract of both Splits at any number of workers -/
def splitA (l : List (Int × Int)) (n : Int) : List (List (Int × Int)) := if n < 1 ∨ 64 < n then [] else splitL l n.toNat
theorem splitA_len (l : List (Int × Int)) (n : Int) : (splitA l n).length ≤ 64 := by
  unfold splitA
  split
  · simp
  · rw [splitL_len]; omega
theorem splitA_mem {l m : List (Int × Int)} {n : Int} (h : m ∈ splitA l n) : m.length ≤ l.length := by
  unfold splitA at h
  split at h
  · simp at h
  · unfold splitL at h
    simp at h
    obtain ⟨u, _, rfl⟩ := h
    exact rowL_len _ _ _
theorem c_splitA (w : World) (A : Option Addr) (c : Nat) (n : Int) (l : List (Int × Int)) (h : Rs msgC 2 w A l) (hl : l.length ≤ 1000000000) :
    Calls Try.prog 12 #[.slice A l.length c, .int .i64 n] w fun e w' => ∃ A' c', e = .returned (.slice A' (splitA l n).length c') ∧ RsRs w' A' (splitA l n) ∧ Below w.heap.size w w' := by
  unfold splitA
  by_cases hn : n < 1 ∨ 64 < n
  · rw [if_pos hn]
    refine (splitNo_any w A _ c n hn).mono ?_
    rintro e w' ⟨rfl, rfl⟩
    exact ⟨none, 0, rfl, ⟨[], Sl.nil' _, by simp⟩, Below.refl _ _⟩
  · rw [if_neg hn]
    have := c_split w A c n.toNat l h hl (by omega) (by omega)
    rw [Int.toNat_of_nonneg (by omega)] at this
    refine this.mono ?_
    rintro e w' ⟨g, rfl, hr, hb⟩
    exact ⟨_, _, rfl, hr, hb⟩
theorem c_refSplitA (w : World) (A : Option Addr) (c : Nat) (n : Int) (l : List (Int × Int)) (h : Rs msgC 2 w A l) (hl : l.length ≤ 1000000000) :
    Calls Try.prog 13 #[.slice A l.length c, .int .i64 n] w fun e w' => ∃ A' c', e = .returned (.slice A' (splitA l n).length c') ∧ RsRs w' A' (splitA l n) ∧ Below w.heap.size w w' := by
  unfold splitA
  by_cases hn : n < 1 ∨ 64 < n
  · rw [if_pos hn]
    refine (refSplitNo_any w A _ c n hn).mono ?_
    rintro e w' ⟨rfl, rfl⟩
    exact ⟨none, 0, rfl, ⟨[], Sl.nil' _, by simp⟩, Below.refl _ _⟩
  · rw [if_neg hn]
    have := c_refSplit w A c n.toNat l h hl (by omega) (by omega)
    rw [Int.toNat_of_nonneg (by omega)] at this
    exact this
attribute [local go_sem ↓] Go.wp_at_zero Go.wp_at_succ
set_option maxRecDepth 100000 in
set_option maxHeartbeats 4000000 in
theorem lawSplit_any (w : World) (A : Option Addr) (c : Nat) (n : Int) (l : List (Int × Int)) (h : Rs msgC 2 w A l) :
    Calls Try.prog 4 #[.slice A l.length c, .int .i64 n] w fun e w' => e = .returned (.bool true) ∧ Below w.heap.size w w' := by
  by_cases h2 : (200 : Int) < (l.length : Int)
  · clear h
    go_enter Try.func4, Try.ntmps4
    go_wp2_with fail
    refine (works_any _).mono ?_
    rintro e w1 ⟨rfl, hb⟩
    have HB := Lib.hid hb
    clear hb
    go_wp2
    go_ret
    exact ⟨rfl, HB.out⟩
  · have hl : l.length ≤ 200 := by omega
    have hLl := splitA_len l n
    have hLm := fun m (hm : m ∈ splitA l n) => Nat.le_trans (splitA_mem hm) hl
    have hc := c_splitA w A c n l h (by omega)
    have hd := fun w' (hb : Below w.heap.size w w') => c_refSplitA w' A c n l (h.below hb) (by omega)
    have HC := Lib.hid hc; have HD := Lib.hid hd; have HM := Lib.hid hLm
    clear hc hd h hLm
    revert HC HD HM hLl
    generalize splitA l n = L
    intro hLl HC HD HM
    go_enter Try.func4, Try.ntmps4
    go_wp2_with fail
    refine HC.out.mono ?_
    clear HC
    rintro e w1 ⟨A1, c1, rfl, hr1, hb1⟩
    have hc := HD.out w1 hb1
    have HC := Lib.hid hc; have HR1 := Lib.hid hr1; have HB1 := Lib.hid hb1
    clear hc hr1 hb1 HD
    go_wp2_with fail
    refine HC.out.mono ?_
    clear HC
    rintro e w2 ⟨A2, c2, rfl, hr2, hb2⟩
    have r1 := HR1.out.below hb2
    have b2 := HB1.out.trans (hb2.mono HB1.out.size)
    have R1 := Lib.hid r1; have R2 := Lib.hid hr2; have B2 := Lib.hid b2
    clear r1 hr2 b2 hb2 HB1 HR1 w1
    go_wp2
    go_loopg [7] L.length (fun gf vi wr => ∃ i : Nat, vi = .int .i64 i ∧ i + gf = L.length ∧ Below w2.heap.size w2 wr)
    case atStart => exact ⟨0, rfl, by omega, Below.refl _ _⟩
    case round =>
      obtain ⟨i, rfl, hi, hB⟩ := hrel
      cases gk with
      | zero =>
        obtain rfl : i = L.length := by omega
        go_wp2_with fail
        refine (works_any _).mono ?_
        rintro e w3 ⟨rfl, hb⟩
        have hb3 : Below w.heap.size w w3 := B2.out.trans ((hB.trans (hb.mono hB.size)).mono B2.out.size)
        have HB := Lib.hid hb3
        clear hb hb3
        go_wp2
        go_ret
        exact ⟨rfl, HB.out⟩
      | succ gf =>
        have hiI : (i : Int) < (L.length : Int) := by omega
        obtain ⟨b, o, m, A', c', rfl, _, hm, _, hrm, hx⟩ := (R1.out.below hB).at_ (i := i) (by omega)
        obtain ⟨b', o', m', A'', c'', rfl, _, hm', _, hrm', hx'⟩ := (R2.out.below hB).at_ (i := i) (by omega)
        rw [hm] at hm'
        injection hm' with hm'
        subst hm'
        have hml := HM.out m (List.mem_of_getElem? hm)
        have hc := fun q => sameMessages_any (wr.drewN q) A' A'' c' c'' m m (hrm.drewN q) (hrm'.drewN q) (by omega)
        simp only [decide_true] at hc
        have HC := Lib.hid hc; have HB := Lib.hid hB
        clear hc hrm hrm' hm hB
        go_wp2
        go_region_held3 (fun w' => w'.cell? ⟨b, o + i, none⟩ = some (.slice A' m.length c') ∧ w'.cell? ⟨b', o' + i, none⟩ = some (.slice A'' m.length c'')) (go_keep) (first | (go_at_call 10; refine (HC.out 1).mono ?_; rintro e w3 ⟨rfl, q3, rfl⟩))
        go_wp2
        go_roundg gf
        case measure => omega
        case rel => exact ⟨i + 1, by go_num, by omega, by first | exact HB.out | exact below_drewN HB.out _ | exact below_drewN (below_drewN HB.out _) _⟩
end Go.Proofs.Ytbmjmpojabbegaa
