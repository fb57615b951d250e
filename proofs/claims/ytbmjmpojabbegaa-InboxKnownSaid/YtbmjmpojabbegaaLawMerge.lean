/- The law InboxMerge: it answers true. -/
import Derived.Test.YtbmjmpojabbegaaLawSplit
namespace Go.Proofs.Ytbmjmpojabbegaa
open Go.RowKit

theorem c_refMerge (w : World) (k s o d e' : Int) (A A2 : Option Addr) (c c2 : Nat) (own : List Int) (L : List (List (Int × Int))) (h1 : Rs intC 1 w A own) (h : RsRs w A2 L) (hl1 : own.length ≤ 1000000000) (hl : L.length ≤ 1000000000) (hll : ∀ l ∈ L, l.length ≤ 1000000000) :
    Calls Try.prog 15 #[.agg #[.int .u8 k, .int .i64 s, .int .i64 o, .int .i64 d, .int .i64 e'], .slice A own.length c, .slice A2 L.length c2] w fun e w' => ∃ A' c', e = .returned (.slice A' (mergeL k own L).length c') ∧ Rs mailC 2 w' A' (mergeL k own L) ∧ Below w.heap.size w w' := by
  refine (refMerge_any w k s o d e' A A2 c c2 own L h1 h hl1 hl hll).mono ?_
  rintro e w' ⟨v, rfl, ho, hb⟩
  rw [← mergeL_len k own L] at ho
  obtain ⟨A', c', rfl, -⟩ := own_parts ho
  exact ⟨A', c', rfl, Rs.of_own ho, hb⟩
theorem sameM_refl (x : Bool × Int) : sameM x x = true := by unfold sameM; cases x.1 <;> simp
theorem sameL_refl (l : List (Bool × Int)) : sameL l l = true := sameL_yes rfl fun i x y hx hy => by
  rw [hx] at hy
  injection hy with hy
  subst hy
  exact sameM_refl _
/-- a job's block -/
def JobAt (w : World) (b : Nat) (k s o d e' : Int) : Prop :=
  w.cell? ⟨b, 0, none⟩ = some (.int .u8 k) ∧ w.cell? ⟨b, 1, none⟩ = some (.int .i64 s) ∧ w.cell? ⟨b, 2, none⟩ = some (.int .i64 o) ∧ w.cell? ⟨b, 3, none⟩ = some (.int .i64 d) ∧ w.cell? ⟨b, 4, none⟩ = some (.int .i64 e')
theorem JobAt.made (w : World) (t : TypeId) (k s o d e' : Int) : JobAt (w.alloc (.cells #[.int .u8 k, .int .i64 s, .int .i64 o, .int .i64 d, .int .i64 e'] t)) w.heap.size k s o d e' := by
  have h := Blk.new w t #[.int .u8 k, .int .i64 s, .int .i64 o, .int .i64 d, .int .i64 e']
  exact ⟨h.cell 0, h.cell 1, h.cell 2, h.cell 3, h.cell 4⟩
theorem JobAt.below {w w' : World} {B b : Nat} {k s o d e' : Int} (h : JobAt w b k s o d e') (hb : Below B w w') (hlt : b < B) : JobAt w' b k s o d e' :=
  ⟨(hb.cell (p := ⟨b, 0, none⟩) hlt).trans h.1, (hb.cell (p := ⟨b, 1, none⟩) hlt).trans h.2.1, (hb.cell (p := ⟨b, 2, none⟩) hlt).trans h.2.2.1, (hb.cell (p := ⟨b, 3, none⟩) hlt).trans h.2.2.2.1, (hb.cell (p := ⟨b, 4, none⟩) hlt).trans h.2.2.2.2⟩
theorem flat_len {α : Type} {L : List (List α)} {n : Nat} (h : ∀ l ∈ L, l.length ≤ n) : L.flatten.length ≤ L.length * n := by
  induction L with
  | nil => simp
  | cons l L ih =>
    rw [List.flatten_cons, List.length_append, List.length_cons, Nat.add_mul]
    have h1 := h l (by simp)
    have h2 := ih fun m hm => h m (List.mem_cons_of_mem _ hm)
    omega
theorem job_below (w : World) (t : TypeId) (cs : Array Value) : Below w.heap.size w (w.alloc (.cells cs t)) := (Below.refl _ w).alloc (Nat.le_refl _) _
attribute [local go_sem ↓] Go.wp_at_zero Go.wp_at_succ
set_option maxRecDepth 100000 in
set_option maxHeartbeats 4000000 in
theorem mergeBig_any (w : World) (k s o d e' : Int) (A A2 A3 : Option Addr) (m1 m2 m3 c c2 c3 : Nat) (h : ¬ (m1 ≤ 60 ∧ m2 ≤ 8 ∧ m3 ≤ 60)) :
    Calls Try.prog 5 #[.agg #[.int .u8 k, .int .i64 s, .int .i64 o, .int .i64 d, .int .i64 e'], .slice A m1 c, .slice A2 m2 c2, .slice A3 m3 c3] w fun e w' => e = .returned (.bool true) ∧ Below w.heap.size w w' := by
  by_cases l1 : (60 : Int) < (m1 : Int)
  · clear h
    go_enter Try.func5, Try.ntmps5
    go_wp2_with fail
    refine (works_any _).mono ?_
    rintro e w1 ⟨rfl, hb⟩
    have HB := Lib.hid ((job_below w _ _).trans (hb.mono (job_below w _ _).size))
    clear hb
    go_wp2
    go_ret
    exact ⟨rfl, HB.out⟩
  · by_cases l2 : (8 : Int) < (m2 : Int)
    · clear h
      go_enter Try.func5, Try.ntmps5
      go_wp2_with fail
      refine (works_any _).mono ?_
      rintro e w1 ⟨rfl, hb⟩
      have HB := Lib.hid ((job_below w _ _).trans (hb.mono (job_below w _ _).size))
      clear hb
      go_wp2
      go_ret
      exact ⟨rfl, HB.out⟩
    · have l3 : (60 : Int) < (m3 : Int) := by omega
      clear h
      go_enter Try.func5, Try.ntmps5
      go_wp2_with fail
      refine (works_any _).mono ?_
      rintro e w1 ⟨rfl, hb⟩
      have HB := Lib.hid ((job_below w _ _).trans (hb.mono (job_below w _ _).size))
      clear hb
      go_wp2
      go_ret
      exact ⟨rfl, HB.out⟩
set_option maxRecDepth 100000 in
set_option maxHeartbeats 8000000 in
theorem lawMerge_any (w : World) (k s o d e' : Int) (A A2 A3 : Option Addr) (c c2 c3 : Nat) (own : List Int) (L : List (List (Int × Int))) (other : List (Bool × Int)) (h1 : Rs intC 1 w A own) (h2 : RsRs w A2 L) (h3 : Rs mailC 2 w A3 other)
    (hwo : ∀ v ∈ own, (Lit.int .i64 v).wf = true) (hwm : ∀ l ∈ L, ∀ x ∈ l, (Lit.int .i64 x.1).wf = true) :
    Calls Try.prog 5 #[.agg #[.int .u8 k, .int .i64 s, .int .i64 o, .int .i64 d, .int .i64 e'], .slice A own.length c, .slice A2 L.length c2, .slice A3 other.length c3] w fun e w' => e = .returned (.bool true) ∧ Below w.heap.size w w' := by
  by_cases hl : own.length ≤ 60 ∧ L.length ≤ 8 ∧ other.length ≤ 60
  · obtain ⟨l1, l2, l3⟩ := hl
    have l1I : ¬ (60 : Int) < (own.length : Int) := by omega
    have l2I : ¬ (8 : Int) < (L.length : Int) := by omega
    have l3I : ¬ (60 : Int) < (other.length : Int) := by omega
    have hb := job_below w 23 #[.int .u8 k, .int .i64 s, .int .i64 o, .int .i64 d, .int .i64 e']
    have hj := JobAt.made w 23 k s o d e'
    have H1 := Lib.hid (h1.below hb); have H2 := Lib.hid (h2.below hb); have H3 := Lib.hid (h3.below hb); have HW := Lib.hid (And.intro hwo hwm)
    go_enter Try.func5, Try.ntmps5
    go_wp2
    obtain ⟨w1, hw1⟩ : ∃ w1, w1 = w.alloc (.cells #[.int .u8 k, .int .i64 s, .int .i64 o, .int .i64 d, .int .i64 e'] 23) := ⟨_, rfl⟩
    have hz : w.heap.size < w1.heap.size := by rw [hw1]; simp
    rw [← hw1] at hb hj H1 H2 H3 ⊢
    have HB := Lib.hid hb; have HJ := Lib.hid hj; have HZ := Lib.hid hz
    clear hw1 hb hj h1 h2 h3 hwo hwm hz
    go_loopg [9] L.length (fun gf vi wr => ∃ i : Nat, vi = .int .i64 i ∧ i + gf = L.length ∧ (∀ m ∈ L.take i, m.length ≤ 60) ∧ wr = w1)
    case atStart => exact ⟨0, rfl, by omega, by simp, rfl⟩
    case round =>
      obtain ⟨i, rfl, hi, hm, rfl⟩ := hrel
      have HM := Lib.hid hm
      clear hm
      cases gk with
      | zero =>
        obtain rfl : i = L.length := by omega
        have hm := HM.out
        rw [List.take_length] at hm
        obtain ⟨hwo, hwm⟩ := HW.out
        have hc := c_merge wr k s o d e' A A2 c c2 own L H1.out H2.out (by omega) (by omega) (by have := flat_len hm; omega) hwo hwm
        have hd := fun w' (hb : Below wr.heap.size wr w') => c_refMerge w' k s o d e' A A2 c c2 own L (H1.out.below hb) (H2.out.below hb) (by omega) (by omega) (fun l hl => by have := hm l hl; omega)
        have hml := mergeL_len k own L
        have HC := Lib.hid hc; have HD := Lib.hid hd; have HL := Lib.hid hml
        clear hc hd hwo hwm hm HM HW H1 H2 hml
        revert HC HD HL
        generalize mergeL k own L = ml
        intro HC HD HL
        obtain ⟨j0, j1, j2, j3, j4⟩ := HJ.out
        go_wp2_with fail
        refine HC.out.mono ?_
        clear HC
        rintro e w2 ⟨g2, rfl, hr2, hb2⟩
        obtain ⟨j0, j1, j2, j3, j4⟩ := HJ.out.below hb2 HZ.out
        have hc := HD.out w2 hb2
        have HC := Lib.hid hc; have HR2 := Lib.hid hr2; have HB2 := Lib.hid hb2
        clear hc hr2 hb2 HD
        go_wp2_with fail
        refine HC.out.mono ?_
        clear HC
        rintro e w3 ⟨A4, c4, rfl, hr3, hb3⟩
        have hb3' := HB2.out.trans (hb3.mono HB2.out.size)
        have hlm : ml.length ≤ 60 := by rw [HL.out]; exact l1
        have hs1 := refSame_any w3 _ _ own.length c4 _ _ (HR2.out.below hb3) hr3 (by omega)
        have hs2 := fun q => same_any (w3.drewN q) _ _ own.length c3 _ _ ((HR2.out.below hb3).drewN q) ((H3.out.below hb3').drewN q) (by omega)
        have hs3 := fun w' (hb : Below w3.heap.size w3 w') => refSame_any w' _ _ c4 c3 _ _ (hr3.below hb) ((H3.out.below hb3').below hb) (by omega)
        have hs4 := fun w' (hb : Below w3.heap.size w3 w') => same_any w' _ _ own.length c4 _ _ ((HR2.out.below hb3).below hb) (hr3.below hb) (by omega)
        rw [sameL_refl] at hs1
        simp only [sameL_refl] at hs4
        have HC := Lib.hid hs1; have HC2 := Lib.hid hs2; have HC3 := Lib.hid hs3; have HC4 := Lib.hid hs4; have HB3 := Lib.hid (HB.out.trans (hb3'.mono HB.out.size))
        clear hs1 hs2 hs3 hs4 hr3 hb3 hb3' j0 j1 j2 j3 j4 HR2 HB2 H3
        revert HC2 HC3
        generalize sameL ml other = r
        intro HC2 HC3
        go_wp2_with fail
        refine HC.out.mono ?_
        clear HC
        rintro e w' ⟨rfl, q, rfl⟩
        go_wp2_with fail
        refine (HC2.out q).mono ?_
        clear HC2
        rintro e w4 ⟨rfl, hb4⟩
        have hb4' : Below w3.heap.size w3 w4 := ⟨hb4.os, hb4.tape, hb4.output, hb4.size, hb4.block⟩
        have HC := Lib.hid (HC3.out w4 hb4')
        have HB4 := Lib.hid hb4'
        clear hb4 hb4' HC3
        go_wp2_with fail
        refine HC.out.mono ?_
        clear HC
        rintro e w' ⟨rfl, q', rfl⟩
        have HC := Lib.hid (HC4.out (w4.drewN q') (below_drewN HB4.out q'))
        clear HC4
        go_wp2_with fail
        refine HC.out.mono ?_
        clear HC
        rintro e w5 ⟨rfl, hb5⟩
        have hb5' := HB3.out.trans (((below_drewN HB4.out q').trans (hb5.mono (below_drewN HB4.out q').size)).mono HB3.out.size)
        have HB5 := Lib.hid hb5'
        clear hb5 hb5'
        go_wp2_with fail
        refine (works_any _).mono ?_
        rintro e w6 ⟨rfl, hb6⟩
        have HB6 := Lib.hid (HB5.out.trans (hb6.mono HB5.out.size))
        clear hb6
        go_wp2
        go_ret
        exact ⟨rfl, HB6.out⟩
      | succ gf =>
        have hiI : (i : Int) < (L.length : Int) := by omega
        obtain ⟨b, o, m, A', c', rfl, _, hm, _, _, hx⟩ := H2.out.at_ (i := i) (by omega)
        have HX := Lib.hid hm
        clear hm
        by_cases h60 : (60 : Int) < (m.length : Int)
        · go_wp2_with fail
          refine (works_any _).mono ?_
          rintro e w6 ⟨rfl, hb6⟩
          have HB6 := Lib.hid (HB.out.trans (hb6.mono HB.out.size))
          clear hb6
          go_wp2
          go_ret
          exact ⟨rfl, HB6.out⟩
        · go_wp2
          go_roundg gf
          case measure => omega
          case rel =>
            refine ⟨i + 1, by go_num, by omega, ?_, rfl⟩
            rw [take_snoc_ HX.out]
            intro m' hm'
            rcases List.mem_append.1 hm' with h | h
            · exact HM.out m' h
            · obtain rfl := List.mem_singleton.1 h
              omega
  · clear h1 h2 h3 hwo hwm
    exact mergeBig_any w k s o d e' A A2 A3 _ _ _ c c2 c3 hl
end Go.Proofs.Ytbmjmpojabbegaa
