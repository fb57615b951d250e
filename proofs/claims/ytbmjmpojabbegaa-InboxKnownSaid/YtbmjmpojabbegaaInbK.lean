/- The program's Same; a box's put. -/
import Derived.Test.YtbmjmpojabbegaaInbJ
import Derived.Maps.OwnSet
import Derived.Maps.RangeWalk
namespace Go.Proofs.Ytbmjmpojabbegaa
open Go.RowKit

set_option maxHeartbeats 1000000 in
theorem sameClo_any (xb yb : Bool) (xv yv : Int) (w : World) : Calls Try.prog 28 #[.agg #[.bool xb, .int .i64 xv], .agg #[.bool yb, .int .i64 yv]] w fun e w' => e = .returned (.bool (sameM (xb, xv) (yb, yv))) ∧ Below w.heap.size w w' := by
  have hb : Below w.heap.size w ((w.alloc (.cells #[.bool xb, .int .i64 xv] 43)).alloc (.cells #[.bool yb, .int .i64 yv] 43)) := ((Below.refl _ _).alloc (Nat.le_refl _) _).alloc (by simp) _
  have HB := Lib.hid hb
  clear hb
  cases xb with
  | true =>
    cases yb with
    | true =>
      cases hv : xv == yv with
      | true =>
        go_enter Try.func28, Try.ntmps28
        go_wp2
        go_ret
        exact ⟨ret_bool (by simp [sameM, hv]), HB.out⟩
      | false =>
        go_enter Try.func28, Try.ntmps28
        go_wp2
        go_ret
        exact ⟨ret_bool (by simp [sameM, hv]), HB.out⟩
    | false =>
      go_enter Try.func28, Try.ntmps28
      go_wp2
      go_ret
      exact ⟨ret_bool (by simp [sameM]), HB.out⟩
  | false =>
    cases yb with
    | true =>
      go_enter Try.func28, Try.ntmps28
      go_wp2
      go_ret
      exact ⟨ret_bool (by simp [sameM]), HB.out⟩
    | false =>
      go_enter Try.func28, Try.ntmps28
      go_wp2
      go_ret
      exact ⟨ret_bool (by simp [sameM]), HB.out⟩
attribute [local go_sem ↓] Go.wp_at_zero Go.wp_at_succ
set_option maxRecDepth 100000 in
set_option maxHeartbeats 4000000 in
theorem equalFunc_any (w : World) (A B : Option Addr) (c d : Nat) (xs ys : List (Bool × Int)) (ha : Rs mailC 2 w A xs) (hb : Rs mailC 2 w B ys) (hn : xs.length ≤ 1000000000) :
    Calls Try.prog 27 #[.slice A xs.length c, .slice B ys.length d, .func (.func 28) #[] #[]] w fun e w' => e = .returned (.bool (sameL xs ys)) ∧ Below w.heap.size w w' := by
  have HA := Lib.hid ha; have HB := Lib.hid hb
  clear ha hb
  by_cases hnm : xs.length = ys.length
  · have hneq : ((xs.length : Int) != (ys.length : Int)) = false := by rw [hnm]; simp
    have hlI : xs.length ≤ ys.length := by omega
    have HNM := Lib.hid hnm
    clear hnm
    go_enter Try.func27, Try.ntmps27
    go_wp2
    go_loopg [17] xs.length (fun gf vi wr => ∃ i : Nat, vi = .int .i64 i ∧ i + gf = xs.length ∧ Below w.heap.size w wr ∧ ∀ (j : Nat) (x y : Bool × Int), j < i → xs[j]? = some x → ys[j]? = some y → sameM x y = true)
    case atStart => exact ⟨0, rfl, by omega, Below.refl _ _, by intro j x y h; omega⟩
    case round =>
      obtain ⟨i, rfl, hi, hB, heq⟩ := hrel
      have HE := Lib.hid heq
      clear heq
      cases gk with
      | zero =>
        obtain rfl : i = xs.length := by omega
        have HBB := Lib.hid hB
        clear hB
        go_wp2
        go_ret
        exact ⟨ret_bool (sameL_yes HNM.out fun j x y hx hy => HE.out j x y (List.getElem?_eq_some_iff.1 hx).1 hx hy).symm, HBB.out⟩
      | succ gf =>
        have hiI : (i : Int) < (xs.length : Int) := by omega
        have hiJ : (i : Int) < (ys.length : Int) := by omega
        obtain ⟨b, o, ⟨xb, xv⟩, rfl, _, hx, x1, x2⟩ := mail_at (HA.out.below hB) (i := i) (by omega)
        have hBA := hB.alloc hB.size (.cells #[.bool xb, .int .i64 xv] 43)
        obtain ⟨b', o', ⟨yb, yv⟩, rfl, _, hy, y1, y2⟩ := mail_at (HB.out.below hBA) (i := i) (by omega)
        simp only at x1 x2 y1 y2
        have hBC := hBA.alloc hBA.size (.cells #[.bool yb, .int .i64 yv] 43)
        have H1 := Lib.hid hx; have H2 := Lib.hid hy; have HBC := Lib.hid hBC
        clear hx hy hBA hBC hB
        by_cases hxy : sameM (xb, xv) (yb, yv) = true
        · have HXY := Lib.hid hxy
          have hfin : ∀ (j : Nat) (x y : Bool × Int), j < i + 1 → xs[j]? = some x → ys[j]? = some y → sameM x y = true := by
            intro j x y hj hjx hjy
            rcases Nat.lt_or_ge j i with hlt | hge
            · exact HE.out j x y hlt hjx hjy
            · obtain rfl : j = i := by omega
              obtain rfl := Option.some.inj (hjx.symm.trans H1.out)
              obtain rfl := Option.some.inj (hjy.symm.trans H2.out)
              exact HXY.out
          have HF := Lib.hid hfin
          clear hfin hxy
          go_wp2_with fail
          refine (sameClo_any _ _ _ _ _).mono ?_
          rintro e w2 ⟨rfl, hb2⟩
          rw [HXY.out]
          have HB2 := Lib.hid (HBC.out.trans (hb2.mono HBC.out.size))
          clear hb2 x1 x2 y1 y2
          go_wp2
          go_roundg gf
          case measure => omega
          case rel => exact ⟨i + 1, by go_num, by omega, HB2.out, HF.out⟩
        · rw [Bool.not_eq_true] at hxy
          have hno := Lib.hid (sameL_no H1.out H2.out hxy)
          have HXY := Lib.hid hxy
          clear hxy
          go_wp2_with fail
          refine (sameClo_any _ _ _ _ _).mono ?_
          rintro e w2 ⟨rfl, hb2⟩
          rw [HXY.out]
          have HB2 := Lib.hid (HBC.out.trans (hb2.mono HBC.out.size))
          clear hb2 x1 x2 y1 y2
          go_wp2
          go_ret
          exact ⟨ret_bool hno.out.symm, HB2.out⟩
  · have hne := sameL_ne hnm
    have hneq : ((xs.length : Int) != (ys.length : Int)) = true := by rw [bne_iff_ne]; omega
    have HN := Lib.hid hne
    clear hnm hne
    go_enter Try.func27, Try.ntmps27
    go_wp2
    go_ret
    exact ⟨ret_bool HN.out.symm, Below.refl _ _⟩
set_option maxHeartbeats 1000000 in
theorem same_any (w : World) (A B : Option Addr) (c d : Nat) (xs ys : List (Bool × Int)) (ha : Rs mailC 2 w A xs) (hb : Rs mailC 2 w B ys) (hn : xs.length ≤ 1000000000) :
    Calls Try.prog 17 #[.slice A xs.length c, .slice B ys.length d] w fun e w' => e = .returned (.bool (sameL xs ys)) ∧ Below w.heap.size w w' := by
  have HC := Lib.hid (equalFunc_any w A B c d xs ys ha hb hn)
  clear ha hb
  go_enter Try.func17, Try.ntmps17
  go_wp2_with fail
  refine HC.out.mono ?_
  rintro e w2 ⟨rfl, hb2⟩
  have HB2 := Lib.hid hb2
  clear hb2
  go_wp2
  go_ret
  exact ⟨rfl, HB2.out⟩
end Go.Proofs.Ytbmjmpojabbegaa
