/- Rows of edges: are two the same? Graphs likewise. -/
import Derived.Test.YtknigkjbnaoldaaDoorGrA
import Derived.Deep.LoopGhost
import Derived.Laws.StructEq
namespace Go.Proofs.YtknigkjbnaoldaaDoor
open Go.RowKit

theorem edg_at {w : World} {A : Option Addr} {l : List Edg} (h : Rs edgC 3 w A l) {i : Nat} (hi : i < l.length) : ∃ b o m, A = some ⟨b, o, none⟩ ∧ b < w.heap.size ∧ l[i]? = some m ∧
    w.cell? ⟨b, o + i * 3, none⟩ = some (.int .i64 m.1) ∧ w.cell? ⟨b, o + i * 3 + 1, none⟩ = some (.int .i64 m.2.1) ∧ w.cell? ⟨b, o + i * 3 + 2, none⟩ = some (.int .i64 m.2.2) := by
  obtain ⟨b, o, m, hA, hb, hm, hc⟩ := Rs.at_ edgC_len h hi
  exact ⟨b, o, m, hA, hb, hm, hc 0 (by decide), hc 1 (by decide), hc 2 (by decide)⟩
theorem edg_guard : Tryd.prog.eqGuardType Tryd.prog.depth 35 = false := by kernel_rfl
theorem edg_struct : Tryd.prog.underlying 35 = some (.struct (Tryd.prog.fieldsOf 35)) := by kernel_rfl
theorem edg_plain : Tryd.prog.stoodInHeld 35 = false := by kernel_rfl
theorem run_neq_edg (a b c a' b' c' : Int) (w : World) : (binOp .neq 35 (.agg #[.int .i64 a, .int .i64 b, .int .i64 c]) (.agg #[.int .i64 a', .int .i64 b', .int .i64 c'])).run Tryd.prog w = .ok (.bool (!(a == a' && b == b' && c == c'))) w := by
  rw [run_neq_struct, run_equalIn_agg _ _ _ _ _ edg_struct edg_plain]
  cases h1 : a == a' <;> cases h2 : b == b' <;> cases h3 : c == c' <;> simp [go_sem, h1, h2, h3]
theorem edg_ne {x y : Edg} (h : x ≠ y) : (x.1 == y.1 && x.2.1 == y.2.1 && x.2.2 == y.2.2) = false := by
  rw [Bool.eq_false_iff]
  intro e
  rw [Bool.and_eq_true, Bool.and_eq_true, beq_iff_eq, beq_iff_eq, beq_iff_eq] at e
  exact h (Prod.ext e.1.1 (Prod.ext e.1.2 e.2))
set_option maxHeartbeats 2000000 in
theorem sameEdges_any (w : World) (A B : Option Addr) (c d : Nat) (xs ys : List Edg) (ha : Rs edgC 3 w A xs) (hb : Rs edgC 3 w B ys) (hn : xs.length ≤ 1000000000) :
    Calls Tryd.prog 16 #[.slice A xs.length c, .slice B ys.length d] w fun e w' => e = .returned (.bool (decide (xs = ys))) ∧ ∃ q, w' = w.drewN q := by
  have HA := Lib.hid ha; have HB := Lib.hid hb
  clear ha hb
  by_cases hnm : xs.length = ys.length
  · have hneq : ((xs.length : Int) != (ys.length : Int)) = false := by rw [hnm]; simp
    have hlI : xs.length ≤ ys.length := by omega
    have hlJ : ys.length ≤ xs.length := by omega
    clear hnm
    go_enter Tryd.func16, Tryd.ntmps16
    go_wp2
    go_loopg [5] xs.length (fun gf vi wr => ∃ i q : Nat, vi = .int .i64 i ∧ i + gf = xs.length ∧ wr = w.drewN q ∧ xs.take i = ys.take i)
    case atStart => exact ⟨0, 0, rfl, by omega, rfl, rfl⟩
    case round =>
      obtain ⟨i, q, rfl, hi, rfl, heq⟩ := hrel
      have HE := Lib.hid heq
      clear heq
      cases gk with
      | zero =>
        obtain rfl : i = xs.length := by omega
        go_wp2
        go_ret
        refine ⟨ret_bool (decide_eq_true ?_).symm, q, rfl⟩
        have h := HE.out
        rwa [List.take_of_length_le (by omega), List.take_of_length_le (by omega)] at h
      | succ gf =>
        have hiI : (i : Int) < (xs.length : Int) := by omega
        have hiJ : (i : Int) < (ys.length : Int) := by omega
        obtain ⟨b, o, x, rfl, _, hx, x1, x2, x3⟩ := edg_at HA.out (i := i) (by omega)
        obtain ⟨b', o', y, rfl, _, hy, y1, y2, y3⟩ := edg_at HB.out (i := i) (by omega)
        have H1 := Lib.hid hx; have H2 := Lib.hid hy
        clear hx hy
        have q2 := edg_guard
        by_cases hxy : x = y
        · have q1 : ∀ w, (binOp .neq 35 (.agg #[.int .i64 x.1, .int .i64 x.2.1, .int .i64 x.2.2]) (.agg #[.int .i64 y.1, .int .i64 y.2.1, .int .i64 y.2.2])).run Tryd.prog w = .ok (.bool false) w := fun w => by
            rw [run_neq_edg, hxy]; simp
          have HXY := Lib.hid hxy
          clear hxy
          go_wp2_with fail
          go_quiet (fail)
          go_wp2
          go_roundg gf
          case measure => omega
          case rel => exact ⟨i + 1, q + nq, by go_num, by omega, rfl, by rw [List.take_add_one, List.take_add_one, HE.out, H1.out, H2.out, HXY.out]⟩
        · have q1 : ∀ w, (binOp .neq 35 (.agg #[.int .i64 x.1, .int .i64 x.2.1, .int .i64 x.2.2]) (.agg #[.int .i64 y.1, .int .i64 y.2.1, .int .i64 y.2.2])).run Tryd.prog w = .ok (.bool true) w := fun w => by
            rw [run_neq_edg, edg_ne hxy]; rfl
          have HXY := Lib.hid hxy
          clear hxy
          go_wp2_with fail
          go_quiet (fail)
          go_wp2
          go_ret
          refine ⟨ret_bool (decide_eq_false fun e => HXY.out ?_).symm, q + nq, by rw [World.drewN_drewN]⟩
          have h1 := H1.out; have h2 := H2.out
          rw [e, h2] at h1
          exact (Option.some.inj h1).symm
  · have hne : ¬ xs = ys := fun e => hnm (by rw [e])
    have hneq : ((xs.length : Int) != (ys.length : Int)) = true := by rw [bne_iff_ne]; omega
    have HN := Lib.hid hne
    clear hnm hne
    go_enter Tryd.func16, Tryd.ntmps16
    go_wp2
    go_ret
    exact ⟨ret_bool (decide_eq_false HN.out).symm, 0, rfl⟩
set_option maxHeartbeats 2000000 in
theorem equalE_any (w : World) (A B : Option Addr) (c d : Nat) (xs ys : List Edg) (ha : Rs edgC 3 w A xs) (hb : Rs edgC 3 w B ys) (hn : xs.length ≤ 1000000000) :
    Calls Tryd.prog 41 #[.slice A xs.length c, .slice B ys.length d] w fun e w' => e = .returned (.bool (decide (xs = ys))) ∧ ∃ q, w' = w.drewN q := by
  have HA := Lib.hid ha; have HB := Lib.hid hb
  clear ha hb
  by_cases hnm : xs.length = ys.length
  · have hneq : ((xs.length : Int) != (ys.length : Int)) = false := by rw [hnm]; simp
    have hlI : xs.length ≤ ys.length := by omega
    have hlJ : ys.length ≤ xs.length := by omega
    clear hnm
    go_enter Tryd.func41, Tryd.ntmps41
    go_wp2
    go_loopg [13] xs.length (fun gf vi wr => ∃ i q : Nat, vi = .int .i64 i ∧ i + gf = xs.length ∧ wr = w.drewN q ∧ xs.take i = ys.take i)
    case atStart => exact ⟨0, 0, rfl, by omega, rfl, rfl⟩
    case round =>
      obtain ⟨i, q, rfl, hi, rfl, heq⟩ := hrel
      have HE := Lib.hid heq
      clear heq
      cases gk with
      | zero =>
        obtain rfl : i = xs.length := by omega
        go_wp2
        go_ret
        refine ⟨ret_bool (decide_eq_true ?_).symm, q, rfl⟩
        have h := HE.out
        rwa [List.take_of_length_le (by omega), List.take_of_length_le (by omega)] at h
      | succ gf =>
        have hiI : (i : Int) < (xs.length : Int) := by omega
        have hiJ : (i : Int) < (ys.length : Int) := by omega
        obtain ⟨b, o, x, rfl, _, hx, x1, x2, x3⟩ := edg_at HA.out (i := i) (by omega)
        obtain ⟨b', o', y, rfl, _, hy, y1, y2, y3⟩ := edg_at HB.out (i := i) (by omega)
        have H1 := Lib.hid hx; have H2 := Lib.hid hy
        clear hx hy
        have q2 := edg_guard
        by_cases hxy : x = y
        · have q1 : ∀ w, (binOp .neq 35 (.agg #[.int .i64 x.1, .int .i64 x.2.1, .int .i64 x.2.2]) (.agg #[.int .i64 y.1, .int .i64 y.2.1, .int .i64 y.2.2])).run Tryd.prog w = .ok (.bool false) w := fun w => by
            rw [run_neq_edg, hxy]; simp
          have HXY := Lib.hid hxy
          clear hxy
          go_wp2_with fail
          go_quiet (fail)
          go_wp2
          go_roundg gf
          case measure => omega
          case rel => exact ⟨i + 1, q + nq, by go_num, by omega, rfl, by rw [List.take_add_one, List.take_add_one, HE.out, H1.out, H2.out, HXY.out]⟩
        · have q1 : ∀ w, (binOp .neq 35 (.agg #[.int .i64 x.1, .int .i64 x.2.1, .int .i64 x.2.2]) (.agg #[.int .i64 y.1, .int .i64 y.2.1, .int .i64 y.2.2])).run Tryd.prog w = .ok (.bool true) w := fun w => by
            rw [run_neq_edg, edg_ne hxy]; rfl
          have HXY := Lib.hid hxy
          clear hxy
          go_wp2_with fail
          go_quiet (fail)
          go_wp2
          go_ret
          refine ⟨ret_bool (decide_eq_false fun e => HXY.out ?_).symm, q + nq, by rw [World.drewN_drewN]⟩
          have h1 := H1.out; have h2 := H2.out
          rw [e, h2] at h1
          exact (Option.some.inj h1).symm
  · have hne : ¬ xs = ys := fun e => hnm (by rw [e])
    have hneq : ((xs.length : Int) != (ys.length : Int)) = true := by rw [bne_iff_ne]; omega
    have HN := Lib.hid hne
    clear hnm hne
    go_enter Tryd.func41, Tryd.ntmps41
    go_wp2
    go_ret
    exact ⟨ret_bool (decide_eq_false HN.out).symm, 0, rfl⟩
set_option maxHeartbeats 2000000 in
theorem refSame_any (w : World) (n m : Int) (A B : Option Addr) (c d : Nat) (xs ys : List Edg) (ha : Rs edgC 3 w A xs) (hb : Rs edgC 3 w B ys) (hn : xs.length ≤ 1000000000) :
    Calls Tryd.prog 12 #[.agg #[.int .i64 n, .slice A xs.length c], .agg #[.int .i64 m, .slice B ys.length d]] w fun e w' => e = .returned (.bool (decide (n = m ∧ xs = ys))) ∧ Below w.heap.size w w' := by
  have hB : Below w.heap.size w ((w.alloc (.cells #[.int .i64 n, .slice A xs.length c] 25)).alloc (.cells #[.int .i64 m, .slice B ys.length d] 25)) := ((Below.refl _ _).alloc (Nat.le_refl _) _).alloc (by simp) _
  have hc := sameEdges_any _ A B c d xs ys ((ha.alloc (.cells #[.int .i64 n, .slice A xs.length c] 25)).alloc (.cells #[.int .i64 m, .slice B ys.length d] 25)) ((hb.alloc (.cells #[.int .i64 n, .slice A xs.length c] 25)).alloc (.cells #[.int .i64 m, .slice B ys.length d] 25)) hn
  by_cases hnm : n = m
  · have e : decide (n = m ∧ xs = ys) = decide (xs = ys) := by simp [hnm]
    rw [e]
    subst hnm
    have HC := Lib.hid hc; have HB := Lib.hid hB
    clear hc hB e ha hb
    go_enter Tryd.func12, Tryd.ntmps12
    go_wp2_with fail
    refine HC.out.mono ?_
    rintro e w' ⟨rfl, q, rfl⟩
    go_wp2
    go_ret
    exact ⟨rfl, below_drewN HB.out q⟩
  · have e : decide (n = m ∧ xs = ys) = false := by simp [hnm]
    rw [e]
    have e1 : (n == m) = false := by simp [hnm]
    have HB := Lib.hid hB
    clear hc hB e ha hb hnm
    go_enter Tryd.func12, Tryd.ntmps12
    go_wp2
    go_ret
    exact ⟨rfl, HB.out⟩
set_option maxHeartbeats 2000000 in
theorem same_any (w : World) (n m : Int) (A B : Option Addr) (c d : Nat) (xs ys : List Edg) (ha : Rs edgC 3 w A xs) (hb : Rs edgC 3 w B ys) (hn : xs.length ≤ 1000000000) :
    Calls Tryd.prog 20 #[.agg #[.int .i64 n, .slice A xs.length c], .agg #[.int .i64 m, .slice B ys.length d]] w fun e w' => e = .returned (.bool (decide (n = m ∧ xs = ys))) ∧ Below w.heap.size w w' := by
  have hB : Below w.heap.size w ((w.alloc (.cells #[.int .i64 n, .slice A xs.length c] 25)).alloc (.cells #[.int .i64 m, .slice B ys.length d] 25)) := ((Below.refl _ _).alloc (Nat.le_refl _) _).alloc (by simp) _
  have hc := equalE_any _ A B c d xs ys ((ha.alloc (.cells #[.int .i64 n, .slice A xs.length c] 25)).alloc (.cells #[.int .i64 m, .slice B ys.length d] 25)) ((hb.alloc (.cells #[.int .i64 n, .slice A xs.length c] 25)).alloc (.cells #[.int .i64 m, .slice B ys.length d] 25)) hn
  by_cases hnm : n = m
  · have e : decide (n = m ∧ xs = ys) = decide (xs = ys) := by simp [hnm]
    rw [e]
    subst hnm
    have HC := Lib.hid hc; have HB := Lib.hid hB
    clear hc hB e ha hb
    go_enter Tryd.func20, Tryd.ntmps20
    go_wp2_with fail
    refine HC.out.mono ?_
    rintro e w' ⟨rfl, q, rfl⟩
    go_wp2
    go_ret
    exact ⟨rfl, below_drewN HB.out q⟩
  · have e : decide (n = m ∧ xs = ys) = false := by simp [hnm]
    rw [e]
    have e1 : (n == m) = false := by simp [hnm]
    have HB := Lib.hid hB
    clear hc hB e ha hb hnm
    go_enter Tryd.func20, Tryd.ntmps20
    go_wp2
    go_ret
    exact ⟨rfl, HB.out⟩
end Go.Proofs.YtknigkjbnaoldaaDoor
