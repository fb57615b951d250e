/- Rows of messages: are two the same? -/
import Derived.Test.YtbmjmpojabbegaaInbA
import Derived.Test.YtbmjmpojabbegaaRec
import Derived.Deep.LoopGhost
import Derived.Laws.StructEq
namespace Go.Proofs.Ytbmjmpojabbegaa
open Go.RowKit

/-- a message: to whom, what -/
def msgC (m : Int × Int) : List Value := [.int .i64 m.1, .int .i64 m.2]
theorem msgC_len (m : Int × Int) : (msgC m).length = 2 := rfl
theorem ret_bool {a b : Bool} (h : a = b) : Ending.returned (.bool a) = .returned (.bool b) := by rw [h]
theorem msg_at {w : World} {A : Option Addr} {l : List (Int × Int)} (h : Rs msgC 2 w A l) {i : Nat} (hi : i < l.length) : ∃ b o m, A = some ⟨b, o, none⟩ ∧ b < w.heap.size ∧ l[i]? = some m ∧
    w.cell? ⟨b, o + i * 2, none⟩ = some (.int .i64 m.1) ∧ w.cell? ⟨b, o + i * 2 + 1, none⟩ = some (.int .i64 m.2) := by
  obtain ⟨b, o, m, hA, hb, hm, hc⟩ := Rs.at_ msgC_len h hi
  exact ⟨b, o, m, hA, hb, hm, hc 0 (by decide), hc 1 (by decide)⟩
theorem msg_guard : Try.prog.eqGuardType Try.prog.depth 29 = false := by kernel_rfl
theorem msg_struct : Try.prog.underlying 29 = some (.struct (Try.prog.fieldsOf 29)) := by kernel_rfl
theorem msg_plain : Try.prog.stoodInHeld 29 = false := by kernel_rfl
theorem run_neq_msg (a b c d : Int) (w : World) : (binOp .neq 29 (.agg #[.int .i64 a, .int .i64 b]) (.agg #[.int .i64 c, .int .i64 d])).run Try.prog w = .ok (.bool (!(a == c && b == d))) w := by
  rw [run_neq_struct, run_equalIn_agg _ _ _ _ _ msg_struct msg_plain]
  cases hac : a == c <;> cases hbd : b == d <;> simp [go_sem, hac, hbd]
set_option maxHeartbeats 2000000 in
theorem sameMessages_any (w : World) (A B : Option Addr) (c d : Nat) (xs ys : List (Int × Int)) (ha : Rs msgC 2 w A xs) (hb : Rs msgC 2 w B ys) (hn : xs.length ≤ 1000000000) :
    Calls Try.prog 10 #[.slice A xs.length c, .slice B ys.length d] w fun e w' => e = .returned (.bool (decide (xs = ys))) ∧ ∃ q, w' = w.drewN q := by
  have HA := Lib.hid ha; have HB := Lib.hid hb
  clear ha hb
  by_cases hnm : xs.length = ys.length
  · have hneq : ((xs.length : Int) != (ys.length : Int)) = false := by rw [hnm]; simp
    have hlI : xs.length ≤ ys.length := by omega
    have hlJ : ys.length ≤ xs.length := by omega
    clear hnm
    go_enter Try.func10, Try.ntmps10
    go_wp2
    go_loopg [5] xs.length (fun gf vi wr => ∃ i q : Nat, vi = .int .i64 i ∧ i + gf = xs.length ∧ wr = w.drewN q ∧ xs.take i = ys.take i)
    case atStart => exact ⟨0, 0, rfl, by omega, rfl, rfl⟩
    case round =>
      obtain ⟨i, q, rfl, hi, rfl, heq⟩ := hrel
      have HE := Lib.hid heq
      clear heq
      cases gk with
      | zero =>
        obtain rfl : i = xs.length := by omega
        go_wp2
        go_ret
        refine ⟨ret_bool (decide_eq_true ?_).symm, q, rfl⟩
        have h := HE.out
        rwa [List.take_of_length_le (by omega), List.take_of_length_le (by omega)] at h
      | succ gf =>
        have hiI : (i : Int) < (xs.length : Int) := by omega
        have hiJ : (i : Int) < (ys.length : Int) := by omega
        obtain ⟨b, o, x, rfl, _, hx, x1, x2⟩ := msg_at HA.out (i := i) (by omega)
        obtain ⟨b', o', y, rfl, _, hy, y1, y2⟩ := msg_at HB.out (i := i) (by omega)
        have H1 := Lib.hid hx; have H2 := Lib.hid hy
        clear hx hy
        have q2 := msg_guard
        by_cases hxy : x = y
        · have q1 : ∀ w, (binOp .neq 29 (.agg #[.int .i64 x.1, .int .i64 x.2]) (.agg #[.int .i64 y.1, .int .i64 y.2])).run Try.prog w = .ok (.bool false) w := fun w => by
            rw [run_neq_msg, hxy]; simp
          have HXY := Lib.hid hxy
          clear hxy
          go_wp2_with fail
          go_quiet (fail)
          go_wp2
          go_roundg gf
          case measure => omega
          case rel => exact ⟨i + 1, q + nq, by go_num, by omega, rfl, by rw [List.take_add_one, List.take_add_one, HE.out, H1.out, H2.out, HXY.out]⟩
        · have q1 : ∀ w, (binOp .neq 29 (.agg #[.int .i64 x.1, .int .i64 x.2]) (.agg #[.int .i64 y.1, .int .i64 y.2])).run Try.prog w = .ok (.bool true) w := fun w => by
            rw [run_neq_msg]
            have : (x.1 == y.1 && x.2 == y.2) = false := by
              rw [Bool.eq_false_iff]
              intro h
              rw [Bool.and_eq_true, beq_iff_eq, beq_iff_eq] at h
              exact hxy (Prod.ext h.1 h.2)
            rw [this]; rfl
          have HXY := Lib.hid hxy
          clear hxy
          go_wp2_with fail
          go_quiet (fail)
          go_wp2
          go_ret
          refine ⟨ret_bool (decide_eq_false fun e => HXY.out ?_).symm, q + nq, by rw [World.drewN_drewN]⟩
          have h1 := H1.out; have h2 := H2.out
          rw [e, h2] at h1
          exact (Option.some.inj h1).symm
  · have hne : ¬ xs = ys := fun e => hnm (by rw [e])
    have hneq : ((xs.length : Int) != (ys.length : Int)) = true := by rw [bne_iff_ne]; omega
    have HN := Lib.hid hne
    clear hnm hne
    go_enter Try.func10, Try.ntmps10
    go_wp2
    go_ret
    exact ⟨ret_bool (decide_eq_false HN.out).symm, 0, rfl⟩
end Go.Proofs.Ytbmjmpojabbegaa
