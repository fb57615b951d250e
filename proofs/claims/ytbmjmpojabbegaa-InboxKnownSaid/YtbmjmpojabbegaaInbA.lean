/- Combining two values: distances, both programs' texts. -/
import Derived.Test.YtbmjmpojabbegaaMem
import Derived.Test.YtbmjmpojabbegaaRows
import Derived.WalkKit
import Derived.WalkLawsBesides
import Derived.WalkSpells
import Derived.BigQuiet
import Derived.Deep.QuietTactic
import Derived.Lib.Hide
import Derived.Outline
import Derived.IntWalk
namespace Go.Proofs.Ytbmjmpojabbegaa
open Go.RowKit

theorem ret_i64 {k : IntKind} {a b : Int} (h : a = b) : Ending.returned (.int k a) = .returned (.int k b) := by rw [h]
/-- a number, counted as a distance -/
def distD (a : Int) : Int := min (max a 0) 4611686018427387904
def addD (a b : Int) : Int := min (distD a + distD b) 4611686018427387904
/-- what two values of a vertex become -/
def combD (k : Int) (a b : Int) : Int := if k = 1 then addD a b else if k = 2 ∨ k = 3 then min a b else 0
theorem distD_bd (a : Int) : 0 ≤ distD a ∧ distD a ≤ 4611686018427387904 := by unfold distD; omega
theorem addD_bd (a b : Int) : 0 ≤ addD a b ∧ addD a b ≤ 4611686018427387904 := by unfold addD; have := distD_bd a; have := distD_bd b; omega
theorem combD_bd (k a b : Int) (ha : -9223372036854775808 ≤ a ∧ a ≤ 9223372036854775807) (hb : -9223372036854775808 ≤ b ∧ b ≤ 9223372036854775807) : -9223372036854775808 ≤ combD k a b ∧ combD k a b ≤ 9223372036854775807 := by
  unfold combD
  have := addD_bd a b
  split
  · omega
  · split <;> omega
set_option maxHeartbeats 1000000 in
theorem distance_any (a : Int) (w : World) : Calls Try.prog 74 #[.int .i64 a] w fun e w' => e = .returned (.int .i64 (distD a)) ∧ w' = w := by
  go_enter Try.func74, Try.ntmps74
  go_wp2
  all_goals
    go_ret
    refine ⟨ret_i64 ?_, rfl⟩
    unfold distD
    omega
set_option maxHeartbeats 1000000 in
theorem refdist_any (a : Int) (w : World) : Calls Try.prog 52 #[.int .i64 a] w fun e w' => e = .returned (.int .i64 (distD a)) ∧ w' = w := by
  go_enter Try.func52, Try.ntmps52
  go_wp2
  all_goals
    go_ret
    refine ⟨ret_i64 ?_, rfl⟩
    unfold distD
    omega
set_option maxHeartbeats 1000000 in
theorem fixedAdd_any (a b : Int) (w : World) : Calls Try.prog 73 #[.int .i64 a, .int .i64 b] w fun e w' => e = .returned (.int .i64 (addD a b)) ∧ w' = w := by
  have h1 := distD_bd a
  have h2 := distD_bd b
  go_enter Try.func73, Try.ntmps73
  go_wp2_with fail
  refine (distance_any _ _).mono ?_
  rintro e w' ⟨rfl, rfl⟩
  go_wp2_with fail
  refine (distance_any _ _).mono ?_
  rintro e w' ⟨rfl, rfl⟩
  go_wp2
  all_goals
    go_ret
    refine ⟨ret_i64 ?_, rfl⟩
    unfold addD
    omega
set_option maxHeartbeats 1000000 in
theorem refAdd_any (a b : Int) (w : World) : Calls Try.prog 46 #[.int .i64 a, .int .i64 b] w fun e w' => e = .returned (.int .i64 (addD a b)) ∧ w' = w := by
  have h1 := distD_bd a
  have h2 := distD_bd b
  go_enter Try.func46, Try.ntmps46
  go_wp2_with fail
  refine (refdist_any _ _).mono ?_
  rintro e w' ⟨rfl, rfl⟩
  go_wp2_with fail
  refine (refdist_any _ _).mono ?_
  rintro e w' ⟨rfl, rfl⟩
  go_wp2
  all_goals
    go_ret
    refine ⟨ret_i64 ?_, rfl⟩
    unfold addD
    omega
set_option maxHeartbeats 1000000 in
theorem rank_comb (a b : Int) (w : World) : Calls Try.prog 69 #[.agg #[], .int .i64 a, .int .i64 b] w fun e w' => e = .returned (.int .i64 (addD a b)) ∧ Below w.heap.size w w' := by
  go_enter Try.func69, Try.ntmps69
  go_wp2_with fail
  refine (fixedAdd_any _ _ _).mono ?_
  rintro e w' ⟨rfl, rfl⟩
  go_wp2
  go_ret
  exact ⟨rfl, (Below.refl _ _).alloc (Nat.le_refl _) _⟩
set_option maxHeartbeats 1000000 in
theorem less_comb (a b : Int) (w : World) : Calls Try.prog 75 #[.agg #[], .int .i64 a, .int .i64 b] w fun e w' => e = .returned (.int .i64 (min a b)) ∧ Below w.heap.size w w' := by
  go_enter Try.func75, Try.ntmps75
  go_wp2
  all_goals
    go_ret
    exact ⟨ret_i64 (by omega), (Below.refl _ _).alloc (Nat.le_refl _) _⟩
/-- a job's program -/
def progV (k : Int) : Value := if k = 1 then .iface 76 (.agg #[]) else if k = 2 then .iface 79 (.agg #[]) else if k = 3 then .iface 80 (.agg #[]) else .nilIface
set_option maxHeartbeats 1000000 in
theorem of_any (k s o d e' : Int) (w : World) : Calls Try.prog 35 #[.agg #[.int .u8 k, .int .i64 s, .int .i64 o, .int .i64 d, .int .i64 e']] w fun e w' => e = .returned (progV k) ∧ Below w.heap.size w w' := by
  by_cases h1 : k = 1
  · subst h1
    go_enter Try.func35, Try.ntmps35
    go_wp2
    go_ret
    exact ⟨rfl, (Below.refl _ _).alloc (Nat.le_refl _) _⟩
  · by_cases h2 : k = 2
    · subst h2
      go_enter Try.func35, Try.ntmps35
      go_wp2
      go_ret
      exact ⟨rfl, (Below.refl _ _).alloc (Nat.le_refl _) _⟩
    · by_cases h3 : k = 3
      · subst h3
        go_enter Try.func35, Try.ntmps35
        go_wp2
        go_ret
        exact ⟨rfl, (Below.refl _ _).alloc (Nat.le_refl _) _⟩
      · have hp : progV k = .nilIface := by unfold progV; rw [if_neg h1, if_neg h2, if_neg h3]
        rw [hp]
        have e1 : (k == 1) = false := by simp [h1]
        have e2 : (k == 2) = false := by simp [h2]
        have e3 : (k == 3) = false := by simp [h3]
        clear h1 h2 h3 hp
        go_enter Try.func35, Try.ntmps35
        go_wp2
        go_ret
        exact ⟨rfl, (Below.refl _ _).alloc (Nat.le_refl _) _⟩
end Go.Proofs.Ytbmjmpojabbegaa
