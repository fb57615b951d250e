/- The worker of a vertex, both texts; a number brought into a range. -/
import Derived.Test.YtbmjmpojabbegaaInbA
namespace Go.Proofs.Ytbmjmpojabbegaa
open Go.RowKit

/-- the worker of a vertex -/
def ofD (v n : Int) : Int := if v < 0 ∨ 512 ≤ v ∨ n < 1 ∨ 64 < n then -1 else 2654435761 * v % 4294967296 * n / 4294967296
theorem ofD_bd (v n : Int) (h : ¬ (v < 0 ∨ 512 ≤ v ∨ n < 1 ∨ 64 < n)) : 0 ≤ ofD v n ∧ ofD v n < n := by
  unfold ofD
  rw [if_neg h]
  have h1 : 0 ≤ 2654435761 * v % 4294967296 := Int.emod_nonneg _ (by decide)
  have h2 : 2654435761 * v % 4294967296 < 4294967296 := Int.emod_lt_of_pos _ (by decide)
  generalize 2654435761 * v % 4294967296 = x at *
  have h3 : 0 ≤ x * n := Int.mul_nonneg h1 (by omega)
  have h4 : x * n < 4294967296 * n := Int.mul_lt_mul_of_pos_right h2 (by omega)
  omega
set_option maxHeartbeats 1000000 in
theorem may_any (n : Int) (w : World) : Calls Try.prog 34 #[.int .i64 n] w fun e w' => e = .returned (.bool (decide (1 ≤ n ∧ n ≤ 64))) ∧ w' = w := by
  by_cases h1 : 1 ≤ n
  · by_cases h2 : n ≤ 64
    · rw [decide_eq_true ⟨h1, h2⟩]
      go_enter Try.func34, Try.ntmps34
      go_wp2
      go_ret
      exact ⟨rfl, rfl⟩
    · rw [decide_eq_false (by omega)]
      go_enter Try.func34, Try.ntmps34
      go_wp2
      go_ret
      exact ⟨rfl, rfl⟩
  · rw [decide_eq_false (by omega)]
    go_enter Try.func34, Try.ntmps34
    go_wp2
    go_ret
    exact ⟨rfl, rfl⟩
theorem wrap_u64 (x : Int) : IntKind.u64.wrap x = x % 18446744073709551616 := by simp [IntKind.wrap, IntKind.signed, IntKind.bits]
theorem wrap_u32 (x : Int) : IntKind.u32.wrap x = x % 4294967296 := by simp [IntKind.wrap, IntKind.signed, IntKind.bits]
set_option maxHeartbeats 1000000 in
theorem of_calls (v n : Int) (w : World) : Calls Try.prog 24 #[.int .i64 v, .int .i64 n] w fun e w' => e = .returned (.int .i64 (ofD v n)) ∧ w' = w := by
  by_cases h1 : v < 0
  · have hd : ofD v n = -1 := by unfold ofD; rw [if_pos (.inl h1)]
    rw [hd]
    clear hd
    go_enter Try.func24, Try.ntmps24
    go_wp2
    go_ret
    exact ⟨rfl, rfl⟩
  · by_cases h2 : 512 ≤ v
    · have hd : ofD v n = -1 := by unfold ofD; rw [if_pos (.inr (.inl h2))]
      rw [hd]
      clear hd
      go_enter Try.func24, Try.ntmps24
      go_wp2
      go_ret
      exact ⟨rfl, rfl⟩
    · have hm := may_any n w
      by_cases h3 : 1 ≤ n ∧ n ≤ 64
      · have hd : ofD v n = 2654435761 * v % 4294967296 * n / 4294967296 := by unfold ofD; rw [if_neg (by omega)]
        have hb1 : 0 ≤ 2654435761 * v % 4294967296 := Int.emod_nonneg _ (by decide)
        have hb2 : 2654435761 * v % 4294967296 < 4294967296 := Int.emod_lt_of_pos _ (by decide)
        have hb3 : 0 ≤ 2654435761 * v % 4294967296 * n := Int.mul_nonneg hb1 (by omega)
        have hb4 : 2654435761 * v % 4294967296 * n ≤ 4294967296 * 64 := by
          have := Int.mul_le_mul (Int.le_of_lt hb2) h3.2 (by omega) (by decide)
          omega
        rw [decide_eq_true h3] at hm
        have HM := Lib.hid hm
        rw [Int.mul_comm 2654435761 v] at hd hb1 hb2 hb3 hb4
        rw [hd]
        clear hd hm
        go_enter Try.func24, Try.ntmps24
        go_wp2_with fail
        refine HM.out.mono ?_
        rintro e w' ⟨rfl, rfl⟩
        go_wp2
        go_ret
        exact ⟨rfl, rfl⟩
      · have hd : ofD v n = -1 := by unfold ofD; rw [if_pos (by omega)]
        rw [decide_eq_false h3] at hm
        have HM := Lib.hid hm
        rw [hd]
        clear hd hm h3
        go_enter Try.func24, Try.ntmps24
        go_wp2_with fail
        refine HM.out.mono ?_
        rintro e w' ⟨rfl, rfl⟩
        go_wp2
        go_ret
        exact ⟨rfl, rfl⟩
set_option maxHeartbeats 1000000 in
theorem refOf_calls (v n : Int) (w : World) : Calls Try.prog 25 #[.int .i64 v, .int .i64 n] w fun e w' => e = .returned (.int .i64 (ofD v n)) ∧ w' = w := by
  by_cases h : v < 0 ∨ 512 ≤ v ∨ n < 1 ∨ 64 < n
  · have hd : ofD v n = -1 := by unfold ofD; rw [if_pos h]
    rw [hd]
    clear hd
    by_cases h1 : v < 0
    · clear h
      go_enter Try.func25, Try.ntmps25
      go_wp2
      go_ret
      exact ⟨rfl, rfl⟩
    · by_cases h2 : 512 ≤ v
      · clear h
        go_enter Try.func25, Try.ntmps25
        go_wp2
        go_ret
        exact ⟨rfl, rfl⟩
      · by_cases h3 : n < 1
        · clear h
          go_enter Try.func25, Try.ntmps25
          go_wp2
          go_ret
          exact ⟨rfl, rfl⟩
        · have h4 : 64 < n := by omega
          clear h
          go_enter Try.func25, Try.ntmps25
          go_wp2
          go_ret
          exact ⟨rfl, rfl⟩
  · have hd : ofD v n = 2654435761 * v % 4294967296 * n / 4294967296 := by unfold ofD; rw [if_neg h]
    have h1 : ¬ v < 0 := by omega
    have h2 : ¬ 512 ≤ v := by omega
    have h3 : ¬ n < 1 := by omega
    have h4 : ¬ 64 < n := by omega
    have hb1 : 0 ≤ 2654435761 * v % 4294967296 := Int.emod_nonneg _ (by decide)
    have hb2 : 2654435761 * v % 4294967296 < 4294967296 := Int.emod_lt_of_pos _ (by decide)
    have hb3 : 0 ≤ 2654435761 * v % 4294967296 * n := Int.mul_nonneg hb1 (by omega)
    have hb4 : 2654435761 * v % 4294967296 * n ≤ 4294967296 * 64 := by
      have := Int.mul_le_mul (Int.le_of_lt hb2) (show n ≤ 64 by omega) (by omega) (by decide)
      omega
    rw [hd]
    clear hd h
    go_enter Try.func25, Try.ntmps25
    go_wp2
    go_ret
    exact ⟨rfl, rfl⟩
/-- a number brought from 0 up to n, n left out -/
def pickD (i n : Int) : Int := if n ≤ 0 then 0 else (i.tmod n + n).tmod n
theorem pickD_bd (i n : Int) (h : 0 < n) : 0 ≤ pickD i n ∧ pickD i n < n := by
  unfold pickD
  rw [if_neg (by omega)]
  have h1 := Int.lt_tmod_of_pos i h
  exact ⟨Int.tmod_nonneg _ (by omega), Int.tmod_lt_of_pos _ h⟩
set_option maxHeartbeats 1000000 in
theorem pick_any (i n : Int) (w : World) (h : 0 < n) (hn : n ≤ 1000000000000) : Calls Try.prog 18 #[.int .i64 i, .int .i64 n] w fun e w' => e = .returned (.int .i64 (pickD i n)) ∧ w' = w := by
  have hp : pickD i n = (i.tmod n + n).tmod n := by unfold pickD; rw [if_neg (by omega)]
  have h1 := Int.lt_tmod_of_pos i h
  have h2 := Int.tmod_lt_of_pos i h
  have hn0 : (n == 0) = false := by simp; omega
  have hn1 : ¬ n = 0 := by omega
  have hn2 : ¬ n = -1 := by omega
  rw [hp, Int.tmod_eq_emod_of_nonneg (by omega)]
  clear hp
  go_enter Try.func18, Try.ntmps18
  go_wp2
  go_ret
  exact ⟨rfl, rfl⟩
end Go.Proofs.Ytbmjmpojabbegaa
