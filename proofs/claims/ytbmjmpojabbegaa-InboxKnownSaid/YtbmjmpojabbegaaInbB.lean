/- Combining two values: both programs' calls. -/
import Derived.Test.YtbmjmpojabbegaaInbA
import Derived.Deep.RegionWith
namespace Go.Proofs.Ytbmjmpojabbegaa
open Go.RowKit

set_option maxHeartbeats 1000000 in
theorem refComb_any (k s o d e' a b : Int) (w : World) : Calls Try.prog 33 #[.agg #[.int .u8 k, .int .i64 s, .int .i64 o, .int .i64 d, .int .i64 e'], .int .i64 a, .int .i64 b] w fun e w' => e = .returned (.int .i64 (combD k a b)) ∧ Below w.heap.size w w' := by
  by_cases h1 : k = 1
  · subst h1
    have hc : combD 1 a b = addD a b := rfl
    rw [hc]
    clear hc
    go_enter Try.func33, Try.ntmps33
    go_wp2_with fail
    refine (refAdd_any _ _ _).mono ?_
    rintro e w' ⟨rfl, rfl⟩
    go_wp2
    go_ret
    exact ⟨rfl, (Below.refl _ _).alloc (Nat.le_refl _) _⟩
  · by_cases h2 : k = 2 ∨ k = 3
    · have hc : combD k a b = min a b := by unfold combD; rw [if_neg h1, if_pos h2]
      have Hc := Lib.hid hc
      clear hc
      rcases h2 with rfl | rfl
      all_goals
        clear h1
        go_enter Try.func33, Try.ntmps33
        go_wp2
        all_goals
          go_ret
          exact ⟨ret_i64 (by rw [Hc.out]; omega), (Below.refl _ _).alloc (Nat.le_refl _) _⟩
    · have hc : combD k a b = 0 := by unfold combD; rw [if_neg h1, if_neg h2]
      have e1 : (k == 1) = false := by simp [h1]
      have e2 : (k == 2) = false := by rw [beq_eq_false_iff_ne]; omega
      have e3 : (k == 3) = false := by rw [beq_eq_false_iff_ne]; omega
      rw [hc]
      clear h1 h2 hc
      go_enter Try.func33, Try.ntmps33
      go_wp2
      go_ret
      exact ⟨rfl, (Below.refl _ _).alloc (Nat.le_refl _) _⟩
theorem meth1 (w : World) : (method 213 76 (.agg #[]) "treadwheel/algos.combine").run Try.prog w = .ok (69, .agg #[]) w := by kernel_rfl
theorem meth2 (w : World) : (method 213 79 (.agg #[]) "treadwheel/algos.combine").run Try.prog w = .ok (75, .agg #[]) w := by kernel_rfl
theorem meth3 (w : World) : (method 213 80 (.agg #[]) "treadwheel/algos.combine").run Try.prog w = .ok (75, .agg #[]) w := by kernel_rfl
set_option maxRecDepth 100000 in
set_option maxHeartbeats 1000000 in
theorem comb_any (k s o d e' a b : Int) (w : World) : Calls Try.prog 29 #[.agg #[.int .u8 k, .int .i64 s, .int .i64 o, .int .i64 d, .int .i64 e'], .int .i64 a, .int .i64 b] w fun e w' => e = .returned (.int .i64 (combD k a b)) ∧ Below w.heap.size w w' := by
  have m1 := meth1; have m2 := meth2; have m3 := meth3
  have h0 : Below w.heap.size w (w.alloc (.cells #[.int .u8 k, .int .i64 s, .int .i64 o, .int .i64 d, .int .i64 e'] 23)) := (Below.refl _ _).alloc (Nat.le_refl _) _
  have H0 := Lib.hid h0
  clear h0
  by_cases h1 : k = 1
  · subst h1
    have hc : combD 1 a b = addD a b := rfl
    rw [hc]
    clear hc m2 m3
    go_enter Try.func29, Try.ntmps29
    go_wp2_with fail
    refine (of_any _ _ _ _ _ _).mono ?_
    rintro e w' ⟨rfl, hb⟩
    have HB := Lib.hid hb
    clear hb
    rw [show progV 1 = .iface 76 (.agg #[]) from rfl]
    go_wp2_with fail
    refine (rank_comb _ _ _).mono ?_
    rintro e w2 ⟨rfl, hb2⟩
    have HB2 := Lib.hid hb2
    clear hb2
    go_wp2
    go_ret
    exact ⟨rfl, (H0.out.trans (HB.out.mono H0.out.size)).trans (HB2.out.mono (H0.out.trans (HB.out.mono H0.out.size)).size)⟩
  · clear m1
    by_cases h2 : k = 2 ∨ k = 3
    · have hc : combD k a b = min a b := by unfold combD; rw [if_neg h1, if_pos h2]
      rw [hc]
      clear hc h1
      rcases h2 with rfl | rfl
      · clear m3
        go_enter Try.func29, Try.ntmps29
        go_wp2_with fail
        refine (of_any _ _ _ _ _ _).mono ?_
        rintro e w' ⟨rfl, hb⟩
        have HB := Lib.hid hb
        clear hb
        rw [show progV 2 = .iface 79 (.agg #[]) from rfl]
        go_wp2_with fail
        refine (less_comb _ _ _).mono ?_
        rintro e w2 ⟨rfl, hb2⟩
        have HB2 := Lib.hid hb2
        clear hb2
        go_wp2
        go_ret
        exact ⟨rfl, (H0.out.trans (HB.out.mono H0.out.size)).trans (HB2.out.mono (H0.out.trans (HB.out.mono H0.out.size)).size)⟩
      · clear m2
        go_enter Try.func29, Try.ntmps29
        go_wp2_with fail
        refine (of_any _ _ _ _ _ _).mono ?_
        rintro e w' ⟨rfl, hb⟩
        have HB := Lib.hid hb
        clear hb
        rw [show progV 3 = .iface 80 (.agg #[]) from rfl]
        go_wp2_with fail
        refine (less_comb _ _ _).mono ?_
        rintro e w2 ⟨rfl, hb2⟩
        have HB2 := Lib.hid hb2
        clear hb2
        go_wp2
        go_ret
        exact ⟨rfl, (H0.out.trans (HB.out.mono H0.out.size)).trans (HB2.out.mono (H0.out.trans (HB.out.mono H0.out.size)).size)⟩
    · have hc : combD k a b = 0 := by unfold combD; rw [if_neg h1, if_neg h2]
      have hp : progV k = .nilIface := by unfold progV; rw [if_neg h1, if_neg (by omega), if_neg (by omega)]
      rw [hc]
      have HP := Lib.hid hp
      clear hc h1 h2 hp m2 m3
      go_enter Try.func29, Try.ntmps29
      go_wp2_with fail
      refine (of_any _ _ _ _ _ _).mono ?_
      rintro e w' ⟨rfl, hb⟩
      have HB := Lib.hid hb
      clear hb
      rw [HP.out]
      go_wp2
      go_ret
      exact ⟨rfl, H0.out.trans (HB.out.mono H0.out.size)⟩
end Go.Proofs.Ytbmjmpojabbegaa
