/- Walks of the words package's digits and their reference: each function returns what the plain function says. -/
import Derived.Test.YtggegefeagkhkaaDoorRows
import Derived.Test.YtggegefeagkhkaaDoorWordsS
import Derived.WalkKit
import Derived.WalkLawsBesides
import Derived.WalkSpells
import Derived.BigQuiet
import Derived.Deep.QuietTactic
import Derived.Outline
import Derived.Lib.Hide
namespace Go.Proofs.YtggegefeagkhkaaDoor
open Go.RowKit

/-- the table of first digits lies in memory -/
def Firsts (w : World) : Prop := w.cell? ⟨1, 0, none⟩ = some (.int .i32 48) ∧ w.cell? ⟨1, 1, none⟩ = some (.int .i32 1632) ∧ w.cell? ⟨1, 2, none⟩ = some (.int .i32 65296)

theorem sub32 (r f : Int) (h1 : -2147483648 ≤ r) (h2 : r ≤ 2147483647) (h3 : 0 ≤ f) (h4 : f ≤ 65296) :
    ((0 ≤ wrap32 (r - f) ∧ wrap32 (r - f) ≤ 9) ↔ (f ≤ r ∧ r ≤ f + 9)) ∧ (f ≤ r → wrap32 (r - f) = r - f) := by
  unfold wrap32
  constructor
  · constructor <;> intro h <;> omega
  · intro h; omega
theorem digit_end (r : Int) {w : World} {fn : Func} {a : Act} {k v : Int} (hk : k = kindOf r) (hv : v = digitOf r)
    (h : bodyPost Tryd.prog fn (fun e w' => e = .returned (.tuple #[.int .i64 k, .int .i64 v]) ∧ w = w') .ret a w) :
    bodyPost Tryd.prog fn (fun e w' => e = .returned (.tuple #[.int .i64 (kindOf r), .int .i64 (digitOf r)]) ∧ w = w') .ret a w := by
  subst hk hv; exact h
set_option maxHeartbeats 1000000 in
theorem digit_any (r : Int) (w : World) (h1 : -2147483648 ≤ r) (h2 : r ≤ 2147483647) (hF : Firsts w) :
    Calls Tryd.prog 72 #[.int .i32 r] w fun e w' => e = .returned (.tuple #[.int .i64 (kindOf r), .int .i64 (digitOf r)]) ∧ w = w' := by
  obtain ⟨c0, c1, c2⟩ := hF
  have i0 : ∀ w, (Instr.index 80 (.agg #[.int .i32 48, .int .i32 1632, .int .i32 65296]) (.int .i64 0)).run Tryd.prog w = .ok (.int .i32 48) w := fun _ => by kernel_rfl
  have i1 : ∀ w, (Instr.index 80 (.agg #[.int .i32 48, .int .i32 1632, .int .i32 65296]) (.int .i64 1)).run Tryd.prog w = .ok (.int .i32 1632) w := fun _ => by kernel_rfl
  have i2 : ∀ w, (Instr.index 80 (.agg #[.int .i32 48, .int .i32 1632, .int .i32 65296]) (.int .i64 2)).run Tryd.prog w = .ok (.int .i32 65296) w := fun _ => by kernel_rfl
  have s0 := sub32 r 48 h1 h2 (by omega) (by omega)
  have s1 := sub32 r 1632 h1 h2 (by omega) (by omega)
  have s2 := sub32 r 65296 h1 h2 (by omega) (by omega)
  have S0 := Lib.hid s0; have S1 := Lib.hid s1; have S2 := Lib.hid s2
  clear s0 s1 s2
  go_enter Tryd.func72, Tryd.ntmps72
  go_wp2
  refine wp_loop_rounds 4 ?_
  rw [rounds_succ]
  go_wp2
  · refine digit_end r ?_ ?_ (?_ : bodyPost _ _ (fun e w' => e = .returned (.tuple #[.int .i64 0, .int .i64 (wrap32 (r - 48))]) ∧ w = w') _ _ _)
    · have := S0.out; unfold kindOf; split <;> (first | omega | (split <;> (first | omega | (split <;> omega))))
    · have := S0.out; unfold digitOf; split <;> (first | omega | (split <;> (first | omega | (split <;> omega))))
    · go_ret2
      exact ⟨rfl, rfl⟩
  all_goals
    rw [rounds_succ]
    go_wp2
    · refine digit_end r ?_ ?_ (?_ : bodyPost _ _ (fun e w' => e = .returned (.tuple #[.int .i64 1, .int .i64 (wrap32 (r - 1632))]) ∧ w = w') _ _ _)
      · have := S0.out; have := S1.out; unfold kindOf; split <;> (first | omega | (split <;> (first | omega | (split <;> omega))))
      · have := S0.out; have := S1.out; unfold digitOf; split <;> (first | omega | (split <;> (first | omega | (split <;> omega))))
      · go_ret2
        exact ⟨rfl, rfl⟩
    all_goals
      rw [rounds_succ]
      go_wp2
      · refine digit_end r ?_ ?_ (?_ : bodyPost _ _ (fun e w' => e = .returned (.tuple #[.int .i64 2, .int .i64 (wrap32 (r - 65296))]) ∧ w = w') _ _ _)
        · have := S0.out; have := S1.out; have := S2.out; unfold kindOf; split <;> (first | omega | (split <;> (first | omega | (split <;> omega))))
        · have := S0.out; have := S1.out; have := S2.out; unfold digitOf; split <;> (first | omega | (split <;> (first | omega | (split <;> omega))))
        · go_ret2
          exact ⟨rfl, rfl⟩
      all_goals
        rw [rounds_succ]
        go_wp2
        refine digit_end r ?_ ?_ (?_ : bodyPost _ _ (fun e w' => e = .returned (.tuple #[.int .i64 (-1), .int .i64 (-1)]) ∧ w = w') _ _ _)
        · have := S0.out; have := S1.out; have := S2.out; unfold kindOf; split <;> (first | omega | (split <;> (first | omega | (split <;> omega))))
        · have := S0.out; have := S1.out; have := S2.out; unfold digitOf; split <;> (first | omega | (split <;> (first | omega | (split <;> omega))))
        · go_ret2
          exact ⟨rfl, rfl⟩
theorem first_any (k : Int) (w : World) (h1 : 0 ≤ k) (h2 : k ≤ 2) :
    Calls Tryd.prog 65 #[.int .i64 k] w fun e w' => e = .returned (.int .i32 (firstOf k)) ∧ Below w.heap.size w w' := by
  have hk : k = 0 ∨ k = 1 ∨ k = 2 := by omega
  rcases hk with rfl | rfl | rfl
  all_goals
    go_enter Tryd.func65, Tryd.ntmps65
    go_wp2
    go_ret
    exact ⟨rfl, (Below.refl _ _).alloc (Nat.le_refl _) _⟩

theorem ret_int {k : IntKind} {a b : Int} (h : a = b) : Ending.returned (.int k a) = .returned (.int k b) := by rw [h]
theorem kind_0 (r : Int) (h : 48 ≤ r ∧ r ≤ 57) : 0 = kindOf r := by unfold kindOf; rw [if_pos h]
theorem kind_1 (r : Int) (h : 1632 ≤ r ∧ r ≤ 1641) : 1 = kindOf r := by unfold kindOf; rw [if_neg (by omega), if_pos h]
theorem kind_2 (r : Int) (h : 65296 ≤ r ∧ r ≤ 65305) : 2 = kindOf r := by unfold kindOf; rw [if_neg (by omega), if_neg (by omega), if_pos h]
theorem kind_3 (r : Int) (h : ¬ (48 ≤ r ∧ r ≤ 57)) (h' : ¬ (1632 ≤ r ∧ r ≤ 1641)) (h'' : ¬ (65296 ≤ r ∧ r ≤ 65305)) : -1 = kindOf r := by
  unfold kindOf; rw [if_neg h, if_neg h', if_neg h'']

set_option maxHeartbeats 1000000 in
theorem kind_any (r : Int) (w : World) (h1 : -2147483648 ≤ r) (h2 : r ≤ 2147483647) :
    Calls Tryd.prog 74 #[.int .i32 r] w fun e w' => e = .returned (.int .i64 (kindOf r)) ∧ Below w.heap.size w w' := by
  have f0 : firstOf 0 = 48 := rfl
  have f1 : firstOf 1 = 1632 := rfl
  have f2 : firstOf 2 = 65296 := rfl
  have hB := Below.refl w.heap.size w
  go_enter Tryd.func74, Tryd.ntmps74
  go_wp2
  refine wp_loop_rounds 4 ?_
  rw [rounds_succ]
  go_wp2_with (go_at_call 65; refine (first_any _ _ (by omega) (by omega)).mono ?_; rintro e w' ⟨rfl, hb⟩; have hB := hB.trans (hb.mono hB.size); clear hb)
  all_goals try (go_ret; exact ⟨ret_int (kind_0 r (by omega)), hB⟩)
  all_goals
    rw [rounds_succ]
    go_wp2_with (go_at_call 65; refine (first_any _ _ (by omega) (by omega)).mono ?_; rintro e w' ⟨rfl, hb⟩; have hB := hB.trans (hb.mono hB.size); clear hb)
  all_goals try (go_ret; exact ⟨ret_int (kind_1 r (by omega)), hB⟩)
  all_goals
    rw [rounds_succ]
    go_wp2_with (go_at_call 65; refine (first_any _ _ (by omega) (by omega)).mono ?_; rintro e w' ⟨rfl, hb⟩; have hB := hB.trans (hb.mono hB.size); clear hb)
  all_goals try (go_ret; exact ⟨ret_int (kind_2 r (by omega)), hB⟩)
  all_goals
    rw [rounds_succ]
    go_wp2
    go_ret
    exact ⟨ret_int (kind_3 r (by omega) (by omega) (by omega)), hB⟩

theorem digitR (r : Int) (w : World) (h1 : -2147483648 ≤ r) (h2 : r ≤ 2147483647) :
    Calls Tryd.prog 75 #[.int .i32 r] w fun e w' => e = .returned (.int .i64 (digitOf r)) ∧ Below w.heap.size w w' := by
  have hB := Below.refl w.heap.size w
  have hf := firstOf_bd (kindOf r)
  by_cases h : kindOf r < 0
  · have hd := Lib.hid (digitOf_no r h)
    go_enter Tryd.func75, Tryd.ntmps75
    go_wp2_with (go_at_call 74; refine (kind_any _ _ h1 h2).mono ?_; rintro e w' ⟨rfl, hb⟩; have hB := hB.trans (hb.mono hB.size); clear hb)
    go_ret
    exact ⟨ret_int hd.out.symm, hB⟩
  · have hd := digitOf_k r (by omega)
    have hp : 0 ≤ kindOf r := by omega
    have HD := Lib.hid hd.1
    have hd1 := hd.2.1
    have hd2 := hd.2.2.1
    have hk2 := hd.2.2.2
    have hr1 : -2147483648 ≤ r - firstOf (kindOf r) := by omega
    clear hd h
    go_enter Tryd.func75, Tryd.ntmps75
    go_wp2_with (first
      | (go_at_call 74; refine (kind_any _ _ h1 h2).mono ?_; rintro e w' ⟨rfl, hb⟩; have hB := hB.trans (hb.mono hB.size); clear hb)
      | (go_at_call 65; refine (first_any _ _ (by omega) (by omega)).mono ?_; rintro e w' ⟨rfl, hb⟩; have hB := hB.trans (hb.mono hB.size); clear hb))
    go_ret
    exact ⟨ret_int HD.out, hB⟩
end Go.Proofs.YtggegefeagkhkaaDoor
