/- May a report be: the program's. -/
import Derived.Test.YtggegefeagkhkaaDoorRpD
namespace Go.Proofs.YtggegefeagkhkaaDoor
open Go.RowKit

def bad1 (x top : Int) : Bool := decide (x < 0) || decide (top < x)
set_option maxHeartbeats 2000000 in
theorem bad1_any (w : World) (x top : Int) (b : Nat) (hc : w.cell? ⟨b, 0, none⟩ = some (.int .i64 top)) : Calls Tryd.prog 29 #[.int .i64 x, .pointer (some ⟨b, 0, none⟩)] w fun e w' => e = .returned (.bool (bad1 x top)) ∧ w = w' := by
  unfold bad1
  by_cases h0 : x < 0
  · have hb : decide (x < 0) = true := decide_eq_true h0
    go_enter Tryd.func29, Tryd.ntmps29
    go_wp2
    go_ret
    exact ⟨by simp [h0], rfl⟩
  · have hb : decide (x < 0) = false := decide_eq_false h0
    by_cases h1 : top < x
    · have hb1 : decide (top < x) = true := decide_eq_true h1
      go_enter Tryd.func29, Tryd.ntmps29
      go_wp2
      go_ret
      exact ⟨by simp, rfl⟩
    · have hb1 : decide (top < x) = false := decide_eq_false h1
      go_enter Tryd.func29, Tryd.ntmps29
      go_wp2
      go_ret
      exact ⟨by simp, rfl⟩
theorem bad1_no {x top : Int} (h : bad1 x top = false) : 0 ≤ x ∧ x ≤ top := by unfold bad1 at h; simp at h; omega
theorem bad1_yes {x top : Int} (h : bad1 x top = true) : ¬ (0 ≤ x ∧ x ≤ top) := by unfold bad1 at h; simp at h; omega
set_option maxHeartbeats 2000000 in
theorem index1_any (w : World) (A : Option Addr) (c : Nat) (vs : List Int) (top : Int) (b : Nat) (hb : w.cell? ⟨b, 0, none⟩ = some (.int .i64 top)) (h : Rd w 1 A vs.length (vs.map (Value.int .i64))) (hn : vs.length ≤ 1000) :
    Calls Tryd.prog 49 #[.slice A vs.length c, .func (.func 29) #[] #[.pointer (some ⟨b, 0, none⟩)]] w fun e w' => ∃ r : Int, e = .returned (.int .i64 r) ∧ decide (0 ≤ r) = !allR top vs ∧ -1 ≤ r ∧ r ≤ 1000 ∧ w = w' := by
  have HB := Lib.hid hb
  clear hb
  go_enter Tryd.func49, Tryd.ntmps49
  go_wp2
  go_loopg [8] vs.length (fun gf v wr => ∃ k : Nat, v = .int .i64 k ∧ k + gf = vs.length ∧ (∀ y ∈ vs.take k, 0 ≤ y ∧ y ≤ top) ∧ w = wr)
  case atStart => exact ⟨0, rfl, by omega, (fun y hy => by simp at hy), rfl⟩
  case round =>
    obtain ⟨k, rfl, hk, hno, rfl⟩ := hrel
    have HN := Lib.hid hno
    clear hno
    cases gk with
    | zero =>
      obtain rfl : k = vs.length := by omega
      have HD := Lib.hid (all_done HN.out)
      go_wp2
      go_ret
      exact ⟨-1, rfl, by rw [HD.out]; rfl, by omega, by omega, rfl⟩
    | succ gf =>
      obtain ⟨ad, u, rfl, hx, hc⟩ := h.at_ (k := k) (by omega)
      rw [List.getElem?_map, Option.map_eq_some_iff] at hx
      obtain ⟨x, hx, rfl⟩ := hx
      have HX := Lib.hid hx
      have hkI : (k : Int) < (vs.length : Int) := by omega
      clear hx
      go_wp2_with fail
      refine (bad1_any _ x top b HB.out).mono ?_
      rintro e w1 ⟨rfl, rfl⟩
      cases hb : bad1 x top with
      | true =>
        have HBX := Lib.hid (all_bad HX.out (bad1_yes hb))
        clear hb
        go_wp2
        go_ret
        exact ⟨k, rfl, by rw [HBX.out]; simp, by omega, by omega, rfl⟩
      | false =>
        have HT := Lib.hid (all_take HX.out HN.out (bad1_no hb))
        clear hb
        go_wp2
        go_roundg gf
        case measure => omega
        case rel => exact ⟨k + 1, by go_num, by omega, HT.out, rfl⟩
theorem ret_not {p : Prop} [Decidable p] {x b : Bool} (hb : decide p = b) (h : decide p = !x) : Ending.returned (.bool b) = .returned (.bool (!x)) := by rw [← h, hb]
set_option maxHeartbeats 2000000 in
theorem contains1_any (w : World) (A : Option Addr) (c : Nat) (vs : List Int) (top : Int) (b : Nat) (hb : w.cell? ⟨b, 0, none⟩ = some (.int .i64 top)) (h : Rd w 1 A vs.length (vs.map (Value.int .i64))) (hn : vs.length ≤ 1000) :
    Calls Tryd.prog 28 #[.slice A vs.length c, .func (.func 29) #[] #[.pointer (some ⟨b, 0, none⟩)]] w fun e w' => e = .returned (.bool (!allR top vs)) ∧ w = w' := by
  have HI := Lib.hid (index1_any w A c vs top b hb h hn)
  clear hb
  go_enter Tryd.func28, Tryd.ntmps28
  go_wp2_with fail
  refine HI.out.mono ?_
  rintro e w1 ⟨r, rfl, hr, h1, h2, rfl⟩
  have HR := Lib.hid hr
  clear hr
  by_cases h0 : 0 ≤ r
  · have hb : decide (0 ≤ r) = true := decide_eq_true h0
    go_wp2
    go_ret
    exact ⟨ret_not hb HR.out, rfl⟩
  · have hb : decide (0 ≤ r) = false := decide_eq_false h0
    go_wp2
    go_ret
    exact ⟨ret_not hb HR.out, rfl⟩
set_option maxRecDepth 100000 in
set_option maxHeartbeats 8000000 in
theorem may_any (w : World) (k step : Int) (A : Option Addr) (c : Nat) (vs : List Int) (hk : 0 ≤ k ∧ k ≤ 255) (hr : Rd w 1 A vs.length (vs.map (Value.int .i64))) (hl : vs.length ≤ 1000000) :
    Calls Tryd.prog 16 #[.int .u8 k, .int .i64 step, .slice A vs.length c] w fun e w' => e = .returned (.bool (mayR k step vs)) ∧ Below w.heap.size w w' := by
  have hmf : ∀ (fn : Fn) (first cap : Array Value) (w : World), (Instr.makeFunc fn first cap).run Tryd.prog w = .ok (.func fn first cap) w := fun _ _ _ _ => rfl
  have HR := Lib.hid hr
  have HMK := Lib.hid (marks_any (w.alloc (.cells #[.int .i64 4611686018427387904] 2)) A c vs (hr.alloc _) (by omega))
  obtain ⟨ans, hans⟩ : ∃ ans, mayR k step vs = ans := ⟨_, rfl⟩
  rw [hans]
  unfold mayR at hans
  clear hr
  by_cases hh : 1 ≤ vs.length ∧ vs.length ≤ 512 ∧ 0 ≤ step ∧ step ≤ 2000
  case neg =>
    rw [if_pos (show headR step vs.length = false from decide_eq_false hh)] at hans
    have HA := Lib.hid hans
    clear hans
    go_enter Tryd.func16, Tryd.ntmps16
    by_cases a1 : (vs.length : Int) < 1
    · go_wp2
      go_ret
      exact ⟨by rw [← HA.out]; rfl, Below.refl _ _⟩
    by_cases a2 : (512 : Int) < (vs.length : Int)
    · go_wp2
      go_ret
      exact ⟨by rw [← HA.out]; rfl, Below.refl _ _⟩
    by_cases a3 : step < 0
    · go_wp2
      go_ret
      exact ⟨by rw [← HA.out]; rfl, Below.refl _ _⟩
    have a4 : (2000 : Int) < step := by omega
    go_wp2
    go_ret
    exact ⟨by rw [← HA.out]; rfl, Below.refl _ _⟩
  rw [if_neg (by rw [show headR step vs.length = true from decide_eq_true hh]; simp)] at hans
  obtain ⟨h1, h2, h3, h4⟩ := hh
  have b1 : ¬ (vs.length : Int) < 1 := by omega
  have b2 : ¬ (512 : Int) < (vs.length : Int) := by omega
  have b3 : ¬ step < 0 := by omega
  have b4 : ¬ (2000 : Int) < step := by omega
  by_cases k1 : k = 1
  · subst k1
    rw [if_pos rfl] at hans
    have HA := Lib.hid hans
    have HC := Lib.hid (contains1_any (w.alloc (.cells #[.int .i64 4294967296] 2)) A c vs 4294967296 w.heap.size ((Blk.new w 2 #[.int .i64 4294967296]).cell 0) (HR.out.alloc _) (by omega))
    have HB := Lib.hid ((Below.refl w.heap.size w).alloc (Nat.le_refl _) (.cells #[.int .i64 4294967296] 2))
    obtain ⟨q, hq⟩ : ∃ q, allR 4294967296 vs = q := ⟨_, rfl⟩
    rw [hq] at HC HA
    clear hans HMK hq
    go_enter Tryd.func16, Tryd.ntmps16
    go_wp2_with fail
    refine HC.out.mono ?_
    rintro e w' ⟨rfl, rfl⟩
    go_wp2
    go_ret
    exact ⟨by rw [← HA.out]; simp, HB.out⟩
  rw [if_neg k1] at hans
  have kb1 : (k == 1) = false := by simpa using k1
  by_cases k2 : k = 2
  · subst k2
    rw [if_pos rfl] at hans
    have HA := Lib.hid hans
    have HB := Lib.hid ((Below.refl w.heap.size w).alloc (Nat.le_refl _) (.cells #[.int .i64 4611686018427387904] 2))
    clear hans k1
    go_enter Tryd.func16, Tryd.ntmps16
    go_wp2_with fail
    refine HMK.out.mono ?_
    rintro e w' ⟨rfl, rfl⟩
    go_wp2
    go_ret
    exact ⟨by rw [← HA.out]; rfl, HB.out⟩
  rw [if_neg k2] at hans
  have kb2 : (k == 2) = false := by simpa using k2
  by_cases k3 : k = 3
  · subst k3
    rw [if_pos rfl] at hans
    have HA := Lib.hid hans
    have HC := Lib.hid (contains1_any (w.alloc (.cells #[.int .i64 4611686018427387904] 2)) A c vs 4611686018427387904 w.heap.size ((Blk.new w 2 #[.int .i64 4611686018427387904]).cell 0) (HR.out.alloc _) (by omega))
    have HB := Lib.hid ((Below.refl w.heap.size w).alloc (Nat.le_refl _) (.cells #[.int .i64 4611686018427387904] 2))
    obtain ⟨q, hq⟩ : ∃ q, allR 4611686018427387904 vs = q := ⟨_, rfl⟩
    rw [hq] at HC HA
    clear hans HMK hq
    go_enter Tryd.func16, Tryd.ntmps16
    go_wp2_with fail
    refine HC.out.mono ?_
    rintro e w' ⟨rfl, rfl⟩
    go_wp2
    go_ret
    exact ⟨by rw [← HA.out]; simp, HB.out⟩
  rw [if_neg k3] at hans
  have kb3 : (k == 3) = false := by simpa using k3
  have HA := Lib.hid hans
  have HB := Lib.hid ((Below.refl w.heap.size w).alloc (Nat.le_refl _) (.cells #[.int .i64 4611686018427387904] 2))
  clear hans k1 k2 k3 HMK
  go_enter Tryd.func16, Tryd.ntmps16
  go_wp2
  go_ret
  exact ⟨by rw [← HA.out]; rfl, HB.out⟩
end Go.Proofs.YtggegefeagkhkaaDoor
