/- May a report be: the reference's. -/
import Derived.Test.YtggegefeagkhkaaDoorRpC
namespace Go.Proofs.YtggegefeagkhkaaDoor
open Go.RowKit

def headR (step : Int) (n : Nat) : Bool := decide (1 ≤ n ∧ n ≤ 512 ∧ 0 ≤ step ∧ step ≤ 2000)
def allR (top : Int) (vs : List Int) : Bool := decide (∀ x ∈ vs, 0 ≤ x ∧ x ≤ top)
def mayR (k step : Int) (vs : List Int) : Bool :=
  if headR step vs.length = false then false else if k = 1 then allR 4294967296 vs else if k = 2 then (marks vs).isSome else if k = 3 then allR 4611686018427387904 vs else false
theorem all_bad {top : Int} {vs : List Int} {i : Nat} {x : Int} (hi : vs[i]? = some x) (h : ¬ (0 ≤ x ∧ x ≤ top)) : allR top vs = false := by
  unfold allR
  exact decide_eq_false fun e => h (e x (List.mem_of_getElem? hi))
theorem all_take {top : Int} {vs : List Int} {i : Nat} {x : Int} (hi : vs[i]? = some x) (h : ∀ y ∈ vs.take i, 0 ≤ y ∧ y ≤ top) (hx : 0 ≤ x ∧ x ≤ top) : ∀ y ∈ vs.take (i + 1), 0 ≤ y ∧ y ≤ top := by
  intro y hy
  rw [List.take_add_one, hi] at hy
  rcases List.mem_append.1 hy with hy | hy
  · exact h y hy
  · rw [List.mem_singleton.1 hy]; exact hx
theorem all_done {top : Int} {vs : List Int} (h : ∀ y ∈ vs.take vs.length, 0 ≤ y ∧ y ≤ top) : allR top vs = true := by
  rw [List.take_length] at h
  exact decide_eq_true h
set_option maxRecDepth 100000 in
set_option maxHeartbeats 8000000 in
theorem rmayR_any (w : World) (k step : Int) (A : Option Addr) (c : Nat) (vs : List Int) (hk : 0 ≤ k ∧ k ≤ 255) (hr : Rd w 1 A vs.length (vs.map (Value.int .i64))) (hl : vs.length ≤ 1000000) :
    Calls Tryd.prog 18 #[.int .u8 k, .int .i64 step, .slice A vs.length c] w fun e w' => e = .returned (.bool (mayR k step vs)) ∧ w = w' := by
  have HR := Lib.hid hr
  have HMK := Lib.hid (rmarks_any w A c vs hr (by omega))
  obtain ⟨ans, hans⟩ : ∃ ans, mayR k step vs = ans := ⟨_, rfl⟩
  rw [hans]
  unfold mayR at hans
  clear hr
  by_cases hh : 1 ≤ vs.length ∧ vs.length ≤ 512 ∧ 0 ≤ step ∧ step ≤ 2000
  case neg =>
    rw [if_pos (show headR step vs.length = false from decide_eq_false hh)] at hans
    have HA := Lib.hid hans
    clear hans
    go_enter Tryd.func18, Tryd.ntmps18
    by_cases a1 : (vs.length : Int) < 1
    · go_wp2
      go_ret
      exact ⟨by rw [← HA.out]; rfl, rfl⟩
    by_cases a2 : (512 : Int) < (vs.length : Int)
    · go_wp2
      go_ret
      exact ⟨by rw [← HA.out]; rfl, rfl⟩
    by_cases a3 : step < 0
    · go_wp2
      go_ret
      exact ⟨by rw [← HA.out]; rfl, rfl⟩
    have a4 : (2000 : Int) < step := by omega
    go_wp2
    go_ret
    exact ⟨by rw [← HA.out]; rfl, rfl⟩
  rw [if_neg (by rw [show headR step vs.length = true from decide_eq_true hh]; simp)] at hans
  obtain ⟨h1, h2, h3, h4⟩ := hh
  have b1 : ¬ (vs.length : Int) < 1 := by omega
  have b2 : ¬ (512 : Int) < (vs.length : Int) := by omega
  have b3 : ¬ step < 0 := by omega
  have b4 : ¬ (2000 : Int) < step := by omega
  by_cases k1 : k = 1
  · subst k1
    rw [if_pos rfl] at hans
    have HA := Lib.hid hans
    clear hans HMK
    go_enter Tryd.func18, Tryd.ntmps18
    go_wp2
    go_loopg [10] vs.length (fun gf v10 wr => ∃ i : Nat, v10 = .int .i64 i ∧ i + gf = vs.length ∧ (∀ y ∈ vs.take i, 0 ≤ y ∧ y ≤ 4294967296) ∧ w = wr)
    case atStart => exact ⟨0, rfl, by omega, (fun y hy => by simp at hy), rfl⟩
    case round =>
      obtain ⟨i, rfl, hi, hal, rfl⟩ := hrel
      have HAL := Lib.hid hal
      clear hal
      cases gk with
      | zero =>
        obtain rfl : i = vs.length := by omega
        have HD := Lib.hid (all_done HAL.out)
        go_wp2
        go_ret
        exact ⟨by rw [← HA.out, HD.out]; rfl, rfl⟩
      | succ gf =>
        have hil : i < vs.length := by omega
        have hiI : (i : Int) < (vs.length : Int) := by omega
        obtain ⟨ad, u, rfl, hu, hc⟩ := HR.out.at_ (k := i) hil
        obtain ⟨x, hx⟩ : ∃ x, vs[i]? = some x := ⟨_, List.getElem?_eq_getElem hil⟩
        rw [List.getElem?_map, hx] at hu
        injection hu with hu
        subst hu
        have HX := Lib.hid hx
        clear hx
        by_cases x0 : x < 0
        · have HB := Lib.hid (all_bad (top := 4294967296) HX.out (by omega))
          go_wp2
          go_ret
          exact ⟨by rw [← HA.out, HB.out]; rfl, rfl⟩
        by_cases x1 : 4294967296 < x
        · have HB := Lib.hid (all_bad (top := 4294967296) HX.out (by omega))
          go_wp2
          go_ret
          exact ⟨by rw [← HA.out, HB.out]; rfl, rfl⟩
        have HT := Lib.hid (all_take HX.out HAL.out (by omega))
        go_wp2
        go_roundg gf
        case measure => omega
        case rel => exact ⟨i + 1, by go_num, by omega, HT.out, rfl⟩
  rw [if_neg k1] at hans
  have kb1 : (k == 1) = false := by simpa using k1
  by_cases k2 : k = 2
  · subst k2
    rw [if_pos rfl] at hans
    have HA := Lib.hid hans
    clear hans k1
    go_enter Tryd.func18, Tryd.ntmps18
    go_wp2_with fail
    refine HMK.out.mono ?_
    rintro e w' ⟨rfl, rfl⟩
    go_wp2
    go_ret
    exact ⟨by rw [← HA.out]; rfl, rfl⟩
  rw [if_neg k2] at hans
  have kb2 : (k == 2) = false := by simpa using k2
  by_cases k3 : k = 3
  · subst k3
    rw [if_pos rfl] at hans
    clear k1 k2
    have HA := Lib.hid hans
    clear hans HMK
    go_enter Tryd.func18, Tryd.ntmps18
    go_wp2
    go_loopg [10] vs.length (fun gf v10 wr => ∃ i : Nat, v10 = .int .i64 i ∧ i + gf = vs.length ∧ (∀ y ∈ vs.take i, 0 ≤ y ∧ y ≤ 4611686018427387904) ∧ w = wr)
    case atStart => exact ⟨0, rfl, by omega, (fun y hy => by simp at hy), rfl⟩
    case round =>
      obtain ⟨i, rfl, hi, hal, rfl⟩ := hrel
      have HAL := Lib.hid hal
      clear hal
      cases gk with
      | zero =>
        obtain rfl : i = vs.length := by omega
        have HD := Lib.hid (all_done HAL.out)
        go_wp2
        go_ret
        exact ⟨by rw [← HA.out, HD.out]; rfl, rfl⟩
      | succ gf =>
        have hil : i < vs.length := by omega
        have hiI : (i : Int) < (vs.length : Int) := by omega
        obtain ⟨ad, u, rfl, hu, hc⟩ := HR.out.at_ (k := i) hil
        obtain ⟨x, hx⟩ : ∃ x, vs[i]? = some x := ⟨_, List.getElem?_eq_getElem hil⟩
        rw [List.getElem?_map, hx] at hu
        injection hu with hu
        subst hu
        have HX := Lib.hid hx
        clear hx
        by_cases x0 : x < 0
        · have HB := Lib.hid (all_bad (top := 4611686018427387904) HX.out (by omega))
          go_wp2
          go_ret
          exact ⟨by rw [← HA.out, HB.out]; rfl, rfl⟩
        by_cases x1 : 4611686018427387904 < x
        · have HB := Lib.hid (all_bad (top := 4611686018427387904) HX.out (by omega))
          go_wp2
          go_ret
          exact ⟨by rw [← HA.out, HB.out]; rfl, rfl⟩
        have HT := Lib.hid (all_take HX.out HAL.out (by omega))
        go_wp2
        go_roundg gf
        case measure => omega
        case rel => exact ⟨i + 1, by go_num, by omega, HT.out, rfl⟩
  rw [if_neg k3] at hans
  have kb3 : (k == 3) = false := by simpa using k3
  have HA := Lib.hid hans
  clear hans k1 k2 k3
  go_enter Tryd.func18, Tryd.ntmps18
  go_wp2
  go_ret
  exact ⟨by rw [← HA.out]; rfl, rfl⟩
end Go.Proofs.YtggegefeagkhkaaDoor
