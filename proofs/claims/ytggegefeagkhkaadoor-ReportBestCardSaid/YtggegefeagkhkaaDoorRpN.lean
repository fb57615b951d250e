/- Best: the order of places; the closure that compares; a row of places in memory. -/
import Derived.Test.YtggegefeagkhkaaDoorRpM
import Derived.RegionTactic
import Derived.Deep.DeepCutAuto
namespace Go.Proofs.YtggegefeagkhkaaDoor
open Go.RowKit

/-- is place x ahead of place y: the greater value, of equal ones the lesser place -/
def lt (vs : List Int) (x y : Nat) : Prop := vs.getD y 0 < vs.getD x 0 ∨ (vs.getD x 0 = vs.getD y 0 ∧ x < y)
theorem lt_trans {vs : List Int} {x y z : Nat} (h : lt vs x y) (k : lt vs y z) : lt vs x z := by unfold lt at *; omega
theorem lt_asymm {vs : List Int} {x y : Nat} (h : lt vs x y) (k : lt vs y x) : False := by unfold lt at *; omega
theorem lt_total {vs : List Int} {x y : Nat} (h : x ≠ y) : lt vs x y ∨ lt vs y x := by unfold lt; omega
/-- how two places compare -/
def cmpI (x y : Int) : Int := if x < y then -1 else if y < x then 1 else 0
def cmpV (vs : List Int) (x y : Nat) : Int := cmpI (vs.getD y 0) (vs.getD x 0)
theorem cmpI_neg (x y : Int) : cmpI x y < 0 ↔ x < y := by
  unfold cmpI
  by_cases h : x < y
  · simp [h]
  · rw [if_neg h]; split <;> omega
theorem cmpI_bd (x y : Int) : -1 ≤ cmpI x y ∧ cmpI x y ≤ 1 := by unfold cmpI; (repeat' split) <;> decide
theorem cmpV_neg (vs : List Int) (x y : Nat) : cmpV vs x y < 0 ↔ vs.getD y 0 < vs.getD x 0 := cmpI_neg _ _
theorem cmpV_late {vs : List Int} {x y : Nat} (h : y < x) : cmpV vs x y < 0 ↔ lt vs x y := by rw [cmpV_neg]; unfold lt; omega
theorem cmpV_early {vs : List Int} {x y : Nat} (h : y < x) : ¬ cmpV vs x y < 0 ↔ lt vs y x := by rw [cmpV_neg]; unfold lt; omega
/-- a row of places, its cells -/
def cellsN (l : List Nat) : Array Value := (l.map fun i : Nat => Value.int .i64 (i : Int)).toArray
theorem cellsN_at {l : List Nat} {i x : Nat} (h : l[i]? = some x) : (cellsN l)[i]? = some (.int .i64 (x : Int)) := by unfold cellsN; simp [h]
theorem cellsN_set (l : List Nat) (i x : Nat) : (cellsN l).setIfInBounds i (.int .i64 (x : Int)) = cellsN (l.set i x) := by
  unfold cellsN
  rw [List.setIfInBounds_toArray, List.map_set]
/-- the sort's memory: the row of places, the box of the values, the values -/
structure Srt (w : World) (vs : List Int) (A : Option Addr) (c g gb : Nat) (l : List Nat) : Prop where
  row : Blk w g 3 (cellsN l)
  box : Blk w gb 24 #[.slice A vs.length c]
  val : ∀ i x, vs[i]? = some x → ∃ ad : Addr, A = some ad ∧ ad.block ≠ g ∧ ad.block < w.heap.size ∧ w.cell? (ad.add i) = some (.int .i64 x)
  lt : ∀ i ∈ l, i < vs.length
theorem Srt.step {w w' : World} {vs : List Int} {A : Option Addr} {c g gb : Nat} {l l' : List Nat} (h : Srt w vs A c g gb l) (hg : w.grownBy w' (some g)) (hr : Blk w' g 3 (cellsN l')) (hl : ∀ i ∈ l', i < vs.length) : Srt w' vs A c g gb l' := by
  have hne : g ≠ gb := Blk.ne_ h.row h.box (by decide)
  refine ⟨hr, h.box.grown hg (fun e => hne (by injection e with e; exact e.symm)), fun i x hx => ?_, hl⟩
  obtain ⟨ad, hA, h1, h2, h3⟩ := h.val i x hx
  refine ⟨ad, hA, h1, Nat.lt_of_lt_of_le h2 hg.size, ?_⟩
  rw [← h3]
  exact World.cell?_of_block (hg.block _ (by rw [block_of_add]; exact h2) (fun e => h1 (by injection e with e; rw [block_of_add] at e; exact e)))
theorem Srt.drewN {w : World} {vs : List Int} {A : Option Addr} {c g gb : Nat} {l : List Nat} (h : Srt w vs A c g gb l) (n : Nat) : Srt (w.drewN n) vs A c g gb l := ⟨h.row, h.box, h.val, h.lt⟩
theorem Srt.drew {w : World} {vs : List Int} {A : Option Addr} {c g gb : Nat} {l : List Nat} (h : Srt w vs A c g gb l) : Srt w.drew vs A c g gb l := ⟨h.row, h.box, h.val, h.lt⟩
set_option maxHeartbeats 1000000 in
theorem nan_any (w : World) (x : Int) : Calls Tryd.prog 48 #[.int .i64 x] w fun e w' => e = .returned (.bool false) ∧ w = w' := by
  have hb : (x != x) = false := by simp
  go_enter Tryd.func48, Tryd.ntmps48
  go_wp2
  go_ret
  exact ⟨rfl, rfl⟩
set_option maxHeartbeats 2000000 in
theorem cmp_any (w : World) (x y : Int) : Calls Tryd.prog 26 #[.int .i64 x, .int .i64 y] w fun e w' => e = .returned (.int .i64 (cmpI x y)) ∧ w = w' := by
  have HN := Lib.hid nan_any
  by_cases h1 : x < y
  · have hb : decide (x < y) = true := decide_eq_true h1
    have HIF := Lib.hid (show cmpI x y = -1 from if_pos h1)
    go_enter Tryd.func26, Tryd.ntmps26
    go_wp2_with fail
    refine (HN.out _ _).mono ?_
    rintro e w' ⟨rfl, rfl⟩
    go_wp2_with fail
    refine (HN.out _ _).mono ?_
    rintro e w' ⟨rfl, rfl⟩
    go_wp2
    go_ret
    exact ⟨by rw [HIF.out]; rfl, rfl⟩
  · have hb : decide (x < y) = false := decide_eq_false h1
    by_cases h2 : y < x
    · have hb2 : decide (y < x) = true := decide_eq_true h2
      have HIF := Lib.hid (show cmpI x y = 1 from (if_neg h1).trans (if_pos h2))
      go_enter Tryd.func26, Tryd.ntmps26
      go_wp2_with fail
      refine (HN.out _ _).mono ?_
      rintro e w' ⟨rfl, rfl⟩
      go_wp2_with fail
      refine (HN.out _ _).mono ?_
      rintro e w' ⟨rfl, rfl⟩
      go_wp2
      go_ret
      exact ⟨by rw [HIF.out]; rfl, rfl⟩
    · have hb2 : decide (y < x) = false := decide_eq_false h2
      have HIF := Lib.hid (show cmpI x y = 0 from (if_neg h1).trans (if_neg h2))
      go_enter Tryd.func26, Tryd.ntmps26
      go_wp2_with fail
      refine (HN.out _ _).mono ?_
      rintro e w' ⟨rfl, rfl⟩
      go_wp2_with fail
      refine (HN.out _ _).mono ?_
      rintro e w' ⟨rfl, rfl⟩
      go_wp2
      go_ret
      exact ⟨by rw [HIF.out]; rfl, rfl⟩
set_option maxHeartbeats 2000000 in
theorem clo_cmp (w : World) (vs : List Int) (A : Option Addr) (c g gb : Nat) (l : List Nat) (h : Srt w vs A c g gb l) (x y : Nat) (hx : x < vs.length) (hy : y < vs.length) :
    Calls Tryd.prog 25 #[.int .i64 (x : Int), .int .i64 (y : Int), .pointer (some ⟨gb, 0, none⟩)] w fun e w' => e = .returned (.int .i64 (cmpV vs x y)) ∧ ∃ n, w' = w.drewN n := by
  obtain ⟨u, hu⟩ : ∃ u, vs[x]? = some u := ⟨_, List.getElem?_eq_getElem hx⟩
  obtain ⟨v, hv⟩ : ∃ v, vs[y]? = some v := ⟨_, List.getElem?_eq_getElem hy⟩
  obtain ⟨ad, rfl, -, -, hc1⟩ := h.val x u hu
  obtain ⟨ad2, he, -, -, hc2⟩ := h.val y v hv
  injection he with he
  subst he
  have c0 := h.box.cell 0
  simp only [List.getElem?_toArray, List.getElem?_cons_zero] at c0
  have hcm : cmpI v u = cmpV vs x y := by
    unfold cmpV
    rw [List.getD_eq_getElem?_getD, List.getD_eq_getElem?_getD, hu, hv]; rfl
  have hxI : (x : Int) < (vs.length : Int) := by omega
  have hyI : (y : Int) < (vs.length : Int) := by omega
  have HC := Lib.hid (fun W => cmp_any W v u)
  have HCM := Lib.hid hcm
  clear hu hv hcm h
  go_enter Tryd.func25, Tryd.ntmps25
  go_wp2_with fail
  go_quiet ((go_at_call 26; exact Calls.quiet_of_same ((HC.out _).mono fun _ _ ⟨h1, h2⟩ => ⟨h1, h2.symm⟩)))
  go_wp2
  go_ret
  exact ⟨by rw [← HCM.out]; rfl, _, rfl⟩
end Go.Proofs.YtggegefeagkhkaaDoor
