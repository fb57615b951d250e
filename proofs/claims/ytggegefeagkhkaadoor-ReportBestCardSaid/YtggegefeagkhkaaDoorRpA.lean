/- Marks, the program's and the reference's: how many parts; is each value the least of its part. -/
import Derived.Test.YtggegefeagkhkaaDoorMem
import Derived.Test.YtggegefeagkhkaaDoorRows
import Derived.WalkKit
import Derived.WalkLawsBesides
import Derived.WalkSpells
import Derived.BigQuiet
import Derived.Deep.QuietTactic
import Derived.Lib.Hide
import Derived.Outline
import Derived.Deep.LoopGhost
namespace Go.Proofs.YtggegefeagkhkaaDoor
open Go.RowKit

def marksUpto (vs : List Int) : Nat → Option Nat
  | 0 => some 0
  | v + 1 => match marksUpto vs v with
    | none => none
    | some n => if vs.getD v 0 < 0 ∨ (v : Int) < vs.getD v 0 ∨ vs.getD (vs.getD v 0).toNat 0 ≠ vs.getD v 0 then none else some (if vs.getD v 0 = v then n + 1 else n)
def marks (vs : List Int) : Option Nat := marksUpto vs vs.length
theorem marks_none (vs : List Int) (v : Nat) (h : marksUpto vs v = none) : ∀ k, marksUpto vs (v + k) = none
  | 0 => h
  | k + 1 => by
    have e : marksUpto vs (v + (k + 1)) = match marksUpto vs (v + k) with
      | none => none
      | some n => if vs.getD (v + k) 0 < 0 ∨ ((v + k : Nat) : Int) < vs.getD (v + k) 0 ∨ vs.getD (vs.getD (v + k) 0).toNat 0 ≠ vs.getD (v + k) 0 then none else some (if vs.getD (v + k) 0 = (v + k : Nat) then n + 1 else n) := rfl
    rw [e, marks_none vs v h k]
theorem marks_stop {vs : List Int} {i n : Nat} (hi : i < vs.length) (h : marksUpto vs i = some n) (hb : vs.getD i 0 < 0 ∨ (i : Int) < vs.getD i 0 ∨ vs.getD (vs.getD i 0).toNat 0 ≠ vs.getD i 0) : marks vs = none := by
  have h1 : marksUpto vs (i + 1) = none := by rw [marksUpto, h]; exact if_pos hb
  have h2 := marks_none vs (i + 1) h1 (vs.length - (i + 1))
  unfold marks
  rwa [show i + 1 + (vs.length - (i + 1)) = vs.length by omega] at h2
theorem marks_step {vs : List Int} {i n : Nat} (h : marksUpto vs i = some n) (hb : ¬ (vs.getD i 0 < 0 ∨ (i : Int) < vs.getD i 0 ∨ vs.getD (vs.getD i 0).toNat 0 ≠ vs.getD i 0)) : marksUpto vs (i + 1) = some (if vs.getD i 0 = i then n + 1 else n) := by
  rw [marksUpto, h]; exact if_neg hb
theorem getD_of {vs : List Int} {i : Nat} {x : Int} (h : (vs.map (Value.int .i64))[i]? = some (.int .i64 x)) : vs.getD i 0 = x := by
  rw [List.getElem?_map] at h
  rw [List.getD_eq_getElem?_getD]
  cases hx : vs[i]? with
  | none => rw [hx] at h; cases h
  | some y => rw [hx] at h; injection h with h; injection h
theorem i64_of {vs : List Int} {i : Nat} {u : Value} (h : (vs.map (Value.int .i64))[i]? = some u) : ∃ x, u = .int .i64 x := by
  rw [List.getElem?_map] at h
  cases hx : vs[i]? with
  | none => rw [hx] at h; cases h
  | some y => rw [hx] at h; injection h with h; exact ⟨y, h.symm⟩
/-- what Marks answers -/
def MarksP (o : Option Nat) (w : World) (e : Ending) (w' : World) : Prop := e = .returned (.tuple #[.int .i64 ((o.getD 0 : Nat) : Int), .bool o.isSome]) ∧ w = w'
section
variable (w : World) (A : Option Addr) (c : Nat) (vs : List Int) (hr : Rd w 1 A vs.length (vs.map (Value.int .i64))) (hl : vs.length ≤ 1000000000)
include hr hl
set_option maxRecDepth 100000 in
set_option maxHeartbeats 4000000 in
theorem marks_any : Calls Tryd.prog 27 #[.slice A vs.length c] w (MarksP (marks vs) w) := by
  have HR := Lib.hid hr
  clear hr
  go_enter Tryd.func27, Tryd.ntmps27
  go_wp2
  go_loopg [4, 9] vs.length (fun gf v4 v9 wr => ∃ (i n : Nat), v9 = .int .i64 i ∧ v4 = .int .i64 n ∧ i + gf = vs.length ∧ n ≤ i ∧ marksUpto vs i = some n ∧ w = wr)
  case atStart => exact ⟨0, 0, rfl, rfl, by omega, Nat.le_refl _, rfl, rfl⟩
  case round =>
    obtain ⟨i, n, rfl, rfl, hi, hn, hm, rfl⟩ := hrel
    have HM := Lib.hid hm
    clear hm
    cases gk with
    | zero =>
      obtain rfl : i = vs.length := by omega
      go_wp2
      go_ret2
      exact ⟨by unfold marks; rw [HM.out]; rfl, rfl⟩
    | succ gf =>
      have hil : i < vs.length := by omega
      have hiI : (i : Int) < (vs.length : Int) := by omega
      obtain ⟨ad, u, rfl, hu, hc⟩ := HR.out.at_ (k := i) hil
      obtain ⟨x, rfl⟩ := i64_of hu
      have hgx := getD_of hu
      have HG := Lib.hid hgx
      clear hu hgx
      by_cases h1 : x < 0
      · have b1 : decide (x < 0) = true := decide_eq_true h1
        have HS := Lib.hid (marks_stop hil HM.out (.inl (by rw [HG.out]; exact h1)))
        go_wp2
        go_ret2
        exact ⟨by rw [HS.out]; rfl, rfl⟩
      have b1 : decide (x < 0) = false := decide_eq_false h1
      by_cases h2 : (i : Int) < x
      · have b2 : decide ((i : Int) < x) = true := decide_eq_true h2
        have HS := Lib.hid (marks_stop hil HM.out (.inr (.inl (by rw [HG.out]; exact h2))))
        go_wp2
        go_ret2
        exact ⟨by rw [HS.out]; rfl, rfl⟩
      have b2 : decide ((i : Int) < x) = false := decide_eq_false h2
      obtain ⟨k, rfl⟩ : ∃ k : Nat, x = k := ⟨x.toNat, by omega⟩
      have hkl : k < vs.length := by omega
      have hkI : (k : Int) < (vs.length : Int) := by omega
      obtain ⟨ad2, u2, he2, hu2, hc2⟩ := HR.out.at_ (k := k) hkl
      injection he2 with he2
      subst he2
      obtain ⟨y, rfl⟩ := i64_of hu2
      have hgy := getD_of hu2
      have HGY := Lib.hid hgy
      clear hu2 hgy
      by_cases h3 : y = k
      · subst h3
        have hst := marks_step HM.out (by rw [HG.out, Int.toNat_natCast, HGY.out]; simp; omega)
        rw [HG.out] at hst
        by_cases h4 : k = i
        · subst h4
          rw [if_pos rfl] at hst
          have HST := Lib.hid hst
          clear hst
          go_wp2
          go_roundg gf
          case measure => omega
          case rel => exact ⟨k + 1, n + 1, by go_num, by go_num, by omega, by omega, HST.out, rfl⟩
        · have h4b : ((k : Int) == (i : Int)) = false := by simpa using fun e : (k : Int) = i => h4 (by omega)
          rw [if_neg (by omega)] at hst
          have HST := Lib.hid hst
          clear hst h4
          go_wp2
          go_roundg gf
          case measure => omega
          case rel => exact ⟨i + 1, n, by go_num, rfl, by omega, by omega, HST.out, rfl⟩
      · have h3b : (y != (k : Int)) = true := by simpa using h3
        have HS := Lib.hid (marks_stop hil HM.out (.inr (.inr (by rw [HG.out, Int.toNat_natCast, HGY.out]; exact h3))))
        clear h3
        go_wp2
        go_ret2
        exact ⟨by rw [HS.out]; rfl, rfl⟩
set_option maxRecDepth 100000 in
set_option maxHeartbeats 4000000 in
theorem rmarks_any : Calls Tryd.prog 37 #[.slice A vs.length c] w (MarksP (marks vs) w) := by
  have HR := Lib.hid hr
  clear hr
  go_enter Tryd.func37, Tryd.ntmps37
  go_wp2
  go_loopg [4, 5] vs.length (fun gf v4 v9 wr => ∃ (i n : Nat), v9 = .int .i64 i ∧ v4 = .int .i64 n ∧ i + gf = vs.length ∧ n ≤ i ∧ marksUpto vs i = some n ∧ w = wr)
  case atStart => exact ⟨0, 0, rfl, rfl, by omega, Nat.le_refl _, rfl, rfl⟩
  case round =>
    obtain ⟨i, n, rfl, rfl, hi, hn, hm, rfl⟩ := hrel
    have HM := Lib.hid hm
    clear hm
    cases gk with
    | zero =>
      obtain rfl : i = vs.length := by omega
      go_wp2
      go_ret2
      exact ⟨by unfold marks; rw [HM.out]; rfl, rfl⟩
    | succ gf =>
      have hil : i < vs.length := by omega
      have hiI : (i : Int) < (vs.length : Int) := by omega
      obtain ⟨ad, u, rfl, hu, hc⟩ := HR.out.at_ (k := i) hil
      obtain ⟨x, rfl⟩ := i64_of hu
      have hgx := getD_of hu
      have HG := Lib.hid hgx
      clear hu hgx
      by_cases h1 : x < 0
      · have b1 : decide (x < 0) = true := decide_eq_true h1
        have HS := Lib.hid (marks_stop hil HM.out (.inl (by rw [HG.out]; exact h1)))
        go_wp2
        go_ret2
        exact ⟨by rw [HS.out]; rfl, rfl⟩
      have b1 : decide (x < 0) = false := decide_eq_false h1
      by_cases h2 : (i : Int) < x
      · have b2 : decide ((i : Int) < x) = true := decide_eq_true h2
        have HS := Lib.hid (marks_stop hil HM.out (.inr (.inl (by rw [HG.out]; exact h2))))
        go_wp2
        go_ret2
        exact ⟨by rw [HS.out]; rfl, rfl⟩
      have b2 : decide ((i : Int) < x) = false := decide_eq_false h2
      obtain ⟨k, rfl⟩ : ∃ k : Nat, x = k := ⟨x.toNat, by omega⟩
      have hkl : k < vs.length := by omega
      have hkI : (k : Int) < (vs.length : Int) := by omega
      obtain ⟨ad2, u2, he2, hu2, hc2⟩ := HR.out.at_ (k := k) hkl
      injection he2 with he2
      subst he2
      obtain ⟨y, rfl⟩ := i64_of hu2
      have hgy := getD_of hu2
      have HGY := Lib.hid hgy
      clear hu2 hgy
      by_cases h3 : y = k
      · subst h3
        have hst := marks_step HM.out (by rw [HG.out, Int.toNat_natCast, HGY.out]; simp; omega)
        rw [HG.out] at hst
        by_cases h4 : k = i
        · subst h4
          rw [if_pos rfl] at hst
          have HST := Lib.hid hst
          clear hst
          go_wp2
          go_roundg gf
          case measure => omega
          case rel => exact ⟨k + 1, n + 1, by go_num, by go_num, by omega, by omega, HST.out, rfl⟩
        · have h4b : ((k : Int) == (i : Int)) = false := by simpa using fun e : (k : Int) = i => h4 (by omega)
          rw [if_neg (by omega)] at hst
          have HST := Lib.hid hst
          clear hst h4
          go_wp2
          go_roundg gf
          case measure => omega
          case rel => exact ⟨i + 1, n, by go_num, rfl, by omega, by omega, HST.out, rfl⟩
      · have h3b : (y != (k : Int)) = true := by simpa using h3
        have HS := Lib.hid (marks_stop hil HM.out (.inr (.inr (by rw [HG.out, Int.toNat_natCast, HGY.out]; exact h3))))
        clear h3
        go_wp2
        go_ret2
        exact ⟨by rw [HS.out]; rfl, rfl⟩
end
end Go.Proofs.YtggegefeagkhkaaDoor
