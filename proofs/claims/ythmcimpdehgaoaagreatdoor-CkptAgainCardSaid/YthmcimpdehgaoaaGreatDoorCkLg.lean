/- The laws' bound on rows of calls: large. -/
import Derived.Test.YthmcimpdehgaoaaGreatDoorOpenCk
import Derived.Deep.LoopGhost
import Derived.Deep.QuietTactic
import Derived.BigQuiet
import Derived.IntWalk
namespace Go.Proofs.YthmcimpdehgaoaaGreatDoor
open Go.RowKit Go.Maps

def wCall (c : CallC) : Int := 1 + min (c.name.size : Int) 5001 + min (c.b.size : Int) 5001 + min (c.keep.length : Int) 5001
def wSum (l : List CallC) : Int := (l.map wCall).sum
def bSum (l : List CallC) : Nat := (l.map (·.b.size)).sum
theorem wCall_pos (c : CallC) : 1 ≤ wCall c := by unfold wCall; omega
theorem wSum_snoc {l : List CallC} {i : Nat} {c : CallC} (h : l[i]? = some c) : wSum (l.take (i + 1)) = wSum (l.take i) + wCall c := by
  unfold wSum
  rw [List.take_add_one, h, Option.toList_some, List.map_append, List.sum_append]
  simp
theorem bSum_snoc {l : List CallC} {i : Nat} {c : CallC} (h : l[i]? = some c) : bSum (l.take (i + 1)) = bSum (l.take i) + c.b.size := by
  unfold bSum
  rw [List.take_add_one, h, Option.toList_some, List.map_append, List.sum_append]
  simp
theorem wSum_small : ∀ (l : List CallC), wSum l ≤ 5000 → (∀ c ∈ l, c.name.size ≤ 5000 ∧ c.b.size ≤ 5000 ∧ c.keep.length ≤ 5000) ∧ (bSum l : Int) ≤ wSum l ∧ 0 ≤ wSum l
  | [], _ => ⟨(fun _ h => by cases h), Int.le_refl _, Int.le_refl _⟩
  | c :: r, h => by
    have hw : wSum (c :: r) = wCall c + wSum r := by unfold wSum; rw [List.map_cons, List.sum_cons]
    have hb : bSum (c :: r) = c.b.size + bSum r := by unfold bSum; rw [List.map_cons, List.sum_cons]
    have hp := wCall_pos c
    obtain ⟨h1, h2, h3⟩ := wSum_small r (by omega)
    have hc : wCall c ≤ 5000 := by omega
    unfold wCall at hc hw
    refine ⟨fun x hx => ?_, by omega, by omega⟩
    rcases List.mem_cons.1 hx with rfl | hx
    · exact ⟨by omega, by omega, by omega⟩
    · exact h1 x hx
def SmallC (l : List CallC) : Prop := l.length ≤ 60 ∧ (∀ c ∈ l, c.name.size ≤ 5000 ∧ c.b.size ≤ 5000 ∧ c.keep.length ≤ 5000) ∧ bSum l ≤ 5000
/-- how large ends -/
def LargeP (l : List CallC) (w : World) (e : Ending) (w' : World) : Prop := ∃ b : Bool, e = .returned (.bool b) ∧ Below w.heap.size w w' ∧ (b = false → SmallC l)
def LgInv (l : List CallC) (i : Nat) (n : Int) : Prop := n = wSum (l.take i)
theorem LgInv.step {l : List CallC} {i : Nat} {n n' : Int} {c : CallC} (h : LgInv l i n) (hc : l[i]? = some c) (hn : n' = n + wCall c) : LgInv l (i + 1) n' := by
  unfold LgInv at *
  rw [wSum_snoc hc, hn, h]
theorem LgInv.done {l : List CallC} {n : Int} (h : LgInv l l.length n) (hn : n ≤ 5000) (hl : l.length ≤ 60) : SmallC l := by
  unfold LgInv at h
  rw [List.take_length] at h
  obtain ⟨h1, h2, h3⟩ := wSum_small l (by omega)
  exact ⟨hl, h1, by omega⟩
set_option maxRecDepth 100000 in
set_option maxHeartbeats 4000000 in
theorem large_any (w : World) (A : Option Addr) (c : Nat) (l : List CallC) (hA : CallsA w A l) :
    Calls Tryz.prog 8 #[.slice A l.length c] w (LargeP l w) := by
  have HA := Lib.hid hA
  clear hA
  by_cases hl : l.length ≤ 60
  · have hlI : ¬ (60 : Int) < (l.length : Int) := by omega
    go_enter Tryz.func8, Tryz.ntmps8
    go_wp2
    go_loopg [3, 4] l.length (fun gf vn vi wr => ∃ (i : Nat) (n : Int), vn = .int .i64 n ∧ vi = .int .i64 i ∧ i + gf = l.length ∧ 0 ≤ n ∧ n ≤ 20004 ∧ LgInv l i n ∧ Below w.heap.size w wr)
    case atStart => exact ⟨0, 0, rfl, rfl, by omega, by decide, by decide, rfl, Below.refl _ _⟩
    case round =>
      obtain ⟨i, n, rfl, rfl, hi, hn0, hn1, hinv, hb⟩ := hrel
      have HB := Lib.hid hb; have HI := Lib.hid hinv
      clear hb hinv
      cases gk with
      | zero =>
        obtain rfl : i = l.length := by omega
        clear hi
        by_cases hn : n ≤ 5000
        · have hnb : decide ((5000 : Int) < n) = false := decide_eq_false (by omega)
          have hn' : ¬ (5000 : Int) < n := by omega
          go_wp2
          go_ret
          exact ⟨false, rfl, HB.out, fun _ => HI.out.done hn hl⟩
        · have hnb : decide ((5000 : Int) < n) = true := decide_eq_true (by omega)
          have hn' : (5000 : Int) < n := by omega
          go_wp2
          go_ret
          exact ⟨true, rfl, HB.out, fun e => by cases e⟩
      | succ gf =>
        obtain ⟨x, hx⟩ : ∃ x, l[i]? = some x := ⟨_, List.getElem?_eq_getElem (by omega)⟩
        obtain ⟨bb, oo, rfl, hlt, hcl⟩ := (HA.out.below HB.out) (by omega)
        have hcx := hcl i x hx
        have hiI : (i : Int) < (l.length : Int) := by omega
        have hcn := hcx.name
        obtain ⟨A1, cc1, hcb, -⟩ := hcx.bs
        obtain ⟨A2, cc2, hck, -⟩ := hcx.keep
        have HX := Lib.hid hx
        clear hcx hcl hx
        by_cases hn : n ≤ 5000
        · obtain ⟨x1, hx1⟩ : ∃ x1, min (x.name.size : Int) 5001 = x1 := ⟨_, rfl⟩
          obtain ⟨x2, hx2⟩ : ∃ x2, min (x.b.size : Int) 5001 = x2 := ⟨_, rfl⟩
          obtain ⟨x3, hx3⟩ : ∃ x3, min (x.keep.length : Int) 5001 = x3 := ⟨_, rfl⟩
          have b1 : 0 ≤ x1 ∧ x1 ≤ 5001 := by omega
          have b2 : 0 ≤ x2 ∧ x2 ≤ 5001 := by omega
          have b3 : 0 ≤ x3 ∧ x3 ≤ 5001 := by omega
          have hst := HI.out.step HX.out (n' := n + 1 + x1 + x2 + x3) (by unfold wCall; omega)
          have HST := Lib.hid hst
          have hle : n + 1 + x1 + x2 + x3 ≤ 20004 ∧ 0 ≤ n + 1 + x1 + x2 + x3 := by omega
          have hdb : decide (n ≤ (5000 : Int)) = true := decide_eq_true hn
          have hm1 : min (5001 : Int) (x.name.size : Int) = x1 := by omega
          have hm2 : min (5001 : Int) (x.b.size : Int) = x2 := by omega
          have hm3 : min (5001 : Int) (x.keep.length : Int) = x3 := by omega
          have w1 : IntKind.i64.wrap (n + 1) = n + 1 := IntWalk.i64_in _ (by omega)
          have w2 : IntKind.i64.wrap (n + 1 + x1) = n + 1 + x1 := IntWalk.i64_in _ (by omega)
          have w3 : IntKind.i64.wrap (n + 1 + x1 + x2) = n + 1 + x1 + x2 := IntWalk.i64_in _ (by omega)
          have w4 : IntKind.i64.wrap (n + 1 + x1 + x2 + x3) = n + 1 + x1 + x2 + x3 := IntWalk.i64_in _ (by omega)
          clear hst
          go_upto_region 7 with (fail)
          go_quiet (fail)
          clear w1 w2 w3 w4
          go_wp2
          go_roundg gf
          case measure => omega
          case rel => exact ⟨i + 1, n + 1 + x1 + x2 + x3, rfl, by go_num, by omega, hle.2, hle.1, HST.out, below_drewN HB.out _⟩
        · have hdb : decide (n ≤ (5000 : Int)) = false := decide_eq_false hn
          have hn' : (5000 : Int) < n := by omega
          have hnb : decide ((5000 : Int) < n) = true := decide_eq_true (by omega)
          go_wp2
          go_ret
          exact ⟨true, rfl, HB.out, fun e => by cases e⟩
  · have hlI : (60 : Int) < (l.length : Int) := by omega
    go_enter Tryz.func8, Tryz.ntmps8
    go_wp2
    go_ret
    exact ⟨true, rfl, Below.refl _ _, fun e => by cases e⟩
end Go.Proofs.YthmcimpdehgaoaaGreatDoor
