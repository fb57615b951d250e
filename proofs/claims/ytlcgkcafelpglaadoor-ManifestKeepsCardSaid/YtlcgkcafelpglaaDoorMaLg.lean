/- The laws' bound on rows of calls: large. -/
import Derived.Test.YtlcgkcafelpglaaDoorOpenMc
import Derived.Deep.LoopGhost
import Derived.Deep.QuietTactic
import Derived.BigQuiet
import Derived.IntWalk
namespace Go.Proofs.YtlcgkcafelpglaaDoor
open Go.RowKit Go.Maps

def SmallC (l : List CallM) : Prop := l.length ≤ 60 ∧ ∀ c ∈ l, c.name.size ≤ 5000 ∧ c.b.size ≤ 5000 ∧ c.keep.length ≤ 5000
/-- how large ends -/
def LargeP (l : List CallM) (w : World) (e : Ending) (w' : World) : Prop := ∃ b : Bool, e = .returned (.bool b) ∧ Below w.heap.size w w' ∧ (b = false → SmallC l)
def LgInv (l : List CallM) (i : Nat) (n : Int) : Prop := ∀ k c, k < i → l[k]? = some c → min (c.name.size : Int) 5001 ≤ n ∧ min (c.b.size : Int) 5001 ≤ n ∧ min (c.keep.length : Int) 5001 ≤ n
theorem LgInv.step {l : List CallM} {i : Nat} {n n' : Int} {c : CallM} (h : LgInv l i n) (hc : l[i]? = some c) (hn : n ≤ n') (h1 : min (c.name.size : Int) 5001 ≤ n') (h2 : min (c.b.size : Int) 5001 ≤ n') (h3 : min (c.keep.length : Int) 5001 ≤ n') : LgInv l (i + 1) n' := by
  intro k c' hk hc'
  by_cases hki : k = i
  · subst hki
    rw [hc] at hc'
    injection hc' with hc'
    subst hc'
    exact ⟨h1, h2, h3⟩
  · obtain ⟨a, b, d⟩ := h k c' (by omega) hc'
    exact ⟨by omega, by omega, by omega⟩
theorem LgInv.done {l : List CallM} {n : Int} (h : LgInv l l.length n) (hn : n ≤ 5000) (hl : l.length ≤ 60) : SmallC l := by
  refine ⟨hl, fun c hc => ?_⟩
  obtain ⟨i, hi, rfl⟩ := List.mem_iff_getElem.1 hc
  obtain ⟨a, b, d⟩ := h i _ hi (List.getElem?_eq_getElem hi)
  omega
set_option maxRecDepth 100000 in
set_option maxHeartbeats 4000000 in
theorem large_any (w : World) (A : Option Addr) (c : Nat) (l : List CallM) (hA : CallsA w A l) :
    Calls Tryd.prog 24 #[.slice A l.length c] w (LargeP l w) := by
  have HA := Lib.hid hA
  clear hA
  by_cases hl : l.length ≤ 60
  · have hlI : ¬ (60 : Int) < (l.length : Int) := by omega
    go_enter Tryd.func24, Tryd.ntmps24
    go_wp2
    go_loopg [3, 4] l.length (fun gf vn vi wr => ∃ (i : Nat) (n : Int), vn = .int .i64 n ∧ vi = .int .i64 i ∧ i + gf = l.length ∧ 0 ≤ n ∧ n ≤ 20004 ∧ LgInv l i n ∧ Below w.heap.size w wr)
    case atStart => exact ⟨0, 0, rfl, rfl, by omega, by decide, by decide, (fun k c hk => absurd hk (Nat.not_lt_zero k)), Below.refl _ _⟩
    case round =>
      obtain ⟨i, n, rfl, rfl, hi, hn0, hn1, hinv, hb⟩ := hrel
      have HB := Lib.hid hb; have HI := Lib.hid hinv
      clear hb hinv
      cases gk with
      | zero =>
        obtain rfl : i = l.length := by omega
        clear hi
        by_cases hn : n ≤ 5000
        · have hnb : decide ((5000 : Int) < n) = false := decide_eq_false (by omega)
          have hn' : ¬ (5000 : Int) < n := by omega
          go_wp2
          go_ret
          exact ⟨false, rfl, HB.out, fun _ => HI.out.done hn hl⟩
        · have hnb : decide ((5000 : Int) < n) = true := decide_eq_true (by omega)
          have hn' : (5000 : Int) < n := by omega
          go_wp2
          go_ret
          exact ⟨true, rfl, HB.out, fun e => by cases e⟩
      | succ gf =>
        obtain ⟨x, hx⟩ : ∃ x, l[i]? = some x := ⟨_, List.getElem?_eq_getElem (by omega)⟩
        obtain ⟨bb, oo, rfl, hlt, hcl⟩ := (HA.out.below HB.out) (by omega)
        have hcx := hcl i x hx
        have hiI : (i : Int) < (l.length : Int) := by omega
        have hcn := hcx.name
        obtain ⟨A1, cc1, hcb, -⟩ := hcx.bs
        obtain ⟨A2, cc2, hck, -⟩ := hcx.keep
        have HX := Lib.hid hx
        clear hcx hcl hx
        by_cases hn : n ≤ 5000
        · obtain ⟨x1, hx1⟩ : ∃ x1, min (x.name.size : Int) 5001 = x1 := ⟨_, rfl⟩
          obtain ⟨x2, hx2⟩ : ∃ x2, min (x.b.size : Int) 5001 = x2 := ⟨_, rfl⟩
          obtain ⟨x3, hx3⟩ : ∃ x3, min (x.keep.length : Int) 5001 = x3 := ⟨_, rfl⟩
          have b1 : 0 ≤ x1 ∧ x1 ≤ 5001 := by omega
          have b2 : 0 ≤ x2 ∧ x2 ≤ 5001 := by omega
          have b3 : 0 ≤ x3 ∧ x3 ≤ 5001 := by omega
          have hst := HI.out.step HX.out (n' := n + 1 + x1 + x2 + x3) (by omega) (by omega) (by omega) (by omega)
          have HST := Lib.hid hst
          have hle : n + 1 + x1 + x2 + x3 ≤ 20004 ∧ 0 ≤ n + 1 + x1 + x2 + x3 := by omega
          have hdb : decide (n ≤ (5000 : Int)) = true := decide_eq_true hn
          have hm1 : min (5001 : Int) (x.name.size : Int) = x1 := by omega
          have hm2 : min (5001 : Int) (x.b.size : Int) = x2 := by omega
          have hm3 : min (5001 : Int) (x.keep.length : Int) = x3 := by omega
          have w1 : IntKind.i64.wrap (n + 1) = n + 1 := IntWalk.i64_in _ (by omega)
          have w2 : IntKind.i64.wrap (n + 1 + x1) = n + 1 + x1 := IntWalk.i64_in _ (by omega)
          have w3 : IntKind.i64.wrap (n + 1 + x1 + x2) = n + 1 + x1 + x2 := IntWalk.i64_in _ (by omega)
          have w4 : IntKind.i64.wrap (n + 1 + x1 + x2 + x3) = n + 1 + x1 + x2 + x3 := IntWalk.i64_in _ (by omega)
          clear hst
          go_upto_region 7 with (fail)
          go_quiet (fail)
          clear w1 w2 w3 w4
          go_wp2
          go_roundg gf
          case measure => omega
          case rel => exact ⟨i + 1, n + 1 + x1 + x2 + x3, rfl, by go_num, by omega, hle.2, hle.1, HST.out, below_drewN HB.out _⟩
        · have hdb : decide (n ≤ (5000 : Int)) = false := decide_eq_false hn
          have hn' : (5000 : Int) < n := by omega
          have hnb : decide ((5000 : Int) < n) = true := decide_eq_true (by omega)
          go_wp2
          go_ret
          exact ⟨true, rfl, HB.out, fun e => by cases e⟩
  · have hlI : (60 : Int) < (l.length : Int) := by omega
    go_enter Tryd.func24, Tryd.ntmps24
    go_wp2
    go_ret
    exact ⟨true, rfl, Below.refl _ _, fun e => by cases e⟩
end Go.Proofs.YtlcgkcafelpglaaDoor
