/- slices.Backward of bytes: the iterator, whose body writes the row. -/
import Derived.Test.YthmcimpdehgaoaaGreatDoorMaA
import Derived.Test.YthmcimpdehgaoaaGreatDoorRangeSt
import Derived.RangeFuncNested
import Derived.RangeFuncBound
import Derived.RangeFuncCalls
import Derived.RangeFuncLeaves
import Derived.Shelf.Abstract
import Derived.Shelf.RegionOpen
import Derived.OwnWalkIn
import Derived.TacticsInMore
import Derived.LoopNIn
import Derived.LoopIn
namespace Go.Proofs.YthmcimpdehgaoaaGreatDoor
open Go.RowKit Go.Shelf
attribute [local go_sem] Oper.semAt_some

theorem backward_any (A : Option Addr) (n c : Nat) (w : World) :
    Calls Tryz.prog 139 #[.slice A n c] w fun e w' => e = .returned (.func (.func 160) #[] #[.pointer (some ⟨w.heap.size, 0, none⟩)]) ∧ w' = w.alloc (.cells #[.slice A n c] 33) := by
  go_enter Tryz.func139, Tryz.ntmps139
  go_wp2
  go_ret
  exact ⟨rfl, rfl⟩
/-- a row of bytes of a length, and its slice in a box -/
def RowOk (gb g n : Nat) (X : World) : Prop :=
  Blk X gb 33 #[.slice (some ⟨g, 0, none⟩) n n] ∧ ∃ cs : Array Value, Blk X g 5 cs ∧ ∀ i, i < n → ∃ v : Int, cs[i]? = some (.int .u8 v)
set_option maxRecDepth 100000 in
set_option maxHeartbeats 2000000 in
theorem back_in (l gb g n : Nat) (hn : n ≤ 1000000000) (J : List (Nat × Int) → World → Prop)
    (hY : ∀ pre (x : Nat × Int) X, J pre X → RowOk gb g n X → pre.length < n → x.1 < n → YieldAt Fence.wide 3 Tryz.prog l #[.int .i64 x.1, .int .u8 x.2] X fun e X' =>
      e = .returned (.bool true) ∧ J (pre ++ [x]) X' ∧ RowOk gb g n X')
    (X : World) (h : RowOk gb g n X) (h0 : J [] X) :
    CallsIn Fence.wide 4 Tryz.prog 160 #[.func (.yield l) #[] #[], .pointer (some ⟨gb, 0, none⟩)] X fun e X' => (∃ v, e = .returned v) ∧ ∃ xs : List (Nat × Int), xs.map (·.1) = (List.range n).reverse ∧ J xs X' := by
  refine callsIn_of_wp Tryz.func160 rfl trivial ?_ rfl
  simp only [Tryz.ntmps160, List.size_toArray, List.length_cons, List.length_nil, Nat.reduceAdd, Nat.reduceSub, Array.replicate_succ, Array.replicate_zero, List.push_toArray, List.append_toArray, List.nil_append, List.cons_append]
  have g0 := h.1.cell 0
  simp only [List.getElem?_toArray, List.getElem?_cons_zero] at g0
  gi_wp2
  gi_loopw [3] (fun v wr => ∃ (pre : List (Nat × Int)) (k : Nat), v = .int .i64 ((k : Int) - 1) ∧ k + pre.length = n ∧ pre.map (·.1) = (List.range' k (n - k)).reverse ∧ J pre wr ∧ RowOk gb g n wr)
    (fun v _ => match v with | .int _ i => (i + 1).toNat | _ => 0)
  case atStart => exact ⟨[], n, by go_num, by simp, by simp, h0, h⟩
  case round =>
    clear g0
    obtain ⟨pre, k, rfl, hk, hm, hJ, hR⟩ := hrel
    have g0 := hR.1.cell 0
    simp only [List.getElem?_toArray, List.getElem?_cons_zero] at g0
    cases k with
    | zero =>
      gi_wp2
      go_end0
      refine ⟨⟨_, rfl⟩, pre, ?_, hJ⟩
      rw [hm]; simp [List.range_eq_range']
    | succ k =>
      obtain ⟨cs, hcs, hc⟩ := hR.2
      obtain ⟨v, hv⟩ := hc k (by omega)
      have gk := hcs.cell k
      rw [hv] at gk
      have hk1 : ((k + 1 : Nat) : Int) - 1 = (k : Int) := by omega
      rw [hk1]
      have hkn : (k : Int) < (n : Int) := by omega
      obtain ⟨fn, tmps, assign, body, hy, hRd⟩ := hY pre (k, v) wr hJ hR (by omega) (by show k < n; omega)
      have HR := Lib.hid hRd
      clear hRd
      gi_wp2
      refine HR.out.mono ?_
      rintro e W3 ⟨rfl, hJ3, hR3⟩
      clear HR g0 gk
      gi_wp2
      go_roundw
      case rel =>
        refine ⟨pre ++ [(k, v)], k, by go_num, by rw [List.length_append]; simp; omega, ?_, hJ3, hR3⟩
        rw [List.map_append, hm, show n - k = (n - (k + 1)) + 1 by omega, List.range'_succ, List.reverse_cons]
        rfl
      case measure => simp
end Go.Proofs.YthmcimpdehgaoaaGreatDoor
