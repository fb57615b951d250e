/- The order of edges, as the program asks it. -/
import Derived.Test.YtknigkjbnaoldaaDoorGrB
namespace Go.Proofs.YtknigkjbnaoldaaDoor
open Go.RowKit

/-- how two edges stand -/
def cmpE (a b : Edg) : Int := orI (cmpI a.1 b.1) (cmpI a.2.1 b.2.1)
theorem or_blk (a b : Int) (g : Nat) (w : World) (h : Blk w g 3 #[.int .i64 a, .int .i64 b]) : Calls Tryd.prog 59 #[.slice (some ⟨g, 0, none⟩) 2 2] w fun e w' => e = .returned (.int .i64 (orI a b)) ∧ w' = w :=
  or_any a b g w (h.cell 0) (h.cell 1)
set_option maxRecDepth 100000 in
set_option maxHeartbeats 2000000 in
theorem order_any (x y : Edg) (w : World) : Calls Tryd.prog 32 #[.agg #[.int .i64 x.1, .int .i64 x.2.1, .int .i64 x.2.2], .agg #[.int .i64 y.1, .int .i64 y.2.1, .int .i64 y.2.2]] w fun e w' => e = .returned (.int .i64 (cmpE x y)) ∧ ∃ q, w' = ((((w.alloc (.cells #[.int .i64 x.1, .int .i64 x.2.1, .int .i64 x.2.2] 35)).alloc (.cells #[.int .i64 y.1, .int .i64 y.2.1, .int .i64 y.2.2] 35)).drewN q).alloc (.cells #[.int .i64 (cmpI x.1 y.1), .int .i64 (cmpI x.2.1 y.2.1)] 3)) := by
  have hA := Blk.new (w.alloc (.cells #[.int .i64 x.1, .int .i64 x.2.1, .int .i64 x.2.2] 35)) 35 #[.int .i64 y.1, .int .i64 y.2.1, .int .i64 y.2.2]
  rw [show (w.alloc (.cells #[.int .i64 x.1, .int .i64 x.2.1, .int .i64 x.2.2] 35)).heap.size = w.heap.size + 1 from by simp] at hA
  have hB := (Blk.new w 35 #[.int .i64 x.1, .int .i64 x.2.1, .int .i64 x.2.2]).alloc (.cells #[.int .i64 y.1, .int .i64 y.2.1, .int .i64 y.2.2] 35)
  have a0 := hA.cell 0; have a1 := hA.cell 1; have b0 := hB.cell 0; have b1 := hB.cell 1
  simp only [List.getElem?_toArray, List.getElem?_cons_zero, List.getElem?_cons_succ] at a0 a1 b0 b1
  have hc := fun w => compareI_any x.1 y.1 w
  have hd := fun w => compareI_any x.2.1 y.2.1 w
  unfold cmpE
  generalize cmpI x.1 y.1 = p at hc ⊢
  generalize cmpI x.2.1 y.2.1 = r at hd ⊢
  have hor : Blk (((w.alloc (.cells #[.int .i64 x.1, .int .i64 x.2.1, .int .i64 x.2.2] 35)).alloc (.cells #[.int .i64 y.1, .int .i64 y.2.1, .int .i64 y.2.2] 35)).alloc (.cells #[.int .i64 p, .int .i64 r] 3)).drew (w.heap.size + 1 + 1) 3 #[.int .i64 p, .int .i64 r] := by
    have := Blk.new ((w.alloc (.cells #[.int .i64 x.1, .int .i64 x.2.1, .int .i64 x.2.2] 35)).alloc (.cells #[.int .i64 y.1, .int .i64 y.2.1, .int .i64 y.2.2] 35)) 3 #[.int .i64 p, .int .i64 r]
    rw [show ((w.alloc (.cells #[.int .i64 x.1, .int .i64 x.2.1, .int .i64 x.2.2] 35)).alloc (.cells #[.int .i64 y.1, .int .i64 y.2.1, .int .i64 y.2.2] 35)).heap.size = w.heap.size + 1 + 1 from by simp] at this
    exact this
  have HC := Lib.hid hc; have HD := Lib.hid hd; have HOR := Lib.hid hor
  clear hA hB hc hd hor
  go_enter Tryd.func32, Tryd.ntmps32
  go_wp2
  go_region_held3 (fun w' => w'.cell? ⟨w.heap.size, 0, none⟩ = some (.int .i64 x.1) ∧ w'.cell? ⟨w.heap.size, 1, none⟩ = some (.int .i64 x.2.1) ∧ w'.cell? ⟨w.heap.size + 1, 0, none⟩ = some (.int .i64 y.1) ∧ w'.cell? ⟨w.heap.size + 1, 1, none⟩ = some (.int .i64 y.2.1)) (go_keep) (first | (go_at_call 60; (with_reducible refine (HC.out _).mono ?_); rintro e w' ⟨rfl, rfl⟩) | (go_at_call 60; (with_reducible refine (HD.out _).mono ?_); rintro e w' ⟨rfl, rfl⟩) | (go_at_call 59; (with_reducible refine (or_blk _ _ _ _ HOR.out).mono ?_); rintro e w' ⟨rfl, rfl⟩))
  go_wp2
  go_ret
  exact ⟨rfl, 1, rfl⟩
end Go.Proofs.YtknigkjbnaoldaaDoor
