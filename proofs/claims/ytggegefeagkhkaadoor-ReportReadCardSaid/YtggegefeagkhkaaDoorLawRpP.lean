/- ReportPrint, walked: any job's report of any state is the document's. -/
import Derived.Test.YtggegefeagkhkaaDoorRpW
import Derived.Laws.Rows
namespace Go.Proofs.YtggegefeagkhkaaDoor
open Go.RowKit

def jobC (k j1 j2 j3 j4 : Int) : Array Value := #[.int .u8 k, .int .i64 j1, .int .i64 j2, .int .i64 j3, .int .i64 j4]
def stC (step : Int) (A : Option Addr) (n c : Nat) (A2 : Option Addr) (n2 c2 : Nat) (A3 : Option Addr) (n3 c3 : Nat) (s4 s5 : Int) : Array Value := #[.int .i64 step, .slice A n c, .slice A2 n2 c2, .slice A3 n3 c3, .int .i64 s4, .int .i64 s5]
theorem sizeJob : (Tryd.prog.info? 23).map (·.size) = some 5 := by kernel_rfl
theorem sizeState : (Tryd.prog.info? 28).map (·.size) = some 6 := by kernel_rfl
set_option maxRecDepth 100000 in
set_option maxHeartbeats 8000000 in
theorem lawPrint_any (w : World) (hG : Gl w) (k j1 j2 j3 j4 step : Int) (A : Option Addr) (c : Nat) (vs : List Int) (A2 : Option Addr) (n2 c2 : Nat) (A3 : Option Addr) (n3 c3 : Nat) (s4 s5 : Int) (hk : 0 ≤ k ∧ k ≤ 255) (hr : Rd w 1 A vs.length (vs.map (Value.int .i64))) :
    Calls Tryd.prog 3 #[.agg #[.int .u8 k, .int .i64 j1, .int .i64 j2, .int .i64 j3, .int .i64 j4], .agg #[.int .i64 step, .slice A vs.length c, .slice A2 n2 c2, .slice A3 n3 c3, .int .i64 s4, .int .i64 s5]] w fun e w' => e = .returned (.bool true) ∧ Below w.heap.size w w' := by
  have hB1 := ((Below.refl w.heap.size w).alloc (Nat.le_refl _) (.cells #[.int .u8 k, .int .i64 j1, .int .i64 j2, .int .i64 j3, .int .i64 j4] 23)).alloc (by simp) (.cells #[.int .i64 step, .slice A vs.length c, .slice A2 n2 c2, .slice A3 n3 c3, .int .i64 s4, .int .i64 s5] 28)
  have kJ := (Blk.new w 23 #[.int .u8 k, .int .i64 j1, .int .i64 j2, .int .i64 j3, .int .i64 j4]).alloc (.cells #[.int .i64 step, .slice A vs.length c, .slice A2 n2 c2, .slice A3 n3 c3, .int .i64 s4, .int .i64 s5] 28)
  have kS := Blk.new (w.alloc (.cells #[.int .u8 k, .int .i64 j1, .int .i64 j2, .int .i64 j3, .int .i64 j4] 23)) 28 #[.int .i64 step, .slice A vs.length c, .slice A2 n2 c2, .slice A3 n3 c3, .int .i64 s4, .int .i64 s5]
  rw [show (w.alloc (.cells #[.int .u8 k, .int .i64 j1, .int .i64 j2, .int .i64 j3, .int .i64 j4] 23)).heap.size = w.heap.size + 1 by simp] at kS
  obtain ⟨W1, hW1⟩ : ∃ W1, (w.alloc (.cells #[.int .u8 k, .int .i64 j1, .int .i64 j2, .int .i64 j3, .int .i64 j4] 23)).alloc (.cells #[.int .i64 step, .slice A vs.length c, .slice A2 n2 c2, .slice A3 n3 c3, .int .i64 s4, .int .i64 s5] 28) = W1 := ⟨_, rfl⟩
  have HW := Lib.hid (fun (W : World) (hW : Below w.heap.size w W) => works_any W (hG.below hW))
  by_cases hl : 60 < vs.length
  · have hlI : (60 : Int) < (vs.length : Int) := by omega
    have hld : decide ((60 : Int) < (vs.length : Int)) = true := decide_eq_true hlI
    have HB1 := Lib.hid hB1
    clear hB1 kJ kS hr hW1
    go_enter Tryd.func3, Tryd.ntmps3
    go_wp2_with fail
    refine (HW.out _ HB1.out).mono ?_
    rintro e w2 ⟨rfl, hb2⟩
    have HB2 := Lib.hid (HB1.out.trans (hb2.mono HB1.out.size))
    clear hb2
    go_wp2
    go_ret
    exact ⟨rfl, HB2.out⟩
  · have hlI : ¬ (60 : Int) < (vs.length : Int) := by omega
    have hld : decide ((60 : Int) < (vs.length : Int)) = false := decide_eq_false hlI
    rw [hW1] at hB1 kJ kS
    have hP := pPrint_any W1 (hG.below hB1) k step A c vs (.int .i64 j1) (.int .i64 j2) (.int .i64 j3) (.int .i64 j4) (.slice A2 n2 c2) (.slice A3 n3 c3) (.int .i64 s4) (.int .i64 s5) hk (hr.below hB1) (by omega)
    have hQ := fun (W : World) (hW : Below W1.heap.size W1 W) => rPrint_any W k step A c vs (.int .i64 j1) (.int .i64 j2) (.int .i64 j3) (.int .i64 j4) (.slice A2 n2 c2) (.slice A3 n3 c3) (.int .i64 s4) (.int .i64 s5) hk ((hr.below hB1).below hW) (by omega)
    have HP := Lib.hid hP; have HQ := Lib.hid hQ; have HB1 := Lib.hid hB1; have HJ := Lib.hid kJ; have HS := Lib.hid kS; have HW1 := Lib.hid hW1
    clear hP hQ hB1 kJ kS hr hG hl hW1
    go_enter Tryd.func3, Tryd.ntmps3
    go_wp2_with fail
    rw [HW1.out]
    refine HP.out.mono ?_
    rintro e w2 ⟨rfl, hb2⟩
    have hJ2 := HJ.out.below hb2 HJ.out.lt
    have hS2 := HS.out.below hb2 HS.out.lt
    have a0 := hJ2.cell 0; have a1 := hJ2.cell 1; have a2 := hJ2.cell 2; have a3 := hJ2.cell 3; have a4 := hJ2.cell 4
    have b0 := hS2.cell 0; have b1 := hS2.cell 1; have b2 := hS2.cell 2; have b3 := hS2.cell 3; have b4 := hS2.cell 4; have b5 := hS2.cell 5
    simp only [List.getElem?_toArray, List.getElem?_cons_zero, List.getElem?_cons_succ] at a0 a1 a2 a3 a4 b0 b1 b2 b3 b4 b5
    have HB2 := Lib.hid (HB1.out.trans (hb2.mono HB1.out.size))
    have HQ2 := Lib.hid (HQ.out w2 hb2)
    clear hb2
    go_wp2_with fail
    refine HQ2.out.mono ?_
    rintro e w3 ⟨rfl, hb3⟩
    have HB3 := Lib.hid (HB2.out.trans (hb3.mono HB2.out.size))
    obtain ⟨T, hT⟩ : ∃ T, prT k step vs = T := ⟨_, rfl⟩
    obtain ⟨E, hE⟩ : ∃ E, prE k step vs = E := ⟨_, rfl⟩
    rw [hT, hE]
    have hb1 : (T.toList == T.toList) = true := by simp
    have hb2 : (E == E) = true := by simp
    clear hb3 hT hE
    go_wp2_with fail
    refine (HW.out _ HB3.out).mono ?_
    rintro e w4 ⟨rfl, hb4⟩
    have HB4 := Lib.hid (HB3.out.trans (hb4.mono HB3.out.size))
    clear hb4
    go_wp2
    go_ret
    exact ⟨rfl, HB4.out⟩
end Go.Proofs.YtggegefeagkhkaaDoor
