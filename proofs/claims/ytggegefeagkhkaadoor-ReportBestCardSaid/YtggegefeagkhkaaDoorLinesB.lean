/- Walks of strings.Lines and of words.Lines: a range over a function whose state lies in a cell of its own. -/
import Derived.Test.YtggegefeagkhkaaDoorLinesS
import Derived.Test.YtggegefeagkhkaaDoorRows
import Derived.Test.YtggegefeagkhkaaDoorMem
import Derived.Test.YtggegefeagkhkaaDoorPk19
import Derived.Test.YtggegefeagkhkaaDoorShelf
import Derived.RangeFuncNested
import Derived.RangeFuncBound
import Derived.RangeFuncCalls
import Derived.RangeFuncLeaves
import Derived.Shelf.Abstract
import Derived.Shelf.RegionOpen
import Derived.WalkKit
import Derived.OwnWalkIn
import Derived.TacticsInMore
import Derived.LoopNIn
import Derived.LoopIn
import Derived.Outline
import Derived.Lib.Hide
namespace Go.Proofs.YtggegefeagkhkaaDoor
open Go.RowKit Go.Shelf
attribute [local go_sem] Oper.semAt_some

theorem stringsLines_any (s : ByteArray) (w : World) :
    Calls Tryd.prog 55 #[.string s] w fun e w' => e = .returned (.func (.func 66) #[] #[.pointer (some ⟨w.heap.size, 0, none⟩)]) ∧ w' = w.alloc (.cells #[.string s] 9) := by
  go_enter Tryd.func55, Tryd.ntmps55
  go_wp2
  go_ret
  exact ⟨rfl, rfl⟩

/-- how much is left: for the loop's measure -/
def leftAt (w : World) (b : Nat) : Nat := match w.cell? ⟨b, 0, none⟩ with | some (.string s) => s.size | _ => 0
theorem leftAt_eq {w : World} {b : Nat} {s : ByteArray} (h : w.cell? ⟨b, 0, none⟩ = some (.string s)) : leftAt w b = s.size := by simp [leftAt, h]

set_option maxRecDepth 100000 in
set_option maxHeartbeats 2000000 in
theorem lines1_in (l Bs : Nat) (J : List ByteArray → World → Prop) (s0 : ByteArray) (hs0 : s0.size ≤ 4294967296)
    (hJs : ∀ pre W v, J pre W → J pre (W.setCell ⟨Bs, 0, none⟩ v)) (hJd : ∀ pre W, J pre W → J pre W.drew)
    (hY : ∀ pre x W, J pre W → pre.length < s0.size → x.size ≤ s0.size → YieldAt Fence.wide 3 Tryd.prog l #[.string x] W fun e W' =>
      e = .returned (.bool true) ∧ J (pre ++ [x]) W' ∧ W'.cell? ⟨Bs, 0, none⟩ = W.cell? ⟨Bs, 0, none⟩ ∧ W'.frozen? ⟨Bs, 0, none⟩ = W.frozen? ⟨Bs, 0, none⟩)
    (W : World) (hc : W.cell? ⟨Bs, 0, none⟩ = some (.string s0)) (hf : W.frozen? ⟨Bs, 0, none⟩ = false) (h0 : J [] W) :
    CallsIn Fence.wide 4 Tryd.prog 66 #[.func (.yield l) #[] #[], .pointer (some ⟨Bs, 0, none⟩)] W fun e W' => (∃ v, e = .returned v) ∧ J (lns s0.size s0) W' := by
  refine callsIn_of_wp Tryd.func66 rfl trivial ?_ rfl
  simp only [Tryd.ntmps66, List.size_toArray, List.length_cons, List.length_nil, Nat.reduceAdd, Nat.reduceSub, Array.replicate_succ, Array.replicate_zero, List.push_toArray, List.append_toArray, List.nil_append, List.cons_append]
  gi_wp2
  gi_loopw [3, 4] (fun _ _ wr => ∃ (pre : List ByteArray) (s : ByteArray) (f : Nat), lns s0.size s0 = pre ++ lns f s ∧ s.size ≤ f ∧ pre.length + s.size ≤ s0.size ∧ J pre wr ∧ wr.cell? ⟨Bs, 0, none⟩ = some (.string s) ∧ wr.frozen? ⟨Bs, 0, none⟩ = false)
    (fun _ _ wr => leftAt wr Bs)
  case atStart => exact ⟨[], s0, s0.size, rfl, by omega, by simp, h0, hc, hf⟩
  case round =>
    obtain ⟨pre, s, f, hl, hsf, hps, hJ, hcs, hfs⟩ := hrel
    by_cases hz : s.size = 0
    · gi_wp2
      go_end0
      refine ⟨⟨_, rfl⟩, ?_⟩
      rw [hl, lns_nil f s hz, List.append_nil]
      exact hJ
    · have hz' : 0 < s.size := by omega
      obtain ⟨f, rfl⟩ : ∃ g, f = g + 1 := ⟨f - 1, by omega⟩
      have hix := Tryd.strings_IndexByte s 10
      have hge := Lib.indexByte_ge s.data.toList 10
      rw [lns, if_neg hz] at hl
      by_cases h10 : 0 ≤ Lib.indexByte s.data.toList 10
      · rw [if_pos h10] at hl
        obtain ⟨k, hk⟩ := Int.eq_ofNat_of_zero_le h10
        have hkl := index_lt s k hk
        rw [hk, Int.toNat_natCast] at hl
        have hix' : ∀ w, Calls Tryd.prog 67 #[.string s, .int .u8 10] w fun e w' => e = .returned (.int .i64 k) ∧ w = w' := fun w => by
          refine (hix w).mono ?_
          rintro e w' ⟨he, hw⟩
          refine ⟨?_, hw.symm⟩
          rw [he, ← hk]; rfl
        have HX := Lib.hid hix'; have HL := Lib.hid hl
        clear hix hge hix' hl hk h10
        obtain ⟨fn, tmps, assign, body, hy, hR⟩ := hY pre (s.extract 0 (k + 1)) ((wr.setCell ⟨Bs, 0, none⟩ (.string (s.extract (k + 1) s.size))).drew) (hJd _ _ (hJs _ _ _ hJ)) (by omega) (by simp; omega)
        have HR := Lib.hid hR
        clear hR
        gi_wp2_with (refine ⟨trivial, ?_⟩; gi_at_call 67; refine (callsIn_wide.2 (HX.out _)).mono ?_; rintro e w' ⟨rfl, rfl⟩)
        gi_region
        all_goals gi_wp2
        refine HR.out.mono ?_
        rintro e W3 ⟨rfl, hJ3, hc3, hf3⟩
        have hcs3 : W3.cell? ⟨Bs, 0, none⟩ = some (.string (s.extract (k + 1) s.size)) := hc3.trans (World.cell?_setCell_same' _ _ _ (by rw [hcs]; rfl))
        have hfs3 : W3.frozen? ⟨Bs, 0, none⟩ = false := by rw [hf3]; show (wr.setCell _ _).frozen? _ = false; rw [World.frozen?_setCell]; exact hfs
        have hms := leftAt_eq hcs3
        have hmw := leftAt_eq hcs
        have HM := Lib.hid hms; have HMW := Lib.hid hmw
        clear hc3 hf3 hms hmw
        gi_wp2
        go_roundw
        case rel =>
          refine ⟨pre ++ [s.extract 0 (k + 1)], s.extract (k + 1) s.size, f, ?_, by simp; omega, by simp; omega, hJ3, hcs3, hfs3⟩
          rw [HL.out, List.append_assoc]; rfl
        case measure => rw [HM.out, HMW.out]; simp; omega
      · have hm1 : Lib.indexByte s.data.toList 10 = -1 := by omega
        rw [if_neg h10] at hl
        have hix' : ∀ w, Calls Tryd.prog 67 #[.string s, .int .u8 10] w fun e w' => e = .returned (.int .i64 (-1)) ∧ w = w' := fun w => by
          refine (hix w).mono ?_
          rintro e w' ⟨he, hw⟩
          refine ⟨?_, hw.symm⟩
          rw [he, ← hm1]; rfl
        have HX := Lib.hid hix'; have HL := Lib.hid hl
        clear hix hge hix' hl hm1 h10
        obtain ⟨fn, tmps, assign, body, hy, hR⟩ := hY pre s (wr.setCell ⟨Bs, 0, none⟩ (.string ⟨#[]⟩)) (hJs _ _ _ hJ) (by omega) (by omega)
        have HR := Lib.hid hR
        clear hR
        gi_wp2_with (refine ⟨trivial, ?_⟩; gi_at_call 67; refine (callsIn_wide.2 (HX.out _)).mono ?_; rintro e w' ⟨rfl, rfl⟩)
        refine HR.out.mono ?_
        rintro e W3 ⟨rfl, hJ3, hc3, hf3⟩
        have hcs3 : W3.cell? ⟨Bs, 0, none⟩ = some (.string ⟨#[]⟩) := hc3.trans (World.cell?_setCell_same' _ _ _ (by rw [hcs]; rfl))
        have hfs3 : W3.frozen? ⟨Bs, 0, none⟩ = false := by rw [hf3, World.frozen?_setCell]; exact hfs
        have hms := leftAt_eq hcs3
        have hmw := leftAt_eq hcs
        have HM := Lib.hid hms; have HMW := Lib.hid hmw
        clear hc3 hf3 hms hmw
        gi_wp2
        go_roundw
        case rel =>
          have h0 : (⟨#[]⟩ : ByteArray).size = 0 := rfl
          have hlen : (pre ++ [s]).length + (⟨#[]⟩ : ByteArray).size ≤ s0.size := by rw [List.length_append, h0]; simp only [List.length_singleton]; omega
          refine ⟨pre ++ [s], ⟨#[]⟩, f, ?_, Nat.zero_le _, hlen, hJ3, hcs3, hfs3⟩
          rw [HL.out, lns_nil f ⟨#[]⟩ rfl, List.append_nil]
        case measure => rw [HM.out, HMW.out]; exact hz'
end Go.Proofs.YtggegefeagkhkaaDoor
