/- Walk of the reference's Lines. -/
import Derived.Test.YtggegefeagkhkaaDoorLinesS
import Derived.Test.YtggegefeagkhkaaDoorRows
import Derived.Test.YtggegefeagkhkaaDoorMem
import Derived.Test.YtggegefeagkhkaaDoorPk22
import Derived.WalkKit
import Derived.WalkLawsBesides
import Derived.WalkSpells
import Derived.BigQuiet
import Derived.Deep.QuietTactic
import Derived.Outline
import Derived.Lib.Hide
import Derived.Deep.DeepMust
import Derived.Deep.LoopGhost
namespace Go.Proofs.YtggegefeagkhkaaDoor
open Go.RowKit


set_option maxRecDepth 100000 in
set_option maxHeartbeats 4000000 in
theorem linesR_any (s : ByteArray) (w : World) (hs : s.size ≤ 4294967296) :
    Calls Tryd.prog 44 #[.string s] w fun e w' => ∃ v, e = .returned v ∧ w'.ownsRow w.heap.size 9 1 v (linesR s).length ((linesR s).map Value.string) ∧ Below w.heap.size w w' := by
  obtain ⟨i0, hi, hz0, hz1, hz2⟩ := info_parts info9
  go_enter Tryd.func44, Tryd.ntmps44
  go_wp2
  go_loopg [3, 4, 5] (s.size + 1) (fun gf v4 v5 v6 wr => ∃ (i fr : Nat) (acc : List ByteArray), v6 = .int .i64 i ∧ v5 = .int .i64 fr ∧ i + gf = s.size + 1 ∧ fr ≤ i ∧ acc.length ≤ i ∧ linR s gf i fr acc = linesR s ∧
      wr.ownsRow w.heap.size 9 1 v4 acc.length (acc.map Value.string) ∧ Below w.heap.size w wr)
  case atStart => exact ⟨0, 0, [], rfl, rfl, by omega, by omega, by simp, rfl, World.ownsRow_nil _ _ _ _, Below.refl _ _⟩
  case round =>
    obtain ⟨i, fr, acc, rfl, rfl, hig, hfr, hal, hlin, hown, hB⟩ := hrel
    have hbsz := hB.size
    cases gk with
    | zero =>
      obtain rfl : i = s.size + 1 := by omega
      rw [linR] at hlin
      have HL := Lib.hid hlin; have HO := Lib.hid hown; have HB := Lib.hid hB
      clear hlin hown hB
      go_wp2
      go_ret
      exact ⟨_, rfl, by rw [← HL.out]; exact HO.out, HB.out⟩
    | succ gf =>
      rw [linR] at hlin
      by_cases hc : (i < s.size ∧ bt s i ≠ 10) ∨ (i = s.size ∧ fr = i)
      · rw [if_pos hc] at hlin
        have HL := Lib.hid hlin; have HO := Lib.hid hown; have HB := Lib.hid hB
        clear hlin hown hB
        rcases hc with ⟨h1, h2⟩ | ⟨rfl, rfl⟩
        · rw [bt_lt s i h1] at h2
          have h2b : (((s[i]'h1).toNat : Int) != 10) = true := by rw [bne_iff_ne]; omega
          clear h2
          go_wp2
          go_roundg gf
          case measure => omega
          case rel => exact ⟨i + 1, fr, acc, by go_num, rfl, by omega, by omega, by omega, HL.out, HO.out, HB.out⟩
        · go_wp2
          go_roundg gf
          case measure => omega
          case rel => exact ⟨s.size + 1, s.size, acc, by go_num, rfl, by omega, by omega, by omega, HL.out, HO.out, HB.out⟩
      · rw [if_neg hc] at hlin
        have hi2 : i ≤ s.size := by omega
        have hor : (i < s.size ∧ bt s i = 10) ∨ (i = s.size ∧ fr < i) := by omega
        clear hc
        by_cases ht : fr < i ∧ bt s (i - 1) = 13
        · rw [if_pos ht] at hlin
          obtain ⟨h3, h4⟩ := ht
          have h5 : i - 1 < s.size := by omega
          rw [bt_lt s (i - 1) h5] at h4
          have h4b : (((s[i - 1]'h5).toNat : Int) == 13) = true := by rw [beq_iff_eq]; omega
          have HL := Lib.hid hlin; have HO := Lib.hid hown; have HB := Lib.hid hB
          clear hlin hown hB h4
          rcases hor with ⟨h1, h2⟩ | ⟨h1, h2⟩
          · rw [bt_lt s i h1] at h2
            have h2b : (((s[i]'h1).toNat : Int) != 10) = false := by rw [bne_eq_false_iff_eq]; omega
            have hie : ((i : Int) == (s.size : Int)) = false := by rw [beq_eq_false_iff_ne]; omega
            clear h2
            go_wp2_with (at_builtin; go_must (refine wpList_app _ wr rfl (.tmp 47) (.tmp 52) 61 rfl w.heap.size 9 i0 (.string ⟨#[]⟩) 1 16 Tryd.underlying61 hi hz0 hz1 hz2 rfl (by decide) (by decide) _ _ _ rfl HO [.string (s.extract fr (i - 1))] rfl rfl rfl _ rfl rfl (by omega) hbsz ?_; intro v3 w3 HO3 HG3 HB3))
            go_roundg gf
            case measure => omega
            case rel => exact ⟨i + 1, i + 1, _, by go_num, by go_num, by omega, by omega, by simp; omega, HL.out, by rw [List.length_append, List.map_append]; exact HO3.out, HB.out.trans HB3.out⟩
            
          · subst h1
            go_wp2_with (at_builtin; go_must (refine wpList_app _ wr rfl (.tmp 47) (.tmp 52) 61 rfl w.heap.size 9 i0 (.string ⟨#[]⟩) 1 16 Tryd.underlying61 hi hz0 hz1 hz2 rfl (by decide) (by decide) _ _ _ rfl HO [.string (s.extract fr (s.size - 1))] rfl rfl rfl _ rfl rfl (by omega) hbsz ?_; intro v3 w3 HO3 HG3 HB3))
            go_roundg gf
            case measure => omega
            case rel => exact ⟨s.size + 1, s.size + 1, _, by go_num, by go_num, by omega, by omega, by simp; omega, HL.out, by rw [List.length_append, List.map_append]; exact HO3.out, HB.out.trans HB3.out⟩
            
        · rw [if_neg ht] at hlin
          by_cases h3 : fr < i
          · have h5 : i - 1 < s.size := by omega
            have h4 : ¬ bt s (i - 1) = 13 := fun e => ht ⟨h3, e⟩
            rw [bt_lt s (i - 1) h5] at h4
            have h4b : (((s[i - 1]'h5).toNat : Int) == 13) = false := by rw [beq_eq_false_iff_ne]; omega
            have HL := Lib.hid hlin; have HO := Lib.hid hown; have HB := Lib.hid hB
            clear hlin hown hB h4 ht
            rcases hor with ⟨h1, h2⟩ | ⟨h1, h2⟩
            · rw [bt_lt s i h1] at h2
              have h2b : (((s[i]'h1).toNat : Int) != 10) = false := by rw [bne_eq_false_iff_eq]; omega
              have hie : ((i : Int) == (s.size : Int)) = false := by rw [beq_eq_false_iff_ne]; omega
              clear h2
              go_wp2_with (at_builtin; go_must (refine wpList_app _ wr rfl (.tmp 47) (.tmp 52) 61 rfl w.heap.size 9 i0 (.string ⟨#[]⟩) 1 16 Tryd.underlying61 hi hz0 hz1 hz2 rfl (by decide) (by decide) _ _ _ rfl HO [.string (s.extract fr (i))] rfl rfl rfl _ rfl rfl (by omega) hbsz ?_; intro v3 w3 HO3 HG3 HB3))
              go_roundg gf
              case measure => omega
              case rel => exact ⟨i + 1, i + 1, _, by go_num, by go_num, by omega, by omega, by simp; omega, HL.out, by rw [List.length_append, List.map_append]; exact HO3.out, HB.out.trans HB3.out⟩
              
            · subst h1
              go_wp2_with (at_builtin; go_must (refine wpList_app _ wr rfl (.tmp 47) (.tmp 52) 61 rfl w.heap.size 9 i0 (.string ⟨#[]⟩) 1 16 Tryd.underlying61 hi hz0 hz1 hz2 rfl (by decide) (by decide) _ _ _ rfl HO [.string (s.extract fr (s.size))] rfl rfl rfl _ rfl rfl (by omega) hbsz ?_; intro v3 w3 HO3 HG3 HB3))
              go_roundg gf
              case measure => omega
              case rel => exact ⟨s.size + 1, s.size + 1, _, by go_num, by go_num, by omega, by omega, by simp; omega, HL.out, by rw [List.length_append, List.map_append]; exact HO3.out, HB.out.trans HB3.out⟩
              
          · have HL := Lib.hid hlin; have HO := Lib.hid hown; have HB := Lib.hid hB
            clear hlin hown hB ht
            have h1 : i < s.size := by omega
            have h2 : bt s i = 10 := by omega
            obtain rfl : fr = i := by omega
            rw [bt_lt s fr h1] at h2
            have h2b : (((s[fr]'h1).toNat : Int) != 10) = false := by rw [bne_eq_false_iff_eq]; omega
            have hie : ((fr : Int) == (s.size : Int)) = false := by rw [beq_eq_false_iff_ne]; omega
            clear h2 hor h3
            have hee : s.extract fr fr = ByteArray.empty := by simp
            rw [hee] at HL
            clear hee
            go_wp2_with (at_builtin; go_must (refine wpList_app _ wr rfl (.tmp 47) (.tmp 52) 61 rfl w.heap.size 9 i0 (.string ⟨#[]⟩) 1 16 Tryd.underlying61 hi hz0 hz1 hz2 rfl (by decide) (by decide) _ _ _ rfl HO [.string (ByteArray.empty)] rfl rfl rfl _ rfl rfl (by omega) hbsz ?_; intro v3 w3 HO3 HG3 HB3))
            go_roundg gf
            case measure => omega
            case rel => exact ⟨fr + 1, fr + 1, _, by go_num, by go_num, by omega, by omega, by simp; omega, HL.out, by rw [List.length_append, List.map_append]; exact HO3.out, HB.out.trans HB3.out⟩
            
end Go.Proofs.YtggegefeagkhkaaDoor
