/- What the program's table says of the type string. Walk of words.Words. Walk of the reference's Words. Walk of the reference's Lines. -/
import Derived.Test.YtggegefeagkhkaaDoorRows
import Derived.WalkKit
import Derived.Test.YtggegefeagkhkaaDoorWordsA
import Derived.Test.YtggegefeagkhkaaDoorPk7
import Derived.Test.YtggegefeagkhkaaDoorMem
import Derived.Test.YtggegefeagkhkaaDoorShelf
import Derived.Lib.OthersKept
import Derived.Deep.LoopGhost
import Derived.Deep.DeepMust
import Derived.Test.YtggegefeagkhkaaDoorWordsE
import Derived.Test.YtggegefeagkhkaaDoorLinesS
import Derived.WalkLawsBesides
import Derived.WalkSpells
import Derived.BigQuiet
import Derived.Deep.QuietTactic
import Derived.Outline
import Derived.Lib.Hide
namespace Go.Proofs.YtggegefeagkhkaaDoor
theorem info9 : (Tryd.prog.info? 9).map (fun i => (i.zero, i.size, i.bytes)) = some (some (.string ⟨#[]⟩), 1, 16) := by kernel_rfl
end Go.Proofs.YtggegefeagkhkaaDoor
namespace Go.Proofs.YtggegefeagkhkaaDoor
open Go.RowKit

/-- what Words hands back: the words, or none and an error -/
def WPost (res : Option (List ByteArray)) (w : World) (e : Ending) (w' : World) : Prop :=
  ∃ v, e = .returned (.tuple #[v, .int .i64 (if res.isSome then 0 else 30)]) ∧ w'.ownsRow w.heap.size 9 1 v (res.getD []).length ((res.getD []).map Value.string) ∧ Below w.heap.size w w'

theorem w_some {o : Option (List ByteArray)} {w w' : World} {e : Ending} {res : List ByteArray} {v : Value} (h : o = some res) (he : e = .returned (.tuple #[v, .int .i64 0]))
    (hown : w'.ownsRow w.heap.size 9 1 v res.length (res.map Value.string)) (hB : Below w.heap.size w w') : WPost o w e w' := by
  subst h; exact ⟨v, he, hown, hB⟩
theorem w_none {o : Option (List ByteArray)} {w w' : World} {e : Ending} (h : o = none) (he : e = .returned (.tuple #[.slice none 0 0, .int .i64 30])) (hB : Below w.heap.size w w') : WPost o w e w' := by
  subst h; exact ⟨_, he, World.ownsRow_nil _ _ _ _, hB⟩
theorem i32_eq {a : Nat} {b : Int} (h : ¬ (a : Int) = b) : ((a : Int) == b) = false := by rw [beq_eq_false_iff_ne]; exact h

end Go.Proofs.YtggegefeagkhkaaDoor
namespace Go.Proofs.YtggegefeagkhkaaDoor
open Go.RowKit

theorem cellsB_at3 (l : List (Nat × Nat)) (i : Nat) (r n : Nat) (h : l[i]? = some (r, n)) :
    (cellsB l)[i * 3]? = some (.int .i32 r) ∧ (cellsB l)[i * 3 + 1]? = some (.int .i64 n) ∧ (cellsB l)[i * 3 + 2]? = some (.bool (isBroken (r, n))) := by
  have hlt := (List.getElem?_eq_some_iff.1 h).1
  have h1 : l = l.take (i + 1) ++ l.drop (i + 1) := (List.take_append_drop _ _).symm
  have h2 : l.take (i + 1) = l.take i ++ [(r, n)] := by rw [List.take_add_one, h]; rfl
  have hl : (cellsB (l.take i)).length = i * 3 := by rw [cellsB_length, List.length_take]; omega
  have h3 : cellsB l = cellsB (l.take i) ++ (.int .i32 r :: .int .i64 n :: .bool (isBroken (r, n)) :: cellsB (l.drop (i + 1))) := by
    conv => lhs; rw [h1, h2]
    simp [cellsB, cellB]
  rw [h3]
  refine ⟨?_, ?_, ?_⟩ <;> rw [List.getElem?_append_right (by omega), hl]
  · simp
  · rw [show i * 3 + 1 - i * 3 = 1 by omega]; rfl
  · rw [show i * 3 + 2 - i * 3 = 2 by omega]; rfl

/-- the widths of a row of characters, added up -/
def wsum (l : List (Nat × Nat)) : Nat := (l.map (·.2)).sum
theorem chsFrom_fits (s : ByteArray) : ∀ f pos, pos ≤ s.size → pos + wsum (chsFrom s f pos) ≤ s.size := by
  intro f
  induction f with
  | zero => intro pos h; simpa [chsFrom, wsum] using h
  | succ f ih =>
    intro pos h
    unfold chsFrom
    split
    · rename_i hp
      have h1 := dec_fits s pos hp
      have h2 := ih (pos + (Utf8.decode s pos).2) h1
      simp only [wsum, List.map_cons, List.sum_cons] at h2 ⊢
      omega
    · simpa [wsum] using h
theorem chs_fits (s : ByteArray) : wsum (chs s) ≤ s.size := by
  have := chsFrom_fits s s.size 0 (Nat.zero_le _)
  unfold chs; omega
theorem wsum_drop (l : List (Nat × Nat)) (k r n : Nat) (h : l[k]? = some (r, n)) : wsum (l.drop k) = n + wsum (l.drop (k + 1)) := by
  obtain ⟨h1, h2⟩ := List.getElem?_eq_some_iff.1 h
  rw [List.drop_eq_getElem_cons h1, h2]
  simp [wsum]

theorem empty_of_size {word : ByteArray} (hw0 : word.size = 0) : word = ByteArray.empty := by
  cases word with
  | mk d => simp [ByteArray.size] at hw0; subst hw0; rfl
theorem word_isEmpty {word : ByteArray} (hw0 : ¬ word.size = 0) : word.toList.isEmpty = false := by
  rw [ByteArray.toList_eq]
  cases h : word.data.toList with
  | nil => exfalso; apply hw0; simp [ByteArray.size, Array.toList_eq_nil_iff.1 h]
  | cons _ _ => rfl

end Go.Proofs.YtggegefeagkhkaaDoor
namespace Go.Proofs.YtggegefeagkhkaaDoor
open Go.RowKit


set_option maxRecDepth 100000 in
set_option maxHeartbeats 4000000 in
theorem linesR_any (s : ByteArray) (w : World) (hs : s.size ≤ 4294967296) :
    Calls Tryd.prog 44 #[.string s] w fun e w' => ∃ v, e = .returned v ∧ w'.ownsRow w.heap.size 9 1 v (linesR s).length ((linesR s).map Value.string) ∧ Below w.heap.size w w' := by
  obtain ⟨i0, hi, hz0, hz1, hz2⟩ := info_parts info9
  go_enter Tryd.func44, Tryd.ntmps44
  go_wp2
  go_loopg [3, 4, 5] (s.size + 1) (fun gf v4 v5 v6 wr => ∃ (i fr : Nat) (acc : List ByteArray), v6 = .int .i64 i ∧ v5 = .int .i64 fr ∧ i + gf = s.size + 1 ∧ fr ≤ i ∧ acc.length ≤ i ∧ linR s gf i fr acc = linesR s ∧
      wr.ownsRow w.heap.size 9 1 v4 acc.length (acc.map Value.string) ∧ Below w.heap.size w wr)
  case atStart => exact ⟨0, 0, [], rfl, rfl, by omega, by omega, by simp, rfl, World.ownsRow_nil _ _ _ _, Below.refl _ _⟩
  case round =>
    obtain ⟨i, fr, acc, rfl, rfl, hig, hfr, hal, hlin, hown, hB⟩ := hrel
    have hbsz := hB.size
    cases gk with
    | zero =>
      obtain rfl : i = s.size + 1 := by omega
      rw [linR] at hlin
      have HL := Lib.hid hlin; have HO := Lib.hid hown; have HB := Lib.hid hB
      clear hlin hown hB
      go_wp2
      go_ret
      exact ⟨_, rfl, by rw [← HL.out]; exact HO.out, HB.out⟩
    | succ gf =>
      rw [linR] at hlin
      by_cases hc : (i < s.size ∧ bt s i ≠ 10) ∨ (i = s.size ∧ fr = i)
      · rw [if_pos hc] at hlin
        have HL := Lib.hid hlin; have HO := Lib.hid hown; have HB := Lib.hid hB
        clear hlin hown hB
        rcases hc with ⟨h1, h2⟩ | ⟨rfl, rfl⟩
        · rw [bt_lt s i h1] at h2
          have h2b : (((s[i]'h1).toNat : Int) != 10) = true := by rw [bne_iff_ne]; omega
          clear h2
          go_wp2
          go_roundg gf
          case measure => omega
          case rel => exact ⟨i + 1, fr, acc, by go_num, rfl, by omega, by omega, by omega, HL.out, HO.out, HB.out⟩
        · go_wp2
          go_roundg gf
          case measure => omega
          case rel => exact ⟨s.size + 1, s.size, acc, by go_num, rfl, by omega, by omega, by omega, HL.out, HO.out, HB.out⟩
      · rw [if_neg hc] at hlin
        have hi2 : i ≤ s.size := by omega
        have hor : (i < s.size ∧ bt s i = 10) ∨ (i = s.size ∧ fr < i) := by omega
        clear hc
        by_cases ht : fr < i ∧ bt s (i - 1) = 13
        · rw [if_pos ht] at hlin
          obtain ⟨h3, h4⟩ := ht
          have h5 : i - 1 < s.size := by omega
          rw [bt_lt s (i - 1) h5] at h4
          have h4b : (((s[i - 1]'h5).toNat : Int) == 13) = true := by rw [beq_iff_eq]; omega
          have HL := Lib.hid hlin; have HO := Lib.hid hown; have HB := Lib.hid hB
          clear hlin hown hB h4
          rcases hor with ⟨h1, h2⟩ | ⟨h1, h2⟩
          · rw [bt_lt s i h1] at h2
            have h2b : (((s[i]'h1).toNat : Int) != 10) = false := by rw [bne_eq_false_iff_eq]; omega
            have hie : ((i : Int) == (s.size : Int)) = false := by rw [beq_eq_false_iff_ne]; omega
            clear h2
            go_wp2_with (at_builtin; go_must (refine wpList_app _ wr rfl (.tmp 47) (.tmp 52) 61 rfl w.heap.size 9 i0 (.string ⟨#[]⟩) 1 16 Tryd.underlying61 hi hz0 hz1 hz2 rfl (by decide) (by decide) _ _ _ rfl HO [.string (s.extract fr (i - 1))] rfl rfl rfl _ rfl rfl (by omega) hbsz ?_; intro v3 w3 HO3 HG3 HB3))
            go_roundg gf
            case measure => omega
            case rel => exact ⟨i + 1, i + 1, _, by go_num, by go_num, by omega, by omega, by simp; omega, HL.out, by rw [List.length_append, List.map_append]; exact HO3.out, HB.out.trans HB3.out⟩
            
          · subst h1
            go_wp2_with (at_builtin; go_must (refine wpList_app _ wr rfl (.tmp 47) (.tmp 52) 61 rfl w.heap.size 9 i0 (.string ⟨#[]⟩) 1 16 Tryd.underlying61 hi hz0 hz1 hz2 rfl (by decide) (by decide) _ _ _ rfl HO [.string (s.extract fr (s.size - 1))] rfl rfl rfl _ rfl rfl (by omega) hbsz ?_; intro v3 w3 HO3 HG3 HB3))
            go_roundg gf
            case measure => omega
            case rel => exact ⟨s.size + 1, s.size + 1, _, by go_num, by go_num, by omega, by omega, by simp; omega, HL.out, by rw [List.length_append, List.map_append]; exact HO3.out, HB.out.trans HB3.out⟩
            
        · rw [if_neg ht] at hlin
          by_cases h3 : fr < i
          · have h5 : i - 1 < s.size := by omega
            have h4 : ¬ bt s (i - 1) = 13 := fun e => ht ⟨h3, e⟩
            rw [bt_lt s (i - 1) h5] at h4
            have h4b : (((s[i - 1]'h5).toNat : Int) == 13) = false := by rw [beq_eq_false_iff_ne]; omega
            have HL := Lib.hid hlin; have HO := Lib.hid hown; have HB := Lib.hid hB
            clear hlin hown hB h4 ht
            rcases hor with ⟨h1, h2⟩ | ⟨h1, h2⟩
            · rw [bt_lt s i h1] at h2
              have h2b : (((s[i]'h1).toNat : Int) != 10) = false := by rw [bne_eq_false_iff_eq]; omega
              have hie : ((i : Int) == (s.size : Int)) = false := by rw [beq_eq_false_iff_ne]; omega
              clear h2
              go_wp2_with (at_builtin; go_must (refine wpList_app _ wr rfl (.tmp 47) (.tmp 52) 61 rfl w.heap.size 9 i0 (.string ⟨#[]⟩) 1 16 Tryd.underlying61 hi hz0 hz1 hz2 rfl (by decide) (by decide) _ _ _ rfl HO [.string (s.extract fr (i))] rfl rfl rfl _ rfl rfl (by omega) hbsz ?_; intro v3 w3 HO3 HG3 HB3))
              go_roundg gf
              case measure => omega
              case rel => exact ⟨i + 1, i + 1, _, by go_num, by go_num, by omega, by omega, by simp; omega, HL.out, by rw [List.length_append, List.map_append]; exact HO3.out, HB.out.trans HB3.out⟩
              
            · subst h1
              go_wp2_with (at_builtin; go_must (refine wpList_app _ wr rfl (.tmp 47) (.tmp 52) 61 rfl w.heap.size 9 i0 (.string ⟨#[]⟩) 1 16 Tryd.underlying61 hi hz0 hz1 hz2 rfl (by decide) (by decide) _ _ _ rfl HO [.string (s.extract fr (s.size))] rfl rfl rfl _ rfl rfl (by omega) hbsz ?_; intro v3 w3 HO3 HG3 HB3))
              go_roundg gf
              case measure => omega
              case rel => exact ⟨s.size + 1, s.size + 1, _, by go_num, by go_num, by omega, by omega, by simp; omega, HL.out, by rw [List.length_append, List.map_append]; exact HO3.out, HB.out.trans HB3.out⟩
              
          · have HL := Lib.hid hlin; have HO := Lib.hid hown; have HB := Lib.hid hB
            clear hlin hown hB ht
            have h1 : i < s.size := by omega
            have h2 : bt s i = 10 := by omega
            obtain rfl : fr = i := by omega
            rw [bt_lt s fr h1] at h2
            have h2b : (((s[fr]'h1).toNat : Int) != 10) = false := by rw [bne_eq_false_iff_eq]; omega
            have hie : ((fr : Int) == (s.size : Int)) = false := by rw [beq_eq_false_iff_ne]; omega
            clear h2 hor h3
            have hee : s.extract fr fr = ByteArray.empty := by simp
            rw [hee] at HL
            clear hee
            go_wp2_with (at_builtin; go_must (refine wpList_app _ wr rfl (.tmp 47) (.tmp 52) 61 rfl w.heap.size 9 i0 (.string ⟨#[]⟩) 1 16 Tryd.underlying61 hi hz0 hz1 hz2 rfl (by decide) (by decide) _ _ _ rfl HO [.string (ByteArray.empty)] rfl rfl rfl _ rfl rfl (by omega) hbsz ?_; intro v3 w3 HO3 HG3 HB3))
            go_roundg gf
            case measure => omega
            case rel => exact ⟨fr + 1, fr + 1, _, by go_num, by go_num, by omega, by omega, by simp; omega, HL.out, by rw [List.length_append, List.map_append]; exact HO3.out, HB.out.trans HB3.out⟩
            
end Go.Proofs.YtggegefeagkhkaaDoor
