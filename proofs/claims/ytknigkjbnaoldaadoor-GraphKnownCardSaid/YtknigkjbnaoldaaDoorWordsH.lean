/- Walk of words.Words. -/
import Derived.Test.YtknigkjbnaoldaaDoorWordsA
import Derived.Test.YtknigkjbnaoldaaDoorWordsT
import Derived.Test.YtknigkjbnaoldaaDoorMem
import Derived.Test.YtknigkjbnaoldaaDoorInfo
import Derived.Test.YtknigkjbnaoldaaDoorShelf
import Derived.Lib.OthersKept
import Derived.Deep.LoopGhost
import Derived.Deep.DeepMust
namespace Go.Proofs.YtknigkjbnaoldaaDoor
open Go.RowKit

/-- what Words hands back: the words, or none and an error -/
def WPost (res : Option (List ByteArray)) (w : World) (e : Ending) (w' : World) : Prop :=
  ∃ v, e = .returned (.tuple #[v, .int .i64 (if res.isSome then 0 else 30)]) ∧ w'.ownsRow w.heap.size 9 1 v (res.getD []).length ((res.getD []).map Value.string) ∧ Below w.heap.size w w'

theorem blank_pays (w : World) : PredAtRunes Tryd.prog 54 #[] blankN w := by
  intro W x hx _
  have h := blank_any (x : Int) W (by omega) (by omega)
  refine h.mono ?_
  rintro e w' ⟨rfl, rfl⟩
  refine ⟨?_, 0, rfl⟩
  rw [show ((x : Int) == 32 || (x : Int) == 9 || (x : Int) == 160) = blankN x from by
    unfold blankN
    rw [Bool.eq_iff_iff]
    simp only [Bool.or_eq_true, beq_iff_eq]
    omega]

theorem w_some {o : Option (List ByteArray)} {w w' : World} {e : Ending} {res : List ByteArray} {v : Value} (h : o = some res) (he : e = .returned (.tuple #[v, .int .i64 0]))
    (hown : w'.ownsRow w.heap.size 9 1 v res.length (res.map Value.string)) (hB : Below w.heap.size w w') : WPost o w e w' := by
  subst h; exact ⟨v, he, hown, hB⟩
theorem w_none {o : Option (List ByteArray)} {w w' : World} {e : Ending} (h : o = none) (he : e = .returned (.tuple #[.slice none 0 0, .int .i64 30])) (hB : Below w.heap.size w w') : WPost o w e w' := by
  subst h; exact ⟨_, he, World.ownsRow_nil _ _ _ _, hB⟩
theorem i32_eq {a : Nat} {b : Int} (h : ¬ (a : Int) = b) : ((a : Int) == b) = false := by rw [beq_eq_false_iff_ne]; exact h

set_option maxRecDepth 100000 in
set_option maxHeartbeats 4000000 in
theorem wordsP_any (s : ByteArray) (w : World) (hs : s.size ≤ 4294967296) :
    Calls Tryd.prog 29 #[.string s] w (WPost (wordsP s) w) := by
  go_enter Tryd.func29, Tryd.ntmps29
  go_wp2
  go_step3
  go_wp2
  go_step3
  go_wp2
  go_loopg [4] s.size (fun gf v wr => ∃ pos : Nat, wr = w.iter s pos ∧ v = .int .i64 s.size ∧ scanP s gf pos = scanP s s.size 0 ∧ s.size ≤ pos + gf ∧ pos ≤ s.size)
  case atStart => exact ⟨0, rfl, rfl, rfl, by omega, by omega⟩
  case round =>
    obtain ⟨pos, rfl, rfl, hsc, hf, hpos⟩ := hrel
    have hBi : ∀ p, Below w.heap.size w (w.iter s p) := fun p => (Below.refl _ _).alloc (Nat.le_refl _) _
    by_cases hp : pos < s.size
    · obtain ⟨g', rfl⟩ : ∃ g', gk = g' + 1 := ⟨gk - 1, by omega⟩
      have hnx : ∀ ty, (Instr.next (.pointer (some ⟨w.heap.size, 0, none⟩)) true ty).run Tryd.prog (w.iter s pos) = _ := fun ty => run_next_any w s pos ty hp
      have hwd := Lib.width_pos s pos
      have hfit := dec_fits s pos hp
      have hrl := Lib.rune_le s pos
      rw [scanP, if_pos hp] at hsc
      obtain ⟨R, hR⟩ : ∃ R : Nat, R = (Utf8.decode s pos).1 := ⟨_, rfl⟩
      obtain ⟨W, hW⟩ : ∃ W : Nat, W = (Utf8.decode s pos).2 := ⟨_, rfl⟩
      rw [← hR, ← hW] at hnx hsc
      rw [← hW] at hwd hfit
      rw [← hR] at hrl
      clear hR hW
      by_cases h35 : R = 35
      · rw [if_pos h35] at hsc
        subst h35
        have HS := Lib.hid (show wordsP s = some (Lib.goFieldsP blankN (s.extract 0 pos)) by unfold wordsP; rw [← hsc]; rfl)
        have HFF := Lib.hid (Tryd.strings_FieldsFunc_runes 54 #[] (fun _ _ => by kernel_rfl) blankN (s.extract 0 pos) (w.iter s (pos + W)) (by simp; omega) (blank_pays _))
        have HBI := Lib.hid hBi
        clear hsc hBi
        go_wp2_with (go_at_call 53; go_must (refine HFF.out.mono ?_; rintro e w' ⟨A, rfl, hA, hown, hB⟩))
        try rw [Exit.noGoto_ret]
        go_ret2
        exact w_some HS.out rfl (own_mono hown (HBI.out (pos + W)).size) ((HBI.out (pos + W)).trans (hB.mono (HBI.out (pos + W)).size))
        
      · rw [if_neg h35] at hsc
        have h35b := i32_eq (a := R) (b := 35) (by omega)
        have HPf : Hid (Calls Tryd.prog 52 #[.string (s.extract pos s.size), .string ⟨#[239, 191, 189]⟩] (w.iter s (pos + W)) fun e w' => e = .returned (.bool (pfx s pos)) ∧ w' = w.iter s (pos + W)) := Tryd.strings_HasPrefix (s.extract pos s.size) ⟨#[239, 191, 189]⟩ (w.iter s (pos + W))
        by_cases hb : (R = 65533 ∧ pfx s pos = false) ∨ ctl R = true
        · rw [if_pos hb] at hsc
          rcases hb with ⟨rfl, hpf⟩ | hc
          · have hpn : (!pfx s pos) = true := by rw [hpf]; rfl
            clear hpf
            have HS := Lib.hid (show wordsP s = none by unfold wordsP; rw [← hsc]; rfl)
            have HBI := Lib.hid hBi
            clear hsc hBi
            go_wp2_with (go_at_call 52; go_must (refine HPf.out.mono ?_; rintro e w' ⟨rfl, rfl⟩))
            try rw [Exit.noGoto_ret]
            go_ret2
            exact w_none HS.out rfl (HBI.out _)
            
          · by_cases hR3 : R = 65533
            · subst hR3; simp [ctl] at hc
            · have hR3b := i32_eq (a := R) (b := 65533) (by omega)
              by_cases h127 : R = 127
              · subst h127
                clear hc
                have HS := Lib.hid (show wordsP s = none by unfold wordsP; rw [← hsc]; rfl)
                have HBI := Lib.hid hBi
                clear hsc hBi
                go_wp2_with (go_at_call 52; go_must (refine HPf.out.mono ?_; rintro e w' ⟨rfl, rfl⟩))
                try rw [Exit.noGoto_ret]
                go_ret2
                exact w_none HS.out rfl (HBI.out _)
                
              · have hR4 : R < 32 ∧ R ≠ 9 := by
                  simp only [ctl, Bool.or_eq_true, Bool.and_eq_true, decide_eq_true_eq, bne_iff_ne, beq_iff_eq] at hc
                  rcases hc with h | h
                  · exact h
                  · exact absurd h h127
                have h9 : ((R : Int) != 9) = true := by rw [bne_iff_ne]; omega
                have h32 : (R : Int) < 32 := by omega
                clear hc
                have HS := Lib.hid (show wordsP s = none by unfold wordsP; rw [← hsc]; rfl)
                have HBI := Lib.hid hBi
                clear hsc hBi
                go_wp2_with (go_at_call 52; go_must (refine HPf.out.mono ?_; rintro e w' ⟨rfl, rfl⟩))
                try rw [Exit.noGoto_ret]
                go_ret2
                exact w_none HS.out rfl (HBI.out _)
                
        · rw [if_neg hb] at hsc
          have h127 := i32_eq (a := R) (b := 127) (fun e => hb (.inr (by simp [ctl]; omega)))
          by_cases hR3 : R = 65533
          · subst hR3
            have hpf : pfx s pos = true := by
              cases h : pfx s pos
              · exact absurd (.inl ⟨rfl, h⟩) hb
              · rfl
            have HS := Lib.hid hsc
            clear hsc hb
            go_wp2_with (go_at_call 52; go_must (refine HPf.out.mono ?_; rintro e w' ⟨rfl, rfl⟩))
            go_roundg g'
            case measure => omega
            case rel => exact ⟨pos + W, rfl, rfl, HS.out, by omega, by omega⟩
          · have hR3b := i32_eq (a := R) (b := 65533) (by omega)
            have HS := Lib.hid hsc
            by_cases h32 : R < 32
            · have h9 : R = 9 := by
                rcases Nat.decEq R 9 with h | h
                · exact absurd (.inr (by simp [ctl, h32, h])) hb
                · exact h
              subst h9
              clear hsc hb
              go_wp2
              go_roundg g'
              case measure => omega
              case rel => exact ⟨pos + W, rfl, rfl, HS.out, by omega, by omega⟩
            · have h32' : (32 : Int) ≤ R := by omega
              clear hsc hb h32
              go_wp2
              go_roundg g'
              case measure => omega
              case rel => exact ⟨pos + W, rfl, rfl, HS.out, by omega, by omega⟩
    · have hnx : ∀ ty, (Instr.next (.pointer (some ⟨w.heap.size, 0, none⟩)) true ty).run Tryd.prog (w.iter s pos) = _ := fun ty => run_next_end w s pos ty hp
      rw [scanP_end s _ _ hp] at hsc
      have HS := Lib.hid (show wordsP s = some (Lib.goFieldsP blankN s) by unfold wordsP; rw [← hsc]; simp)
      have HFF := Lib.hid (Tryd.strings_FieldsFunc_runes 54 #[] (fun _ _ => by kernel_rfl) blankN s (w.iter s pos) hs (blank_pays _))
      have HBI := Lib.hid hBi
      clear hsc hBi
      go_wp2_with (go_at_call 53; go_must (refine HFF.out.mono ?_; rintro e w' ⟨A, rfl, hA, hown, hB⟩))
      try rw [Exit.noGoto_ret]
      go_ret2
      exact w_some HS.out rfl (own_mono hown (HBI.out pos).size) ((HBI.out pos).trans (hB.mono (HBI.out pos).size))
      
end Go.Proofs.YtknigkjbnaoldaaDoor
