/- Walk of the reference's Words. -/
import Derived.Test.YtknigkjbnaoldaaDoorWordsE
import Derived.Test.YtknigkjbnaoldaaDoorWordsH
namespace Go.Proofs.YtknigkjbnaoldaaDoor
open Go.RowKit

theorem cellsB_at3 (l : List (Nat × Nat)) (i : Nat) (r n : Nat) (h : l[i]? = some (r, n)) :
    (cellsB l)[i * 3]? = some (.int .i32 r) ∧ (cellsB l)[i * 3 + 1]? = some (.int .i64 n) ∧ (cellsB l)[i * 3 + 2]? = some (.bool (isBroken (r, n))) := by
  have hlt := (List.getElem?_eq_some_iff.1 h).1
  have h1 : l = l.take (i + 1) ++ l.drop (i + 1) := (List.take_append_drop _ _).symm
  have h2 : l.take (i + 1) = l.take i ++ [(r, n)] := by rw [List.take_add_one, h]; rfl
  have hl : (cellsB (l.take i)).length = i * 3 := by rw [cellsB_length, List.length_take]; omega
  have h3 : cellsB l = cellsB (l.take i) ++ (.int .i32 r :: .int .i64 n :: .bool (isBroken (r, n)) :: cellsB (l.drop (i + 1))) := by
    conv => lhs; rw [h1, h2]
    simp [cellsB, cellB]
  rw [h3]
  refine ⟨?_, ?_, ?_⟩ <;> rw [List.getElem?_append_right (by omega), hl]
  · simp
  · rw [show i * 3 + 1 - i * 3 = 1 by omega]; rfl
  · rw [show i * 3 + 2 - i * 3 = 2 by omega]; rfl

/-- the widths of a row of characters, added up -/
def wsum (l : List (Nat × Nat)) : Nat := (l.map (·.2)).sum
theorem chsFrom_fits (s : ByteArray) : ∀ f pos, pos ≤ s.size → pos + wsum (chsFrom s f pos) ≤ s.size := by
  intro f
  induction f with
  | zero => intro pos h; simpa [chsFrom, wsum] using h
  | succ f ih =>
    intro pos h
    unfold chsFrom
    split
    · rename_i hp
      have h1 := dec_fits s pos hp
      have h2 := ih (pos + (Utf8.decode s pos).2) h1
      simp only [wsum, List.map_cons, List.sum_cons] at h2 ⊢
      omega
    · simpa [wsum] using h
theorem chs_fits (s : ByteArray) : wsum (chs s) ≤ s.size := by
  have := chsFrom_fits s s.size 0 (Nat.zero_le _)
  unfold chs; omega
theorem wsum_drop (l : List (Nat × Nat)) (k r n : Nat) (h : l[k]? = some (r, n)) : wsum (l.drop k) = n + wsum (l.drop (k + 1)) := by
  obtain ⟨h1, h2⟩ := List.getElem?_eq_some_iff.1 h
  rw [List.drop_eq_getElem_cons h1, h2]
  simp [wsum]

theorem empty_of_size {word : ByteArray} (hw0 : word.size = 0) : word = ByteArray.empty := by
  cases word with
  | mk d => simp [ByteArray.size] at hw0; subst hw0; rfl
theorem word_isEmpty {word : ByteArray} (hw0 : ¬ word.size = 0) : word.toList.isEmpty = false := by
  rw [ByteArray.toList_eq]
  cases h : word.data.toList with
  | nil => exfalso; apply hw0; simp [ByteArray.size, Array.toList_eq_nil_iff.1 h]
  | cons _ _ => rfl

set_option maxRecDepth 100000 in
set_option maxHeartbeats 4000000 in
theorem wordsR_any (s : ByteArray) (w : World) (hs : s.size ≤ 4294967296) :
    Calls Tryd.prog 34 #[.string s] w (WPost (wordsR s) w) := by
  have hcl := chs_length s
  have hfits := chs_fits s
  have hW : wrdR s ((chs s).drop 0) 0 ByteArray.empty [] = wordsR s := rfl
  have hws : 0 + wsum ((chs s).drop 0) ≤ s.size := by simpa using hfits
  have hrb : ∀ c ∈ chs s, c.1 ≤ 1114111 := chs_rune s
  have HC := Lib.hid (chars_any s w hs)
  have HW := Lib.hid hW
  clear hW hfits
  generalize chs s = L at *
  obtain ⟨i0, hi, hz0, hz1, hz2⟩ := info_parts info9
  go_enter Tryd.func34, Tryd.ntmps34
  go_wp2_with fail
  refine HC.out.mono ?_
  rintro e w1 ⟨v, rfl, hown, hB⟩
  obtain ⟨A, c, rfl⟩ := own_shape hown
  have hB1 := hB.size
  have HO := Lib.hid hown; have HB := Lib.hid hB
  clear hown hB
  go_wp2
  go_loopg [4, 5, 6, 8] L.length (fun gf v4 v5 v6 v8 wr => ∃ (k at_ : Nat) (word : ByteArray) (acc : List ByteArray), v8 = .int .i64 k ∧ v6 = .int .i64 at_ ∧ v5 = .string word ∧ k + gf = L.length ∧ at_ + wsum (L.drop k) ≤ s.size ∧ word.size ≤ at_ ∧ acc.length ≤ k ∧
      wrdR s (L.drop k) at_ word acc = wordsR s ∧ wr.ownsRow w1.heap.size 9 1 v4 acc.length (acc.map Value.string) ∧ Below w1.heap.size w1 wr)
  case atStart => exact ⟨0, 0, ByteArray.empty, [], rfl, rfl, rfl, by omega, hws, by simp, by simp, HW.out, World.ownsRow_nil _ _ _ _, Below.refl _ _⟩
  case round =>
    obtain ⟨k, at_, word, acc, rfl, rfl, rfl, hkg, hat, hwd, hal, hwr, hown, hbr⟩ := hrel
    have hbsz := hbr.size
    cases gk with
    | zero =>
      obtain rfl : k = L.length := by omega
      rw [List.drop_length, wrdR] at hwr
      by_cases hw0 : word.size = 0
      · obtain rfl : word = ByteArray.empty := empty_of_size hw0
        have HS := Lib.hid (show wordsR s = some acc by rw [← hwr]; rfl)
        have HO4 := Lib.hid hown; have HBR := Lib.hid hbr
        clear hwr hown hbr
        go_wp2
        go_ret2
        exact w_some HS.out rfl (own_mono HO4.out hB1) (HB.out.trans (HBR.out.mono hB1))
      · have hwe := word_isEmpty hw0
        have HS := Lib.hid (show wordsR s = some (acc ++ [word]) by rw [← hwr]; simp [push1, hw0])
        have HO4 := Lib.hid hown; have HBR := Lib.hid hbr
        clear hwr hown hbr hw0
        go_wp2_with (at_builtin; go_must (refine wpList_app _ wr rfl (.tmp 76) (.tmp 78) 45 rfl w1.heap.size 9 i0 (.string ⟨#[]⟩) 1 16 Tryd.underlying45 hi hz0 hz1 hz2 rfl (by decide) (by decide) _ _ _ rfl HO4 [.string word] rfl rfl rfl _ rfl rfl (by omega) hbsz ?_; intro v3 w3 HO3 HG3 HB3))
        go_ret2
        refine w_some HS.out rfl ?_ (HB.out.trans ((HBR.out.trans HB3.out).mono hB1))
        rw [List.length_append, List.map_append]
        exact own_mono HO3.out hB1
    | succ gf =>
      obtain ⟨⟨r, n⟩, hx⟩ : ∃ x, L[k]? = some x := ⟨_, List.getElem?_eq_getElem (by omega)⟩
      have hdr : L.drop k = (r, n) :: L.drop (k + 1) := by
        obtain ⟨h1, h2⟩ := List.getElem?_eq_some_iff.1 hx
        rw [List.drop_eq_getElem_cons h1, h2]
      have hws2 := wsum_drop L k r n hx
      rw [hdr, wrdR] at hwr
      have hrr : r ≤ 1114111 := hrb (r, n) (List.mem_of_getElem? hx)
      have hkL : k < L.length := by omega
      have hkI : (k : Int) < (L.length : Int) := by omega
      obtain ⟨g, cap, hv, hg1, hg2⟩ := HO.out.form (by omega)
      simp only [Value.slice.injEq] at hv
      obtain ⟨rfl, -, rfl⟩ := hv
      have hcs := cellsB_at3 L k r n hx
      have c0 := (hbr.cell (p := ⟨g, k * 3, none⟩) hg2).trans ((HO.out.cellAt (k * 3) (by omega)).trans hcs.1)
      have c1 := (hbr.cell (p := ⟨g, k * 3 + 1, none⟩) hg2).trans ((HO.out.cellAt (k * 3 + 1) (by omega)).trans hcs.2.1)
      have c2 := (hbr.cell (p := ⟨g, k * 3 + 2, none⟩) hg2).trans ((HO.out.cellAt (k * 3 + 2) (by omega)).trans hcs.2.2)
      obtain ⟨bx, hbx⟩ : ∃ bx, isBroken (r, n) = bx := ⟨_, rfl⟩
      rw [hbx] at c2 hwr
      have hownW := fun k h => hown.lt k h
      have hownA := hown.alloc (.cells #[.int .i32 r, .int .i64 n, .bool bx] 93)
      have hbrA := hbr.alloc hbr.size (.cells #[.int .i32 r, .int .i64 n, .bool bx] 93)
      have hbszA : w1.heap.size ≤ (wr.alloc (.cells #[.int .i32 r, .int .i64 n, .bool bx] 93)).heap.size := hbrA.size
      have hatn : at_ + n ≤ s.size := by omega
      clear hcs hdr hown hbr hbsz hbx
      have HownW := Lib.hid hownW
      clear hownW
      dsimp only at hwr
      by_cases h35 : r = 35
      · rw [if_pos h35] at hwr
        subst h35
        by_cases hw0 : word.size = 0
        · obtain rfl : word = ByteArray.empty := empty_of_size hw0
          have HS := Lib.hid (show wordsR s = some acc by rw [← hwr]; rfl)
          have HO4 := Lib.hid hownA; have HBR := Lib.hid hbrA
          clear hwr hownA hbrA
          go_wp2
          go_ret2
          exact w_some HS.out rfl (own_mono HO4.out hB1) (HB.out.trans (HBR.out.mono hB1))
        · have hwe := word_isEmpty hw0
          have HS := Lib.hid (show wordsR s = some (acc ++ [word]) by rw [← hwr]; simp [push1, hw0])
          have HO4 := Lib.hid hownA; have HBR := Lib.hid hbrA
          clear hwr hownA hbrA hw0
          go_wp2_with (at_builtin; go_must (refine wpList_app _ (wr.alloc (.cells #[.int .i32 35, .int .i64 n, .bool bx] 93)) rfl (.tmp 76) (.tmp 78) 45 rfl w1.heap.size 9 i0 (.string ⟨#[]⟩) 1 16 Tryd.underlying45 hi hz0 hz1 hz2 rfl (by decide) (by decide) _ _ _ rfl HO4 [.string word] rfl rfl rfl (wr.heap.size + 1) (by simp) rfl (by omega) hbszA ?_; intro v3 w3 HO3 HG3 HB3))
          go_ret2
          refine w_some HS.out rfl ?_ (HB.out.trans ((HBR.out.trans HB3.out).mono hB1))
          rw [List.length_append, List.map_append]
          exact own_mono HO3.out hB1
      · rw [if_neg h35] at hwr
        have h35b := i32_eq (a := r) (b := 35) (by omega)
        by_cases hb : bx = true ∨ ctl r = true
        · rw [if_pos hb] at hwr
          have HS := Lib.hid (show wordsR s = none by rw [← hwr])
          have HBR := Lib.hid hbrA
          clear hwr hownA hbrA
          cases bx
          rotate_left
          · clear hb
            go_wp2
            go_ret2
            exact w_none HS.out rfl (HB.out.trans (HBR.out.mono hB1))
          · have hc : ctl r = true := by simpa using hb
            by_cases h127 : r = 127
            · subst h127
              clear hb hc
              go_wp2
              go_ret2
              exact w_none HS.out rfl (HB.out.trans (HBR.out.mono hB1))
            · have hR4 : r < 32 ∧ r ≠ 9 := by
                simp only [ctl, Bool.or_eq_true, Bool.and_eq_true, decide_eq_true_eq, bne_iff_ne, beq_iff_eq] at hc
                rcases hc with h | h
                · exact h
                · exact absurd h h127
              have h9 : ((r : Int) != 9) = true := by rw [bne_iff_ne]; omega
              have h32 : (r : Int) < 32 := by omega
              clear hb hc
              go_wp2
              go_ret2
              exact w_none HS.out rfl (HB.out.trans (HBR.out.mono hB1))
        · rw [if_neg hb] at hwr
          obtain rfl : bx = false := by
            cases bx
            · rfl
            · exact absurd (.inl rfl) hb
          have h127 := i32_eq (a := r) (b := 127) (fun e => hb (.inr (by simp [ctl]; omega)))
          have hlow : r = 9 ∨ 32 ≤ r := by
            rcases Nat.lt_or_ge r 32 with h | h
            · rcases Nat.decEq r 9 with h9 | h9
              · exact absurd (.inr (by simp [ctl, h, h9])) hb
              · exact .inl h9
            · exact .inr h
          clear hb
          by_cases hbl : blankN r = true
          · rw [if_pos hbl] at hwr
            have hwr' : wrdR s (L.drop (k + 1)) (at_ + n) ByteArray.empty (push1 acc word) = wordsR s := hwr
            have hbl3 : r = 32 ∨ r = 9 ∨ r = 160 := by simpa [blankN, or_assoc] using hbl
            clear hbl hwr hlow
            by_cases hw0 : word.size = 0
            · obtain rfl : word = ByteArray.empty := empty_of_size hw0
              have HW2 : Hid (wrdR s (L.drop (k + 1)) (at_ + n) ByteArray.empty acc = wordsR s) := hwr'
              have HO4 := Lib.hid hownA; have HBR := Lib.hid hbrA
              clear hwr' hownA hbrA hw0
              rcases hbl3 with rfl | rfl | rfl
              all_goals
                go_wp2
                go_roundg gf
                case measure => omega
                case rel => exact ⟨k + 1, at_ + n, ByteArray.empty, acc, by go_num, by go_num, rfl, by omega, by omega, by simp, by omega, HW2.out, HO4.out, HBR.out⟩
            · have hwe := word_isEmpty hw0
              have hne : some wr.heap.size ≠ u4.ownBlock := fun e => by have := (HownW.out _ e.symm).2; omega
              have hx1 : ((wr.alloc (.cells #[.int .i32 r, .int .i64 n, .bool false] 93)).alloc (.cells [Value.string word].toArray 9)).cell? ⟨wr.heap.size, 1, none⟩ = some (.int .i64 n) := by
                rw [World.cell?_alloc_lt _ _ _ (by simp), (Blk.new wr 93 _).cell 1]; rfl
              have HX1 := Lib.hid hx1; have HNE := Lib.hid hne
              clear hx1 hne
              have HW2 : Hid (wrdR s (L.drop (k + 1)) (at_ + n) ByteArray.empty (acc ++ [word]) = wordsR s) := by rw [← hwr']; simp [push1, hw0, Hid]
              have HO4 := Lib.hid hownA; have HBR := Lib.hid hbrA
              clear hwr' hownA hbrA hw0
              rcases hbl3 with rfl | rfl | rfl
              all_goals
                go_wp2_with (at_builtin; go_must (refine wpList_app _ (wr.alloc (.cells #[.int .i32 _, .int .i64 n, .bool false] 93)) rfl (.tmp 57) (.tmp 59) 45 rfl w1.heap.size 9 i0 (.string ⟨#[]⟩) 1 16 Tryd.underlying45 hi hz0 hz1 hz2 rfl (by decide) (by decide) _ _ _ rfl HO4 [.string word] rfl rfl rfl (wr.heap.size + 1) (by simp) rfl (by omega) hbszA ?_; intro v3 w3 HO3 HG3 HB3; have d1 := HG3.out.cell HX1.out HNE.out))
                go_roundg gf
                case measure => omega
                case rel => exact ⟨k + 1, at_ + n, ByteArray.empty, acc ++ [word], by go_num, by go_num, rfl, by omega, by omega, by simp, by simp; omega, HW2.out, by rw [List.length_append, List.map_append]; exact HO3.out, HBR.out.trans HB3.out⟩
          · rw [if_neg hbl] at hwr
            have hbl3 : ¬ (r = 32 ∨ r = 9 ∨ r = 160) := by simpa [blankN, or_assoc] using hbl
            have e1 := i32_eq (a := r) (b := 32) (by omega)
            have e2 := i32_eq (a := r) (b := 9) (by omega)
            have e3 := i32_eq (a := r) (b := 160) (by omega)
            have h32 : (32 : Int) ≤ r := by omega
            have hes : (s.extract at_ (at_ + n)).size ≤ n := by simp; omega
            have HS2 := Lib.hid (show (word ++ s.extract at_ (at_ + n)).size ≤ at_ + n by rw [ByteArray.size_append]; omega)
            have HW2 : Hid (wrdR s (L.drop (k + 1)) (at_ + n) (word ++ s.extract at_ (at_ + n)) acc = wordsR s) := hwr
            have HO4 := Lib.hid hownA; have HBR := Lib.hid hbrA
            clear hwr hownA hbrA hbl hbl3 hlow
            go_wp2
            go_roundg gf
            case measure => omega
            case rel => exact ⟨k + 1, at_ + n, word ++ s.extract at_ (at_ + n), acc, by go_num, by go_num, rfl, by omega, by omega, HS2.out, by omega, HW2.out, HO4.out, HBR.out⟩
end Go.Proofs.YtknigkjbnaoldaaDoor
