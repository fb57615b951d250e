/- WordsNumber: any word is the number that the document says; what is read of a kind is printed of that kind as the same word. -/
import Derived.Test.YtdmijnjcgaoihaaDoorWordsW
import Derived.Test.YtdmijnjcgaoihaaDoorNumL
namespace Go.Proofs.YtdmijnjcgaoihaaDoor
open Go.RowKit

theorem numR_chs (s : ByteArray) : numR ((chs s).map (·.1)) = numP (runes s) := by
  rw [runes_chs, ← num_eq, List.map_map]; rfl
theorem numberR_at (s : ByteArray) (a b : Int) (w : World) (hs : s.size ≤ 4294967296) (h : numP (runes s) = (a, b)) :
    Calls Tryd.prog 18 #[.string s] w fun e w' => e = .returned (.tuple #[.int .i64 a, .int .i64 b]) ∧ Below w.heap.size w w' := by
  have := numberR_any s w hs
  rwa [numR_chs, h] at this
theorem bytes_ne {x y : ByteArray} (h : x ≠ y) : (x.toList == y.toList) = false := by rw [bytes_beq]; exact decide_eq_false h
theorem bytes_eq {x y : ByteArray} (h : x = y) : (x.toList == y.toList) = true := by rw [bytes_beq]; exact decide_eq_true h
set_option maxHeartbeats 2000000 in
theorem lawNumber_any (s : ByteArray) (w : World) (hF : Firsts w) :
    Calls Tryd.prog 6 #[.string s] w fun e w' => e = .returned (.bool true) ∧ Below w.heap.size w w' := by
  have hB := Below.refl w.heap.size w
  have hz := firsts_lt hF
  by_cases hl : 300 < s.size
  · go_enter Tryd.func6, Tryd.ntmps6
    go_wp2_with fail
    refine (works_any w hF).mono ?_
    rintro e x1 ⟨rfl, hb1⟩
    go_wp2
    go_ret
    exact ⟨rfl, hb1⟩
  · obtain ⟨a, b, hab⟩ : ∃ a b, numP (runes s) = (a, b) := ⟨_, _, rfl⟩
    have hres := numGo_res (runes s) 0 0 0 false false
    change (numP (runes s)).2 = 0 ∨ ((numP (runes s)).1 = 0 ∧ ((numP (runes s)).2 = 30 ∨ (numP (runes s)).2 = 50)) at hres
    rw [hab] at hres
    dsimp only at hres
    have HN := Lib.hid fun w hF => number_at s a b w (by omega) hF hab
    have HM := Lib.hid fun w => numberR_at s a b w (by omega) hab
    go_enter Tryd.func6, Tryd.ntmps6
    go_wp2_with fail
    refine (HN.out w hF).mono ?_
    rintro e x1 ⟨rfl, hb1⟩
    have hB1 := hB.trans hb1
    clear hB hb1
    go_wp2_with fail
    refine (HM.out x1).mono ?_
    rintro e x2 ⟨rfl, hb2⟩
    have hB2 := hB1.trans (hb2.mono hB1.size)
    clear hB1 hb2
    have hF2 := firsts_below hF hB2 hz
    have HH := Lib.hid hab
    clear hab
    by_cases hb0 : b = 0
    · subst hb0
      obtain ⟨⟨k, hk, hp⟩, ha0, ha1⟩ := read_print s a HH.out
      have HP := Lib.hid hp
      clear hp
      obtain ⟨K, rfl⟩ : ∃ K : Nat, k = K := ⟨k.toNat, by unfold KIn at hk; omega⟩
      have hK : K ≤ 2 := by unfold KIn at hk; omega
      clear hk hres
      go_wp2_with fail
      go_loopg [7] 3 (fun gf v wr => ∃ (i : Nat), v = .int .i64 i ∧ i ≤ K ∧ i + gf = 3 ∧ Below w.heap.size w wr)
      case atStart => exact ⟨0, rfl, Nat.zero_le _, rfl, hB2⟩
      case round =>
        obtain ⟨i, rfl, hi, hg, hBr⟩ := hrel
        have hFr := firsts_below hF hBr hz
        by_cases he : printOf a i = s
        · have ht := bytes_eq (x := s) (y := s) rfl
          go_wp2_with fail
          refine (print_at a i s wr (by omega) (by omega) hFr he).mono ?_
          rintro e x3 ⟨rfl, hb3⟩
          have hB3 := hBr.trans (hb3.mono hBr.size)
          clear hBr hb3 he
          go_wp2_with fail
          refine (works_any x3 (firsts_below hF hB3 hz)).mono ?_
          rintro e x4 ⟨rfl, hb4⟩
          go_wp2
          go_ret
          exact ⟨rfl, hB3.trans (hb4.mono hB3.size)⟩
        · have hiK : i < K := by
            rcases Nat.lt_or_ge i K with h | h
            · exact h
            · obtain rfl : i = K := by omega
              exact absurd HP.out he
          obtain ⟨t, ht⟩ : ∃ t, printOf a i = t := ⟨_, rfl⟩
          rw [ht] at he
          have hn := bytes_ne he
          clear he
          obtain ⟨g', rfl⟩ : ∃ g', gk = g' + 1 := ⟨gk - 1, by omega⟩
          go_wp2_with fail
          refine (print_at a i t wr (by omega) (by omega) hFr ht).mono ?_
          rintro e x3 ⟨rfl, hb3⟩
          have hB3 := hBr.trans (hb3.mono hBr.size)
          clear hBr hb3
          go_wp2_with fail
          go_roundg g'
          case measure => omega
          case rel => exact ⟨i + 1, by go_num, by omega, by omega, hB3⟩
    · have ha : a = 0 := by omega
      subst ha
      have hbb : (b != 0) = true := by rw [bne_iff_ne]; exact hb0
      go_wp2_with fail
      refine (works_any x2 hF2).mono ?_
      rintro e x3 ⟨rfl, hb3⟩
      go_wp2
      go_ret
      exact ⟨rfl, hB2.trans (hb3.mono hB2.size)⟩
end Go.Proofs.YtdmijnjcgaoihaaDoor
