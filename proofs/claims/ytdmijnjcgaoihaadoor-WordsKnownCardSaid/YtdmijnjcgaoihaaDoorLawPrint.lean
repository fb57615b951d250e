/- WordsPrint: any number is printed of any kind as the document says, and read as it was. -/
import Derived.Test.YtdmijnjcgaoihaaDoorLawNumber
namespace Go.Proofs.YtdmijnjcgaoihaaDoor
open Go.RowKit

theorem printR_at (n k : Int) (s : ByteArray) (w : World) (h1 : -9223372036854775808 ≤ n) (h2 : n ≤ 9223372036854775807) (h : printOf n k = s) :
    Calls Tryd.prog 20 #[.int .i64 n, .int .i64 k] w fun e w' => e = .returned (.string s) ∧ Below w.heap.size w w' := by
  have := printR_any n k w h1 h2
  rw [h] at this
  refine this.mono ?_
  rintro e w' ⟨he, hh⟩
  first
    | exact ⟨he, hh⟩
    | (obtain ⟨q, rfl⟩ := hh; exact ⟨he, below_drewN (Below.refl _ _) q⟩)
theorem empty_isEmpty : ByteArray.empty.toList.isEmpty = true := by rw [ByteArray.toList_eq]; rfl
theorem print_small_size (n k : Int) : (printOf n k).size ≤ 76 := by
  unfold printOf
  split
  · have h1 := encD_size k (digs 19 n.toNat)
    have h2 := digs_length 19 n.toNat
    omega
  · decide
set_option maxHeartbeats 2000000 in
theorem lawPrint_any (n k : Int) (w : World) (h1 : -9223372036854775808 ≤ n) (h2 : n ≤ 9223372036854775807) (hF : Firsts w) :
    Calls Tryd.prog 7 #[.int .i64 n, .int .i64 k] w fun e w' => e = .returned (.bool true) ∧ Below w.heap.size w w' := by
  have hB := Below.refl w.heap.size w
  have hz := firsts_lt hF
  obtain ⟨s, hs⟩ : ∃ s, printOf n k = s := ⟨_, rfl⟩
  have hsz := print_small_size n k
  rw [hs] at hsz
  have hss := bytes_eq (x := s) (y := s) rfl
  have hss' : (!s.toList == s.toList) = false := by rw [hss]; rfl
  obtain ⟨a, b, hab, hcase⟩ : ∃ a b, numP (runes s) = (a, b) ∧ (s.toList.isEmpty = true ∧ b = 30 ∨ s.toList.isEmpty = false ∧ 4611686018427387904 < n ∧ b = 50 ∨ s.toList.isEmpty = false ∧ ¬ 4611686018427387904 < n ∧ b = 0 ∧ a = n) := by
    by_cases hv : 0 ≤ n ∧ KIn k
    · obtain ⟨e1, e2⟩ := print_read n k hv.1 hv.2 (by omega)
      rw [hs] at e1 e2
      have e3 := word_isEmpty (word := s) fun h => e1 (empty_of_size h)
      by_cases hc : 4611686018427387904 < n
      · rw [if_pos hc] at e2
        exact ⟨0, 50, e2, .inr (.inl ⟨e3, hc, rfl⟩)⟩
      · rw [if_neg hc] at e2
        exact ⟨n, 0, e2, .inr (.inr ⟨e3, hc, rfl, rfl⟩)⟩
    · have e1 := print_none n k hv
      rw [hs] at e1
      subst e1
      exact ⟨0, 30, by rw [runes_nil, numP_nil], .inl ⟨empty_isEmpty, rfl⟩⟩
  have hP := print_at n k s w h1 h2 hF hs
  go_enter Tryd.func7, Tryd.ntmps7
  go_wp2_with fail
  refine hP.mono ?_
  rintro e x1 ⟨rfl, hb1⟩
  have hB1 := hB.trans hb1
  clear hB hb1
  go_wp2_with fail
  refine (number_at s a b x1 (by omega) (firsts_below hF hB1 hz) hab).mono ?_
  rintro e x2 ⟨rfl, hb2⟩
  have hB2 := hB1.trans (hb2.mono hB1.size)
  clear hB1 hb2
  have hF2 := firsts_below hF hB2 hz
  go_wp2_with fail
  refine (printR_at n k s x2 h1 h2 hs).mono ?_
  rintro e x3 ⟨rfl, hb3⟩
  have hB3 := hB2.trans (hb3.mono hB2.size)
  clear hB2 hb3
  have hF3 := firsts_below hF hB3 hz
  clear hs hab hP
  rcases hcase with ⟨he, rfl⟩ | ⟨he, hc, rfl⟩ | ⟨he, hc, rfl, rfl⟩
  · go_wp2_with fail
    refine (works_any x3 hF3).mono ?_
    rintro e x4 ⟨rfl, hb4⟩
    go_wp2
    go_ret
    exact ⟨rfl, hB3.trans (hb4.mono hB3.size)⟩
  · go_wp2_with fail
    refine (works_any x3 hF3).mono ?_
    rintro e x4 ⟨rfl, hb4⟩
    go_wp2
    go_ret
    exact ⟨rfl, hB3.trans (hb4.mono hB3.size)⟩
  · go_wp2_with fail
    refine (works_any x3 hF3).mono ?_
    rintro e x4 ⟨rfl, hb4⟩
    go_wp2
    go_ret
    exact ⟨rfl, hB3.trans (hb4.mono hB3.size)⟩
end Go.Proofs.YtdmijnjcgaoihaaDoor
