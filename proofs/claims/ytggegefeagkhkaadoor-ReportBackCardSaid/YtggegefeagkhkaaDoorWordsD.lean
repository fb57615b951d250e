/- Walk of the reference's Print. -/
import Derived.Test.YtggegefeagkhkaaDoorWordsC
namespace Go.Proofs.YtggegefeagkhkaaDoor
open Go.RowKit

set_option maxHeartbeats 2000000 in
theorem printR_any (n kind : Int) (w : World) (h1 : -9223372036854775808 ≤ n) (h2 : n ≤ 9223372036854775807) :
    Calls Tryd.prog 53 #[.int .i64 n, .int .i64 kind] w fun e w' => e = .returned (.string (printOf n kind)) ∧ Below w.heap.size w w' := by
  by_cases h : 0 ≤ n ∧ 0 ≤ kind ∧ kind ≤ 2
  · have hP : printOf n kind = encD kind (digs 19 n.toNat) := by rw [printOf, if_pos h]
    obtain ⟨a, b, c⟩ := h
    obtain ⟨K, rfl⟩ := Int.eq_ofNat_of_zero_le b
    obtain ⟨N, rfl⟩ := Int.eq_ofNat_of_zero_le a
    rw [hP, Int.toNat_natCast]
    have hfb := firstOf_bd K
    clear hP
    go_enter Tryd.func53, Tryd.ntmps53
    go_wp2
    go_loopw [0, 5] (fun n s wr => ∃ (g m : Nat) (l : List Nat), n = .int .i64 m ∧ s = .string (encD K l) ∧ m < 10 ^ (g + 1) ∧ (m : Int) ≤ 9223372036854775807 ∧ digs 19 N = digs (g + 1) m ++ l ∧ l.length + g ≤ 18 ∧ Below w.heap.size w wr)
      (fun n _ _ => (intOf n).toNat)
    case atStart => exact ⟨18, N, [], rfl, rfl, by omega, h2, by simp, by simp, Below.refl _ _⟩
    case round =>
      obtain ⟨g, m, l, rfl, rfl, hm, hm2, hd, hl, hB⟩ := hrel
      have hls := encD_size K l
      have hes := encode_size_le (firstOf K + (m : Int) % 10)
      have hes' := encode_size_le (firstOf K + (m : Int))
      by_cases hlt : m < 10
      · have hfin : Utf8.encode (firstOf K + (m : Int)) ++ encD K l = encD K (digs 19 N) := by
          rw [hd, digs, if_pos hlt, encD_append, encD_one]
        have HF := Lib.hid hfin
        clear hfin hd
        go_wp2_with (go_at_call 65; refine (first_any _ _ (by omega) (by omega)).mono ?_; rintro e w' ⟨rfl, hb⟩; have hB := hB.trans (hb.mono hB.size); clear hb)
        go_ret
        exact ⟨ret_str HF.out, hB⟩
      · obtain ⟨g, rfl⟩ : ∃ g', g = g' + 1 := ⟨g - 1, by
          cases g with
          | zero => omega
          | succ g => omega⟩
        have hm' : m / 10 < 10 ^ (g + 1) := by rw [Nat.pow_succ] at hm; omega
        have hd' : digs 19 N = digs (g + 1) (m / 10) ++ (m % 10 :: l) := by
          rw [hd, digs, if_neg hlt]; simp
        have he' : Utf8.encode (firstOf K + (m : Int) % 10) ++ encD K l = encD K (m % 10 :: l) := by
          rw [show (m % 10 :: l) = [m % 10] ++ l from rfl, encD_append, encD_one, Int.natCast_emod]; rfl
        have HD := Lib.hid hd'; have HE := Lib.hid he'; have HM := Lib.hid hm'
        clear hd hd' he' hm' hm
        go_wp2_with (go_at_call 65; refine (first_any _ _ (by omega) (by omega)).mono ?_; rintro e w' ⟨rfl, hb⟩; have hB := hB.trans (hb.mono hB.size); clear hb)
        go_roundw
        case rel => exact ⟨g, m / 10, m % 10 :: l, by go_num, by rw [← HE.out], HM.out, by omega, HD.out, by simp; omega, hB⟩
        case measure => simp [intOf]; omega
  · have HP : printOf n kind = ⟨#[]⟩ := by rw [printOf, if_neg h]
    rw [HP]
    have hor : n < 0 ∨ (0 ≤ n ∧ kind < 0) ∨ (0 ≤ n ∧ 0 ≤ kind ∧ 2 < kind) := by omega
    clear h HP
    rcases hor with h | ⟨h, h'⟩ | ⟨h, h', h''⟩
    all_goals
      go_enter Tryd.func53, Tryd.ntmps53
      go_wp2
      go_ret
      exact ⟨rfl, Below.refl _ _⟩
end Go.Proofs.YtggegefeagkhkaaDoor
