/- Walk of SameTexts: are two rows of strings the same? -/
import Derived.Test.YtdmijnjcgaoihaaDoorRows
import Derived.Test.YtdmijnjcgaoihaaDoorMem
import Derived.WalkKit
import Derived.WalkLawsBesides
import Derived.WalkSpells
import Derived.BigQuiet
import Derived.Deep.QuietTactic
import Derived.Lib.Hide
import Derived.Outline
namespace Go.Proofs.YtdmijnjcgaoihaaDoor
open Go.RowKit

theorem bytes_ext {x y : ByteArray} (h : x.toList = y.toList) : x = y := by
  rw [ByteArray.toList_eq, ByteArray.toList_eq] at h
  cases x; cases y; simp_all [Array.toList_inj]
theorem bytes_beq (x y : ByteArray) : (x.toList == y.toList) = decide (x = y) := by
  by_cases h : x = y
  · subst h; simp
  · rw [decide_eq_false h, beq_eq_false_iff_ne]; exact fun e => h (bytes_ext e)
theorem ret_bool {a b : Bool} (h : a = b) : Ending.returned (.bool a) = .returned (.bool b) := by rw [h]
set_option maxHeartbeats 1000000 in
theorem sameTexts_any (A B : Option Addr) (n m c d : Nat) (xs ys : List ByteArray) (w : World) (ha : Rd w 1 A n (xs.map Value.string)) (hb : Rd w 1 B m (ys.map Value.string)) (hn : n ≤ maxLen) (hm : m ≤ maxLen) :
    Calls Tryd.prog 11 #[.slice A n c, .slice B m d] w fun e w' => e = .returned (.bool (decide (xs = ys))) ∧ ∃ q, w' = w.drewN q := by
  unfold maxLen at hn hm
  have hxl : xs.length = n := by simpa using ha.len
  have hyl : ys.length = m := by simpa using hb.len
  by_cases hnm : n = m
  · subst hnm
    go_enter Tryd.func11, Tryd.ntmps11
    have HX := Lib.hid hxl; have HY := Lib.hid hyl
    clear hxl hyl
    go_wp2
    go_loopw [5] (fun i wr => ∃ k q : Nat, k ≤ n ∧ i = .int .i64 k ∧ wr = w.drewN q ∧ xs.take k = ys.take k) (fun i _ => n - (intOf i).toNat)
    case atStart => exact ⟨0, 0, Nat.zero_le _, rfl, rfl, rfl⟩
    case round =>
      obtain ⟨k, q, hk, rfl, rfl, heq⟩ := hrel
      have HE := Lib.hid heq
      clear heq
      by_cases hlt : k < n
      · obtain ⟨ad, u, rfl, hx, hc⟩ := ha.at_ hlt
        obtain ⟨ad', u', rfl, hy, hc'⟩ := hb.at_ hlt
        rw [List.getElem?_map, Option.map_eq_some_iff] at hx hy
        obtain ⟨x, hx, rfl⟩ := hx
        obtain ⟨y, hy, rfl⟩ := hy
        have H1 := Lib.hid hx; have H2 := Lib.hid hy
        clear hx hy
        by_cases hxy : x = y
        · have ht : (!x.toList == y.toList) = false := by rw [bytes_beq]; simp [hxy]
          have HXY := Lib.hid hxy
          clear hxy
          go_wp2_with fail
          go_quiet (fail)
          go_wp2
          go_roundw
          case rel => exact ⟨k + 1, q + nq, by omega, by go_num, rfl, by rw [List.take_add_one, List.take_add_one, HE.out, H1.out, H2.out, HXY.out]⟩
          case measure => simp [intOf]; omega
        · have ht : (!x.toList == y.toList) = true := by rw [bytes_beq]; simp [hxy]
          have HXY := Lib.hid hxy
          clear hxy
          go_wp2_with fail
          go_quiet (fail)
          go_wp2
          go_ret
          refine ⟨ret_bool (decide_eq_false fun e => HXY.out ?_).symm, q + nq, by rw [World.drewN_drewN]⟩
          have h1 := H1.out; have h2 := H2.out
          rw [e, h2] at h1
          exact (Option.some.inj h1).symm
      · obtain rfl : k = n := by omega
        go_wp2
        go_ret
        refine ⟨ret_bool (decide_eq_true ?_).symm, q, rfl⟩
        have h := HE.out
        rwa [List.take_of_length_le (by rw [HX.out]; omega), List.take_of_length_le (by rw [HY.out]; omega)] at h
  · have hne : ¬ xs = ys := fun e => hnm (by rw [← hxl, ← hyl, e])
    have HN := Lib.hid hne
    clear hxl hyl hne
    go_enter Tryd.func11, Tryd.ntmps11
    go_wp2
    go_ret
    exact ⟨ret_bool (decide_eq_false HN.out).symm, 0, rfl⟩
end Go.Proofs.YtdmijnjcgaoihaaDoor
