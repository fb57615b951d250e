/- slices.Grow of nil and slices.Concat, of bytes. -/
import Derived.Test.YtmgnpcoihehelaaDiskD
namespace Go.Proofs.Ytmgnpcoihehelaa
open Go.RowKit

set_option maxHeartbeats 2000000 in
theorem grow_any (n : Nat) (hn : n ≤ 1000000000) (w : World) :
    Calls Try.prog 48 #[.slice none 0 0, .int .i64 n] w fun e w' => ∃ v', e = .returned v' ∧ w'.ownsRow w.heap.size 5 1 v' 0 [] ∧ Below w.heap.size w w' := by
  obtain ⟨i0, hi, hz0, hz1, hz2⟩ := parts infoU
  rcases Nat.eq_zero_or_pos n with h0 | h0
  · subst h0
    clear hi hz0 hz1 hz2
    go_enter Try.func48, Try.ntmps48
    go_wp2
    go_ret
    exact ⟨.slice none 0 0, rfl, World.ownsRow_nil _ _ _ _, Below.refl _ _⟩
  · have hr := Lib.run_append_nil_zeros (P := Try.prog) w 22 3 22 5 i0 (.int .u8 0) .i64 .i64 Try.underlying22 Try.underlying3 hi hz0 n h0 (by omega) (by omega) (by rw [hz2]; omega)
    have HR := Lib.hid hr
    have hn1 : ¬ (n : Int) < 0 := by omega
    have hn2 : (0 : Int) < (n : Int) := by omega
    clear hr hi hz0 hz1 hz2
    go_enter Try.func48, Try.ntmps48
    go_wp2_with (at_builtin; refine Lib.wpList_append_run _ rfl (.tmp 20) (.tmp 21) 22 3 rfl (.slice none 0 0) (.int .i64 n) rfl rfl (.slice (some ⟨w.heap.size, 0, none⟩) n (grownCap w n 0 5)) _ HR.out ?_)
    go_ret
    refine ⟨.slice (some ⟨w.heap.size, 0, none⟩) 0 (grownCap w n 0 5), rfl, ⟨by simp, .inr ⟨w.heap.size, _, _, rfl, Nat.le_refl _, heap_alloc_new w _, Nat.zero_le _, grownCap_le_maxLen w n 0 _ (by unfold maxLen; omega), ?_, by simp⟩⟩, ((Below.refl _ _).alloc (Nat.le_refl _) _).drew⟩
    have := grownCap_ge w n 0 5
    simp [Builtin.zeroCells]; omega
/-- parts of bytes: their values and what they read as -/
def joinB : List (Value × ByteArray) → ByteArray
  | [] => ByteArray.empty
  | x :: l => x.2 ++ joinB l
def sumB (l : List (Value × ByteArray)) : Nat := (l.map (·.2.size)).sum
theorem ucells_append (a b : ByteArray) : ucells (a ++ b) = ucells a ++ ucells b := by simp [ucells]
theorem joinB_snoc (l : List (Value × ByteArray)) (x : Value × ByteArray) : joinB (l ++ [x]) = joinB l ++ x.2 := by
  induction l with
  | nil => simp [joinB]
  | cons y l ih => rw [List.cons_append, joinB, joinB, ih, ByteArray.append_assoc]
theorem joinB_size (l : List (Value × ByteArray)) : (joinB l).size = sumB l := by
  induction l with
  | nil => rfl
  | cons y l ih => rw [joinB, ByteArray.size_append, ih]; rfl
theorem sumB_take (l : List (Value × ByteArray)) (k : Nat) (x : Value × ByteArray) (h : l[k]? = some x) : sumB (l.take (k + 1)) = sumB (l.take k) + x.2.size ∧ joinB (l.take (k + 1)) = joinB (l.take k) ++ x.2 := by
  rw [List.take_add_one, h]
  refine ⟨?_, joinB_snoc _ _⟩
  unfold sumB
  rw [List.map_append, List.sum_append]; simp
theorem sumB_le (l : List (Value × ByteArray)) (k : Nat) : sumB (l.take k) ≤ sumB l := by
  conv => rhs; rw [← List.take_append_drop k l]
  unfold sumB
  rw [List.map_append, List.sum_append]; omega
set_option maxHeartbeats 4000000 in
theorem concat_any (w : World) (A : Option Addr) (c : Nat) (parts_ : List (Value × ByteArray)) (hR : Rd w 1 A parts_.length (parts_.map (·.1))) (hB : ∀ x ∈ parts_, BtR w x.1 x.2) (hl : parts_.length ≤ 1000) (hs : sumB parts_ ≤ 1000000000) :
    Calls Try.prog 28 #[.slice A parts_.length c] w fun e w' => ∃ v', e = .returned v' ∧ Bt w' v' (joinB parts_) ∧ w'.ownsRow w.heap.size 5 1 v' (joinB parts_).size (ucells (joinB parts_)) ∧ Below w.heap.size w w' := by
  have HBt := Lib.hid hB
  clear hB
  go_enter Try.func28, Try.ntmps28
  go_wp2
  go_loopg [3, 11] parts_.length (fun gf vs vi wr => ∃ k : Nat, vi = .int .i64 k ∧ vs = .int .i64 (sumB (parts_.take k) : Nat) ∧ k + gf = parts_.length ∧ wr = w)
  case atStart => exact ⟨0, rfl, rfl, by omega, rfl⟩
  case round =>
    obtain ⟨k, rfl, rfl, hk, hwr⟩ := hrel
    subst wr
    cases gk with
    | zero =>
      obtain rfl : k = parts_.length := by omega
      rw [List.take_length]
      go_wp2_with fail
      refine (grow_any (sumB parts_) hs _).mono ?_
      rintro e w1 ⟨v1, rfl, ho1, hb1⟩
      have HO1 := Lib.hid ho1; have HB1 := Lib.hid hb1
      have hsz1 := hb1.size
      clear ho1 hb1
      obtain ⟨i0, hi, hz0, hz1, hz2⟩ := parts infoU
      go_wp2
      go_loopg [6, 27] parts_.length (fun gf vs vi wr' => ∃ k : Nat, vi = .int .i64 k ∧ k + gf = parts_.length ∧ wr'.ownsRow w.heap.size 5 1 vs (joinB (parts_.take k)).size (ucells (joinB (parts_.take k))) ∧ Below w.heap.size w wr')
      case atStart => exact ⟨0, rfl, by omega, HO1.out, HB1.out⟩
      case round =>
        obtain ⟨k, rfl, hk2, hown, hbr⟩ := hrel
        cases gk with
        | zero =>
          obtain rfl : k = parts_.length := by omega
          rw [List.take_length] at hown
          have HO := Lib.hid hown; have HB := Lib.hid hbr
          clear hown hbr hi hz0 hz1 hz2
          go_wp2
          go_ret
          exact ⟨_, rfl, Bt.of_own HO.out, HO.out, HB.out⟩
        | succ gf =>
          obtain ⟨ad, u, rfl, hx, hc⟩ := (hR.below hbr).at_ (k := k) (by omega)
          rw [List.getElem?_map, Option.map_eq_some_iff] at hx
          obtain ⟨x, hx, rfl⟩ := hx
          obtain ⟨A2, c2, hv, hc2, hrd⟩ := (HBt.out x (List.mem_of_getElem? hx)).below hbr
          obtain ⟨hsum, hjoin⟩ := sumB_take parts_ k x hx
          have hle := sumB_le parts_ (k + 1)
          rw [hv] at hc
          obtain ⟨A3, c3, rfl⟩ := own_shape hown
          have hjs := joinB_size (parts_.take k)
          have HJ := Lib.hid hjoin; have HO := Lib.hid hown; have HB := Lib.hid hbr; have HR := Lib.hid hrd
          have hkI : (k : Int) < (parts_.length : Int) := by omega
          have hsz : (joinB (parts_.take k)).size + x.2.size ≤ 1000000000 := by omega
          have hbsz := hbr.size
          clear hsum hle hx hv hjoin hown hbr hrd hjs
          go_wp2_with (at_builtin; (refine wpList_append_any _ rfl (.tmp 31) (.tmp 32) 22 rfl w.heap.size 5 i0 (.int .u8 0) 1 1 Try.underlying22 hi hz0 hz1 hz2 rfl (by decide) _ _ _ rfl HO.out _ _ _ _ (ucells x.2) rfl HR.out (ucells_one x.2) (by unfold maxLen; omega) (by omega) (by omega) ?_; intro v3 w3 h2 h3 h4; have HO3 := Lib.hid h2; have HG3 := Lib.hid h3; clear h2 h3 h4))
          go_roundg gf
          case measure => omega
          case rel =>
            refine ⟨k + 1, by go_num, by omega, ?_, HB.out.grown HG3.out hbsz (fun k hk => (HO.out.lt k hk).1)⟩
            rw [HJ.out, ByteArray.size_append, ucells_append]
            exact HO3.out
    | succ gf =>
      obtain ⟨ad, u, rfl, hx, hc⟩ := hR.at_ (k := k) (by omega)
      rw [List.getElem?_map, Option.map_eq_some_iff] at hx
      obtain ⟨x, hx, rfl⟩ := hx
      obtain ⟨A2, c2, hv, _⟩ := HBt.out x (List.mem_of_getElem? hx)
      have hsum := (sumB_take parts_ k x hx).1
      have hle := sumB_le parts_ (k + 1)
      rw [hv] at hc
      have HS := Lib.hid hsum
      have hkI : (k : Int) < (parts_.length : Int) := by omega
      have hsz : sumB (parts_.take k) + x.2.size ≤ 1000000000 := by omega
      clear hsum hle hx hv
      go_wp2
      go_roundg gf
      case measure => omega
      case rel => exact ⟨k + 1, by go_num, by rw [HS.out]; go_num, by omega, rfl⟩
end Go.Proofs.Ytmgnpcoihehelaa
