/- crc.Sum: the check of bytes, four bits at a time. -/
import Derived.Test.YthmcimpdehgaoaaGreatDoorMaA
import Derived.Test.YthmcimpdehgaoaaGreatDoorDk1
import Derived.Test.YthmcimpdehgaoaaGreatDoorCrcS
import Derived.Laws.BitsAllLaws
namespace Go.Proofs.YthmcimpdehgaoaaGreatDoor
open Go.RowKit

set_option maxRecDepth 100000 in
set_option maxHeartbeats 2000000 in
theorem up_any (r : Nat) (hr : r < 4294967296) (w : World) : Calls Tryz.prog 129 #[.int .u32 r] w fun e w' => e = .returned (.int .u32 (upN r)) ∧ w' = w := by
  have ha : bits .and .u32 (r : Int) 1 = ((r % 2 : Nat) : Int) := by
    have := u32_and_nat r 1 hr (by decide)
    rw [nat_mask1] at this
    exact this
  by_cases h : r % 2 = 1
  · have hd : (bits .and .u32 (r : Int) 1 == 1) = true := by rw [ha, h]; rfl
    have hx : bits .xor .u32 ((r : Int) / 2) 2197175160 = (upN r : Int) := by
      have := u32_xor_nat (r / 2) 2197175160 (by omega) (by decide)
      rw [upN, if_pos h, ← this, show ((r / 2 : Nat) : Int) = (r : Int) / 2 by omega]
      rfl
    clear ha
    go_enter Tryz.func129, Tryz.ntmps129
    go_wp2
    go_ret
    exact ⟨rfl, rfl⟩
  · have hd : (bits .and .u32 (r : Int) 1 == 1) = false := by rw [ha, show r % 2 = 0 by omega]; rfl
    have hx : (r : Int) / 2 = (upN r : Int) := by rw [upN, if_neg h]; omega
    clear ha
    go_enter Tryz.func129, Tryz.ntmps129
    go_wp2
    go_ret
    exact ⟨rfl, rfl⟩
set_option maxRecDepth 100000 in
set_option maxHeartbeats 2000000 in
theorem leave_any (r : Nat) (hr : r < 4294967296) (w : World) : Calls Tryz.prog 128 #[.int .u32 r] w fun e w' => e = .returned (.int .u32 (up4 r)) ∧ w' = w := by
  go_enter Tryz.func128, Tryz.ntmps128
  go_wp2
  go_loopg [0, 3] 4 (fun gf a b wr => ∃ k : Nat, a = .int .u32 (upK k r) ∧ b = .int .i64 k ∧ k + gf = 4 ∧ wr = w)
  case atStart => exact ⟨0, rfl, rfl, rfl, rfl⟩
  case round =>
    obtain ⟨k, rfl, rfl, hk, rfl⟩ := hrel
    cases gk with
    | zero =>
      obtain rfl : k = 4 := by omega
      go_wp2
      go_ret
      exact ⟨rfl, rfl⟩
    | succ gf =>
      have hkI : (k : Int) < 4 := by omega
      have HU := Lib.hid (up_any (upK k r) (upK_lt hr k) wr)
      go_wp2_with fail
      refine HU.out.mono ?_
      rintro e w' ⟨rfl, rfl⟩
      clear HU
      go_wp2
      go_roundg gf
      case measure => omega
      case rel => exact ⟨k + 1, rfl, by go_num, by omega, rfl⟩
end Go.Proofs.YthmcimpdehgaoaaGreatDoor
