/- fields.width of bytes, words and longs. -/
import Derived.Test.YthmcimpdehgaoaaGreatDoorMem
import Derived.Test.YthmcimpdehgaoaaGreatDoorRows
import Derived.WalkKit
import Derived.WalkLawsBesides
import Derived.WalkSpells
import Derived.BigQuiet
import Derived.Deep.QuietTactic
import Derived.Deep.LoopGhost
import Derived.Deep.RegionHeld3
import Derived.Outline
import Derived.IntWalk
import Derived.Lib.Hide
namespace Go.Proofs.YthmcimpdehgaoaaGreatDoor
open Go.RowKit

set_option maxRecDepth 100000 in
set_option maxHeartbeats 4000000 in
theorem width_u8 (w : World) : Calls Tryz.prog 125 #[] w fun e w' => e = .returned (.int .i64 1) ∧ w' = w := by
  go_enter Tryz.func125, Tryz.ntmps125
  go_wp2
  go_loopg [1, 2] 1 (fun gf a b wr => (gf = 1 ∧ a = .int .i64 0 ∧ b = .int .u8 255 ∨ gf = 0 ∧ a = .int .i64 1 ∧ b = .int .u8 0) ∧ wr = w)
  case atStart => exact ⟨.inl ⟨rfl, rfl, rfl⟩, rfl⟩
  case round =>
    obtain ⟨h, rfl⟩ := hrel
    rcases h with ⟨rfl, rfl, rfl⟩ | ⟨rfl, rfl, rfl⟩
    · go_wp2
      go_roundg 0
      case measure => omega
      case rel => exact ⟨.inr (⟨rfl, rfl, rfl⟩), rfl⟩
    · go_wp2
      go_ret
      exact ⟨rfl, rfl⟩
set_option maxRecDepth 100000 in
set_option maxHeartbeats 4000000 in
theorem width_u32 (w : World) : Calls Tryz.prog 127 #[] w fun e w' => e = .returned (.int .i64 4) ∧ w' = w := by
  go_enter Tryz.func127, Tryz.ntmps127
  go_wp2
  go_loopg [1, 2] 4 (fun gf a b wr => (gf = 4 ∧ a = .int .i64 0 ∧ b = .int .u32 4294967295 ∨ gf = 3 ∧ a = .int .i64 1 ∧ b = .int .u32 16777215 ∨ gf = 2 ∧ a = .int .i64 2 ∧ b = .int .u32 65535 ∨ gf = 1 ∧ a = .int .i64 3 ∧ b = .int .u32 255 ∨ gf = 0 ∧ a = .int .i64 4 ∧ b = .int .u32 0) ∧ wr = w)
  case atStart => exact ⟨.inl ⟨rfl, rfl, rfl⟩, rfl⟩
  case round =>
    obtain ⟨h, rfl⟩ := hrel
    rcases h with ⟨rfl, rfl, rfl⟩ | ⟨rfl, rfl, rfl⟩ | ⟨rfl, rfl, rfl⟩ | ⟨rfl, rfl, rfl⟩ | ⟨rfl, rfl, rfl⟩
    · go_wp2
      go_roundg 3
      case measure => omega
      case rel => exact ⟨.inr (.inl ⟨rfl, rfl, rfl⟩), rfl⟩
    · go_wp2
      go_roundg 2
      case measure => omega
      case rel => exact ⟨.inr (.inr (.inl ⟨rfl, rfl, rfl⟩)), rfl⟩
    · go_wp2
      go_roundg 1
      case measure => omega
      case rel => exact ⟨.inr (.inr (.inr (.inl ⟨rfl, rfl, rfl⟩))), rfl⟩
    · go_wp2
      go_roundg 0
      case measure => omega
      case rel => exact ⟨.inr (.inr (.inr (.inr (⟨rfl, rfl, rfl⟩)))), rfl⟩
    · go_wp2
      go_ret
      exact ⟨rfl, rfl⟩
set_option maxRecDepth 100000 in
set_option maxHeartbeats 4000000 in
theorem width_u64 (w : World) : Calls Tryz.prog 126 #[] w fun e w' => e = .returned (.int .i64 8) ∧ w' = w := by
  go_enter Tryz.func126, Tryz.ntmps126
  go_wp2
  go_loopg [1, 2] 8 (fun gf a b wr => (gf = 8 ∧ a = .int .i64 0 ∧ b = .int .u64 18446744073709551615 ∨ gf = 7 ∧ a = .int .i64 1 ∧ b = .int .u64 72057594037927935 ∨ gf = 6 ∧ a = .int .i64 2 ∧ b = .int .u64 281474976710655 ∨ gf = 5 ∧ a = .int .i64 3 ∧ b = .int .u64 1099511627775 ∨ gf = 4 ∧ a = .int .i64 4 ∧ b = .int .u64 4294967295 ∨ gf = 3 ∧ a = .int .i64 5 ∧ b = .int .u64 16777215 ∨ gf = 2 ∧ a = .int .i64 6 ∧ b = .int .u64 65535 ∨ gf = 1 ∧ a = .int .i64 7 ∧ b = .int .u64 255 ∨ gf = 0 ∧ a = .int .i64 8 ∧ b = .int .u64 0) ∧ wr = w)
  case atStart => exact ⟨.inl ⟨rfl, rfl, rfl⟩, rfl⟩
  case round =>
    obtain ⟨h, rfl⟩ := hrel
    rcases h with ⟨rfl, rfl, rfl⟩ | ⟨rfl, rfl, rfl⟩ | ⟨rfl, rfl, rfl⟩ | ⟨rfl, rfl, rfl⟩ | ⟨rfl, rfl, rfl⟩ | ⟨rfl, rfl, rfl⟩ | ⟨rfl, rfl, rfl⟩ | ⟨rfl, rfl, rfl⟩ | ⟨rfl, rfl, rfl⟩
    · go_wp2
      go_roundg 7
      case measure => omega
      case rel => exact ⟨.inr (.inl ⟨rfl, rfl, rfl⟩), rfl⟩
    · go_wp2
      go_roundg 6
      case measure => omega
      case rel => exact ⟨.inr (.inr (.inl ⟨rfl, rfl, rfl⟩)), rfl⟩
    · go_wp2
      go_roundg 5
      case measure => omega
      case rel => exact ⟨.inr (.inr (.inr (.inl ⟨rfl, rfl, rfl⟩))), rfl⟩
    · go_wp2
      go_roundg 4
      case measure => omega
      case rel => exact ⟨.inr (.inr (.inr (.inr (.inl ⟨rfl, rfl, rfl⟩)))), rfl⟩
    · go_wp2
      go_roundg 3
      case measure => omega
      case rel => exact ⟨.inr (.inr (.inr (.inr (.inr (.inl ⟨rfl, rfl, rfl⟩))))), rfl⟩
    · go_wp2
      go_roundg 2
      case measure => omega
      case rel => exact ⟨.inr (.inr (.inr (.inr (.inr (.inr (.inl ⟨rfl, rfl, rfl⟩)))))), rfl⟩
    · go_wp2
      go_roundg 1
      case measure => omega
      case rel => exact ⟨.inr (.inr (.inr (.inr (.inr (.inr (.inr (.inl ⟨rfl, rfl, rfl⟩))))))), rfl⟩
    · go_wp2
      go_roundg 0
      case measure => omega
      case rel => exact ⟨.inr (.inr (.inr (.inr (.inr (.inr (.inr (.inr (⟨rfl, rfl, rfl⟩)))))))), rfl⟩
    · go_wp2
      go_ret
      exact ⟨rfl, rfl⟩
end Go.Proofs.YthmcimpdehgaoaaGreatDoor
