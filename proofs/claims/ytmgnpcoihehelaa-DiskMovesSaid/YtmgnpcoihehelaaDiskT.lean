/- The disk's calls: Sync, Cut, Rename, Remove. -/
import Derived.Test.YtmgnpcoihehelaaDiskS
namespace Go.Proofs.Ytmgnpcoihehelaa
open Go.RowKit

/-- what a disk bears that a call may be made of it -/
structure Fit (D : DiskD) : Prop where
  len : D.files.length ≤ 100000000
  size : ∀ f ∈ D.files, f.b.size ≤ 1000000000
  steps : D.steps < 9223372036854775807
  steps0 : 0 ≤ D.steps
  left : -1 ≤ D.left
  left1 : D.left ≤ 9223372036854775807
section
variable (w : World) (base p : Nat) (v : Value) (D : DiskD) (h : DiskIs w base p v D) (hbase : base ≤ w.heap.size) (hf : Fit D)
include h hbase hf
set_option maxHeartbeats 2000000 in
theorem sync_any (name : ByteArray) : Calls Try.prog 10 #[.pointer (some ⟨p, 0, none⟩), .string name] w fun e w' => e = .returned (.int .i64 (D.step 0 name name 0 true).1) ∧ Leaves w w' base p v (D.step 0 name name 0 true).2 := by
  have HS := Lib.hid (step_any w base p v D 0 (.inl rfl) name name 0 true h hf.len hbase hf.size hf.steps hf.steps0 hf.left hf.left1)
  clear h hbase hf
  go_enter Try.func10, Try.ntmps10
  go_wp2_with fail
  refine HS.out.mono ?_
  rintro e w1 ⟨rfl, hL⟩
  have HL := Lib.hid hL
  clear hL
  go_wp2
  go_ret
  exact ⟨rfl, HL.out⟩
set_option maxHeartbeats 2000000 in
theorem cut_any (name : ByteArray) (n : Int) : Calls Try.prog 18 #[.pointer (some ⟨p, 0, none⟩), .string name, .int .i64 n] w fun e w' => e = .returned (.int .i64 (D.step 1 name name n false).1) ∧ Leaves w w' base p v (D.step 1 name name n false).2 := by
  have HS := Lib.hid (step_any w base p v D 1 (.inr (.inl rfl)) name name n false h hf.len hbase hf.size hf.steps hf.steps0 hf.left hf.left1)
  clear h hbase hf
  go_enter Try.func18, Try.ntmps18
  go_wp2_with fail
  refine HS.out.mono ?_
  rintro e w1 ⟨rfl, hL⟩
  have HL := Lib.hid hL
  clear hL
  go_wp2
  go_ret
  exact ⟨rfl, HL.out⟩
set_option maxHeartbeats 2000000 in
theorem rename_any (name to : ByteArray) : Calls Try.prog 20 #[.pointer (some ⟨p, 0, none⟩), .string name, .string to] w fun e w' => e = .returned (.int .i64 (D.step 2 name to 0 true).1) ∧ Leaves w w' base p v (D.step 2 name to 0 true).2 := by
  have HS := Lib.hid (step_any w base p v D 2 (.inr (.inr (.inl rfl))) name to 0 true h hf.len hbase hf.size hf.steps hf.steps0 hf.left hf.left1)
  clear h hbase hf
  go_enter Try.func20, Try.ntmps20
  go_wp2_with fail
  refine HS.out.mono ?_
  rintro e w1 ⟨rfl, hL⟩
  have HL := Lib.hid hL
  clear hL
  go_wp2
  go_ret
  exact ⟨rfl, HL.out⟩
set_option maxHeartbeats 2000000 in
theorem remove_any (name : ByteArray) : Calls Try.prog 19 #[.pointer (some ⟨p, 0, none⟩), .string name] w fun e w' => e = .returned (.int .i64 (D.step 3 name name 0 true).1) ∧ Leaves w w' base p v (D.step 3 name name 0 true).2 := by
  have HS := Lib.hid (step_any w base p v D 3 (.inr (.inr (.inr rfl))) name name 0 true h hf.len hbase hf.size hf.steps hf.steps0 hf.left hf.left1)
  clear h hbase hf
  go_enter Try.func19, Try.ntmps19
  go_wp2_with fail
  refine HS.out.mono ?_
  rintro e w1 ⟨rfl, hL⟩
  have HL := Lib.hid hL
  clear hL
  go_wp2
  go_ret
  exact ⟨rfl, HL.out⟩
end
end Go.Proofs.Ytmgnpcoihehelaa
