/- The disk's calls that chapter 16's laws ask beside the rest: Steps, Cut; the names of numbers. -/
import Derived.Test.YtcfcfpphhaknnaaDk4
namespace Go.Proofs.Ytcfcfpphhaknnaa
open Go.RowKit

set_option maxHeartbeats 1000000 in
theorem steps_any [Forb] (w : World) (base p : Nat) (v : Value) (D : DiskD) (h : DiskIs w base p v D) :
    Calls Try.prog 17 #[.pointer (some ⟨p, 0, none⟩)] w fun e w' => e = .returned (.int .i64 D.steps) ∧ w' = w := by
  obtain ⟨_, hb, _⟩ := h
  have c2 := hb.cell 2
  simp only [List.getElem?_toArray, List.getElem?_cons_zero, List.getElem?_cons_succ] at c2
  go_enter Try.func17, Try.ntmps17
  go_wp2
  go_ret
  exact ⟨rfl, rfl⟩
section
variable [Forb] (w : World) (base p : Nat) (v : Value) (D : DiskD) (h : DiskIs w base p v D) (hbase : base ≤ w.heap.size) (hf : Fit D)
include h hbase hf
set_option maxHeartbeats 2000000 in
theorem cut_any (name : ByteArray) (n : Int) : Calls Try.prog 18 #[.pointer (some ⟨p, 0, none⟩), .string name, .int .i64 n] w fun e w' => e = .returned (.int .i64 (D.step 1 name name n false).1) ∧ Leaves w w' base p v (D.step 1 name name n false).2 := by
  have HS := Lib.hid (step_any w base p v D 1 (.inr (.inl rfl)) name name n false h hf.len hbase hf.size hf.steps hf.steps0 hf.left hf.left1)
  clear h hbase hf
  go_enter Try.func18, Try.ntmps18
  go_wp2_with fail
  refine HS.out.mono ?_
  rintro e w1 ⟨rfl, hL⟩
  have HL := Lib.hid hL
  clear hL
  go_wp2
  go_ret
  exact ⟨rfl, HL.out⟩
end
/-- the name of a number -/
def nm (i : Nat) : ByteArray := ⟨#[110, UInt8.ofNat (97 + i)]⟩
theorem nm_conv (i : Nat) (hi : i ≤ 100) (w : World) : (convert 22 9 (.slice (some ⟨w.heap.size, 0, none⟩) 1 1)).run Try.prog (w.alloc (.cells #[.int .u8 (97 + (i : Int))] 5)) = .ok (.string ⟨#[UInt8.ofNat (97 + i)]⟩) (w.alloc (.cells #[.int .u8 (97 + (i : Int))] 5)) :=
  run_convert_bytes_back (P := Try.prog) _ 22 9 5 ⟨w.heap.size, 0, none⟩ 1 [UInt8.ofNat (97 + i)] Try.underlying22 Try.underlying5 Try.underlying9 (fun j hj => by
    obtain rfl : j = 0 := by simpa using hj
    have := (Blk.new w 5 #[.int .u8 (97 + (i : Int))]).cell 0
    have h2 : ((UInt8.ofNat (97 + i)).toNat : Int) = 97 + (i : Int) := by
      rw [UInt8.toNat_ofNat']
      omega
    simp only [List.getElem_cons_zero, h2]
    exact this)
set_option maxRecDepth 100000 in
set_option maxHeartbeats 4000000 in
theorem name_any (i : Nat) (hi : i ≤ 100) (w : World) : Calls Try.prog 15 #[.int .i64 i] w fun e w' => e = .returned (.string (nm i)) ∧ Below w.heap.size w w' := by
  have hB := (Below.refl w.heap.size w).alloc (Nat.le_refl _) (.cells #[.int .u8 (97 + (i : Int))] 5)
  have HB := Lib.hid hB
  have hcv := nm_conv i hi w
  have hnm : nm i = ⟨#[110]⟩ ++ ⟨#[UInt8.ofNat (97 + i)]⟩ := by apply ByteArray.ext; simp [nm]
  rw [hnm]
  have hs1 : (⟨#[110]⟩ ++ (⟨#[UInt8.ofNat (97 + i)]⟩ : ByteArray)).size = 2 := by rw [ByteArray.size_append]; rfl
  have hs2 : (⟨#[UInt8.ofNat (97 + i)]⟩ : ByteArray).size = 1 := rfl
  generalize (⟨#[UInt8.ofNat (97 + i)]⟩ : ByteArray) = s1 at hcv hs1 hs2 ⊢
  clear hB hnm
  have hiI : (97 : Int) + (i : Int) ≤ 255 := by omega
  go_enter Try.func15, Try.ntmps15
  go_wp2
  go_ret
  exact ⟨rfl, HB.out⟩
section
variable [Forb] {w : World} {B p : Nat} {v : Value} {D D' : DiskD} {E : Int} (h : DiskIs w B p v D) (hB : B ≤ w.heap.size)
include h hB
theorem d_cut (hf : Fit D) {name : ByteArray} {n : Int} (hE : D.step 1 name name n false = (E, D')) :
    Calls Try.prog 18 #[.pointer (some ⟨p, 0, none⟩), .string name, .int .i64 n] w fun e w' => e = .returned (.int .i64 E) ∧ ∃ v1, Out B w w' p v D' v1 :=
  (cut_any w B p v D h hB hf name n).mono fun e w' ⟨he, hl⟩ => by rw [hE] at he hl; exact ⟨he, hl.out h hB⟩
end
end Go.Proofs.Ytcfcfpphhaknnaa
