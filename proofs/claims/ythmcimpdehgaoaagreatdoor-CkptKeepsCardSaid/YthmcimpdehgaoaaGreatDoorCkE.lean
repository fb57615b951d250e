/- A store of checkpoints: Write, whole. -/
import Derived.Test.YthmcimpdehgaoaaGreatDoorCkD
import Derived.Deep.DeepCutAuto
import Derived.Laws.Tables
namespace Go.Proofs.YthmcimpdehgaoaaGreatDoor
open Go.RowKit Go.Maps

theorem below3 (w : World) (r3 r4 r5 : Obj) : Below w.heap.size w (((w.alloc r3).alloc r4).alloc r5) :=
  (((Below.refl w.heap.size w).alloc (Nat.le_refl _) r3).alloc (by simp) r4).alloc (by simp; omega) r5
set_option maxHeartbeats 2000000 in
theorem cwrite_low (w : World) (gs : Nat) (step : Int) (A : Option Addr) (m c : Nat) (hs : step < 0) : Calls Tryz.prog 12 #[.pointer (some ⟨gs, 0, none⟩), .int .i64 step, .slice A m c] w fun e w' => e = .returned (.int .i64 2) ∧ Below w.heap.size w w' := by
  have HB := Lib.hid (below3 w (.cells #[.pointer (some ⟨gs, 0, none⟩)] 27) (.cells #[.int .i64 step] 3) (.cells #[.slice A m c] 33))
  go_enter Tryz.func12, Tryz.ntmps12
  go_wp2
  go_ret
  exact ⟨rfl, HB.out⟩
set_option maxHeartbeats 2000000 in
theorem cwrite_high (w : World) (gs : Nat) (step : Int) (A : Option Addr) (m c : Nat) (h0 : ¬ step < 0) (hs : 1073741824 < step) : Calls Tryz.prog 12 #[.pointer (some ⟨gs, 0, none⟩), .int .i64 step, .slice A m c] w fun e w' => e = .returned (.int .i64 2) ∧ Below w.heap.size w w' := by
  have HB := Lib.hid (below3 w (.cells #[.pointer (some ⟨gs, 0, none⟩)] 27) (.cells #[.int .i64 step] 3) (.cells #[.slice A m c] 33))
  go_enter Tryz.func12, Tryz.ntmps12
  go_wp2
  go_ret
  exact ⟨rfl, HB.out⟩
set_option maxHeartbeats 2000000 in
theorem cwrite_long (w : World) (gs : Nat) (step : Int) (A : Option Addr) (m c : Nat) (h0 : ¬ step < 0) (h1 : ¬ 1073741824 < step) (hm : (4194304 : Int) < m) : Calls Tryz.prog 12 #[.pointer (some ⟨gs, 0, none⟩), .int .i64 step, .slice A m c] w fun e w' => e = .returned (.int .i64 3) ∧ Below w.heap.size w w' := by
  have HB := Lib.hid (below3 w (.cells #[.pointer (some ⟨gs, 0, none⟩)] 27) (.cells #[.int .i64 step] 3) (.cells #[.slice A m c] 33))
  go_enter Tryz.func12, Tryz.ntmps12
  go_wp2
  go_ret
  exact ⟨rfl, HB.out⟩
set_option maxHeartbeats 2000000 in
theorem cwrite_off [Forb] (w : World) (B p gs : Nat) (v : Value) (D : DiskD) (h : DiskIs w B p v D) (hst : CkSt w gs p) (step : Int) (A : Option Addr) (m c : Nat) (h0 : ¬ step < 0) (h1 : ¬ 1073741824 < step) (hm : ¬ (4194304 : Int) < m) (hoff : D.off = true) : Calls Tryz.prog 12 #[.pointer (some ⟨gs, 0, none⟩), .int .i64 step, .slice A m c] w fun e w' => e = .returned (.int .i64 160) ∧ Below w.heap.size w w' := by
  have hb := below3 w (.cells #[.pointer (some ⟨gs, 0, none⟩)] 27) (.cells #[.int .i64 step] 3) (.cells #[.slice A m c] 33)
  have HB := Lib.hid hb
  have HO := Lib.hid (off_any _ B p v D (h.below hb (Nat.le_refl _)))
  rw [hoff] at HO
  have hcs : (((w.alloc (.cells #[.pointer (some ⟨gs, 0, none⟩)] 27)).alloc (.cells #[.int .i64 step] 3)).alloc (.cells #[.slice A m c] 33)).cell? ⟨gs, 0, none⟩ = some (.pointer (some ⟨p, 0, none⟩)) := Blk.cell (hst.below hb) 0
  clear hb h hoff
  go_enter Tryz.func12, Tryz.ntmps12
  go_wp2_with fail
  refine HO.out.mono ?_
  rintro e w6 ⟨rfl, rfl⟩
  clear HO
  go_wp2
  go_ret
  exact ⟨rfl, HB.out⟩
/-- a write, whatever it is asked for -/
theorem cwrite_any [Forb] (w : World) (B p gs : Nat) (v : Value) (D : DiskD) (h : DiskIs w B p v D) (hB : B ≤ w.heap.size) (hs : CkSt w gs p) (ht : Forb.top ≤ w.heap.size) (hf : FitN D 50000) (step : Int) (bv : Value) (b : ByteArray) (hbx : BtX B w bv b) (hT : Tb B w) :
    Calls Tryz.prog 12 #[.pointer (some ⟨gs, 0, none⟩), .int .i64 step, bv] w (CWriteP B w p gs v (writeC D step b)) := by
  have hend : ∀ {E : Int} {e : Ending} {w' : World}, writeC D step b = (E, D) → (e = .returned (.int .i64 E) ∧ Below w.heap.size w w') → CWriteP B w p gs v (writeC D step b) e w' := by
    intro E e w' hq hh
    rw [hq]
    exact ⟨hh.1, v, Out.of_below h hB hh.2, hs.below hh.2⟩
  by_cases h0 : step < 0
  · obtain ⟨A, c, rfl, -, -⟩ := hbx.here
    exact (cwrite_low w gs step A _ c h0).mono fun e w' hh => hend (by unfold writeC; rw [if_pos (.inl h0)]) hh
  by_cases h1 : 1073741824 < step
  · obtain ⟨A, c, rfl, -, -⟩ := hbx.here
    exact (cwrite_high w gs step A _ c h0 h1).mono fun e w' hh => hend (by unfold writeC; rw [if_pos (.inr h1)]) hh
  by_cases hb : 4194304 < b.size
  · obtain ⟨A, c, rfl, -, -⟩ := hbx.here
    exact (cwrite_long w gs step A _ c h0 h1 (by omega)).mono fun e w' hh => hend (by unfold writeC; rw [if_neg (by omega), if_pos hb]) hh
  by_cases ho : D.off = true
  · obtain ⟨A, c, rfl, -, -⟩ := hbx.here
    exact (cwrite_off w B p gs v D h hs step A _ c h0 h1 (by omega) ho).mono fun e w' hh => hend (by unfold writeC; rw [if_neg (by omega), if_neg (by omega), if_pos ho]) hh
  · obtain ⟨n, rfl⟩ : ∃ n : Nat, step = (n : Int) := ⟨step.toNat, by omega⟩
    have ho' : D.off = false := by simpa using ho
    rw [writeC_eq (by omega) (by omega) ho']
    exact cwrite_yes w B p gs v D h hB hs ht hf n (by omega) bv b (by omega) hbx hT ho'
end Go.Proofs.YthmcimpdehgaoaaGreatDoor
