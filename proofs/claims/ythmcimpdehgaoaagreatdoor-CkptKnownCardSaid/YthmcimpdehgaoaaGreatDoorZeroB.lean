/- A row of zeros that is made; a row of bytes but its first one. -/
import Derived.Test.YthmcimpdehgaoaaGreatDoorDk5
namespace Go.Proofs.YthmcimpdehgaoaaGreatDoor
open Go.RowKit Go.Maps

/-- so many bytes that are 0 -/
def zerosB (n : Nat) : ByteArray := ⟨Array.replicate n 0⟩
theorem zerosB_size (n : Nat) : (zerosB n).size = n := by simp [zerosB, ByteArray.size]
theorem zerosB_cells (n : Nat) : madeCells (Value.int .u8 0).cells (n * 1) = (ucells (zerosB n)).toArray := by
  apply Array.ext'
  simp [madeCells, ucells, zerosB, Value.cells]
  rw [List.eq_replicate_iff]
  refine ⟨by simp, fun b hb => ?_⟩
  obtain ⟨x, _, rfl⟩ := List.mem_map.1 hb
  simp [Nat.mod_one]
theorem run_make_bytes (n : Nat) (hn : n ≤ 1000000000) (w : World) : (Instr.makeSlice 33 (.int .i64 (n : Int)) (.int .i64 (n : Int))).run Tryz.prog w = .ok (.slice (some ⟨w.heap.size, 0, none⟩) n n) (w.alloc (.cells (ucells (zerosB n)).toArray 5)) := by
  obtain ⟨i0, hi0, hz0, hz1, hz2⟩ := parts infoU
  have h := run_make_rowN (P := Tryz.prog) 33 5 i0 (.int .u8 0) Tryz.underlying33 hi0 hz0 .i64 .i64 n n (Nat.le_refl _) (by rw [hz2]; omega) (by omega) w
  rw [hz1, zerosB_cells] at h
  exact h
theorem bt_zeros (n : Nat) (w : World) : Bt (w.alloc (.cells (ucells (zerosB n)).toArray 5)) (.slice (some ⟨w.heap.size, 0, none⟩) n n) (zerosB n) := by
  have := bt_lit w (zerosB n) _ rfl
  rwa [zerosB_size] at this
/-- all but the first byte of an array -/
theorem bt_tail {w : World} {g n c : Nat} {s : ByteArray} (h : Bt w (.slice (some ⟨g, 0, none⟩) n c) s) (hn : 1 ≤ n) : ∃ t, t.size = n - 1 ∧ Bt w (.slice (some ⟨g, 1, none⟩) (n - 1) (c - 1)) t := by
  obtain ⟨A, c', e, hc, hr⟩ := h
  simp only [Value.slice.injEq] at e
  obtain ⟨rfl, rfl, rfl⟩ := e
  obtain ⟨blk, off, cs, fz, e2, hh, hx⟩ := hr (by omega)
  injection e2 with e2
  injection e2 with e3 e4
  subst e3 e4
  have hsz : (s.extract 1 s.size).size = s.size - 1 := by rw [ByteArray.size_extract]; omega
  refine ⟨s.extract 1 s.size, hsz, some ⟨g, 1, none⟩, c - 1, by rw [hsz], by omega, fun _ => ⟨g, 1, cs, fz, rfl, hh, fun j hj => ?_⟩⟩
  have := hx (1 + j) (by omega)
  rw [Nat.zero_add] at this
  rw [this]
  have e1 : (s.extract 1 s.size).get! j = s.get! (1 + j) := by
    unfold ByteArray.get!
    simp [ByteArray.data_extract, getElem!_def, Array.getElem?_extract]
    rw [if_pos (by omega)]
  rw [e1]
end Go.Proofs.YthmcimpdehgaoaaGreatDoor
