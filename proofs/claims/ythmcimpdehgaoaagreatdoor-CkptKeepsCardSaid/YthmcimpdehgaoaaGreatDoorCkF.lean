/- A store of checkpoints: Read. -/
import Derived.Test.YthmcimpdehgaoaaGreatDoorCkC
import Derived.Test.YthmcimpdehgaoaaGreatDoorCkR
import Derived.OrdersHeld
import Derived.Deep.RegionHeld3
import Derived.Deep.DeepCutAuto
namespace Go.Proofs.YthmcimpdehgaoaaGreatDoor
open Go.RowKit Go.Maps

theorem rBad_any (w : World) (g : Nat) (r : RdD) (h : RdIs w g r) : Calls Tryz.prog 53 #[.pointer (some ⟨g, 0, none⟩)] w fun e w' => e = .returned (.bool r.bad) ∧ w' = w := by
  obtain ⟨h1, h2, v, hk, hb⟩ := h
  obtain ⟨A, c, rfl, -, -⟩ := hb
  have c2 := hk.cell 2
  simp only [List.getElem?_toArray, List.getElem?_cons_zero, List.getElem?_cons_succ] at c2
  clear hk h1 h2
  go_enter Tryz.func53, Tryz.ntmps53
  go_wp2
  go_ret
  exact ⟨rfl, rfl⟩
theorem ownC_keep {w w' : World} {b : Nat} {e : TypeId} {size n : Nat} {v : Value} {xs : List Value} (h : w.ownsRow b e size v n xs) (hk : ∀ (g : Nat) cs fz, w.heap[g]? = some (.cells cs e fz) → w'.heap[g]? = w.heap[g]?) : w'.ownsRow b e size v n xs := by
  refine ⟨h.1, ?_⟩
  rcases h.2 with hn | ⟨g, cap, cur, hv, hb, hh, rest⟩
  · exact .inl hn
  · exact .inr ⟨g, cap, cur, hv, hb, (hk g cur _ hh).trans hh, rest⟩
theorem ownC_below {w w' : World} {b : Nat} {e : TypeId} {size n : Nat} {v : Value} {xs : List Value} (h : w.ownsRow b e size v n xs) (hb : Below w.heap.size w w') : w'.ownsRow b e size v n xs :=
  ownC_keep h fun g _ _ hh => hb.block g (Array.getElem?_eq_some_iff.1 hh).1
theorem RdIs.notU8 {w : World} {g : Nat} {r : RdD} (h : RdIs w g r) : ∀ cs fz, w.heap[g]? ≠ some (Obj.cells cs 5 fz) := by
  intro cs fz hh
  obtain ⟨-, -, v, hk, -⟩ := h
  have h1 := hk.symm.trans hh
  injection h1 with h1
  injection h1 with _ ht
  exact absurd ht (by decide)
theorem ownC_moved {w w' : World} {b g n : Nat} {r : RdD} {v : Value} {xs : List Value} (h : w.ownsRow b 5 1 v n xs) (hr : RdIs w g r) (hm : Moved w w' g none) : w'.ownsRow b 5 1 v n xs :=
  ownC_keep h fun k cs fz hh => hm.block k (Array.getElem?_eq_some_iff.1 hh).1 (fun e => hr.notU8 cs fz (e ▸ hh)) (by simp)
/-- amid a read: the reader, the file's bytes -/
structure CrS (w x : World) (g : Nat) (r : RdD) (bv : Value) (b : ByteArray) : Prop where
  rd : RdIs x g r
  bt : Bt x bv b
  below : Below w.heap.size w x
  gt : w.heap.size ≤ g
theorem CrS.moved {w x y : World} {g : Nat} {r r2 : RdD} {bv : Value} {b : ByteArray} (h : CrS w x g r bv b) (hr : RdIs y g r2) (hm : Moved x y g none) : CrS w y g r2 bv b :=
  ⟨hr, h.bt.moved hm h.rd.notU8 (by simp), h.below.trans (hm.below h.gt (by simp) h.below.size), h.gt⟩
theorem readC_size {D : DiskD} (hf : Fit D) (t : ByteArray) : (D.read t).2.size ≤ 1000000000 := by
  have h0 : ByteArray.empty.size ≤ 1000000000 := Nat.zero_le _
  unfold DiskD.read
  split
  · exact h0
  · split
    · show ((D.files.map (·.b)).getD _ ByteArray.empty).size ≤ _
      rw [List.getD_eq_getElem?_getD, List.getElem?_map]
      cases hx : D.files[(findN (D.files.map (·.name)) t).1]? with
      | none => exact h0
      | some f => exact hf.size f (List.mem_of_getElem? hx)
    · exact h0
theorem Bt.cap {w : World} {A : Option Addr} {n c : Nat} {s : ByteArray} (h : Bt w (.slice A n c) s) : s.size ≤ c := by
  obtain ⟨A2, c2, he, hc, -⟩ := h
  simp only [Value.slice.injEq] at he
  omega
theorem run_uptoC {P : Program} {t e : TypeId} {i : TypeInfo} (ht : P.underlying t = some (.slice e)) (hi : P.info? e = some i) (A : Option Addr) (n c j : Nat) (hj : j ≤ c) (w : World) :
    (Instr.slice t (.slice A n c) none (some (.int .i64 j)) none).run P w = .ok (.slice A j c) w := by
  have he : P.elem t = e := by unfold Program.elem; rw [ht]
  have hA : A.map (fun a => a.add 0) = A := by cases A <;> simp [Addr.add]
  rw [run_slice_h w t A n c (by rw [he]; exact ht) .i64 j (by omega) (by omega)]
  simp [he, sizeOf, typeInfo, hi, sliced, hA, Result.andThen]
theorem run_uptoA {P : Program} {t e : TypeId} {i : TypeInfo} (ht : P.underlying t = some (.slice e)) (hi : P.info? e = some i) (A : Option Addr) (n c j : Nat) (hj : j ≤ c) (w : World) :
    (Instr.sliceAt t (.slice A n c) none (some (.int .i64 (j : Int))) none).run P w = .ok (.slice A j c) w := by
  have he : P.elem t = e := by unfold Program.elem; rw [ht]
  exact (run_sliceAt_slice w t _ _ _ _ (by rw [he]; exact ht)).trans (run_uptoC ht hi A n c j hj w)
theorem Bt.uptoC {w : World} {A : Option Addr} {c : Nat} {s : ByteArray} (h : Bt w (.slice A s.size c) s) (j : Nat) (hj : j ≤ s.size) :
    (∀ W : World, (Instr.sliceAt 33 (.slice A s.size c) none (some (.int .i64 (j : Int))) none).run Tryz.prog W = .ok (.slice A j c) W) ∧ Bt w (.slice A j c) (s.extract 0 j) := by
  obtain ⟨A2, c2, he, hc, hr⟩ := h
  simp only [Value.slice.injEq] at he
  obtain ⟨rfl, -, rfl⟩ := he
  obtain ⟨i0, hi0, -, -, -⟩ := parts infoU
  have hsz : (s.extract 0 j).size = j := by rw [ByteArray.size_extract]; omega
  refine ⟨fun W => run_uptoA Tryz.underlying33 hi0 A s.size c j (by omega) W, ⟨A, c, by rw [hsz], by rw [hsz]; omega, fun h0 => ?_⟩⟩
  rw [hsz] at h0
  obtain ⟨blk, off, cs, fz, rfl, hh, hx⟩ := hr (by omega)
  refine ⟨blk, off, cs, fz, rfl, hh, fun k hk => ?_⟩
  rw [hsz] at hk
  rw [ext_get s 0 j k hj (by omega), Nat.zero_add]
  exact hx k (by omega)
/-- what a file gives -/
def readF (n : Nat) (f : ByteArray) : Int × ByteArray := match dataC n f with
  | none => (190, ByteArray.empty)
  | some b => (0, b)
/-- what a read leaves -/
def CReadP (w : World) (q : Int × ByteArray) (e : Ending) (w' : World) : Prop :=
  ∃ bv, e = .returned (.tuple #[bv, .int .i64 q.1]) ∧ w'.ownsRow w.heap.size 5 1 bv q.2.size (ucells q.2) ∧ Below w.heap.size w w'
theorem CReadP.none_ {w w' : World} {E : Int} (h : Below w.heap.size w w') : CReadP w (E, ByteArray.empty) (.returned (.tuple #[.slice none 0 0, .int .i64 E])) w' :=
  ⟨_, rfl, ⟨rfl, .inl ⟨rfl, rfl⟩⟩, h⟩
set_option maxHeartbeats 2000000 in
theorem cread_nil (w : World) (step : Int) : Calls Tryz.prog 15 #[.pointer none, .int .i64 step] w fun e w' => e = .returned (.tuple #[.slice none 0 0, .int .i64 1]) ∧ w' = w := by
  go_enter Tryz.func15, Tryz.ntmps15
  go_wp2
  go_ret2
  exact ⟨rfl, rfl⟩
set_option maxHeartbeats 2000000 in
theorem cread_low (w : World) (gs : Nat) (step : Int) (hs : step < 0) : Calls Tryz.prog 15 #[.pointer (some ⟨gs, 0, none⟩), .int .i64 step] w fun e w' => e = .returned (.tuple #[.slice none 0 0, .int .i64 2]) ∧ w' = w := by
  go_enter Tryz.func15, Tryz.ntmps15
  go_wp2
  go_ret2
  exact ⟨rfl, rfl⟩
set_option maxHeartbeats 2000000 in
theorem cread_high (w : World) (gs : Nat) (step : Int) (h0 : ¬ step < 0) (hs : 1073741824 < step) : Calls Tryz.prog 15 #[.pointer (some ⟨gs, 0, none⟩), .int .i64 step] w fun e w' => e = .returned (.tuple #[.slice none 0 0, .int .i64 2]) ∧ w' = w := by
  go_enter Tryz.func15, Tryz.ntmps15
  go_wp2
  go_ret2
  exact ⟨rfl, rfl⟩
end Go.Proofs.YthmcimpdehgaoaaGreatDoor
