/- The disk's small functions: New, Crash, power, Off. -/
import Derived.Test.YtmgnpcoihehelaaDiskM
namespace Go.Proofs.Ytmgnpcoihehelaa
open Go.RowKit

theorem Moved.refl (w : World) (p : Nat) (g : Option Nat) : Moved w w p g := ⟨rfl, rfl, rfl, Nat.le_refl _, fun _ _ _ _ => rfl⟩
theorem Moved.trans {a b c : World} {p : Nat} {g g' : Option Nat} (h : Moved a b p g) (k : Moved b c p g') (hg : g' = g ∨ g' = none ∨ ∃ n, g' = some n ∧ a.heap.size ≤ n) : Moved a c p g :=
  ⟨k.os.trans h.os, k.tape.trans h.tape, k.output.trans h.output, Nat.le_trans h.size k.size, fun i hi hp hng =>
    (k.block i (Nat.lt_of_lt_of_le hi h.size) hp (by
      rcases hg with rfl | rfl | ⟨n, rfl, hn⟩
      · exact hng
      · simp
      · intro e; injection e with e; omega)).trans (h.block i hi hp hng)⟩
theorem Moved.below {w w' : World} {p base : Nat} {g : Option Nat} (h : Moved w w' p g) (hp : base ≤ p) (hg : ∀ n, g = some n → base ≤ n) (hs : base ≤ w.heap.size) : Below base w w' :=
  ⟨h.os, h.tape, h.output, h.size, fun i hi => h.block i (by omega) (by omega) (fun e => by have := hg i e.symm; omega)⟩
theorem Moved.of_below {w w' : World} (h : Below w.heap.size w w') (p : Nat) (g : Option Nat) : Moved w w' p g := ⟨h.os, h.tape, h.output, h.size, fun i hi _ _ => h.block i hi⟩
theorem Moved.set_ (w : World) (p k : Nat) (g : Option Nat) (u : Value) : Moved w (w.setCell ⟨p, k, none⟩ u) p g :=
  ⟨rfl, rfl, rfl, by simp, fun i _ hp _ => Below.heap_setCell w _ u i (by exact hp)⟩
/-- bytes stay where their block stays -/
theorem Bt.keep {w w' : World} {v : Value} {s : ByteArray} (h : Bt w v s) (hk : ∀ (blk : Nat) cs fz, w.heap[blk]? = some (Obj.cells cs 5 fz) → w'.heap[blk]? = w.heap[blk]?) : Bt w' v s := by
  obtain ⟨A, c, rfl, hc, hr⟩ := h
  refine ⟨A, c, rfl, hc, fun hs => ?_⟩
  obtain ⟨blk, off, cs, fz, rfl, hh, hx⟩ := hr hs
  exact ⟨blk, off, cs, fz, rfl, (hk blk cs fz hh).trans hh, hx⟩
theorem blk_type {w : World} {i : Nat} {t t' : TypeId} {cs cs' : Array Value} {fz fz' : Nat × Nat} (h : w.heap[i]? = some (Obj.cells cs t fz)) (h' : w.heap[i]? = some (Obj.cells cs' t' fz')) (hne : t ≠ t') : False := by
  rw [h] at h'
  injection h' with h'
  injection h' with _ e _
  exact hne e
theorem Bt.moved {w w' : World} {p : Nat} {g : Option Nat} {v : Value} {s : ByteArray} (h : Bt w v s) (m : Moved w w' p g)
    (hp : ∀ cs fz, w.heap[p]? ≠ some (Obj.cells cs 5 fz)) (hg : ∀ n, g = some n → ∀ cs fz, w.heap[n]? ≠ some (Obj.cells cs 5 fz)) : Bt w' v s := by
  refine h.keep fun blk cs fz hh => m.block blk (Array.getElem?_eq_some_iff.1 hh).1 (fun e => ?_) (fun e => ?_)
  · subst e; exact hp _ _ hh
  · exact hg blk e.symm _ _ hh
theorem Bt.below {w w' : World} {v : Value} {s : ByteArray} (h : Bt w v s) (hb : Below w.heap.size w w') : Bt w' v s :=
  h.keep fun blk _ _ hh => hb.block blk (Array.getElem?_eq_some_iff.1 hh).1
theorem Bt.at_ {w : World} {v : Value} {s : ByteArray} {B : Nat} (h : Bt w v s) {w' : World} (hb : Below B w w') (hB : w.heap.size ≤ B) : Bt w' v s :=
  h.keep fun blk _ _ hh => hb.block blk (by have := (Array.getElem?_eq_some_iff.1 hh).1; omega)
/-- the row's block is no block of bytes -/
theorem own_type {w : World} {base : Nat} {e : TypeId} {size n : Nat} {v : Value} {xs : List Value} (h : w.ownsRow base e size v n xs) {t : TypeId} (hne : e ≠ t) : ∀ g, v.ownBlock = some g → ∀ cs fz, w.heap[g]? ≠ some (Obj.cells cs t fz) := by
  intro g hg cs fz hh
  rcases h.2 with ⟨rfl, _⟩ | ⟨g', cap, cur, rfl, _, hg', _⟩
  · cases hg
  · simp only [Value.ownBlock, Option.some.injEq] at hg
    subst hg
    exact blk_type hg' hh hne
theorem DiskIs.row {w : World} {base p : Nat} {v : Value} {D : DiskD} (h : DiskIs w base p v D) : ∃ rows, rows.map (·.1) = D.files ∧ RowD w base v rows := h.2.2
theorem DiskIs.blk {w : World} {base p : Nat} {v : Value} {D : DiskD} (h : DiskIs w base p v D) : Blk w p 56 #[v, .int .i64 D.quota, .int .i64 D.steps, .int .i64 D.left, .bool D.off] := h.2.1
theorem DiskIs.noU {w : World} {base p : Nat} {v : Value} {D : DiskD} (h : DiskIs w base p v D) : ∀ cs fz, w.heap[p]? ≠ some (Obj.cells cs 5 fz) := fun _ _ hh => blk_type h.blk hh (by decide)
theorem DiskIs.own {w : World} {base p : Nat} {v : Value} {D : DiskD} (h : DiskIs w base p v D) : ∀ g, v.ownBlock = some g → base ≤ g ∧ g < w.heap.size ∧ g ≠ p := by
  obtain ⟨hp, hb, rows, hr, ho, _⟩ := h
  intro g hg
  rcases ho.2 with ⟨rfl, _⟩ | ⟨g', cap, cur, rfl, hg1, hh, _⟩
  · cases hg
  · simp only [Value.ownBlock, Option.some.injEq] at hg
    subst hg
    exact ⟨hg1, (Array.getElem?_eq_some_iff.1 hh).1, fun e => by subst e; exact blk_type hh hb (by decide)⟩
/-- a row of files stays where its block stays, and its bytes' -/
theorem RowD.keep {w w' : World} {base : Nat} {v : Value} {rows : List (FileD × Value)} (h : RowD w base v rows) (hg : ∀ g : Nat, v.ownBlock = some g → w'.heap[g]? = w.heap[g]?)
    (hk : ∀ (blk : Nat) cs fz, w.heap[blk]? = some (Obj.cells cs 5 fz) → w'.heap[blk]? = w.heap[blk]?) : RowD w' base v rows := by
  refine ⟨⟨h.1.1, ?_⟩, fun x hx => (h.2 x hx).keep hk⟩
  rcases h.1.2 with hn | ⟨g, cap, cur, hv, hb, hh, rest⟩
  · exact .inl hn
  · exact .inr ⟨g, cap, cur, hv, hb, (hg g (by rw [hv]; rfl)).trans hh, rest⟩
/-- ANOTHER DISK STAYS -/
theorem DiskIs.keep {w w' : World} {base p p' : Nat} {v : Value} {g : Option Nat} {D : DiskD} (h : DiskIs w base p v D) (m : Moved w w' p' g) (hp : p ≠ p') (hpg : some p ≠ g) (hvg : ∀ k, v.ownBlock = some k → k ≠ p' ∧ some k ≠ g)
    (hu : ∀ cs fz, w.heap[p']? ≠ some (Obj.cells cs 5 fz)) (hg : ∀ n, g = some n → ∀ cs fz, w.heap[n]? ≠ some (Obj.cells cs 5 fz)) : DiskIs w' base p v D := by
  obtain ⟨hb0, hb, rows, hr, hR⟩ := h
  refine ⟨hb0, (m.block p hb.lt hp hpg).trans hb, rows, hr, hR.keep (fun k hk => ?_) (fun blk cs fz hh => ?_)⟩
  · have := (DiskIs.own ⟨hb0, hb, rows, hr, hR⟩ k hk).2.1
    exact m.block k this (hvg k hk).1 (hvg k hk).2
  · refine m.block blk (Array.getElem?_eq_some_iff.1 hh).1 (fun e => ?_) (fun e => ?_)
    · subst e; exact hu _ _ hh
    · exact hg blk e.symm _ _ hh
theorem DiskIs.below {w w' : World} {base p : Nat} {v : Value} {D : DiskD} {B : Nat} (h : DiskIs w base p v D) (hb : Below B w w') (hB : w.heap.size ≤ B) : DiskIs w' base p v D := by
  obtain ⟨hb0, hk, rows, hr, hR⟩ := h
  refine ⟨hb0, hk.below hb (by have := hk.lt; omega), rows, hr, hR.keep (fun g hg => ?_) (fun blk cs fz hh => ?_)⟩
  · have := (DiskIs.own ⟨hb0, hk, rows, hr, hR⟩ g hg).2.1
    exact hb.block g (by omega)
  · exact hb.block blk (by have := (Array.getElem?_eq_some_iff.1 hh).1; omega)
/-- the disk's own cells are written -/
theorem DiskIs.set_ {w w' : World} {base p : Nat} {v : Value} {D D' : DiskD} (h : DiskIs w base p v D) (m : Moved w w' p none) (hb' : Blk w' p 56 #[v, .int .i64 D'.quota, .int .i64 D'.steps, .int .i64 D'.left, .bool D'.off]) (hf : D'.files = D.files) : DiskIs w' base p v D' := by
  obtain ⟨hb0, hk, rows, hr, hR⟩ := h
  have ho := DiskIs.own ⟨hb0, hk, rows, hr, hR⟩
  refine ⟨hb0, hb', rows, hr.trans hf.symm, hR.keep (fun g hg => ?_) (fun blk cs fz hh => ?_)⟩
  · exact m.block g (ho g hg).2.1 (ho g hg).2.2 (by simp)
  · exact m.block blk (Array.getElem?_eq_some_iff.1 hh).1 (fun e => by subst e; exact blk_type hk hh (by decide)) (by simp)

theorem new_is (w : World) (m : Int) : DiskIs (w.alloc (.cells #[.slice none 0 0, .int .i64 m, .int .i64 0, .int .i64 (-1), .bool false] 56)) w.heap.size w.heap.size (.slice none 0 0) ⟨[], m, 0, -1, false⟩ :=
  ⟨Nat.le_refl _, Blk.new w 56 #[.slice none 0 0, .int .i64 m, .int .i64 0, .int .i64 (-1), .bool false], [], rfl, World.ownsRow_nil _ _ _ _, by simp⟩
set_option maxHeartbeats 1000000 in
theorem new_any (q : Int) (w : World) : Calls Try.prog 8 #[.int .i64 q] w fun e w' => e = .returned (.pointer (some ⟨w.heap.size, 0, none⟩)) ∧
    DiskIs w' w.heap.size w.heap.size (.slice none 0 0) ⟨[], max 0 q, 0, -1, false⟩ ∧ Below w.heap.size w w' := by
  go_enter Try.func8, Try.ntmps8
  go_wp2
  · go_ret
    rw [show max 0 q = q by omega]
    exact ⟨rfl, new_is w q, (Below.refl _ _).alloc (Nat.le_refl _) _⟩
  · go_ret
    rw [show max 0 q = 0 by omega]
    exact ⟨rfl, new_is w 0, (Below.refl _ _).alloc (Nat.le_refl _) _⟩
set_option maxHeartbeats 1000000 in
theorem crash_any (w : World) (base p : Nat) (v : Value) (D : DiskD) (h : DiskIs w base p v D) :
    Calls Try.prog 12 #[.pointer (some ⟨p, 0, none⟩)] w fun e w' => e = .returned (.tuple #[]) ∧ DiskIs w' base p v { D with off := true, left := -1 } ∧ Moved w w' p none := by
  have hb := h.blk
  have c3 := hb.cell 3; have c4 := hb.cell 4
  simp only [List.getElem?_toArray, List.getElem?_cons_zero, List.getElem?_cons_succ] at c3 c4
  have f3 := hb.frozen 3; have f4 := hb.frozen 4
  have hm := (Moved.set_ w p 4 none (.bool true)).trans (Moved.set_ (w.setCell ⟨p, 4, none⟩ (.bool true)) p 3 none (.int .i64 (-1))) (.inl rfl)
  have hk := (hb.set_ 4 (.bool true)).set_ 3 (.int .i64 (-1))
  have hD := h.set_ (D' := { D with off := true, left := -1 }) hm hk rfl
  have HD := Lib.hid hD; have HM := Lib.hid hm
  clear hD hm hk h hb
  go_enter Try.func12, Try.ntmps12
  go_wp2
  go_end0
  exact ⟨rfl, HD.out, HM.out⟩
/-- the power at a step: is it there, and what it leaves of the disk -/
def DiskD.power (D : DiskD) : Int × DiskD :=
  if D.left = 0 then (160, { D with steps := D.steps + 1, off := true, left := -1 })
  else if 0 < D.left then (0, { D with steps := D.steps + 1, left := D.left - 1 })
  else (0, { D with steps := D.steps + 1 })
set_option maxHeartbeats 2000000 in
theorem power_any (w : World) (base p : Nat) (v : Value) (D : DiskD) (h : DiskIs w base p v D) (hs : D.steps < 9223372036854775807) (hs0 : 0 ≤ D.steps) (hl : -1 ≤ D.left) (hl' : D.left ≤ 9223372036854775807) :
    Calls Try.prog 30 #[.pointer (some ⟨p, 0, none⟩)] w fun e w' => e = .returned (.int .i64 D.power.1) ∧ DiskIs w' base p v D.power.2 ∧ Moved w w' p none := by
  have hb := h.blk
  have c2 := hb.cell 2; have c3 := hb.cell 3
  simp only [List.getElem?_toArray, List.getElem?_cons_zero, List.getElem?_cons_succ] at c2 c3
  have f2 := hb.frozen 2; have f3 := hb.frozen 3
  have hm1 := Moved.set_ w p 2 none (.int .i64 (D.steps + 1))
  have hk1 := hb.set_ 2 (.int .i64 (D.steps + 1))
  have h1 := h.set_ (D' := { D with steps := D.steps + 1 }) hm1 hk1 rfl
  have hm2 := hm1.trans (Moved.set_ (w.setCell ⟨p, 2, none⟩ (.int .i64 (D.steps + 1))) p 3 none (.int .i64 (D.left - 1))) (.inl rfl)
  have h2 := h.set_ (D' := { D with steps := D.steps + 1, left := D.left - 1 }) hm2 (hk1.set_ 3 (.int .i64 (D.left - 1))) rfl
  have H1 := Lib.hid h1; have HM := Lib.hid hm1; have H2 := Lib.hid h2; have HM2 := Lib.hid hm2
  clear hk1 h hb h1 hm1 hm2 h2
  by_cases h0 : D.left = 0
  · have hP : D.power = (160, { D with steps := D.steps + 1, off := true, left := -1 }) := by unfold DiskD.power; rw [if_pos h0]
    rw [hP]
    have ht : (D.left == 0) = true := by simp [h0]
    clear h0 hP H2 HM2
    go_enter Try.func30, Try.ntmps30
    go_wp2_with fail
    refine (crash_any _ _ _ _ _ H1.out).mono ?_
    rintro e w2 ⟨rfl, hd, hm⟩
    go_wp2
    go_ret
    exact ⟨rfl, hd, HM.out.trans hm (.inl rfl)⟩
  · have ht : (D.left == 0) = false := by simp [h0]
    by_cases hp : 0 < D.left
    · have hP : D.power = (0, { D with steps := D.steps + 1, left := D.left - 1 }) := by unfold DiskD.power; rw [if_neg h0, if_pos hp]
      rw [hP]
      clear hP h0
      go_enter Try.func30, Try.ntmps30
      go_wp2
      go_ret
      exact ⟨rfl, H2.out, HM2.out⟩
    · have hP : D.power = (0, { D with steps := D.steps + 1 }) := by unfold DiskD.power; rw [if_neg h0, if_neg hp]
      rw [hP]
      clear hP h0
      go_enter Try.func30, Try.ntmps30
      go_wp2
      go_ret
      exact ⟨rfl, H1.out, HM.out⟩
end Go.Proofs.Ytmgnpcoihehelaa
