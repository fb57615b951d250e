/- Memory words for the disk: a disk of files as it lies in memory, and what a call of it leaves. The disk's small functions: New, Crash, power, Off. The disk's look-up: cmp.Compare on strings, slices.BinarySearchFunc over files, find, asked. The disk's gate: what names may not be, asked, find. slices.Clip, Clone of bytes and of files. slices.Grow of nil and slices.Concat, of bytes. The disk's Used, Read, Copy. The disk's Copy. Memory: a run of cells is laid into a block; slices.Delete of files. The disk's steps: drops, safely. The disk's steps: safely. -/
import Derived.Test.YthmcimpdehgaoaaGreatDoorMem
import Derived.Test.YthmcimpdehgaoaaGreatDoorRows
import Derived.WalkKit
import Derived.WalkLawsBesides
import Derived.WalkSpells
import Derived.BigQuiet
import Derived.Deep.QuietTactic
import Derived.Lib.Hide
import Derived.Outline
import Derived.Deep.LoopGhost
import Derived.Lib.Strings
import Derived.Lib.AppendZeros
import Derived.Lib.SliceRun
import Derived.Deep.RegionLaw
import Derived.Deep.Upon
namespace Go.Proofs.YthmcimpdehgaoaaGreatDoor
open Go.RowKit

/-- a file: its name, its bytes, how many of them are safe -/
structure FileD where
  name : ByteArray
  b : ByteArray
  safe : Int
/-- a disk -/
structure DiskD where
  files : List FileD
  quota : Int
  steps : Int
  left : Int
  off : Bool
/-- a []byte that reads as so many bytes, out of a block of bytes -/
def Bt (w : World) (v : Value) (s : ByteArray) : Prop :=
  ∃ A c, v = .slice A s.size c ∧ s.size ≤ c ∧ (0 < s.size → ∃ blk off cs fz, A = some ⟨blk, off, none⟩ ∧ w.heap[blk]? = some (.cells cs 5 fz) ∧ ∀ j, j < s.size → cs[off + j]? = some (.int .u8 ((s.get! j).toNat : Int)))
/-- blocks that no file's bytes may lie in -/
class Forb where
  bad : Nat → Prop
  top : Nat
  fresh : ∀ k, top ≤ k → ¬ bad k
/-- by default all blocks will do -/
instance (priority := low) Forb.none : Forb := ⟨fun _ => False, 0, fun _ _ h => h⟩
/-- a slice of bytes that does not lie in such a block -/
def OkV [Forb] (v : Value) : Prop := ∀ ad n c, v = .slice (some ad) n c → 0 < n → ¬ Forb.bad ad.block
/-- a file's three cells -/
def fcells (x : FileD × Value) : List Value := [.string x.1.name, x.2, .int .i64 x.1.safe]
def rcells (l : List (FileD × Value)) : List Value := l.flatMap fcells
theorem rcells_length (l : List (FileD × Value)) : (rcells l).length = l.length * 3 := by
  induction l with
  | nil => rfl
  | cons c l ih => simp only [rcells, List.flatMap_cons, List.length_append] at ih ⊢; rw [ih]; simp [fcells]; omega
/-- a row of files, with the values of their bytes -/
def RowD [Forb] (w : World) (base : Nat) (v : Value) (rows : List (FileD × Value)) : Prop :=
  w.ownsRow base 90 3 v rows.length (rcells rows) ∧ ∀ x ∈ rows, Bt w x.2 x.1.b ∧ OkV x.2
/-- the disk at a place -/
def DiskIs [Forb] (w : World) (base p : Nat) (v : Value) (D : DiskD) : Prop :=
  base ≤ p ∧ Blk w p 68 #[v, .int .i64 D.quota, .int .i64 D.steps, .int .i64 D.left, .bool D.off] ∧ ∃ rows, rows.map (·.1) = D.files ∧ RowD w base v rows
/-- what a call of a disk leaves: all but its own place and its own row -/
structure Moved (w w' : World) (p : Nat) (g : Option Nat) : Prop where
  os : w'.os = w.os
  tape : w'.tape = w.tape
  output : w'.output = w.output
  size : w.heap.size ≤ w'.heap.size
  block : ∀ k, k < w.heap.size → k ≠ p → some k ≠ g → w'.heap[k]? = w.heap[k]?
end Go.Proofs.YthmcimpdehgaoaaGreatDoor
namespace Go.Proofs.YthmcimpdehgaoaaGreatDoor
open Go.RowKit

theorem OkV.cut [Forb] {A : Option Addr} {m n c c' : Nat} (h : OkV (.slice A m c)) (hn : n ≤ m) : OkV (.slice A n c') := fun ad k d e hk => by
  injection e with e1 e2 _
  subst e1 e2
  exact h ad m c rfl (by omega)
theorem okV_nil [Forb] (n c : Nat) : OkV (.slice none n c) := fun _ _ _ e => by injection e with e; cases e
theorem okV_none (v : Value) : OkV v := fun _ _ _ _ _ h => h
theorem OkV.of_own [Forb] {w : World} {base : Nat} {e : TypeId} {k n : Nat} {v : Value} {xs : List Value} (h : w.ownsRow base e k v n xs) (hb : Forb.top ≤ base) : OkV v := fun ad m c he _ => by
  rcases h.2 with ⟨rfl, _⟩ | ⟨g', cap', cur, rfl, h1, _⟩
  · injection he with he; cases he
  · injection he with he
    injection he with he
    subst he
    exact Forb.fresh _ (by show Forb.top ≤ g'; omega)
theorem Moved.refl (w : World) (p : Nat) (g : Option Nat) : Moved w w p g := ⟨rfl, rfl, rfl, Nat.le_refl _, fun _ _ _ _ => rfl⟩
theorem Moved.trans {a b c : World} {p : Nat} {g g' : Option Nat} (h : Moved a b p g) (k : Moved b c p g') (hg : g' = g ∨ g' = none ∨ ∃ n, g' = some n ∧ a.heap.size ≤ n) : Moved a c p g :=
  ⟨k.os.trans h.os, k.tape.trans h.tape, k.output.trans h.output, Nat.le_trans h.size k.size, fun i hi hp hng =>
    (k.block i (Nat.lt_of_lt_of_le hi h.size) hp (by
      rcases hg with rfl | rfl | ⟨n, rfl, hn⟩
      · exact hng
      · simp
      · intro e; injection e with e; omega)).trans (h.block i hi hp hng)⟩
theorem Moved.below {w w' : World} {p base : Nat} {g : Option Nat} (h : Moved w w' p g) (hp : base ≤ p) (hg : ∀ n, g = some n → base ≤ n) (hs : base ≤ w.heap.size) : Below base w w' :=
  ⟨h.os, h.tape, h.output, h.size, fun i hi => h.block i (by omega) (by omega) (fun e => by have := hg i e.symm; omega)⟩
theorem Moved.of_below {w w' : World} (h : Below w.heap.size w w') (p : Nat) (g : Option Nat) : Moved w w' p g := ⟨h.os, h.tape, h.output, h.size, fun i hi _ _ => h.block i hi⟩
theorem Moved.set_ (w : World) (p k : Nat) (g : Option Nat) (u : Value) : Moved w (w.setCell ⟨p, k, none⟩ u) p g :=
  ⟨rfl, rfl, rfl, by simp, fun i _ hp _ => Below.heap_setCell w _ u i (by exact hp)⟩
/-- bytes stay where their block stays -/
theorem Bt.keep {w w' : World} {v : Value} {s : ByteArray} (h : Bt w v s) (hk : ∀ (blk : Nat) cs fz, w.heap[blk]? = some (Obj.cells cs 5 fz) → w'.heap[blk]? = w.heap[blk]?) : Bt w' v s := by
  obtain ⟨A, c, rfl, hc, hr⟩ := h
  refine ⟨A, c, rfl, hc, fun hs => ?_⟩
  obtain ⟨blk, off, cs, fz, rfl, hh, hx⟩ := hr hs
  exact ⟨blk, off, cs, fz, rfl, (hk blk cs fz hh).trans hh, hx⟩
theorem blk_type {w : World} {i : Nat} {t t' : TypeId} {cs cs' : Array Value} {fz fz' : Nat × Nat} (h : w.heap[i]? = some (Obj.cells cs t fz)) (h' : w.heap[i]? = some (Obj.cells cs' t' fz')) (hne : t ≠ t') : False := by
  rw [h] at h'
  injection h' with h'
  injection h' with _ e _
  exact hne e
theorem Bt.moved {w w' : World} {p : Nat} {g : Option Nat} {v : Value} {s : ByteArray} (h : Bt w v s) (m : Moved w w' p g)
    (hp : ∀ cs fz, w.heap[p]? ≠ some (Obj.cells cs 5 fz)) (hg : ∀ n, g = some n → ∀ cs fz, w.heap[n]? ≠ some (Obj.cells cs 5 fz)) : Bt w' v s := by
  refine h.keep fun blk cs fz hh => m.block blk (Array.getElem?_eq_some_iff.1 hh).1 (fun e => ?_) (fun e => ?_)
  · subst e; exact hp _ _ hh
  · exact hg blk e.symm _ _ hh
theorem Bt.below {w w' : World} {v : Value} {s : ByteArray} (h : Bt w v s) (hb : Below w.heap.size w w') : Bt w' v s :=
  h.keep fun blk _ _ hh => hb.block blk (Array.getElem?_eq_some_iff.1 hh).1
theorem Bt.at_ {w : World} {v : Value} {s : ByteArray} {B : Nat} (h : Bt w v s) {w' : World} (hb : Below B w w') (hB : w.heap.size ≤ B) : Bt w' v s :=
  h.keep fun blk _ _ hh => hb.block blk (by have := (Array.getElem?_eq_some_iff.1 hh).1; omega)
/-- the row's block is no block of bytes -/
theorem own_type {w : World} {base : Nat} {e : TypeId} {size n : Nat} {v : Value} {xs : List Value} (h : w.ownsRow base e size v n xs) {t : TypeId} (hne : e ≠ t) : ∀ g, v.ownBlock = some g → ∀ cs fz, w.heap[g]? ≠ some (Obj.cells cs t fz) := by
  intro g hg cs fz hh
  rcases h.2 with ⟨rfl, _⟩ | ⟨g', cap, cur, rfl, _, hg', _⟩
  · cases hg
  · simp only [Value.ownBlock, Option.some.injEq] at hg
    subst hg
    exact blk_type hg' hh hne
theorem DiskIs.row [Forb] {w : World} {base p : Nat} {v : Value} {D : DiskD} (h : DiskIs w base p v D) : ∃ rows, rows.map (·.1) = D.files ∧ RowD w base v rows := h.2.2
theorem DiskIs.blk [Forb] {w : World} {base p : Nat} {v : Value} {D : DiskD} (h : DiskIs w base p v D) : Blk w p 68 #[v, .int .i64 D.quota, .int .i64 D.steps, .int .i64 D.left, .bool D.off] := h.2.1
theorem DiskIs.noU [Forb] {w : World} {base p : Nat} {v : Value} {D : DiskD} (h : DiskIs w base p v D) : ∀ cs fz, w.heap[p]? ≠ some (Obj.cells cs 5 fz) := fun _ _ hh => blk_type h.blk hh (by decide)
theorem DiskIs.own [Forb] {w : World} {base p : Nat} {v : Value} {D : DiskD} (h : DiskIs w base p v D) : ∀ g, v.ownBlock = some g → base ≤ g ∧ g < w.heap.size ∧ g ≠ p := by
  obtain ⟨hp, hb, rows, hr, ho, _⟩ := h
  intro g hg
  rcases ho.2 with ⟨rfl, _⟩ | ⟨g', cap, cur, rfl, hg1, hh, _⟩
  · cases hg
  · simp only [Value.ownBlock, Option.some.injEq] at hg
    subst hg
    exact ⟨hg1, (Array.getElem?_eq_some_iff.1 hh).1, fun e => by subst e; exact blk_type hh hb (by decide)⟩
/-- a row of files stays where its block stays, and its bytes' -/
theorem RowD.keep [Forb] {w w' : World} {base : Nat} {v : Value} {rows : List (FileD × Value)} (h : RowD w base v rows) (hg : ∀ g : Nat, v.ownBlock = some g → w'.heap[g]? = w.heap[g]?)
    (hk : ∀ (blk : Nat) cs fz, w.heap[blk]? = some (Obj.cells cs 5 fz) → w'.heap[blk]? = w.heap[blk]?) : RowD w' base v rows := by
  refine ⟨⟨h.1.1, ?_⟩, fun x hx => ⟨(h.2 x hx).1.keep hk, (h.2 x hx).2⟩⟩
  rcases h.1.2 with hn | ⟨g, cap, cur, hv, hb, hh, rest⟩
  · exact .inl hn
  · exact .inr ⟨g, cap, cur, hv, hb, (hg g (by rw [hv]; rfl)).trans hh, rest⟩
/-- ANOTHER DISK STAYS -/
theorem DiskIs.keep [Forb] {w w' : World} {base p p' : Nat} {v : Value} {g : Option Nat} {D : DiskD} (h : DiskIs w base p v D) (m : Moved w w' p' g) (hp : p ≠ p') (hpg : some p ≠ g) (hvg : ∀ k, v.ownBlock = some k → k ≠ p' ∧ some k ≠ g)
    (hu : ∀ cs fz, w.heap[p']? ≠ some (Obj.cells cs 5 fz)) (hg : ∀ n, g = some n → ∀ cs fz, w.heap[n]? ≠ some (Obj.cells cs 5 fz)) : DiskIs w' base p v D := by
  obtain ⟨hb0, hb, rows, hr, hR⟩ := h
  refine ⟨hb0, (m.block p hb.lt hp hpg).trans hb, rows, hr, hR.keep (fun k hk => ?_) (fun blk cs fz hh => ?_)⟩
  · have := (DiskIs.own ⟨hb0, hb, rows, hr, hR⟩ k hk).2.1
    exact m.block k this (hvg k hk).1 (hvg k hk).2
  · refine m.block blk (Array.getElem?_eq_some_iff.1 hh).1 (fun e => ?_) (fun e => ?_)
    · subst e; exact hu _ _ hh
    · exact hg blk e.symm _ _ hh
theorem DiskIs.below [Forb] {w w' : World} {base p : Nat} {v : Value} {D : DiskD} {B : Nat} (h : DiskIs w base p v D) (hb : Below B w w') (hB : w.heap.size ≤ B) : DiskIs w' base p v D := by
  obtain ⟨hb0, hk, rows, hr, hR⟩ := h
  refine ⟨hb0, hk.below hb (by have := hk.lt; omega), rows, hr, hR.keep (fun g hg => ?_) (fun blk cs fz hh => ?_)⟩
  · have := (DiskIs.own ⟨hb0, hk, rows, hr, hR⟩ g hg).2.1
    exact hb.block g (by omega)
  · exact hb.block blk (by have := (Array.getElem?_eq_some_iff.1 hh).1; omega)
/-- the disk's own cells are written -/
theorem DiskIs.set_ [Forb] {w w' : World} {base p : Nat} {v : Value} {D D' : DiskD} (h : DiskIs w base p v D) (m : Moved w w' p none) (hb' : Blk w' p 68 #[v, .int .i64 D'.quota, .int .i64 D'.steps, .int .i64 D'.left, .bool D'.off]) (hf : D'.files = D.files) : DiskIs w' base p v D' := by
  obtain ⟨hb0, hk, rows, hr, hR⟩ := h
  have ho := DiskIs.own ⟨hb0, hk, rows, hr, hR⟩
  refine ⟨hb0, hb', rows, hr.trans hf.symm, hR.keep (fun g hg => ?_) (fun blk cs fz hh => ?_)⟩
  · exact m.block g (ho g hg).2.1 (ho g hg).2.2 (by simp)
  · exact m.block blk (Array.getElem?_eq_some_iff.1 hh).1 (fun e => by subst e; exact blk_type hk hh (by decide)) (by simp)

theorem new_is [Forb] (w : World) (m : Int) : DiskIs (w.alloc (.cells #[.slice none 0 0, .int .i64 m, .int .i64 0, .int .i64 (-1), .bool false] 68)) w.heap.size w.heap.size (.slice none 0 0) ⟨[], m, 0, -1, false⟩ :=
  ⟨Nat.le_refl _, Blk.new w 68 #[.slice none 0 0, .int .i64 m, .int .i64 0, .int .i64 (-1), .bool false], [], rfl, World.ownsRow_nil _ _ _ _, by simp⟩
set_option maxHeartbeats 1000000 in
theorem new_any [Forb] (q : Int) (w : World) : Calls Tryz.prog 10 #[.int .i64 q] w fun e w' => e = .returned (.pointer (some ⟨w.heap.size, 0, none⟩)) ∧
    DiskIs w' w.heap.size w.heap.size (.slice none 0 0) ⟨[], max 0 q, 0, -1, false⟩ ∧ Below w.heap.size w w' := by
  go_enter Tryz.func10, Tryz.ntmps10
  go_wp2
  · go_ret
    rw [show max 0 q = q by omega]
    exact ⟨rfl, new_is w q, (Below.refl _ _).alloc (Nat.le_refl _) _⟩
  · go_ret
    rw [show max 0 q = 0 by omega]
    exact ⟨rfl, new_is w 0, (Below.refl _ _).alloc (Nat.le_refl _) _⟩
set_option maxHeartbeats 1000000 in
theorem crash_any [Forb] (w : World) (base p : Nat) (v : Value) (D : DiskD) (h : DiskIs w base p v D) :
    Calls Tryz.prog 20 #[.pointer (some ⟨p, 0, none⟩)] w fun e w' => e = .returned (.tuple #[]) ∧ DiskIs w' base p v { D with off := true, left := -1 } ∧ Moved w w' p none := by
  have hb := h.blk
  have c3 := hb.cell 3; have c4 := hb.cell 4
  simp only [List.getElem?_toArray, List.getElem?_cons_zero, List.getElem?_cons_succ] at c3 c4
  have f3 := hb.frozen 3; have f4 := hb.frozen 4
  have hm := (Moved.set_ w p 4 none (.bool true)).trans (Moved.set_ (w.setCell ⟨p, 4, none⟩ (.bool true)) p 3 none (.int .i64 (-1))) (.inl rfl)
  have hk := (hb.set_ 4 (.bool true)).set_ 3 (.int .i64 (-1))
  have hD := h.set_ (D' := { D with off := true, left := -1 }) hm hk rfl
  have HD := Lib.hid hD; have HM := Lib.hid hm
  clear hD hm hk h hb
  go_enter Tryz.func20, Tryz.ntmps20
  go_wp2
  go_end0
  exact ⟨rfl, HD.out, HM.out⟩
/-- the power at a step: is it there, and what it leaves of the disk -/
def DiskD.power (D : DiskD) : Int × DiskD :=
  if D.left = 0 then (160, { D with steps := D.steps + 1, off := true, left := -1 })
  else if 0 < D.left then (0, { D with steps := D.steps + 1, left := D.left - 1 })
  else (0, { D with steps := D.steps + 1 })
set_option maxHeartbeats 2000000 in
theorem power_any [Forb] (w : World) (base p : Nat) (v : Value) (D : DiskD) (h : DiskIs w base p v D) (hs : D.steps < 9223372036854775807) (hs0 : 0 ≤ D.steps) (hl : -1 ≤ D.left) (hl' : D.left ≤ 9223372036854775807) :
    Calls Tryz.prog 67 #[.pointer (some ⟨p, 0, none⟩)] w fun e w' => e = .returned (.int .i64 D.power.1) ∧ DiskIs w' base p v D.power.2 ∧ Moved w w' p none := by
  have hb := h.blk
  have c2 := hb.cell 2; have c3 := hb.cell 3
  simp only [List.getElem?_toArray, List.getElem?_cons_zero, List.getElem?_cons_succ] at c2 c3
  have f2 := hb.frozen 2; have f3 := hb.frozen 3
  have hm1 := Moved.set_ w p 2 none (.int .i64 (D.steps + 1))
  have hk1 := hb.set_ 2 (.int .i64 (D.steps + 1))
  have h1 := h.set_ (D' := { D with steps := D.steps + 1 }) hm1 hk1 rfl
  have hm2 := hm1.trans (Moved.set_ (w.setCell ⟨p, 2, none⟩ (.int .i64 (D.steps + 1))) p 3 none (.int .i64 (D.left - 1))) (.inl rfl)
  have h2 := h.set_ (D' := { D with steps := D.steps + 1, left := D.left - 1 }) hm2 (hk1.set_ 3 (.int .i64 (D.left - 1))) rfl
  have H1 := Lib.hid h1; have HM := Lib.hid hm1; have H2 := Lib.hid h2; have HM2 := Lib.hid hm2
  clear hk1 h hb h1 hm1 hm2 h2
  by_cases h0 : D.left = 0
  · have hP : D.power = (160, { D with steps := D.steps + 1, off := true, left := -1 }) := by unfold DiskD.power; rw [if_pos h0]
    rw [hP]
    have ht : (D.left == 0) = true := by simp [h0]
    clear h0 hP H2 HM2
    go_enter Tryz.func67, Tryz.ntmps67
    go_wp2_with fail
    refine (crash_any _ _ _ _ _ H1.out).mono ?_
    rintro e w2 ⟨rfl, hd, hm⟩
    go_wp2
    go_ret
    exact ⟨rfl, hd, HM.out.trans hm (.inl rfl)⟩
  · have ht : (D.left == 0) = false := by simp [h0]
    by_cases hp : 0 < D.left
    · have hP : D.power = (0, { D with steps := D.steps + 1, left := D.left - 1 }) := by unfold DiskD.power; rw [if_neg h0, if_pos hp]
      rw [hP]
      clear hP h0
      go_enter Tryz.func67, Tryz.ntmps67
      go_wp2
      go_ret
      exact ⟨rfl, H2.out, HM2.out⟩
    · have hP : D.power = (0, { D with steps := D.steps + 1 }) := by unfold DiskD.power; rw [if_neg h0, if_neg hp]
      rw [hP]
      clear hP h0
      go_enter Tryz.func67, Tryz.ntmps67
      go_wp2
      go_ret
      exact ⟨rfl, H1.out, HM.out⟩
end Go.Proofs.YthmcimpdehgaoaaGreatDoor
namespace Go.Proofs.YthmcimpdehgaoaaGreatDoor
open Go.RowKit

theorem isNaN_any (s : ByteArray) (w : World) : Calls Tryz.prog 132 #[.string s] w fun e w' => e = .returned (.bool false) ∧ w' = w := by
  have h : (!s.toList == s.toList) = false := by simp
  go_enter Tryz.func132, Tryz.ntmps132
  go_wp2
  go_ret
  exact ⟨rfl, rfl⟩
theorem gtr_str (t : TypeId) (a b : ByteArray) : binOp .gtr t (.string a) (.string b) = pure (.bool !(Op.bytesLess a.toList b.toList || a.toList == b.toList)) := by simp [binOp, Op.stringOp]
/-- how two names stand -/
def lessN (s t : ByteArray) : Bool := Op.bytesLess s.toList t.toList
def cmpN (s t : ByteArray) : Int := if lessN s t = true then -1 else if (s.toList == t.toList) = true then 0 else 1
set_option maxHeartbeats 1000000 in
theorem compare_any (s t : ByteArray) (w : World) : Calls Tryz.prog 104 #[.string s, .string t] w fun e w' => e = .returned (.int .i64 (cmpN s t)) ∧ w' = w := by
  have hg := gtr_str 9 s t
  unfold cmpN lessN
  cases h1 : Op.bytesLess s.toList t.toList with
  | true =>
    go_enter Tryz.func104, Tryz.ntmps104
    go_wp2_with (first | (go_at_call 132; refine (isNaN_any _ _).mono ?_; rintro e w' ⟨rfl, rfl⟩))
    go_ret
    exact ⟨by simp, rfl⟩
  | false =>
    rw [h1, Bool.false_or] at hg
    cases h2 : (s.toList == t.toList) with
    | true =>
      rw [h2] at hg
      go_enter Tryz.func104, Tryz.ntmps104
      go_wp2_with (first | (go_at_call 132; refine (isNaN_any _ _).mono ?_; rintro e w' ⟨rfl, rfl⟩))
      go_ret
      exact ⟨by simp, rfl⟩
    | false =>
      rw [h2] at hg
      go_enter Tryz.func104, Tryz.ntmps104
      go_wp2_with (first | (go_at_call 132; refine (isNaN_any _ _).mono ?_; rintro e w' ⟨rfl, rfl⟩))
      go_ret
      exact ⟨by simp, rfl⟩
set_option maxHeartbeats 1000000 in
theorem clo_any (nm t : ByteArray) (A : Option Addr) (n c : Nat) (sf : Int) (w : World) : Calls Tryz.prog 103 #[.agg #[.string nm, .slice A n c, .int .i64 sf], .string t] w fun e w' => e = .returned (.int .i64 (cmpN nm t)) ∧ Below w.heap.size w w' := by
  have hb := Blk.new w 90 #[.string nm, .slice A n c, .int .i64 sf]
  have c0 := hb.cell 0
  simp only [List.getElem?_toArray, List.getElem?_cons_zero] at c0
  have HB := Lib.hid ((Below.refl w.heap.size w).alloc (Nat.le_refl _) (.cells #[.string nm, .slice A n c, .int .i64 sf] 90))
  clear hb
  go_enter Tryz.func103, Tryz.ntmps103
  go_wp2_with fail
  refine (compare_any _ _ _).mono ?_
  rintro e w' ⟨rfl, rfl⟩
  go_wp2
  go_ret
  exact ⟨rfl, HB.out⟩
/-- the search's road over names -/
def bsGo (l : List ByteArray) (t : ByteArray) : Nat → Nat → Nat → Nat
  | 0, i, _ => i
  | f + 1, i, j => if i < j then (if cmpN (l.getD ((i + j) / 2) ByteArray.empty) t < 0 then bsGo l t f ((i + j) / 2 + 1) j else bsGo l t f i ((i + j) / 2)) else i
def findN (l : List ByteArray) (t : ByteArray) : Nat × Bool :=
  (bsGo l t l.length 0 l.length, decide (bsGo l t l.length 0 l.length < l.length) && cmpN (l.getD (bsGo l t l.length 0 l.length) ByteArray.empty) t == 0)
theorem rcells_at (l : List (FileD × Value)) (i : Nat) (x : FileD × Value) (h : l[i]? = some x) :
    (rcells l)[i * 3]? = some (.string x.1.name) ∧ (rcells l)[i * 3 + 1]? = some x.2 ∧ (rcells l)[i * 3 + 2]? = some (.int .i64 x.1.safe) := by
  have hlt := (List.getElem?_eq_some_iff.1 h).1
  have h1 : l = l.take (i + 1) ++ l.drop (i + 1) := (List.take_append_drop _ _).symm
  have h2 : l.take (i + 1) = l.take i ++ [x] := by rw [List.take_add_one, h]; rfl
  have hl : (rcells (l.take i)).length = i * 3 := by rw [rcells_length, List.length_take]; omega
  have h3 : rcells l = rcells (l.take i) ++ (.string x.1.name :: x.2 :: .int .i64 x.1.safe :: rcells (l.drop (i + 1))) := by
    conv => lhs; rw [h1, h2]
    simp [rcells, fcells]
  rw [h3]
  refine ⟨?_, ?_, ?_⟩ <;> rw [List.getElem?_append_right (by omega), hl]
  · simp
  · rw [show i * 3 + 1 - i * 3 = 1 by omega]; rfl
  · rw [show i * 3 + 2 - i * 3 = 2 by omega]; rfl
/-- a file's cells as they lie -/
theorem RowD.at_ [Forb] {w w' : World} {base : Nat} {v : Value} {rows : List (FileD × Value)} (h : RowD w base v rows) {i : Nat} (hi : i < rows.length) (hb : Below w.heap.size w w') :
    ∃ g cap x A c, v = .slice (some ⟨g, 0, none⟩) rows.length cap ∧ rows[i]? = some x ∧ x.2 = .slice A x.1.b.size c ∧ g < w.heap.size ∧ w'.cell? ⟨g, i * 3, none⟩ = some (.string x.1.name) ∧ w'.cell? ⟨g, i * 3 + 1, none⟩ = some (.slice A x.1.b.size c) ∧ w'.cell? ⟨g, i * 3 + 2, none⟩ = some (.int .i64 x.1.safe) := by
  obtain ⟨g, cap, hv, hg1, hg2⟩ := h.1.form (by omega)
  have hx : rows[i]? = some rows[i] := List.getElem?_eq_getElem hi
  obtain ⟨A, c, he, _⟩ := (h.2 _ (List.mem_of_getElem? hx)).1
  have hcs := rcells_at rows i _ hx
  subst hv
  have hl := rcells_length rows
  refine ⟨g, cap, rows[i], A, c, rfl, hx, he, hg2, ?_, ?_, ?_⟩
  · exact (hb.cell (p := ⟨g, i * 3, none⟩) hg2).trans ((h.1.cellAt (i * 3) (by omega)).trans hcs.1)
  · exact (hb.cell (p := ⟨g, i * 3 + 1, none⟩) hg2).trans ((h.1.cellAt (i * 3 + 1) (by omega)).trans (by rw [hcs.2.1, he]))
  · exact (hb.cell (p := ⟨g, i * 3 + 2, none⟩) hg2).trans ((h.1.cellAt (i * 3 + 2) (by omega)).trans hcs.2.2)
set_option maxHeartbeats 4000000 in
theorem search_any [Forb] (w : World) (base : Nat) (v : Value) (rows : List (FileD × Value)) (t : ByteArray) (h : RowD w base v rows) (hlen : rows.length ≤ 4294967296) :
    Calls Tryz.prog 102 #[v, .string t, .func (.func 103) #[] #[]] w fun e w' =>
      e = .returned (.tuple #[.int .i64 (findN (rows.map (·.1.name)) t).1, .bool (findN (rows.map (·.1.name)) t).2]) ∧ Below w.heap.size w w' := by
  obtain ⟨A, c, rfl⟩ := own_shape h.1
  have H := Lib.hid h
  clear h
  go_enter Tryz.func102, Tryz.ntmps102
  go_wp2
  go_loopg [9, 10] rows.length (fun gf vi vj wr => ∃ i j : Nat, vi = .int .i64 i ∧ vj = .int .i64 j ∧ i ≤ j ∧ j ≤ rows.length ∧ j ≤ i + gf ∧ bsGo (rows.map (·.1.name)) t gf i j = bsGo (rows.map (·.1.name)) t rows.length 0 rows.length ∧ Below w.heap.size w wr)
  case atStart => exact ⟨0, rows.length, rfl, rfl, Nat.zero_le _, Nat.le_refl _, by omega, rfl, Below.refl _ _⟩
  case round =>
    obtain ⟨i, j, rfl, rfl, hij, hj, hgf, hbs, hB⟩ := hrel
    by_cases hlt : i < j
    · obtain ⟨gf, rfl⟩ : ∃ gf, gk = gf + 1 := ⟨gk - 1, by omega⟩
      rw [bsGo, if_pos hlt] at hbs
      have hltI : (i : Int) < (j : Int) := by omega
      obtain ⟨m, hm⟩ : ∃ m, (i + j) / 2 = m := ⟨_, rfl⟩
      rw [hm] at hbs
      have hm1 : i ≤ m := by omega
      have hm2 : m < j := by omega
      obtain ⟨g, cap, x, A', c', hv, hx, hx2, hg, c0, c1, c2⟩ := H.out.at_ (i := m) (by omega) hB
      simp only [Value.slice.injEq] at hv
      obtain ⟨rfl, -, rfl⟩ := hv
      have hname : (rows.map (·.1.name)).getD m ByteArray.empty = x.1.name := by rw [List.getD_eq_getElem?_getD, List.getElem?_map, hx]; rfl
      rw [hname] at hbs
      have hmn : m < rows.length := by omega
      have hsh : ((i : Int) + (j : Int)) / 2 = (m : Int) := by omega
      have HBS := Lib.hid hbs; have HBB := Lib.hid hB
      clear hbs hB hx hx2 hname
      go_wp2_with fail
      refine (clo_any _ _ _ _ _ _ _).mono ?_
      rintro e x1 ⟨rfl, hb1⟩
      have HB1 := Lib.hid (HBB.out.trans (hb1.mono HBB.out.size))
      clear hb1
      by_cases hc : cmpN x.1.name t < 0
      · have HBT := HBS.out
        rw [if_pos hc] at HBT
        have HBT := Lib.hid HBT
        clear HBS
        go_wp2_with fail
        go_roundg gf
        case measure => omega
        case rel => exact ⟨m + 1, j, by go_num, rfl, by omega, hj, by omega, HBT.out, HB1.out⟩
      · have HBT := HBS.out
        rw [if_neg hc] at HBT
        have HBT := Lib.hid HBT
        clear HBS
        go_wp2_with fail
        go_roundg gf
        case measure => omega
        case rel => exact ⟨i, m, rfl, rfl, by omega, by omega, by omega, HBT.out, HB1.out⟩
    · obtain rfl : i = j := by omega
      have hbe : bsGo (rows.map (·.1.name)) t gk i i = i := by cases gk <;> simp [bsGo]
      rw [hbe] at hbs
      have hf1 : (findN (rows.map (·.1.name)) t).1 = i := by unfold findN; rw [List.length_map, ← hbs]
      have hf2 : (findN (rows.map (·.1.name)) t).2 = (decide (i < rows.length) && cmpN ((rows.map (·.1.name)).getD i ByteArray.empty) t == 0) := by unfold findN; rw [List.length_map, ← hbs]
      have HF1 := Lib.hid hf1; have HF2 := Lib.hid hf2
      have HBB := Lib.hid hB
      clear hf1 hf2 hbs hbe hB
      by_cases hn : i < rows.length
      · obtain ⟨g, cap, x, A', c', hv, hx, hx2, hg, c0, c1, c2⟩ := H.out.at_ (i := i) hn HBB.out
        simp only [Value.slice.injEq] at hv
        obtain ⟨rfl, -, rfl⟩ := hv
        have hname : (rows.map (·.1.name)).getD i ByteArray.empty = x.1.name := by rw [List.getD_eq_getElem?_getD, List.getElem?_map, hx]; rfl
        have HF3 := HF2.out
        rw [hname] at HF3
        have HF3 := Lib.hid HF3
        have hnI : (i : Int) < (rows.length : Int) := by omega
        clear hname hx hx2 HF2
        go_wp2_with fail
        refine (clo_any _ _ _ _ _ _ _).mono ?_
        rintro e x1 ⟨rfl, hb1⟩
        have HB1 := Lib.hid (HBB.out.trans (hb1.mono HBB.out.size))
        clear hb1
        go_wp2_with fail
        go_ret2
        exact ⟨by rw [HF1.out, HF3.out]; simp [hn], HB1.out⟩
      · have hnI : ¬ (i : Int) < (rows.length : Int) := by omega
        go_wp2_with fail
        go_ret2
        exact ⟨by rw [HF1.out, HF2.out]; simp [hn], HBB.out⟩
end Go.Proofs.YthmcimpdehgaoaaGreatDoor
namespace Go.Proofs.YthmcimpdehgaoaaGreatDoor
open Go.RowKit

/-- a name that may not be -/
def badN (s : ByteArray) : Bool := s.size == 0 || decide (128 < s.size)
set_option maxHeartbeats 1000000 in
theorem bad_any (s : ByteArray) (w : World) : Calls Tryz.prog 101 #[.string s] w fun e w' => e = .returned (.bool (badN s)) ∧ w' = w := by
  unfold badN
  by_cases h0 : s.size = 0
  · have he : s.toList.isEmpty = true := by
      rw [ByteArray.toList_eq, List.isEmpty_iff]
      exact List.eq_nil_of_length_eq_zero (by rw [← Lib.size_eq]; exact h0)
    go_enter Tryz.func101, Tryz.ntmps101
    go_wp2
    go_ret
    exact ⟨by simp [h0], rfl⟩
  · have he : s.toList.isEmpty = false := by
      rw [Bool.eq_false_iff]
      intro h
      rw [ByteArray.toList_eq, List.isEmpty_iff] at h
      exact h0 (by rw [Lib.size_eq, h]; rfl)
    by_cases h1 : 128 < s.size
    · have h1I : (128 : Int) < (s.size : Int) := by omega
      go_enter Tryz.func101, Tryz.ntmps101
      go_wp2
      go_ret
      exact ⟨by simp [h1], rfl⟩
    · have h1I : ¬ (128 : Int) < (s.size : Int) := by omega
      go_enter Tryz.func101, Tryz.ntmps101
      go_wp2
      go_ret
      exact ⟨by simp [h0], rfl⟩
set_option maxHeartbeats 2000000 in
theorem index_any (w : World) (A : Option Addr) (c : Nat) (names : List ByteArray) (h : Rd w 1 A names.length (names.map Value.string)) (hn : names.length ≤ 1000) :
    Calls Tryz.prog 131 #[.slice A names.length c, .func (.func 101) #[] #[]] w fun e w' => ∃ r : Int, e = .returned (.int .i64 r) ∧ decide (0 ≤ r) = names.any badN ∧ -1 ≤ r ∧ r ≤ 1000 ∧ w' = w := by
  go_enter Tryz.func131, Tryz.ntmps131
  go_wp2
  go_loopg [8] names.length (fun gf v wr => ∃ k : Nat, v = .int .i64 k ∧ k + gf = names.length ∧ (names.take k).any badN = false ∧ wr = w)
  case atStart => exact ⟨0, rfl, by omega, by simp, rfl⟩
  case round =>
    obtain ⟨k, rfl, hk, hno, rfl⟩ := hrel
    have HN := Lib.hid hno
    clear hno
    cases gk with
    | zero =>
      obtain rfl : k = names.length := by omega
      go_wp2
      go_ret
      exact ⟨-1, rfl, by have := HN.out; rw [List.take_length] at this; rw [this]; rfl, by omega, by omega, rfl⟩
    | succ gf =>
      obtain ⟨ad, u, rfl, hx, hc⟩ := h.at_ (k := k) (by omega)
      rw [List.getElem?_map, Option.map_eq_some_iff] at hx
      obtain ⟨x, hx, rfl⟩ := hx
      have HX := Lib.hid hx
      have hkI : (k : Int) < (names.length : Int) := by omega
      clear hx
      go_wp2_with fail
      refine (bad_any x _).mono ?_
      rintro e w1 ⟨rfl, rfl⟩
      cases hb : badN x with
      | true =>
        have HB := Lib.hid hb
        go_wp2
        go_ret
        refine ⟨k, rfl, ?_, by omega, by omega, rfl⟩
        have h1 : names.any badN = true := List.any_eq_true.2 ⟨x, List.mem_of_getElem? HX.out, HB.out⟩
        rw [h1]; simp
      | false =>
        have HB := Lib.hid hb
        go_wp2
        go_roundg gf
        case measure => omega
        case rel => exact ⟨k + 1, by go_num, by omega, by rw [List.take_add_one, HX.out, List.any_append, HN.out]; simp [HB.out], rfl⟩
theorem contains_any (w : World) (A : Option Addr) (c : Nat) (names : List ByteArray) (h : Rd w 1 A names.length (names.map Value.string)) (hn : names.length ≤ 1000) :
    Calls Tryz.prog 100 #[.slice A names.length c, .func (.func 101) #[] #[]] w fun e w' => e = .returned (.bool (names.any badN)) ∧ w' = w := by
  have HI := Lib.hid (index_any w A c names h hn)
  go_enter Tryz.func100, Tryz.ntmps100
  go_wp2_with fail
  refine HI.out.mono ?_
  rintro e w1 ⟨r, rfl, hr, h1, h2, rfl⟩
  go_wp2
  go_ret
  exact ⟨by rw [← hr]; rfl, rfl⟩
/-- what refuses a call -/
def DiskD.asked (D : DiskD) (names : List ByteArray) : Int := if D.off = true then 160 else if names.any badN = true then 2 else 0
set_option maxHeartbeats 1000000 in
theorem asked_any [Forb] (w : World) (base p : Nat) (v : Value) (D : DiskD) (h : DiskIs w base p v D) (A : Option Addr) (c : Nat) (names : List ByteArray) (hr : Rd w 1 A names.length (names.map Value.string)) (hn : names.length ≤ 1000) :
    Calls Tryz.prog 62 #[.pointer (some ⟨p, 0, none⟩), .slice A names.length c] w fun e w' => e = .returned (.int .i64 (D.asked names)) ∧ w' = w := by
  have c4 := h.blk.cell 4
  simp only [List.getElem?_toArray, List.getElem?_cons_zero, List.getElem?_cons_succ] at c4
  have HC := Lib.hid (contains_any w A c names hr hn)
  unfold DiskD.asked
  cases ho : D.off with
  | true =>
    rw [ho] at c4
    go_enter Tryz.func62, Tryz.ntmps62
    go_wp2
    go_ret
    exact ⟨by simp, rfl⟩
  | false =>
    rw [ho] at c4
    cases hb : names.any badN with
    | true =>
      rw [hb] at HC
      go_enter Tryz.func62, Tryz.ntmps62
      go_wp2_with fail
      refine HC.out.mono ?_
      rintro e w1 ⟨rfl, rfl⟩
      go_wp2
      go_ret
      exact ⟨by simp, rfl⟩
    | false =>
      rw [hb] at HC
      go_enter Tryz.func62, Tryz.ntmps62
      go_wp2_with fail
      refine HC.out.mono ?_
      rintro e w1 ⟨rfl, rfl⟩
      go_wp2
      go_ret
      exact ⟨by simp, rfl⟩
set_option maxHeartbeats 1000000 in
theorem find_any [Forb] (w : World) (base p : Nat) (v : Value) (D : DiskD) (h : DiskIs w base p v D) (t : ByteArray) (hn : D.files.length ≤ 4294967296) :
    Calls Tryz.prog 63 #[.pointer (some ⟨p, 0, none⟩), .string t] w fun e w' =>
      e = .returned (.tuple #[.int .i64 (findN (D.files.map (·.name)) t).1, .bool (findN (D.files.map (·.name)) t).2]) ∧ Below w.heap.size w w' := by
  have c0 := h.blk.cell 0
  simp only [List.getElem?_toArray, List.getElem?_cons_zero] at c0
  obtain ⟨rows, hr, hR⟩ := h.row
  have hS := search_any w base v rows t hR (by have := congrArg List.length hr; simp at this; omega)
  have hm : rows.map (·.1.name) = D.files.map (·.name) := by rw [← hr, List.map_map]; rfl
  rw [hm] at hS
  obtain ⟨A, c, rfl⟩ := own_shape hR.1
  have HS := Lib.hid hS
  clear hS hm hR hr h
  go_enter Tryz.func63, Tryz.ntmps63
  go_wp2_with fail
  refine HS.out.mono ?_
  rintro e w1 ⟨rfl, hb⟩
  go_wp2
  go_ret2
  exact ⟨rfl, hb⟩
end Go.Proofs.YthmcimpdehgaoaaGreatDoor
namespace Go.Proofs.YthmcimpdehgaoaaGreatDoor
open Go.RowKit

set_option maxHeartbeats 1000000 in
theorem clip_any (A : Option Addr) (n c : Nat) (w : World) (h : n ≤ c) : Calls Tryz.prog 56 #[.slice A n c] w fun e w' => e = .returned (.slice A n n) ∧ w' = w := by
  have hI : (n : Int) ≤ (c : Int) := by omega
  go_enter Tryz.func56, Tryz.ntmps56
  go_wp2
  go_ret
  exact ⟨rfl, rfl⟩
theorem infoU : (Tryz.prog.info? 5).map (fun i => (i.zero, i.size, i.bytes)) = some (some (.int .u8 0), 1, 1) := by kernel_rfl
theorem infoF : (Tryz.prog.info? 90).map (fun i => (i.zero, i.size, i.bytes)) = some (some (.agg #[.string ⟨#[]⟩, .slice none 0 0, .int .i64 0]), 3, 48) := by kernel_rfl
theorem parts {P : Program} {t : TypeId} {z : Value} {n b : Nat} (h : (P.info? t).map (fun i => (i.zero, i.size, i.bytes)) = some (some z, n, b)) : ∃ i, P.info? t = some i ∧ i.zero = some z ∧ i.size = n ∧ i.bytes = b := by
  cases hi : P.info? t with
  | none => rw [hi] at h; cases h
  | some i =>
    rw [hi] at h
    simp at h
    exact ⟨i, rfl, h.1, h.2.1, h.2.2⟩
/-- bytes as cells -/
def ucells (s : ByteArray) : List Value := s.data.toList.map fun b => .int .u8 (b.toNat : Int)
theorem ucells_length (s : ByteArray) : (ucells s).length = s.size := by simp [ucells]
theorem ucells_at (s : ByteArray) (j : Nat) (h : j < s.size) : (ucells s)[j]? = some (.int .u8 ((s.get! j).toNat : Int)) := by
  have h' : j < s.data.toList.length := by simpa using h
  unfold ucells
  rw [List.getElem?_map, List.getElem?_eq_getElem h']
  have : s.get! j = s.data.toList[j] := by
    cases s; rename_i d
    have hd : j < d.size := h
    simp [ByteArray.get!, getElem!_pos d j hd]
  rw [this]; rfl
theorem Bt.rd {w : World} {v : Value} {s : ByteArray} (h : Bt w v s) : ∃ A c, v = .slice A s.size c ∧ s.size ≤ c ∧ Reads w w.heap.size 1 A s.size (ucells s) := by
  obtain ⟨A, c, rfl, hc, hr⟩ := h
  refine ⟨A, c, rfl, hc, by rw [ucells_length, Nat.mul_one], fun hn => ?_⟩
  obtain ⟨blk, off, cs, fz, rfl, hh, hx⟩ := hr hn
  refine ⟨_, rfl, (Array.getElem?_eq_some_iff.1 hh).1, fun j u hu => ?_⟩
  have hj : j < s.size := by rw [← ucells_length]; exact (List.getElem?_eq_some_iff.1 hu).1
  rw [ucells_at s j hj] at hu
  injection hu with hu
  subst hu
  have := cell_of_row w blk (off + j) cs _ fz hh
  rw [hx j hj] at this
  unfold Addr.add
  split
  · rename_i h0; subst h0; simpa using this
  · exact this
/-- a []byte that reads as so many bytes, whatever its block is made for (an argument) -/
def BtR (w : World) (v : Value) (s : ByteArray) : Prop := ∃ A c, v = .slice A s.size c ∧ s.size ≤ c ∧ Reads w w.heap.size 1 A s.size (ucells s)
theorem Bt.btr {w : World} {v : Value} {s : ByteArray} (h : Bt w v s) : BtR w v s := h.rd
theorem BtR.below {w w' : World} {v : Value} {s : ByteArray} (h : BtR w v s) (hb : Below w.heap.size w w') : BtR w' v s := by
  obtain ⟨A, c, hv, hc, hr⟩ := h
  exact ⟨A, c, hv, hc, (hr.below hb).more hb.size⟩
theorem BtR.drew {w : World} {v : Value} {s : ByteArray} (h : BtR w v s) : BtR w.drew v s := h
theorem Bt.of_own {w : World} {base : Nat} {v : Value} {s : ByteArray} (h : w.ownsRow base 5 1 v s.size (ucells s)) : Bt w v s := by
  rcases h.2 with ⟨rfl, h0⟩ | ⟨g, cap, cur, rfl, _, hh, hc, _, hsz, ht⟩
  · exact ⟨none, 0, by rw [h0], by omega, fun hs => by omega⟩
  · refine ⟨_, cap, rfl, hc, fun _ => ⟨g, 0, cur, (0, 0), rfl, hh, fun j hj => ?_⟩⟩
    have := ucells_at s j hj
    rw [← ht, List.getElem?_take, if_pos (by omega), Array.getElem?_toList] at this
    rw [Nat.zero_add]; exact this
theorem ucells_one (s : ByteArray) : ∀ u ∈ ucells s, u.oneCell' = true := by
  intro u hu
  obtain ⟨b, _, rfl⟩ := List.mem_map.1 hu
  rfl
set_option maxHeartbeats 2000000 in
theorem cloneB_any (w : World) (v : Value) (s : ByteArray) (h : Bt w v s) (hs : s.size ≤ 1000000000) :
    Calls Tryz.prog 80 #[v] w fun e w' => ∃ v', e = .returned v' ∧ Bt w' v' s ∧ w'.ownsRow w.heap.size 5 1 v' s.size (ucells s) ∧ Below w.heap.size w w' := by
  obtain ⟨A, c, rfl, hc, hr⟩ := h.rd
  obtain ⟨i0, hi, hz0, hz1, hz2⟩ := parts infoU
  have hnil : ∀ m, Sem.run Tryz.prog (binOp .eql 33 (.slice A m c) (.slice none 0 0)) w = .ok (.bool A.isNone) w := fun m => Lib.run_eql_slice_nil (P := Tryz.prog) w 33 5 A m c 0 0 Tryz.underlying33
  cases A with
  | none =>
    have h0 : s.size = 0 := by
      rcases Nat.eq_zero_or_pos s.size with h | h
      · exact h
      · obtain ⟨_, h', _⟩ := hr.2 h; cases h'
    have hn0 : Sem.run Tryz.prog (binOp .eql 33 (.slice none 0 c) (.slice none 0 0)) w = .ok (.bool true) w := hnil 0
    rw [h0]
    clear hnil
    have H0 := Lib.hid h0
    clear h hr hc hs h0 hi hz0 hz1 hz2
    go_enter Tryz.func80, Tryz.ntmps80
    go_wp2
    go_ret
    have h0 := H0.out
    have ho : w.ownsRow w.heap.size 5 1 (.slice none 0 0) s.size (ucells s) := ⟨by rw [ucells_length, Nat.mul_one], .inl ⟨rfl, h0⟩⟩
    exact ⟨.slice none 0 0, rfl, Bt.of_own ho, by rw [h0] at ho; exact ho, Below.refl _ _⟩
  | some ad =>
    have hn1 : Sem.run Tryz.prog (binOp .eql 33 (.slice (some ad) s.size c) (.slice none 0 0)) w = .ok (.bool false) w := hnil _
    clear hnil
    have hrA := hr.alloc (Nat.le_refl _) (.cells #[] 5)
    have ho : (w.alloc (.cells #[] 5)).ownsRow w.heap.size 5 1 (.slice (some ⟨w.heap.size, 0, none⟩) 0 0) 0 [] := ⟨by simp, .inr ⟨w.heap.size, 0, #[], rfl, Nat.le_refl _, heap_alloc_new w _, Nat.le_refl _, by unfold maxLen; omega, rfl, by simp⟩⟩
    have hBA := (Below.refl w.heap.size w).alloc (Nat.le_refl _) (.cells #[] 5)
    have HR := Lib.hid hrA; have HO := Lib.hid ho; have HB := Lib.hid hBA
    clear hrA ho hBA hr h
    go_enter Tryz.func80, Tryz.ntmps80
    go_wp2_with (at_builtin; refine wpList_append_any _ rfl (.tmp 5) (.tmp 6) 33 rfl w.heap.size 5 i0 (.int .u8 0) 1 1 Tryz.underlying33 hi hz0 hz1 hz2 rfl (by decide) _ _ _ rfl HO.out _ _ _ _ (ucells s) rfl HR.out (ucells_one s) (by unfold maxLen; omega) (by omega) (by simp) ?_; intro v3 w3 h2 h3 h4; have HO3 := Lib.hid h2; have HG3 := Lib.hid h3; clear h2 h3 h4)
    go_ret
    have ho3 := HO3.out
    rw [Nat.zero_add, List.nil_append] at ho3
    exact ⟨_, rfl, Bt.of_own ho3, ho3, HB.out.grown HG3.out (by simp) (fun k hk => (HO.out.lt k hk).1)⟩
/-- a file's cells are cells -/
theorem rcells_one [Forb] {w : World} {base : Nat} {v : Value} {rows : List (FileD × Value)} (h : RowD w base v rows) : ∀ u ∈ rcells rows, u.oneCell' = true := by
  intro u hu
  obtain ⟨x, hx, hu⟩ := List.mem_flatMap.1 hu
  obtain ⟨A, c, he, _⟩ := (h.2 x hx).1
  simp only [fcells, List.mem_cons, List.not_mem_nil, or_false] at hu
  rcases hu with rfl | rfl | rfl
  · rfl
  · rw [he]; rfl
  · rfl
theorem RowD.rd [Forb] {w : World} {base : Nat} {v : Value} {rows : List (FileD × Value)} (h : RowD w base v rows) : ∃ A c, v = .slice A rows.length c ∧ (A = none → rows = []) ∧ Reads w w.heap.size 3 A rows.length (rcells rows) := by
  obtain ⟨A, c, rfl⟩ := own_shape h.1
  refine ⟨A, c, rfl, fun hn => ?_, Reads.of_own h.1⟩
  subst hn
  rcases h.1.2 with ⟨_, h0⟩ | ⟨g, cap, cur, hv, _⟩
  · exact List.eq_nil_of_length_eq_zero h0
  · injection hv with hv; cases hv
end Go.Proofs.YthmcimpdehgaoaaGreatDoor
namespace Go.Proofs.YthmcimpdehgaoaaGreatDoor
open Go.RowKit

set_option maxHeartbeats 2000000 in
theorem grow_any (n : Nat) (hn : n ≤ 1000000000) (w : World) :
    Calls Tryz.prog 105 #[.slice none 0 0, .int .i64 n] w fun e w' => ∃ v', e = .returned v' ∧ w'.ownsRow w.heap.size 5 1 v' 0 [] ∧ Below w.heap.size w w' := by
  obtain ⟨i0, hi, hz0, hz1, hz2⟩ := parts infoU
  rcases Nat.eq_zero_or_pos n with h0 | h0
  · subst h0
    clear hi hz0 hz1 hz2
    go_enter Tryz.func105, Tryz.ntmps105
    go_wp2
    go_ret
    exact ⟨.slice none 0 0, rfl, World.ownsRow_nil _ _ _ _, Below.refl _ _⟩
  · have hr := Lib.run_append_nil_zeros (P := Tryz.prog) w 33 3 33 5 i0 (.int .u8 0) .i64 .i64 Tryz.underlying33 Tryz.underlying3 hi hz0 n h0 (by omega) (by omega) (by rw [hz2]; omega)
    have HR := Lib.hid hr
    have hn1 : ¬ (n : Int) < 0 := by omega
    have hn2 : (0 : Int) < (n : Int) := by omega
    clear hr hi hz0 hz1 hz2
    go_enter Tryz.func105, Tryz.ntmps105
    go_wp2_with (at_builtin; refine Lib.wpList_append_run _ rfl (.tmp 20) (.tmp 21) 33 3 rfl (.slice none 0 0) (.int .i64 n) rfl rfl (.slice (some ⟨w.heap.size, 0, none⟩) n (grownCap w n 0 5)) _ HR.out ?_)
    go_ret
    refine ⟨.slice (some ⟨w.heap.size, 0, none⟩) 0 (grownCap w n 0 5), rfl, ⟨by simp, .inr ⟨w.heap.size, _, _, rfl, Nat.le_refl _, heap_alloc_new w _, Nat.zero_le _, grownCap_le_maxLen w n 0 _ (by unfold maxLen; omega), ?_, by simp⟩⟩, ((Below.refl _ _).alloc (Nat.le_refl _) _).drew⟩
    have := grownCap_ge w n 0 5
    simp [Builtin.zeroCells]; omega
/-- parts of bytes: their values and what they read as -/
def joinB : List (Value × ByteArray) → ByteArray
  | [] => ByteArray.empty
  | x :: l => x.2 ++ joinB l
def sumB (l : List (Value × ByteArray)) : Nat := (l.map (·.2.size)).sum
theorem ucells_append (a b : ByteArray) : ucells (a ++ b) = ucells a ++ ucells b := by simp [ucells]
theorem joinB_snoc (l : List (Value × ByteArray)) (x : Value × ByteArray) : joinB (l ++ [x]) = joinB l ++ x.2 := by
  induction l with
  | nil => simp [joinB]
  | cons y l ih => rw [List.cons_append, joinB, joinB, ih, ByteArray.append_assoc]
theorem joinB_size (l : List (Value × ByteArray)) : (joinB l).size = sumB l := by
  induction l with
  | nil => rfl
  | cons y l ih => rw [joinB, ByteArray.size_append, ih]; rfl
theorem sumB_take (l : List (Value × ByteArray)) (k : Nat) (x : Value × ByteArray) (h : l[k]? = some x) : sumB (l.take (k + 1)) = sumB (l.take k) + x.2.size ∧ joinB (l.take (k + 1)) = joinB (l.take k) ++ x.2 := by
  rw [List.take_add_one, h]
  refine ⟨?_, joinB_snoc _ _⟩
  unfold sumB
  rw [List.map_append, List.sum_append]; simp
theorem sumB_le (l : List (Value × ByteArray)) (k : Nat) : sumB (l.take k) ≤ sumB l := by
  conv => rhs; rw [← List.take_append_drop k l]
  unfold sumB
  rw [List.map_append, List.sum_append]; omega
set_option maxHeartbeats 4000000 in
theorem concat_any (w : World) (A : Option Addr) (c : Nat) (parts_ : List (Value × ByteArray)) (hR : Rd w 1 A parts_.length (parts_.map (·.1))) (hB : ∀ x ∈ parts_, BtR w x.1 x.2) (hl : parts_.length ≤ 1000) (hs : sumB parts_ ≤ 1000000000) :
    Calls Tryz.prog 65 #[.slice A parts_.length c] w fun e w' => ∃ v', e = .returned v' ∧ Bt w' v' (joinB parts_) ∧ w'.ownsRow w.heap.size 5 1 v' (joinB parts_).size (ucells (joinB parts_)) ∧ Below w.heap.size w w' := by
  have HBt := Lib.hid hB
  clear hB
  go_enter Tryz.func65, Tryz.ntmps65
  go_wp2
  go_loopg [3, 11] parts_.length (fun gf vs vi wr => ∃ k : Nat, vi = .int .i64 k ∧ vs = .int .i64 (sumB (parts_.take k) : Nat) ∧ k + gf = parts_.length ∧ wr = w)
  case atStart => exact ⟨0, rfl, rfl, by omega, rfl⟩
  case round =>
    obtain ⟨k, rfl, rfl, hk, hwr⟩ := hrel
    subst wr
    cases gk with
    | zero =>
      obtain rfl : k = parts_.length := by omega
      rw [List.take_length]
      go_wp2_with fail
      refine (grow_any (sumB parts_) hs _).mono ?_
      rintro e w1 ⟨v1, rfl, ho1, hb1⟩
      have HO1 := Lib.hid ho1; have HB1 := Lib.hid hb1
      have hsz1 := hb1.size
      clear ho1 hb1
      obtain ⟨i0, hi, hz0, hz1, hz2⟩ := parts infoU
      go_wp2
      go_loopg [6, 27] parts_.length (fun gf vs vi wr' => ∃ k : Nat, vi = .int .i64 k ∧ k + gf = parts_.length ∧ wr'.ownsRow w.heap.size 5 1 vs (joinB (parts_.take k)).size (ucells (joinB (parts_.take k))) ∧ Below w.heap.size w wr')
      case atStart => exact ⟨0, rfl, by omega, HO1.out, HB1.out⟩
      case round =>
        obtain ⟨k, rfl, hk2, hown, hbr⟩ := hrel
        cases gk with
        | zero =>
          obtain rfl : k = parts_.length := by omega
          rw [List.take_length] at hown
          have HO := Lib.hid hown; have HB := Lib.hid hbr
          clear hown hbr hi hz0 hz1 hz2
          go_wp2
          go_ret
          exact ⟨_, rfl, Bt.of_own HO.out, HO.out, HB.out⟩
        | succ gf =>
          obtain ⟨ad, u, rfl, hx, hc⟩ := (hR.below hbr).at_ (k := k) (by omega)
          rw [List.getElem?_map, Option.map_eq_some_iff] at hx
          obtain ⟨x, hx, rfl⟩ := hx
          obtain ⟨A2, c2, hv, hc2, hrd⟩ := (HBt.out x (List.mem_of_getElem? hx)).below hbr
          obtain ⟨hsum, hjoin⟩ := sumB_take parts_ k x hx
          have hle := sumB_le parts_ (k + 1)
          rw [hv] at hc
          obtain ⟨A3, c3, rfl⟩ := own_shape hown
          have hjs := joinB_size (parts_.take k)
          have HJ := Lib.hid hjoin; have HO := Lib.hid hown; have HB := Lib.hid hbr; have HR := Lib.hid hrd
          have hkI : (k : Int) < (parts_.length : Int) := by omega
          have hsz : (joinB (parts_.take k)).size + x.2.size ≤ 1000000000 := by omega
          have hbsz := hbr.size
          clear hsum hle hx hv hjoin hown hbr hrd hjs
          go_wp2_with (at_builtin; (refine wpList_append_any _ rfl (.tmp 31) (.tmp 32) 33 rfl w.heap.size 5 i0 (.int .u8 0) 1 1 Tryz.underlying33 hi hz0 hz1 hz2 rfl (by decide) _ _ _ rfl HO.out _ _ _ _ (ucells x.2) rfl HR.out (ucells_one x.2) (by unfold maxLen; omega) (by omega) (by omega) ?_; intro v3 w3 h2 h3 h4; have HO3 := Lib.hid h2; have HG3 := Lib.hid h3; clear h2 h3 h4))
          go_roundg gf
          case measure => omega
          case rel =>
            refine ⟨k + 1, by go_num, by omega, ?_, HB.out.grown HG3.out hbsz (fun k hk => (HO.out.lt k hk).1)⟩
            rw [HJ.out, ByteArray.size_append, ucells_append]
            exact HO3.out
    | succ gf =>
      obtain ⟨ad, u, rfl, hx, hc⟩ := hR.at_ (k := k) (by omega)
      rw [List.getElem?_map, Option.map_eq_some_iff] at hx
      obtain ⟨x, hx, rfl⟩ := hx
      obtain ⟨A2, c2, hv, _⟩ := HBt.out x (List.mem_of_getElem? hx)
      have hsum := (sumB_take parts_ k x hx).1
      have hle := sumB_le parts_ (k + 1)
      rw [hv] at hc
      have HS := Lib.hid hsum
      have hkI : (k : Int) < (parts_.length : Int) := by omega
      have hsz : sumB (parts_.take k) + x.2.size ≤ 1000000000 := by omega
      clear hsum hle hx hv
      go_wp2
      go_roundg gf
      case measure => omega
      case rel => exact ⟨k + 1, by go_num, by rw [HS.out]; go_num, by omega, rfl⟩
end Go.Proofs.YthmcimpdehgaoaaGreatDoor
namespace Go.Proofs.YthmcimpdehgaoaaGreatDoor
open Go.RowKit

theorem rd_vals (w : World) (l : List Value) (t : TypeId) (g : Nat) (hg : w.heap.size = g) : Rd (w.alloc (.cells l.toArray t)) 1 (some ⟨g, 0, none⟩) l.length l := by
  refine ⟨by simp, fun _ => ⟨_, rfl, by simp [← hg], fun j u hu => ?_⟩⟩
  exact cells_new w _ t g hg j u hu
/-- how many bytes all files have -/
def usedL (l : List FileD) : Nat := (l.map (·.b.size)).sum
def DiskD.used (D : DiskD) : Nat := usedL D.files
theorem usedL_take (l : List FileD) (k : Nat) (x : FileD) (h : l[k]? = some x) : usedL (l.take (k + 1)) = usedL (l.take k) + x.b.size := by
  rw [List.take_add_one, h]
  unfold usedL
  rw [List.map_append, List.sum_append]; simp
theorem usedL_le (l : List FileD) (k : Nat) : usedL (l.take k) ≤ usedL l := by
  conv => rhs; rw [← List.take_append_drop k l]
  unfold usedL
  rw [List.map_append, List.sum_append]; omega
set_option maxHeartbeats 4000000 in
theorem used_any [Forb] (w : World) (base p : Nat) (v : Value) (D : DiskD) (h : DiskIs w base p v D) (hl : D.files.length ≤ 1000000000) (hu : D.used ≤ 1000000000000) :
    Calls Tryz.prog 64 #[.pointer (some ⟨p, 0, none⟩)] w fun e w' => e = .returned (.int .i64 D.used) ∧ Below w.heap.size w w' := by
  have c0 := h.blk.cell 0
  simp only [List.getElem?_toArray, List.getElem?_cons_zero] at c0
  obtain ⟨rows, hr, hR⟩ := h.row
  have hlen : rows.length = D.files.length := by rw [← hr, List.length_map]
  obtain ⟨A, c, rfl⟩ := own_shape hR.1
  have HR := Lib.hid hR; have HF := Lib.hid hr; have HL := Lib.hid hlen
  have hrl : rows.length ≤ 1000000000 := by omega
  unfold DiskD.used at *
  clear h hR hr hlen
  go_enter Tryz.func64, Tryz.ntmps64
  go_wp2
  go_loopg [2, 12] rows.length (fun gf vn vi wr => ∃ k : Nat, vi = .int .i64 k ∧ vn = .int .i64 (usedL (D.files.take k) : Nat) ∧ k + gf = rows.length ∧ Below w.heap.size w wr)
  case atStart => exact ⟨0, rfl, rfl, by omega, Below.refl _ _⟩
  case round =>
    obtain ⟨k, rfl, rfl, hk, hB⟩ := hrel
    cases gk with
    | zero =>
      obtain rfl : k = rows.length := by omega
      have hfull : D.files.take rows.length = D.files := List.take_of_length_le (by rw [HL.out]; exact Nat.le_refl _)
      rw [hfull]
      have HB := Lib.hid hB
      clear hB
      go_wp2
      go_ret
      exact ⟨rfl, HB.out⟩
    | succ gf =>
      obtain ⟨g, cap, x, A', c', hv, hx, hx2, hg, c1, c2, c3⟩ := HR.out.at_ (i := k) (by omega) hB
      simp only [Value.slice.injEq] at hv
      obtain ⟨rfl, -, rfl⟩ := hv
      have hfx : D.files[k]? = some x.1 := by rw [← HF.out, List.getElem?_map, hx]; rfl
      have hs := usedL_take _ _ _ hfx
      have hle := usedL_le D.files (k + 1)
      have hsz : usedL (D.files.take k) + x.1.b.size ≤ 1000000000000 := by omega
      have hbA := hB.alloc hB.size (.cells #[.string x.1.name, .slice A' x.1.b.size c', .int .i64 x.1.safe] 90)
      have hnb := (Blk.new wr 90 #[.string x.1.name, .slice A' x.1.b.size c', .int .i64 x.1.safe]).cell 1
      simp only [List.getElem?_toArray, List.getElem?_cons_zero, List.getElem?_cons_succ] at hnb
      have HS := Lib.hid hs; have HB := Lib.hid hbA
      have hkI : (k : Int) < (rows.length : Int) := by omega
      clear hs hle hx hx2 hfx hB hbA
      go_wp2
      go_roundg gf
      case measure => omega
      case rel => exact ⟨k + 1, by go_num, by rw [HS.out]; go_num, by omega, HB.out⟩
/-- what is read of a file -/
def DiskD.read (D : DiskD) (name : ByteArray) : Int × ByteArray :=
  if D.asked [name] ≠ 0 then (D.asked [name], ByteArray.empty)
  else if (findN (D.files.map (·.name)) name).2 = true then (0, ((D.files.map (·.b)).getD (findN (D.files.map (·.name)) name).1 ByteArray.empty)) else (5, ByteArray.empty)
theorem bt_nil (w : World) : Bt w (.slice none 0 0) ByteArray.empty := ⟨none, 0, rfl, Nat.le_refl _, fun h => absurd h (by decide)⟩
set_option maxHeartbeats 4000000 in
theorem readO_any [Forb] (w : World) (base p : Nat) (v : Value) (D : DiskD) (name : ByteArray) (h : DiskIs w base p v D) (hl : D.files.length ≤ 1000000000) (hb : ∀ f ∈ D.files, f.b.size ≤ 1000000000) :
    Calls Tryz.prog 35 #[.pointer (some ⟨p, 0, none⟩), .string name] w fun e w' => ∃ bv, e = .returned (.tuple #[bv, .int .i64 (D.read name).1]) ∧ w'.ownsRow w.heap.size 5 1 bv (D.read name).2.size (ucells (D.read name).2) ∧ Below w.heap.size w w' := by
  have hrn := rd_vals w [.string name] 9 w.heap.size rfl
  have hBA := (Below.refl w.heap.size w).alloc (Nat.le_refl _) (.cells #[.string name] 9)
  have hA := asked_any _ base p v D (h.below hBA (Nat.le_refl _)) (some ⟨w.heap.size, 0, none⟩) 1 [name] hrn (by simp)
  have HA := Lib.hid hA; have HB := Lib.hid hBA; have H := Lib.hid h
  clear hA hrn h hBA
  unfold DiskD.read
  by_cases ha : D.asked [name] ≠ 0
  · rw [if_pos ha]
    have hab : (D.asked [name] != 0) = true := by rw [bne_iff_ne]; exact ha
    clear ha
    go_enter Tryz.func35, Tryz.ntmps35
    go_wp2_with fail
    refine HA.out.mono ?_
    rintro e w1 ⟨rfl, rfl⟩
    go_wp2
    go_ret2
    exact ⟨.slice none 0 0, rfl, World.ownsRow_nil _ _ _ _, HB.out⟩
  · rw [if_neg ha]
    have ha0 : D.asked [name] = 0 := by omega
    rw [ha0] at HA
    have haf : ((0 : Int) != 0) = false := rfl
    have hDA := H.out.below HB.out (Nat.le_refl _)
    have HFI := Lib.hid (find_any _ base p v D hDA name (by omega))
    obtain ⟨rows, hr, hR⟩ := H.out.row
    obtain ⟨Ar, cr, rfl⟩ := own_shape hR.1
    have c0 := H.out.blk.cell 0
    simp only [List.getElem?_toArray, List.getElem?_cons_zero] at c0
    have hpl := H.out.blk.lt
    have HR := Lib.hid hR; have HL := Lib.hid hr
    obtain ⟨i, hi⟩ : ∃ i, (findN (D.files.map (·.name)) name).1 = i := ⟨_, rfl⟩
    cases ht : (findN (D.files.map (·.name)) name).2 with
    | false =>
      rw [ht, hi] at HFI
      rw [if_neg (by simp)]
      clear ha hDA hR hr c0
      go_enter Tryz.func35, Tryz.ntmps35
      go_wp2_with fail
      refine HA.out.mono ?_
      rintro e w1 ⟨rfl, rfl⟩
      go_wp2_with fail
      refine HFI.out.mono ?_
      rintro e w1 ⟨rfl, hb1⟩
      have HB1 := Lib.hid (HB.out.trans (hb1.mono HB.out.size))
      clear hb1
      go_wp2
      go_ret2
      exact ⟨.slice none 0 0, rfl, World.ownsRow_nil _ _ _ _, HB1.out⟩
    | true =>
      have hlt : i < D.files.length := by
        have h1 : decide (bsGo (D.files.map (·.name)) name (D.files.map (·.name)).length 0 (D.files.map (·.name)).length < (D.files.map (·.name)).length) = true := by
          unfold findN at ht; simp only [Bool.and_eq_true] at ht; exact ht.1
        unfold findN at hi; dsimp only at hi
        rw [hi, List.length_map] at h1
        exact of_decide_eq_true h1
      have hrl : rows.length = D.files.length := by rw [← hr, List.length_map]
      rw [ht, hi] at HFI
      rw [if_pos rfl, hi]
      have hfi : D.files[i]? = some D.files[i] := List.getElem?_eq_getElem hlt
      have hbi : ((D.files.map (·.b)).getD i ByteArray.empty) = D.files[i].b := by rw [List.getD_eq_getElem?_getD, List.getElem?_map, hfi]; rfl
      have hbs := hb _ (List.getElem_mem hlt)
      rw [hbi]
      have hlr : i < rows.length := by omega
      have hiI : (i : Int) < (rows.length : Int) := by omega
      have hxm : ∀ x, rows[i]? = some x → x.1 = D.files[i] := by
        intro x hx
        have : D.files[i]? = some x.1 := by rw [← hr, List.getElem?_map, hx]; rfl
        rw [hfi] at this; injection this with this; exact this.symm
      have HX := Lib.hid hxm
      clear ha hDA hR hr hfi hbi hxm hrl hb ht hi
      go_enter Tryz.func35, Tryz.ntmps35
      go_wp2_with fail
      refine HA.out.mono ?_
      rintro e w1 ⟨rfl, rfl⟩
      go_wp2_with fail
      refine HFI.out.mono ?_
      rintro e w1 ⟨rfl, hb1⟩
      have hB1 := HB.out.trans (hb1.mono HB.out.size)
      have d0 := (hB1.cell (p := ⟨p, 0, none⟩) hpl).trans c0
      obtain ⟨g, cap, x, A', c', hv, hx, hx2, hg, c1, c2, c3⟩ := HR.out.at_ (i := i) hlr hB1
      simp only [Value.slice.injEq] at hv
      obtain ⟨rfl, -, rfl⟩ := hv
      have hbt := (HR.out.2 x (List.mem_of_getElem? hx)).1.at_ hB1 (Nat.le_refl _)
      rw [hx2, HX.out x hx] at hbt
      rw [HX.out x hx] at c2
      have HCl := Lib.hid (cloneB_any w1 _ _ hbt hbs)
      have HB1 := Lib.hid hB1
      clear hB1 hb1 hx hx2 hbt c0
      go_wp2_with fail
      refine HCl.out.mono ?_
      rintro e w2 ⟨bv, rfl, _, hbt2, hb2⟩
      go_wp2
      go_ret2
      exact ⟨bv, rfl, own_mono hbt2 HB1.out.size, HB1.out.trans (hb2.mono HB1.out.size)⟩
theorem read_any [Forb] (w : World) (base p : Nat) (v : Value) (D : DiskD) (name : ByteArray) (h : DiskIs w base p v D) (hl : D.files.length ≤ 1000000000) (hb : ∀ f ∈ D.files, f.b.size ≤ 1000000000) :
    Calls Tryz.prog 35 #[.pointer (some ⟨p, 0, none⟩), .string name] w fun e w' => ∃ bv, e = .returned (.tuple #[bv, .int .i64 (D.read name).1]) ∧ Bt w' bv (D.read name).2 ∧ Below w.heap.size w w' :=
  (readO_any w base p v D name h hl hb).mono fun _ _ ⟨bv, he, ho, hb'⟩ => ⟨bv, he, Bt.of_own ho, hb'⟩
end Go.Proofs.YthmcimpdehgaoaaGreatDoor
namespace Go.Proofs.YthmcimpdehgaoaaGreatDoor
open Go.RowKit

end Go.Proofs.YthmcimpdehgaoaaGreatDoor
namespace Go.Proofs.YthmcimpdehgaoaaGreatDoor
open Go.RowKit

/-- a run of cells laid into a row of cells -/
def layS (cur : Array Value) : Nat → List Value → Array Value
  | _, [] => cur
  | o, v :: r => layS (cur.setIfInBounds o v) (o + 1) r
theorem layS_size : ∀ (vs : List Value) (o : Nat) (cur : Array Value), (layS cur o vs).size = cur.size := by
  intro vs
  induction vs with
  | nil => intro o cur; rfl
  | cons v vs ih => intro o cur; rw [layS, ih]; simp
theorem layS_list : ∀ (vs : List Value) (o : Nat) (cur : Array Value), o + vs.length ≤ cur.size → (layS cur o vs).toList = cur.toList.take o ++ vs ++ cur.toList.drop (o + vs.length) := by
  intro vs
  induction vs with
  | nil => intro o cur h; simp [layS]
  | cons v vs ih =>
    intro o cur h
    simp at h
    rw [layS, ih _ _ (by simp; omega)]
    have h1 : (cur.setIfInBounds o v).toList = cur.toList.set o v := by simp
    have hl : o < cur.toList.length := by simp; omega
    rw [h1, List.take_add_one, List.take_set_of_le (Nat.le_refl o), List.getElem?_set_self hl, List.drop_set_of_lt (by omega)]
    simp
    congr 1; omega
theorem Blk.setCells : ∀ (vs : List Value) (o : Nat) {w : World} {g : Nat} {t : TypeId} {cs : Array Value}, Blk w g t cs → Blk (w.setCells g o vs) g t (layS cs o vs) := by
  intro vs
  induction vs with
  | nil => intro o w g t cs h; exact h
  | cons v vs ih => intro o w g t cs h; exact ih (o + 1) (h.set_ o v)
theorem Moved.setCells (g : Nat) : ∀ (vs : List Value) (o : Nat) (w : World), Moved w (w.setCells g o vs) g none := by
  intro vs
  induction vs with
  | nil => intro o w; exact Moved.refl w g none
  | cons v vs ih => intro o w; exact (Moved.set_ w g o none v).trans (ih (o + 1) _) (.inl rfl)
theorem size_setCells_ (g : Nat) : ∀ (vs : List Value) (o : Nat) (w : World), (w.setCells g o vs).heap.size = w.heap.size := by
  intro vs
  induction vs with
  | nil => intro o w; rfl
  | cons v vs ih => intro o w; exact (ih (o + 1) _).trans (by simp)
theorem rcells_append (a b : List (FileD × Value)) : rcells (a ++ b) = rcells a ++ rcells b := by simp [rcells]
theorem rcells_take (l : List (FileD × Value)) (k : Nat) (h : k ≤ l.length) : (rcells l).take (k * 3) = rcells (l.take k) := by
  conv => lhs; rw [← List.take_append_drop k l]
  rw [rcells_append]
  have : (rcells (l.take k)).length = k * 3 := by rw [rcells_length, List.length_take]; congr 1; omega
  rw [← this, List.take_left]
theorem rcells_drop (l : List (FileD × Value)) (k : Nat) (h : k ≤ l.length) : (rcells l).drop (k * 3) = rcells (l.drop k) := by
  conv => lhs; rw [← List.take_append_drop k l]
  rw [rcells_append]
  have : (rcells (l.take k)).length = k * 3 := by rw [rcells_length, List.length_take]; congr 1; omega
  rw [← this, List.drop_left]
/-- one element of files is cleared -/
def zF : List Value := [.string ⟨#[]⟩, .slice none 0 0, .int .i64 0]
theorem run_clear_one {P : Program} (w : World) (t e ty : TypeId) (ht : P.underlying t = some (.slice e)) (hv : ∀ w, (zeroValue e).run P w = .ok (.agg #[.string ⟨#[]⟩, .slice none 0 0, .int .i64 0]) w) (b o c : Nat)
    (hc : ∀ j, j < 3 → (w.cell? ⟨b, o + j, none⟩).isSome = true) (hf : ∀ j, j < 3 → w.frozen? ⟨b, o + j, none⟩ = false) :
    (Builtin.clear_ #[t] ty #[.slice (some ⟨b, o, none⟩) 1 c]).run P w = .ok (.tuple #[]) (w.setCells b o zF) := by
  have hzc : (Builtin.zeroCells (Value.agg #[.string ⟨#[]⟩, .slice none 0 0, .int .i64 0]).cells 1).toList = zF := by simp [Builtin.zeroCells, zF]; rfl
  have hst := run_storeCells_cells (P := P) b o zF 0 w (by simpa [zF] using hc) (by simpa [zF] using hf) (by intro v hv'; simp [zF] at hv'; rcases hv' with rfl | rfl | rfl <;> rfl)
  simp only [Nat.add_zero] at hst
  simp [Builtin.clear_, run_underlying ht, hv, hzc, hst]
set_option maxRecDepth 100000 in
set_option maxHeartbeats 4000000 in
theorem delete_any [Forb] (w : World) (base : Nat) (g cap : Nat) (rows : List (FileD × Value)) (i : Nat) (h : RowD w base (.slice (some ⟨g, 0, none⟩) rows.length cap) rows) (hi : i < rows.length) :
    Calls Tryz.prog 159 #[.slice (some ⟨g, 0, none⟩) rows.length cap, .int .i64 i, .int .i64 (i + 1 : Nat)] w fun e w' =>
      e = .returned (.slice (some ⟨g, 0, none⟩) (rows.length - 1) cap) ∧ RowD w' base (.slice (some ⟨g, 0, none⟩) (rows.length - 1) cap) (rows.take i ++ rows.drop (i + 1)) ∧ Moved w w' g none := by
  obtain ⟨i0, hi0, hz0, hz1, hz2⟩ := parts infoF
  have hone := rcells_one h
  have hbts := h.2
  have hlen := rcells_length rows
  rcases h.1.2 with ⟨hv, _⟩ | ⟨g', cap', cur, hv, hb1, hh, hcap, hmax, hcs, htk⟩
  · cases hv
  · simp only [Value.slice.injEq, Option.some.injEq, Addr.mk.injEq, and_true, true_and] at hv
    obtain ⟨rfl, rfl⟩ := hv
    have hblk : Blk w g 90 cur := hh
    have hcell : ∀ k, k < cap * 3 → (w.cell? ⟨g, k, none⟩).isSome = true := by
      intro k hk
      rw [hblk.cell k, Array.getElem?_eq_getElem (by omega)]; rfl
    have hnews : ∀ t u, (rcells (rows.drop (i + 1)))[t]? = some u → w.cell? ⟨g, (i + 1) * 3 + t, none⟩ = some u := by
      intro t u hu
      rw [← rcells_drop rows (i + 1) (by omega), List.getElem?_drop, ← htk, List.getElem?_take] at hu
      split at hu
      · rw [hblk.cell, ← hu, Array.getElem?_toList]
      · cases hu
    have hnl : (rcells (rows.drop (i + 1))).length = (rows.length - (i + 1)) * 3 := by rw [rcells_length, List.length_drop]
    obtain ⟨A, hA, hsrc⟩ : ∃ A : Addr, (if cap = i + 1 then some (⟨g, 0, none⟩ : Addr) else some ⟨g, (i + 1) * 3, none⟩) = some A ∧ Hid (∀ t u, (rcells (rows.drop (i + 1)))[t]? = some u → w.drew.cell? (A.add t) = some u) := by
      by_cases hc : cap = i + 1
      · refine ⟨⟨g, 0, none⟩, by simp [hc], fun t u hu => ?_⟩
        have h0 : (rcells (rows.drop (i + 1))).length = 0 := by rw [hnl]; have : rows.length - (i + 1) = 0 := by omega
                                                                rw [this]
        rw [List.length_eq_zero_iff.1 h0] at hu
        simp at hu
      · refine ⟨⟨g, (i + 1) * 3, none⟩, by simp [hc], fun t u hu => ?_⟩
        have := hnews t u hu
        unfold Addr.add
        split
        · rename_i h0; subst h0; simpa using this
        · exact this
    have s3 : Hid (∀ t, t < (rcells (rows.drop (i + 1))).length → (w.drew.cell? ⟨g, 0 + i * 3 + t, none⟩).isSome = true ∧ w.drew.frozen? ⟨g, 0 + i * 3 + t, none⟩ = false) := by
      intro t ht
      rw [hnl] at ht
      exact ⟨hcell _ (by omega), hblk.frozen _⟩
    have s2 : Hid (∀ u ∈ rcells (rows.drop (i + 1)), u.oneCell' = true) := by
      intro u hu
      refine hone u ?_
      rw [← rcells_drop rows (i + 1) (by omega)] at hu
      exact List.mem_of_mem_drop hu
    have s1 := Lib.hid hnl
    obtain ⟨W1, hW1⟩ : ∃ W1, W1 = w.drew.setCells g (0 + i * 3) (rcells (rows.drop (i + 1))) := ⟨_, rfl⟩
    have hb1' : Blk W1 g 90 (layS cur (0 + i * 3) (rcells (rows.drop (i + 1)))) := by rw [hW1]; exact hblk.drew.setCells _ _
    have hsz1 : (layS cur (0 + i * 3) (rcells (rows.drop (i + 1)))).size = cap * 3 := by rw [layS_size, hcs]
    have hcl : ∀ ty c, (Builtin.clear_ #[66] ty #[.slice (some ⟨g, (rows.length - 1) * 3, none⟩) 1 c]).run Tryz.prog W1 = .ok (.tuple #[]) (W1.setCells g ((rows.length - 1) * 3) zF) :=
      fun ty c => run_clear_one W1 _ _ ty Tryz.underlying66 Tryz.zeroValue90 g _ c (fun j hj => by rw [hb1'.cell, Array.getElem?_eq_getElem (by omega)]; rfl) (fun j hj => hb1'.frozen _)
    have HW := Lib.hid hW1; have HCL := Lib.hid hcl
    have hIJ : ((i : Int) == ((i + 1 : Nat) : Int)) = false := by rw [beq_eq_false_iff_ne]; omega
    have hi1 : i + 1 ≤ rows.length := hi
    have hic : i ≤ cap := by omega
    have hjc : i + 1 ≤ cap := by omega
    have h0I : (0 : Int) ≤ (i : Int) + 1 := by omega
    have hicI : (i : Int) ≤ (cap : Int) := by omega
    have hjcI : (i : Int) + 1 ≤ (cap : Int) := by omega
    have hi1I : (i : Int) + 1 ≤ (rows.length : Int) := by omega
    have HI0 := Lib.hid hi0; have HT := Lib.hid htk; have HCS := Lib.hid hcs; have HBK := Lib.hid hblk; have HB1 := Lib.hid hb1'; have HBT := Lib.hid hbts; have HLN := Lib.hid hlen
    clear hW1 hcl hcell hnews hnl hone hi0 htk hcs hblk hb1' hbts hlen hh hsz1 h hz0
    go_enter Tryz.func159, Tryz.ntmps159
    go_wp2_with fail
    go_region_law (refine step_append_room rfl (.tmp 22) (.tmp 25) 66 rfl 90 i0 3 Tryz.underlying66 HI0.out hz1 g 0 i cap (by simp [Act.eval, Act.put]) A (rows.length - (i + 1)) (cap - (i + 1)) (rcells (rows.drop (i + 1))) (by simp [Act.eval, Act.put]) s1.out hsrc.out s2.out (by omega) s3.out ?_; rw [← HW.out])
    have hcl := HCL.out
    obtain ⟨m, hm⟩ : ∃ m, i + (rows.length - (i + 1)) = m := ⟨_, rfl⟩
    have hm1 : rows.length - 1 = m := by omega
    have hm2 : rows.length - m = 1 := by omega
    rw [hm1] at hcl
    rw [hm]
    have hcl2 : ∀ ty, (Builtin.clear_ #[66] ty #[.slice (some ⟨g, m * 3, none⟩) (rows.length - m) (cap - m)]).run Tryz.prog W1 = .ok (.tuple #[]) (W1.setCells g (m * 3) zF) := fun ty => by rw [hm2]; exact hcl ty _
    have hmc : m ≤ cap := by omega
    have hmcI : (m : Int) ≤ (cap : Int) := by omega
    have hmr : m ≤ rows.length := by omega
    have hmrI : (m : Int) ≤ (rows.length : Int) := by omega
    have hne : ¬ cap = m := by omega
    have hcapI : (rows.length : Int) ≤ (cap : Int) := by omega
    have HM1 := Lib.hid hm1; have HM := Lib.hid hm
    clear hcl HCL hm1 hm2 hm
    go_wp2_with fail
    go_ret
    have hm1 := HM1.out
    have hm := HM.out
    have hmv : Moved w (W1.setCells g (m * 3) zF) g none := by
      rw [HW.out]
      have h1 := Moved.setCells g (rcells (rows.drop (i + 1))) (0 + i * 3) w.drew
      have h0 : Moved w w.drew g none := ⟨rfl, rfl, rfl, Nat.le_refl _, fun _ _ _ _ => rfl⟩
      exact (h0.trans h1 (.inl rfl)).trans (Moved.setCells g zF (m * 3) _) (.inl rfl)
    have hnl := s1.out
    have hcs := HCS.out
    have hk2 := HB1.out.setCells zF (m * 3)
    have hs1 : (layS cur (0 + i * 3) (rcells (rows.drop (i + 1)))).size = cap * 3 := by rw [layS_size, hcs]
    have hl2 := layS_list zF (m * 3) _ (by rw [hs1]; show m * 3 + 3 ≤ cap * 3; omega : m * 3 + zF.length ≤ (layS cur (0 + i * 3) (rcells (rows.drop (i + 1)))).size)
    have hl1 := layS_list (rcells (rows.drop (i + 1))) (0 + i * 3) cur (by rw [hnl, hcs]; omega)
    have hti : cur.toList.take (0 + i * 3) = rcells (rows.take i) := by
      rw [← rcells_take rows i (by omega), ← HT.out, List.take_take, Nat.zero_add]
      congr 1; omega
    have hcl1 : cur.toList.length = cap * 3 := by rw [Array.length_toList, hcs]
    have htot : (rcells (rows.take i) ++ rcells (rows.drop (i + 1))).length = m * 3 := by
      rw [List.length_append, rcells_length, hnl, List.length_take]; omega
    have htk2 : (layS (layS cur (0 + i * 3) (rcells (rows.drop (i + 1)))) (m * 3) zF).toList.take (m * 3) = rcells (rows.take i ++ rows.drop (i + 1)) := by
      rw [hl2, hl1, hti, List.append_assoc (List.take (m * 3) _)]
      have h1 : (List.take (m * 3) (rcells (rows.take i) ++ rcells (rows.drop (i + 1)) ++ List.drop (0 + i * 3 + (rcells (rows.drop (i + 1))).length) cur.toList)) = rcells (rows.take i) ++ rcells (rows.drop (i + 1)) := by
        rw [← htot, List.take_left]
      rw [h1]
      conv => lhs; rw [← htot]
      rw [List.take_left, rcells_append]
    have hrl : (rows.take i ++ rows.drop (i + 1)).length = m := by rw [List.length_append, List.length_take, List.length_drop]; omega
    refine ⟨by rw [hm1]; rfl, ⟨⟨by rw [rcells_length], .inr ⟨g, cap, _, by rw [hrl, hm1], hb1, hk2, by omega, hmax, by rw [layS_size, hs1], by rw [hrl]; exact htk2⟩⟩, fun x hx => ?_⟩, hmv⟩
    have hxr : x ∈ rows := by
      rcases List.mem_append.1 hx with hx | hx
      · exact List.mem_of_mem_take hx
      · exact List.mem_of_mem_drop hx
    exact ⟨(HBT.out x hxr).1.moved hmv (fun cs fz hh => blk_type HBK.out hh (by decide)) (fun n hn => by cases hn), (HBT.out x hxr).2⟩
end Go.Proofs.YthmcimpdehgaoaaGreatDoor
namespace Go.Proofs.YthmcimpdehgaoaaGreatDoor
open Go.RowKit

/-- a row of files stays where a cell of the disk is written -/
theorem RowD.set_ [Forb] {w : World} {base p k : Nat} {v : Value} {rows : List (FileD × Value)} {t : TypeId} {cs : Array Value} (h : RowD w base v rows) (hb : Blk w p t cs) (h1 : t ≠ 90) (h2 : t ≠ 5) (u : Value) : RowD (w.setCell ⟨p, k, none⟩ u) base v rows := by
  refine h.keep (fun g hg => ?_) (fun blk cs' fz hh => ?_)
  · refine Below.heap_setCell w _ u g (fun e => ?_)
    have e : g = p := e
    subst e
    exact own_type h.1 (t := t) (fun e => h1 e.symm) g hg cs (0, 0) hb
  · refine Below.heap_setCell w _ u blk (fun e => ?_)
    have e : blk = p := e
    subst e
    exact blk_type hb hh h2
/-- the disk has another row -/
theorem DiskIs.row_set [Forb] {w w1 : World} {base p : Nat} {v v' : Value} {D : DiskD} {rows' : List (FileD × Value)} (h : DiskIs w base p v D) (hm : Moved w w1 p v.ownBlock) (hp : w1.heap[p]? = w.heap[p]?) (hR : RowD w1 base v' rows') :
    DiskIs (w1.setCell ⟨p, 0, none⟩ v') base p v' { D with files := rows'.map (·.1) } ∧ Moved w (w1.setCell ⟨p, 0, none⟩ v') p v.ownBlock := by
  have hb : Blk w1 p 68 #[v, .int .i64 D.quota, .int .i64 D.steps, .int .i64 D.left, .bool D.off] := hp.trans h.blk
  refine ⟨⟨h.1, hb.set_ 0 v', rows', rfl, hR.set_ hb (by decide) (by decide) v'⟩, hm.trans (Moved.set_ w1 p 0 none v') (.inr (.inl rfl))⟩
set_option maxRecDepth 100000 in
set_option maxHeartbeats 4000000 in
theorem drops_any [Forb] (w : World) (base p : Nat) (v : Value) (D : DiskD) (i : Nat) (n : Int) (to : ByteArray) (h : DiskIs w base p v D) (hi : i < D.files.length) (hl : D.files.length ≤ 1000000000) :
    Calls Tryz.prog 136 #[.pointer (some ⟨p, 0, none⟩), .int .i64 i, .int .i64 n, .string to] w fun e w' => ∃ v', e = .returned (.tuple #[]) ∧
      DiskIs w' base p v' { D with files := D.files.take i ++ D.files.drop (i + 1) } ∧ Moved w w' p v.ownBlock ∧ v'.ownBlock = v.ownBlock := by
  obtain ⟨rows, hr, hR⟩ := h.row
  have hrl : rows.length = D.files.length := by rw [← hr, List.length_map]
  obtain ⟨g, cap, hv, hg1, hg2⟩ := hR.1.form (by omega)
  subst hv
  have hown := h.own g rfl
  have hC := delete_any w base g cap rows i hR (by omega)
  have c0 := h.blk.cell 0; have f0 := h.blk.frozen 0
  simp only [List.getElem?_toArray, List.getElem?_cons_zero] at c0
  have hfl : (rows.take i ++ rows.drop (i + 1)).map (·.1) = D.files.take i ++ D.files.drop (i + 1) := by
    rw [List.map_append, List.map_take, List.map_drop, hr]
  have hiI : (i : Int) + 1 ≤ 9223372036854775807 := by omega
  have hpl := h.blk.lt
  have HC := Lib.hid hC; have H := Lib.hid h; have HF := Lib.hid hfl
  have hcast : ((i + 1 : Nat) : Int) = (i : Int) + 1 := by omega
  rw [hcast] at HC
  clear hC h hfl hr hR hrl hcast
  go_enter Tryz.func136, Tryz.ntmps136
  go_wp2_with fail
  refine HC.out.mono ?_
  rintro e w1 ⟨rfl, hR1, hm1⟩
  have hp1 : w1.heap[p]? = w.heap[p]? := hm1.block p hpl (fun e => hown.2.2 e.symm) (by simp)
  have hmp : Moved w w1 p (some g) := ⟨hm1.os, hm1.tape, hm1.output, hm1.size, fun k hk _ hg' => hm1.block k hk (fun e => hg' (by rw [e])) (by simp)⟩
  have hfin := H.out.row_set hmp hp1 hR1
  have hb1 : Blk w1 p 68 _ := hp1.trans H.out.blk
  have d0 := hb1.cell 0; have g0 := hb1.frozen 0
  simp only [List.getElem?_toArray, List.getElem?_cons_zero] at d0
  rw [HF.out] at hfin
  have HFin := Lib.hid hfin
  clear hfin hmp hp1 hb1 hm1 hR1
  go_wp2
  go_end0
  exact ⟨_, rfl, HFin.out.1, HFin.out.2, rfl⟩
end Go.Proofs.YthmcimpdehgaoaaGreatDoor
namespace Go.Proofs.YthmcimpdehgaoaaGreatDoor
open Go.RowKit

theorem rcells_split (l : List (FileD × Value)) (i : Nat) (x : FileD × Value) (h : l[i]? = some x) : rcells l = rcells (l.take i) ++ (fcells x ++ rcells (l.drop (i + 1))) ∧ (rcells (l.take i)).length = i * 3 := by
  have hlt := (List.getElem?_eq_some_iff.1 h).1
  constructor
  · conv => lhs; rw [← List.take_append_drop (i + 1) l, List.take_add_one, h]
    simp [rcells]
  · rw [rcells_length, List.length_take]; congr 1; omega
theorem rcells_set (l : List (FileD × Value)) (i : Nat) (x y : FileD × Value) (h : l[i]? = some x) (hn : y.1.name = x.1.name) : ((rcells l).set (i * 3 + 1) y.2).set (i * 3 + 2) (.int .i64 y.1.safe) = rcells (l.set i y) := by
  have hlt := (List.getElem?_eq_some_iff.1 h).1
  obtain ⟨h1, h2⟩ := rcells_split l i x h
  obtain ⟨h3, h4⟩ := rcells_split (l.set i y) i y (by rw [List.getElem?_set_self hlt])
  rw [h1, h3, List.take_set_of_le (Nat.le_refl i), List.drop_set_of_lt (by omega)]
  rw [List.set_append_right _ _ (by omega), h2, List.set_append_right _ _ (by omega), h2, show i * 3 + 1 - i * 3 = 1 by omega, show i * 3 + 2 - i * 3 = 2 by omega]
  simp [fcells, hn]
theorem Bt.cut {w : World} {A : Option Addr} {c : Nat} {s : ByteArray} (h : Bt w (.slice A s.size c) s) (n : Nat) (hn : n ≤ s.size) : Bt w (.slice A n n) (s.extract 0 n) := by
  have hsz : (s.extract 0 n).size = n := by rw [ByteArray.size_extract]; omega
  obtain ⟨A', c', he, hc, hr⟩ := h
  simp only [Value.slice.injEq] at he
  obtain ⟨rfl, -, rfl⟩ := he
  refine ⟨A, n, by rw [hsz], by omega, fun hs => ?_⟩
  obtain ⟨blk, off, cs, fz, rfl, hh, hx⟩ := hr (by omega)
  refine ⟨blk, off, cs, fz, rfl, hh, fun j hj => ?_⟩
  rw [hsz] at hj
  rw [hx j (by omega)]
  have e1 := ucells_at s j (by omega)
  have e2 := ucells_at (s.extract 0 n) j (by omega)
  have e3 : (ucells (s.extract 0 n))[j]? = (ucells s)[j]? := by
    unfold ucells
    rw [Lib.extract_data, List.getElem?_map, List.getElem?_map, List.drop_zero, List.getElem?_take, if_pos (by omega)]
  rw [e3, e1] at e2
  exact e2
/-- one file's bytes and what is safe of them are written -/
theorem RowD.write [Forb] {w : World} {base g cap : Nat} {rows : List (FileD × Value)} (h : RowD w base (.slice (some ⟨g, 0, none⟩) rows.length cap) rows) {i : Nat} {x y : FileD × Value} (hx : rows[i]? = some x) (hn : y.1.name = x.1.name) (hy : Bt w y.2 y.1.b) (hyo : OkV y.2) :
    RowD ((w.setCell ⟨g, i * 3 + 1, none⟩ y.2).setCell ⟨g, i * 3 + 2, none⟩ (.int .i64 y.1.safe)) base (.slice (some ⟨g, 0, none⟩) rows.length cap) (rows.set i y) ∧ Moved w ((w.setCell ⟨g, i * 3 + 1, none⟩ y.2).setCell ⟨g, i * 3 + 2, none⟩ (.int .i64 y.1.safe)) g none := by
  have hm : Moved w ((w.setCell ⟨g, i * 3 + 1, none⟩ y.2).setCell ⟨g, i * 3 + 2, none⟩ (.int .i64 y.1.safe)) g none := (Moved.set_ w g (i * 3 + 1) none y.2).trans (Moved.set_ _ g (i * 3 + 2) none _) (.inl rfl)
  rcases h.1.2 with ⟨hv, _⟩ | ⟨g', cap', cur, hv, hb1, hh, hcap, hmax, hcs, htk⟩
  · cases hv
  · simp only [Value.slice.injEq, Option.some.injEq, Addr.mk.injEq, and_true, true_and] at hv
    obtain ⟨rfl, rfl⟩ := hv
    have hblk : Blk w g 90 cur := hh
    have hk := (hblk.set_ (i * 3 + 1) y.2).set_ (i * 3 + 2) (.int .i64 y.1.safe)
    have hu : ∀ cs fz, w.heap[g]? ≠ some (Obj.cells cs 5 fz) := fun cs fz e => blk_type hblk e (by decide)
    refine ⟨⟨⟨by rw [rcells_length], .inr ⟨g, cap, _, by rw [List.length_set], hb1, hk, by rw [List.length_set]; exact hcap, hmax, by simpa using hcs, ?_⟩⟩, fun z hz => ?_⟩, hm⟩
    · rw [List.length_set, ← rcells_set rows i x y hx hn, ← htk]
      have hlt := (List.getElem?_eq_some_iff.1 hx).1
      simp only [Array.toList_setIfInBounds]
      rw [List.take_set, List.take_set]
    · rcases List.mem_or_eq_of_mem_set hz with hz | rfl
      · exact ⟨(h.2 z hz).1.moved hm hu (fun n hn => by cases hn), (h.2 z hz).2⟩
      · exact ⟨hy.moved hm hu (fun n hn => by cases hn), hyo⟩
/-- the disk's row is as it stands, written: its place stays -/
theorem DiskIs.row_put [Forb] {w w1 : World} {base p g : Nat} {v : Value} {D : DiskD} {rows' : List (FileD × Value)} (h : DiskIs w base p v D) (hg : v.ownBlock = some g) (hm : Moved w w1 g none) (hR : RowD w1 base v rows') :
    DiskIs w1 base p v { D with files := rows'.map (·.1) } ∧ Moved w w1 p v.ownBlock := by
  have hne := (h.own g hg).2.2
  refine ⟨⟨h.1, (hm.block p h.blk.lt (fun e => hne e.symm) (by simp)).trans h.blk, rows', rfl, hR⟩, hm.os, hm.tape, hm.output, hm.size, fun k hk _ hk2 => hm.block k hk (fun e => hk2 (by rw [hg, e])) (by simp)⟩
set_option maxRecDepth 100000 in
set_option maxHeartbeats 4000000 in
theorem safely_any [Forb] (w : World) (base p : Nat) (v : Value) (D : DiskD) (i n : Nat) (to : ByteArray) (f : FileD) (h : DiskIs w base p v D) (hi : D.files[i]? = some f) (hn : n ≤ f.b.size) :
    Calls Tryz.prog 134 #[.pointer (some ⟨p, 0, none⟩), .int .i64 i, .int .i64 n, .string to] w fun e w' => e = .returned (.tuple #[]) ∧
      DiskIs w' base p v { D with files := D.files.set i ⟨f.name, f.b.extract 0 n, n⟩ } ∧ Moved w w' p v.ownBlock := by
  obtain ⟨rows, hr, hR⟩ := h.row
  have hrl : rows.length = D.files.length := by rw [← hr, List.length_map]
  have hilt := (List.getElem?_eq_some_iff.1 hi).1
  obtain ⟨g, cap, x, A, c, hv, hx, hx2, hg, c1, c2, c3⟩ := hR.at_ (i := i) (by omega) (Below.refl _ _)
  subst hv
  have hxf : x.1 = f := by
    have : D.files[i]? = some x.1 := by rw [← hr, List.getElem?_map, hx]; rfl
    rw [hi] at this; injection this with this; exact this.symm
  have c0 := h.blk.cell 0
  simp only [List.getElem?_toArray, List.getElem?_cons_zero] at c0
  obtain ⟨hbx, hox⟩ := hR.2 x (List.mem_of_getElem? hx)
  rw [hx2, hxf] at hbx
  rw [hx2] at hox
  rw [hxf] at c1 c2 c3
  have hcut := hbx.cut n hn
  have hcc : f.b.size ≤ c := by obtain ⟨_, _, he, hc, _⟩ := hbx; simp only [Value.slice.injEq] at he; omega
  have hW := hR.write (y := (⟨f.name, f.b.extract 0 n, n⟩, .slice A n n)) hx (by rw [hxf]) hcut (hox.cut (by rw [hxf]; exact hn))
  have hfin := h.row_put rfl hW.2 hW.1
  have hfs : (rows.set i (⟨f.name, f.b.extract 0 n, n⟩, .slice A n n)).map (·.1) = D.files.set i ⟨f.name, f.b.extract 0 n, n⟩ := by rw [List.map_set, hr]
  rw [hfs] at hfin
  have hgb : ∃ cur, Blk w g 90 cur := by
    rcases hR.1.2 with ⟨hv, _⟩ | ⟨g', cap', cur, hv, _, hh, _⟩
    · cases hv
    · simp only [Value.slice.injEq, Option.some.injEq, Addr.mk.injEq, and_true, true_and] at hv
      obtain ⟨rfl, rfl⟩ := hv
      exact ⟨cur, hh⟩
  obtain ⟨cur, hgb⟩ := hgb
  have f1 := hgb.frozen (i * 3 + 1); have f2 := hgb.frozen (i * 3 + 2)
  have HFin := Lib.hid hfin
  have hclip := fun W => clip_any A n c W (by omega)
  have HCl := Lib.hid hclip
  have hiI : (i : Int) < (rows.length : Int) := by omega
  have hnI : (n : Int) ≤ (c : Int) := by omega
  have hnc : n ≤ c := by omega
  have hir : i < rows.length := by omega
  clear hfin hW hcut hbx hfs hclip hR hr h hx hx2 hxf hi hrl hilt
  go_enter Tryz.func134, Tryz.ntmps134
  go_wp2_with fail
  refine (HCl.out _).mono ?_
  rintro e w1 ⟨rfl, rfl⟩
  go_wp2
  go_end0
  exact ⟨rfl, HFin.out.1, HFin.out.2⟩
end Go.Proofs.YthmcimpdehgaoaaGreatDoor
