/- The power comes on again: what stays of a store's files, in plain words. A store of checkpoints: Write, whole. The program's disk: Fail. A store of checkpoints over a disk that may be armed, or off, as the rounds of the laws see it: Fail, Crash, On, Open, Write, Read, Drop. A law's arguments: what a call that writes only new memory leaves of them; []byte arguments. A slice argument, opened: its cells, element by element. -/
import Derived.Test.YthmcimpdehgaoaaGreatDoorClS
import Derived.Test.YthmcimpdehgaoaaGreatDoorCkD
import Derived.Deep.DeepCutAuto
import Derived.Laws.Tables
import Derived.Test.YthmcimpdehgaoaaGreatDoorPk7
import Derived.Test.YthmcimpdehgaoaaGreatDoorCkG
import Derived.Test.YthmcimpdehgaoaaGreatDoorPk19
import Derived.Test.YthmcimpdehgaoaaGreatDoorMem
import Derived.WideKeyArgs
import Derived.WideShapes
import Derived.ProofKit
import Derived.OpenShut
import Derived.KernelRfl
import Derived.Deep.Slices
namespace Go.Proofs.YthmcimpdehgaoaaGreatDoor
open Go.RowKit

theorem mem_onGo (g : FileD) : ∀ (L : List FileD) (ks : List Int), g ∈ onGo L ks ↔ ∃ (i : Nat) (f : FileD), L[i]? = some f ∧ g ∈ keptL f ks[i]? := by
  intro L
  induction L with
  | nil => intro ks; simp [onGo]
  | cons f L ih =>
    intro ks
    rw [onGo, List.mem_append, ih]
    constructor
    · rintro (h | ⟨i, f', h1, h2⟩)
      · exact ⟨0, f, rfl, by rwa [← List.head?_eq_getElem?]⟩
      · exact ⟨i + 1, f', by simpa using h1, by rwa [List.getElem?_tail] at h2⟩
    · rintro ⟨i, f', h1, h2⟩
      cases i with
      | zero =>
        simp at h1
        subst h1
        exact .inl (by rwa [List.head?_eq_getElem?])
      | succ i => exact .inr ⟨i, f', by simpa using h1, by rwa [List.getElem?_tail]⟩
theorem kept_sure {f : FileD} (h : f.safe = f.b.size) (k : Option Int) : keptL f k = [f] := by
  have hk : keptN f k = f.b.size := by
    unfold keptN
    cases k with
    | none => dsimp only; omega
    | some k =>
      dsimp only
      have h1 : f.safe.toNat = f.b.size := by omega
      rw [h1, Nat.sub_self]
      have : k % ((0 : Nat) + 1 : Int) = 0 := by simp
      rw [this]
      simp
  unfold keptL
  rw [hk, if_pos (.inr (by omega))]
  have hx : f.b.extract 0 f.b.size = f.b := by apply ByteArray.ext; simp
  rw [hx, ← h]
theorem kept_tmpC {Z : Nat} {b : ByteArray} {s : Int} (hb : b.size ≤ Z + 17) (h1 : -1 ≤ s) (h2 : s ≤ b.size) (k : Option Int) : TOkC Z (keptL ⟨tmpC, b, s⟩ k) := by
  have hk : keptN ⟨tmpC, b, s⟩ k ≤ b.size := keptN_le ⟨tmpC, b, s⟩ ⟨h1, h2⟩ k
  unfold keptL
  split
  · refine .inr ⟨_, _, rfl, ?_, by omega, ?_⟩
    · rw [ByteArray.size_extract]; omega
    · rw [ByteArray.size_extract]
      have : min (keptN ⟨tmpC, b, s⟩ k) b.size - 0 = keptN ⟨tmpC, b, s⟩ k := by omega
      rw [this]
      exact Int.le_refl _
  · exact .inl rfl
theorem fileK_sure (k : Nat) (b : ByteArray) : (fileK k b).safe = (fileK k b).b.size := rfl
/-- ON -/
theorem on_inv {K Z : Nat} {M : MapC} {T L : List FileD} {q n l : Int} (ks : List Int) (h : InvC K Z M T L) :
    ∃ L' T', (⟨L, q, n, l, true⟩ : DiskD).on ks = ⟨L', q, n, -1, false⟩ ∧ InvC K Z M T' L' := by
  have hs := onGo_sorted h.sorted ks
  have hon : (⟨L, q, n, l, true⟩ : DiskD).on ks = ⟨onGo L ks, q, n, -1, false⟩ := by unfold DiskD.on; rw [if_pos rfl]
  have hF : ∀ {k b}, M k = some b → fileK k b ∈ onGo L ks := by
    intro k b hk
    obtain ⟨i, hi⟩ := List.mem_iff_getElem?.1 (h.file hk)
    exact (mem_onGo _ L ks).2 ⟨i, _, hi, by rw [kept_sure (fileK_sure k b)]; simp⟩
  rcases h.tmp with rfl | ⟨b, s, rfl, hb1, hb2, hb3⟩
  · refine ⟨onGo L ks, [], hon, hs, fun g => ?_, h.key, .inl rfl, h.lim⟩
    constructor
    · intro hg
      obtain ⟨i, f, hi, hg⟩ := (mem_onGo g L ks).1 hg
      rcases (h.mem f).1 (List.mem_of_getElem? hi) with hf | ⟨k, b, hk, rfl⟩
      · cases hf
      · rw [kept_sure (fileK_sure k b), List.mem_singleton] at hg
        exact .inr ⟨k, b, hk, hg⟩
    · rintro (hg | ⟨k, b, hk, rfl⟩)
      · cases hg
      · exact hF hk
  · obtain ⟨i0, hi0⟩ := List.mem_iff_getElem?.1 ((h.mem ⟨tmpC, b, s⟩).2 (.inl (by simp)))
    refine ⟨onGo L ks, keptL ⟨tmpC, b, s⟩ ks[i0]?, hon, hs, fun g => ?_, h.key, kept_tmpC hb1 hb2 hb3 _, h.lim⟩
    constructor
    · intro hg
      obtain ⟨i, f, hi, hg⟩ := (mem_onGo g L ks).1 hg
      rcases (h.mem f).1 (List.mem_of_getElem? hi) with hf | ⟨k, b', hk, rfl⟩
      · have hf := List.mem_singleton.1 hf
        subst hf
        have hii : i = i0 := by
          have e1 := findN_at h.sorted (t := tmpC) (i := i) (by rw [List.getElem?_map, hi]; rfl)
          have e2 := findN_at h.sorted (t := tmpC) (i := i0) (by rw [List.getElem?_map, hi0]; rfl)
          rw [e1] at e2
          injection e2
        subst hii
        exact .inl hg
      · rw [kept_sure (fileK_sure k b'), List.mem_singleton] at hg
        exact .inr ⟨k, b', hk, hg⟩
    · rintro (hg | ⟨k, b', hk, rfl⟩)
      · exact (mem_onGo g L ks).2 ⟨i0, _, hi0, hg⟩
      · exact hF hk
end Go.Proofs.YthmcimpdehgaoaaGreatDoor
namespace Go.Proofs.YthmcimpdehgaoaaGreatDoor
open Go.RowKit Go.Maps

theorem below3 (w : World) (r3 r4 r5 : Obj) : Below w.heap.size w (((w.alloc r3).alloc r4).alloc r5) :=
  (((Below.refl w.heap.size w).alloc (Nat.le_refl _) r3).alloc (by simp) r4).alloc (by simp; omega) r5
set_option maxHeartbeats 2000000 in
theorem cwrite_low (w : World) (gs : Nat) (step : Int) (A : Option Addr) (m c : Nat) (hs : step < 0) : Calls Tryz.prog 12 #[.pointer (some ⟨gs, 0, none⟩), .int .i64 step, .slice A m c] w fun e w' => e = .returned (.int .i64 2) ∧ Below w.heap.size w w' := by
  have HB := Lib.hid (below3 w (.cells #[.pointer (some ⟨gs, 0, none⟩)] 27) (.cells #[.int .i64 step] 3) (.cells #[.slice A m c] 33))
  go_enter Tryz.func12, Tryz.ntmps12
  go_wp2
  go_ret
  exact ⟨rfl, HB.out⟩
set_option maxHeartbeats 2000000 in
theorem cwrite_high (w : World) (gs : Nat) (step : Int) (A : Option Addr) (m c : Nat) (h0 : ¬ step < 0) (hs : 1073741824 < step) : Calls Tryz.prog 12 #[.pointer (some ⟨gs, 0, none⟩), .int .i64 step, .slice A m c] w fun e w' => e = .returned (.int .i64 2) ∧ Below w.heap.size w w' := by
  have HB := Lib.hid (below3 w (.cells #[.pointer (some ⟨gs, 0, none⟩)] 27) (.cells #[.int .i64 step] 3) (.cells #[.slice A m c] 33))
  go_enter Tryz.func12, Tryz.ntmps12
  go_wp2
  go_ret
  exact ⟨rfl, HB.out⟩
set_option maxHeartbeats 2000000 in
theorem cwrite_long (w : World) (gs : Nat) (step : Int) (A : Option Addr) (m c : Nat) (h0 : ¬ step < 0) (h1 : ¬ 1073741824 < step) (hm : (4194304 : Int) < m) : Calls Tryz.prog 12 #[.pointer (some ⟨gs, 0, none⟩), .int .i64 step, .slice A m c] w fun e w' => e = .returned (.int .i64 3) ∧ Below w.heap.size w w' := by
  have HB := Lib.hid (below3 w (.cells #[.pointer (some ⟨gs, 0, none⟩)] 27) (.cells #[.int .i64 step] 3) (.cells #[.slice A m c] 33))
  go_enter Tryz.func12, Tryz.ntmps12
  go_wp2
  go_ret
  exact ⟨rfl, HB.out⟩
set_option maxHeartbeats 2000000 in
theorem cwrite_off [Forb] (w : World) (B p gs : Nat) (v : Value) (D : DiskD) (h : DiskIs w B p v D) (hst : CkSt w gs p) (step : Int) (A : Option Addr) (m c : Nat) (h0 : ¬ step < 0) (h1 : ¬ 1073741824 < step) (hm : ¬ (4194304 : Int) < m) (hoff : D.off = true) : Calls Tryz.prog 12 #[.pointer (some ⟨gs, 0, none⟩), .int .i64 step, .slice A m c] w fun e w' => e = .returned (.int .i64 160) ∧ Below w.heap.size w w' := by
  have hb := below3 w (.cells #[.pointer (some ⟨gs, 0, none⟩)] 27) (.cells #[.int .i64 step] 3) (.cells #[.slice A m c] 33)
  have HB := Lib.hid hb
  have HO := Lib.hid (off_any _ B p v D (h.below hb (Nat.le_refl _)))
  rw [hoff] at HO
  have hcs : (((w.alloc (.cells #[.pointer (some ⟨gs, 0, none⟩)] 27)).alloc (.cells #[.int .i64 step] 3)).alloc (.cells #[.slice A m c] 33)).cell? ⟨gs, 0, none⟩ = some (.pointer (some ⟨p, 0, none⟩)) := Blk.cell (hst.below hb) 0
  clear hb h hoff
  go_enter Tryz.func12, Tryz.ntmps12
  go_wp2_with fail
  refine HO.out.mono ?_
  rintro e w6 ⟨rfl, rfl⟩
  clear HO
  go_wp2
  go_ret
  exact ⟨rfl, HB.out⟩
/-- a write, whatever it is asked for -/
theorem cwrite_any [Forb] (w : World) (B p gs : Nat) (v : Value) (D : DiskD) (h : DiskIs w B p v D) (hB : B ≤ w.heap.size) (hs : CkSt w gs p) (ht : Forb.top ≤ w.heap.size) (hf : FitN D 50000) (step : Int) (bv : Value) (b : ByteArray) (hbx : BtX B w bv b) (hT : Tb B w) :
    Calls Tryz.prog 12 #[.pointer (some ⟨gs, 0, none⟩), .int .i64 step, bv] w (CWriteP B w p gs v (writeC D step b)) := by
  have hend : ∀ {E : Int} {e : Ending} {w' : World}, writeC D step b = (E, D) → (e = .returned (.int .i64 E) ∧ Below w.heap.size w w') → CWriteP B w p gs v (writeC D step b) e w' := by
    intro E e w' hq hh
    rw [hq]
    exact ⟨hh.1, v, Out.of_below h hB hh.2, hs.below hh.2⟩
  by_cases h0 : step < 0
  · obtain ⟨A, c, rfl, -, -⟩ := hbx.here
    exact (cwrite_low w gs step A _ c h0).mono fun e w' hh => hend (by unfold writeC; rw [if_pos (.inl h0)]) hh
  by_cases h1 : 1073741824 < step
  · obtain ⟨A, c, rfl, -, -⟩ := hbx.here
    exact (cwrite_high w gs step A _ c h0 h1).mono fun e w' hh => hend (by unfold writeC; rw [if_pos (.inr h1)]) hh
  by_cases hb : 4194304 < b.size
  · obtain ⟨A, c, rfl, -, -⟩ := hbx.here
    exact (cwrite_long w gs step A _ c h0 h1 (by omega)).mono fun e w' hh => hend (by unfold writeC; rw [if_neg (by omega), if_pos hb]) hh
  by_cases ho : D.off = true
  · obtain ⟨A, c, rfl, -, -⟩ := hbx.here
    exact (cwrite_off w B p gs v D h hs step A _ c h0 h1 (by omega) ho).mono fun e w' hh => hend (by unfold writeC; rw [if_neg (by omega), if_neg (by omega), if_pos ho]) hh
  · obtain ⟨n, rfl⟩ : ∃ n : Nat, step = (n : Int) := ⟨step.toNat, by omega⟩
    have ho' : D.off = false := by simpa using ho
    rw [writeC_eq (by omega) (by omega) ho']
    exact cwrite_yes w B p gs v D h hB hs ht hf n (by omega) bv b (by omega) hbx hT ho'
end Go.Proofs.YthmcimpdehgaoaaGreatDoor
namespace Go.Proofs.YthmcimpdehgaoaaGreatDoor
open Go.RowKit Go.Maps

set_option maxHeartbeats 1000000 in
theorem fail_any (w : World) (base p : Nat) (v : Value) (D : DiskD) (h : DiskIs w base p v D) (z : Int) :
    Calls Tryz.prog 17 #[.pointer (some ⟨p, 0, none⟩), .int .i64 z] w fun e w' => e = .returned (.tuple #[]) ∧ DiskIs w' base p v { D with left := max (-1) z } ∧ Moved w w' p none := by
  have hb := h.blk
  have c3 := hb.cell 3
  simp only [List.getElem?_toArray, List.getElem?_cons_zero, List.getElem?_cons_succ] at c3
  have f3 := hb.frozen 3
  have hm := Moved.set_ w p 3 none (.int .i64 (max (-1) z))
  have hk := hb.set_ 3 (.int .i64 (max (-1) z))
  have hD := h.set_ (D' := { D with left := max (-1) z }) hm hk rfl
  have HD := Lib.hid hD; have HM := Lib.hid hm
  clear hD hm hk h hb
  go_enter Tryz.func17, Tryz.ntmps17
  go_wp2
  go_end0
  exact ⟨rfl, HD.out, HM.out⟩
theorem d_fail {w : World} {B p : Nat} {v : Value} {D D' : DiskD} (h : DiskIs w B p v D) (hB : B ≤ w.heap.size) (z : Int) (hE : { D with left := max (-1) z } = D') :
    Calls Tryz.prog 17 #[.pointer (some ⟨p, 0, none⟩), .int .i64 z] w fun e w' => e = .returned (.tuple #[]) ∧ ∃ v1, Out B w w' p v D' v1 :=
  (fail_any w B p v D h z).mono fun e w' ⟨he, hd, hm⟩ => by
    rw [hE] at hd
    exact ⟨he, Leaves.out h hB ⟨v, hd, ⟨hm.os, hm.tape, hm.output, hm.size, fun k hk hkp _ => hm.block k hk hkp (by simp)⟩, own_new (.inl rfl)⟩⟩
end Go.Proofs.YthmcimpdehgaoaaGreatDoor
namespace Go.Proofs.YthmcimpdehgaoaaGreatDoor
open Go.RowKit Go.Maps

/-- all blocks stay, but those of disks -/
def KpB (wa wb : World) : Prop := ∀ (g : Nat) cs t fz, t ≠ 68 → t ≠ 90 → wa.heap[g]? = some (.cells cs t fz) → wb.heap[g]? = wa.heap[g]?
theorem KpB.of_below {wa wb : World} (h : Below wa.heap.size wa wb) : KpB wa wb := fun g _ _ _ _ _ hh => h.block g (Array.getElem?_eq_some_iff.1 hh).1
theorem KpB.trans {wa wb wc : World} (h : KpB wa wb) (k : KpB wb wc) : KpB wa wc := fun g cs t fz h1 h2 x => by
  have e := h g cs t fz h1 h2 x
  exact (k g cs t fz h1 h2 (e.trans x)).trans e
theorem Out.kpB [Forb] {B p : Nat} {wa wb : World} {v v1 : Value} {D1 : DiskD} (o : Out B wa wb p v D1 v1) : KpB wa wb := o.blk
theorem KpB.blk {wa wb : World} (k : KpB wa wb) {g : Nat} {t : TypeId} {cs : Array Value} (h : Blk wa g t cs) (h1 : t ≠ 68) (h2 : t ≠ 90) : Blk wb g t cs := (k g cs t _ h1 h2 h).trans h
theorem KpB.st {wa wb : World} {gs p : Nat} (k : KpB wa wb) (h : CkSt wa gs p) : CkSt wb gs p := k.blk h (by decide) (by decide)
theorem KpB.own {wa wb : World} {b : Nat} {e : TypeId} {size n : Nat} {v : Value} {xs : List Value} (k : KpB wa wb) (h : wa.ownsRow b e size v n xs) (h1 : e ≠ 68) (h2 : e ≠ 90) : wb.ownsRow b e size v n xs :=
  ownC_keep h fun g cs fz hh => k g cs e fz h1 h2 hh
/-- the disk of a law -/
structure KC (w wx : World) (p : Nat) (v : Value) (K Z : Nat) (q : Int) (M : MapC) (T L : List FileD) (n l : Int) (off : Bool) : Prop where
  is : DiskIs wx w.heap.size p v ⟨L, q, n, l, off⟩
  below : Below w.heap.size w wx
  inv : InvC K Z M T L
  n0 : 0 ≤ n
  l0 : -1 ≤ l
  l1 : l ≤ 9223372036854775807
  q0 : ((K + 2) * (Z + 17) : Nat) ≤ q
section
variable {w wr w2 : World} {p gs K Z : Nat} {v : Value} {q n l : Int} {M : MapC} {T L : List FileD} {off : Bool}
theorem KC.below_ (a : KC w wr p v K Z q M T L n l off) (hb : Below wr.heap.size wr w2) : KC w w2 p v K Z q M T L n l off :=
  ⟨a.is.below hb (Nat.le_refl _), a.below.trans (hb.mono a.below.size), a.inv, a.n0, a.l0, a.l1, a.q0⟩
theorem KC.hB (a : KC w wr p v K Z q M T L n l off) : w.heap.size ≤ wr.heap.size := a.below.size
theorem KC.fit (a : KC w wr p v K Z q M T L n l off) (hn : n ≤ 1000000) : FitN ⟨L, q, n, l, off⟩ 50000 := by
  have h1 := a.inv.used; have h2 := a.inv.len; have h3 := a.inv.lim
  have h4 : (K + 1) * (Z + 17) ≤ 101 * 100017 := Nat.mul_le_mul (by omega) (by omega)
  exact ⟨a.n0, by show n + ((50000 : Nat) : Int) ≤ _; omega, by show L.length + 50000 ≤ _; omega, by show usedL L + 100 * 50000 ≤ _; omega, a.l0, a.l1⟩
theorem kc_new (hl : K ≤ 100 ∧ Z ≤ 100000) (q : Int) (hq : ((K + 2) * (Z + 17) : Nat) ≤ q) (w : World) : Calls Tryz.prog 10 #[.int .i64 q] w fun e w' => e = .returned (.pointer (some ⟨w.heap.size, 0, none⟩)) ∧ KC w w' w.heap.size (.slice none 0 0) K Z q (fun _ => none) [] [] 0 (-1) false := by
  refine (new_any q w).mono ?_
  rintro e w1 ⟨rfl, hd1, hb1⟩
  have hm : max 0 q = q := by omega
  rw [hm] at hd1
  exact ⟨rfl, hd1, hb1, inv_nil hl, Int.le_refl _, by decide, by decide, hq⟩
theorem kc_fail (a : KC w wr p v K Z q M T L n l off) (z : Int) (hz : z ≤ 9223372036854775807) :
    Calls Tryz.prog 17 #[.pointer (some ⟨p, 0, none⟩), .int .i64 z] wr fun e w' => e = .returned (.tuple #[]) ∧ ∃ v', KC w w' p v' K Z q M T L n (max (-1) z) off ∧ KpB wr w' :=
  (d_fail a.is a.hB z rfl).mono fun e w' ⟨he, v1, o⟩ => ⟨he, v1, ⟨o.is, a.below.trans o.below, a.inv, a.n0, by omega, by omega, a.q0⟩, o.kpB⟩
theorem kc_crash (a : KC w wr p v K Z q M T L n l off) :
    Calls Tryz.prog 20 #[.pointer (some ⟨p, 0, none⟩)] wr fun e w' => e = .returned (.tuple #[]) ∧ ∃ v', KC w w' p v' K Z q M T L n (-1) true ∧ KpB wr w' :=
  (d_crash a.is a.hB rfl).mono fun e w' ⟨he, v1, o⟩ => ⟨he, v1, ⟨o.is, a.below.trans o.below, a.inv, a.n0, by decide, by decide, a.q0⟩, o.kpB⟩
theorem kc_on (a : KC w wr p v K Z q M T L n l true) (hn : n ≤ 1000000) {A : Option Addr} {c : Nat} {keep : List Int} (hk : Rd wr 1 A keep.length (keep.map (Value.int .i64))) (hkp : 0 < keep.length → ∀ ad, A = some ad → ad.block ≠ p) (hkl : keep.length ≤ 100000000) :
    Calls Tryz.prog 19 #[.pointer (some ⟨p, 0, none⟩), .slice A keep.length c] wr fun e w' => e = .returned (.tuple #[]) ∧ ∃ L' T' v', KC w w' p v' K Z q M T' L' n (-1) false ∧ KpB wr w' := by
  obtain ⟨L', T', h1, h2⟩ := on_inv (q := q) (n := n) (l := l) keep a.inv
  exact (d_on0 a.is a.hB (a.fit hn).fit a.inv.safe hk hkp hkl h1).mono fun e w' ⟨he, v1, o⟩ => ⟨he, L', T', v1, ⟨o.is, a.below.trans o.below, h2, a.n0, by decide, by decide, a.q0⟩, o.kpB⟩
theorem kc_off (a : KC w wr p v K Z q M T L n l off) : Calls Tryz.prog 18 #[.pointer (some ⟨p, 0, none⟩)] wr fun e w' => e = .returned (.bool off) ∧ wr = w' :=
  (off_any wr w.heap.size p v _ a.is).mono fun _ _ ⟨he, hw⟩ => ⟨he, hw.symm⟩
/-- how Open ends -/
def KcOpen (w wr : World) (p K Z : Nat) (q : Int) (M : MapC) (T L : List FileD) (n l : Int) (e : Ending) (w' : World) : Prop :=
  (∃ gs L' n' l' v', e = .returned (.tuple #[.pointer (some ⟨gs, 0, none⟩), .int .i64 0]) ∧ KC w w' p v' K Z q M [] L' n' l' false ∧ CkSt w' gs p ∧ w.heap.size ≤ gs ∧ n' ≤ n + 1 ∧ (l = -1 → l' = -1) ∧ KpB wr w') ∨
    (∃ v', l ≠ -1 ∧ e = .returned (.tuple #[.pointer none, .int .i64 160]) ∧ KC w w' p v' K Z q M T L (n + 1) (-1) true ∧ KpB wr w')
theorem kc_open (a : KC w wr p v K Z q M T L n l false) (hn : n ≤ 1000000) :
    Calls Tryz.prog 11 #[.pointer (some ⟨p, 0, none⟩)] wr (KcOpen w wr p K Z q M T L n l) := by
  have h2 := open_inv (q := q) (n := n) a.inv (l := l) a.l0
  refine (copen_any wr w.heap.size p v _ a.is a.hB (a.fit hn).fit).mono fun e w' hP => ?_
  obtain ⟨⟨v1, o⟩, hc⟩ := hP
  have hn0 := a.n0; have hl1 := a.l1
  rcases h2 with ⟨L', n', l', e2, i2, a1, a2, a3, a4, a5⟩ | ⟨h3, e2⟩
  · rw [e2] at o hc
    rcases hc with ⟨hc, _⟩ | ⟨_, gs, he, hg, hst⟩
    · exact absurd rfl hc
    · exact .inl ⟨gs, L', n', l', v1, he, ⟨o.is, a.below.trans o.below, i2, by omega, a3, by omega, a.q0⟩, hst, Nat.le_trans a.hB hg, a2, a5, o.kpB⟩
  · rw [e2] at o hc
    rcases hc with ⟨_, he⟩ | ⟨hc, _⟩
    · exact .inr ⟨v1, by omega, he, ⟨o.is, a.below.trans o.below, a.inv, by omega, by decide, by decide, a.q0⟩, o.kpB⟩
    · exact absurd hc (show ¬ (160 : Int) = 0 by decide)
/-- how Write ends -/
def KcWrite (w wr : World) (p gs K Z : Nat) (q : Int) (M : MapC) (k : Nat) (b : ByteArray) (n l : Int) (e : Ending) (w' : World) : Prop :=
  (∃ L' n' l' v', e = .returned (.int .i64 0) ∧ KC w w' p v' K Z q (putC M k b) [] L' n' l' false ∧ CkSt w' gs p ∧ n' ≤ n + 4 ∧ (l = -1 → l' = -1) ∧ KpB wr w') ∨
    (∃ T' L' n' v', l ≠ -1 ∧ e = .returned (.int .i64 160) ∧ KC w w' p v' K Z q M T' L' n' (-1) true ∧ n' ≤ n + 4 ∧ KpB wr w')
theorem kc_write (a : KC w wr p v K Z q M T L n l false) (hn : n ≤ 1000000) (hT : Tb w.heap.size w) (hs : CkSt wr gs p) {k : Nat} {b : ByteArray} (hk : k < K) (hb : b.size ≤ Z) {bv : Value} (hbx : BtX w.heap.size wr bv b) :
    Calls Tryz.prog 12 #[.pointer (some ⟨gs, 0, none⟩), .int .i64 k, bv] wr (KcWrite w wr p gs K Z q M k b n l) := by
  obtain ⟨L', n', l', a1, a2, a3, a4, a5⟩ := write_inv (q := q) (n := n) a.inv (l := l) a.l0 hk hb a.q0
  have hn0 := a.n0; have hl1 := a.l1
  refine (cwrite_any wr w.heap.size p gs v _ a.is a.hB hs (Nat.zero_le _) (a.fit hn) (k : Int) bv b hbx (hT.on a.below)).mono fun e w' hP => ?_
  obtain ⟨he, v1, o, hst⟩ := hP
  rcases a5 with ⟨e2, i2, a6⟩ | ⟨h3, T', e2, i2⟩
  · rw [e2] at he o
    exact .inl ⟨L', n', l', v1, he, ⟨o.is, a.below.trans o.below, i2, by omega, a3, by omega, a.q0⟩, hst, a2, a6, o.kpB⟩
  · rw [e2] at he o
    exact .inr ⟨T', L', n', v1, h3, he, ⟨o.is, a.below.trans o.below, i2, by omega, by decide, by decide, a.q0⟩, a2, o.kpB⟩
/-- how Drop ends -/
def KcDrop (w wr : World) (p gs K Z : Nat) (q : Int) (M : MapC) (T : List FileD) (below : Int) (n l : Int) (e : Ending) (w' : World) : Prop :=
  (∃ L' n' l' v', e = .returned (.int .i64 0) ∧ KC w w' p v' K Z q (dropM M below) T L' n' l' false ∧ CkSt w' gs p ∧ n' ≤ n + K ∧ (l = -1 → l' = -1) ∧ KpB wr w') ∨
    (∃ M' L' n' v', l ≠ -1 ∧ e = .returned (.int .i64 160) ∧ KC w w' p v' K Z q M' T L' n' (-1) true ∧ (∀ j, M' j = M j ∨ M' j = none ∧ (j : Int) < below) ∧ n' ≤ n + K ∧ KpB wr w')
theorem KC.all (a : KC w wr p v K Z q M T L n l off) : (allC ⟨L, q, n, l, off⟩).length ≤ 100 := by
  have h1 : allC ⟨L, q, n, l, off⟩ = keysC K M := all_inv (q := q) (n := n) (l := l) a.inv
  rw [h1]
  have : (keysC K M).length ≤ K := by unfold keysC; exact Nat.le_trans (List.length_filter_le _ _) (by simp)
  have := a.inv.lim
  omega
theorem kc_drop (a : KC w wr p v K Z q M T L n l false) (hn : n ≤ 1000000) (hT : Tb w.heap.size w) (hV : Ev w.heap.size w) (hs : CkSt wr gs p) (below : Int) :
    Calls Tryz.prog 13 #[.pointer (some ⟨gs, 0, none⟩), .int .i64 below] wr (KcDrop w wr p gs K Z q M T below n l) := by
  obtain ⟨M', L', n', l', a1, a2, a3, a4, i2, a5⟩ := drop_inv (q := q) (n := n) a.inv (l := l) a.l0 below
  have hn0 := a.n0; have hl1 := a.l1; have hal := a.all
  refine (cdrop_any wr w.heap.size p gs v _ a.is a.hB hs ((a.fit hn).less (by omega)) a.inv.names (hT.on a.below) (hV.at_ a.below) below (by omega)).mono fun e w' hP => ?_
  obtain ⟨he, v1, o, hst⟩ := hP
  rcases a5 with ⟨e2, a6, rfl⟩ | ⟨h3, e2, a6⟩
  · rw [e2] at he o
    exact .inl ⟨L', n', l', v1, he, ⟨o.is, a.below.trans o.below, i2, by omega, a3, by omega, a.q0⟩, hst, a2, a6, o.kpB⟩
  · rw [e2] at he o
    exact .inr ⟨M', L', n', v1, h3, he, ⟨o.is, a.below.trans o.below, i2, by omega, by decide, by decide, a.q0⟩, a6, a2, o.kpB⟩
/-- what is read of a step -/
def rdC (o : Option ByteArray) : Int × ByteArray := match o with | some b => (0, b) | none => (190, ByteArray.empty)
theorem kc_read (a : KC w wr p v K Z q M T L n l false) (hn : n ≤ 1000000) (hT : Tb w.heap.size w) (hs : CkSt wr gs p) (k : Nat) (hk : k ≤ 1073741824) :
    Calls Tryz.prog 15 #[.pointer (some ⟨gs, 0, none⟩), .int .i64 k] wr (CReadP wr (rdC (M k))) := by
  have := cread_any wr w.heap.size p gs v _ a.is hs (a.fit hn).fit (k : Int) (hT.at_ a.below)
  rw [read_inv a.inv q n l k hk] at this
  exact this
end
end Go.Proofs.YthmcimpdehgaoaaGreatDoor
namespace Go.Proofs.YthmcimpdehgaoaaGreatDoor
open Go.RowKit Go.WideShapes Go.ChangeShapes

theorem same_of_below {W W' : World} (hb : Below W.heap.size W W') {p : MemPlace} (hp : p.block < W.heap.size) : W.sameAt W' p := by
  cases p with
  | cell b off => exact hb.cell (p := ⟨b, off, none⟩) hp
  | map b => exact hb.block b hp
section
variable {H : Type} {enc : TypeId × Value → H} {P : Program}
theorem trodAll_stays (hl : laidOutB P = true) {W W' : World} {sp' : Nat → Bool} : ∀ (ts : List TypeId) (vs : List Value) (ds : List (DataW H)) (ps : List MemPlace), DataW.TrodAll enc P W 0 (fun _ => true) true ts vs ds ps →
    (∀ t ∈ ts, P.readableRec t = true ∧ t < P.types.size) → (∀ p ∈ ps, W.sameAt W' p) → (∀ p ∈ ps, sp' p.block = true) → DataW.TrodAll enc P W' 0 sp' true ts vs ds ps := by
  intro ts
  induction ts with
  | nil =>
    intro vs ds ps h _ _ _
    obtain ⟨rfl, rfl, rfl⟩ := trodAll_nil h
    exact trodAll_mk0
  | cons t ts ih =>
    intro vs ds ps h hr hs hp
    obtain ⟨v, vs', d, ds', p, q, rfl, rfl, rfl, h0, h1⟩ := trodAll_cons h
    exact trodAll_cons_mk (WideElems.Trod_stays hl (hr t (by simp)).1 (hr t (by simp)).2 h0 (fun x hx => hs x (List.mem_append_left _ hx)) (fun x hx => hp x (List.mem_append_left _ hx)))
      (ih _ _ _ h1 (fun u hu => hr u (List.mem_cons_of_mem _ hu)) (fun x hx => hs x (List.mem_append_right _ hx)) (fun x hx => hp x (List.mem_append_right _ hx)))
/-- a law answers true, and its arguments read as they did -/
theorem law_post {f : Func} {s : ChangeSpec} {W W' : World} {args : Array Value} {ds : List (DataW H)} {ps : List MemPlace} {tb : TypeId} (hl : laidOutB P = true) (hvars : s.vars = [])
    (hW : DataW.Whole enc P f.params.toList s.vars false W args.toList ds [] ps) (hA : DataW.TrodAll enc P W 0 (fun _ => true) true f.params.toList args.toList ds ps)
    (hr : ∀ t ∈ f.params.toList, P.readableRec t = true ∧ t < P.types.size) (hres : f.resultTypes = #[tb]) (htb : P.underlying tb = some .bool) (hfn : s.fn H (ds ++ []) = { results := [.lit (.bool true)], args := ds })
    (hb : Below W.heap.size W W') : s.post enc P f false true false false W args (.bool true) W' := by
  have hlt : ∀ p ∈ ps, p.block < W.heap.size := fun p hp => hW.lt p hp
  have hsame : ∀ p ∈ ps, W.sameAt W' p := fun p hp => same_of_below hb (hlt p hp)
  refine post_of_below (pa := ps) (pv := []) hW ?_ ?_ ?_ (by simp) hb ?_
  · intro b sp hd
    rw [hfn, hres]
    exact trodAll_cons_mk (shut_bool htb true) trodAll_mk0
  · intro sp hsp
    rw [hfn]
    exact trodAll_stays hl _ _ _ _ hA hr hsame hsp
  · intro sp hsp
    rw [hfn, hvars]
    rfl
  · exact ok_one hres rfl (okWide_bool_mk htb true)
end
/-- a []byte argument -/
theorem open_btr {P : Program} {H : Type} {enc : TypeId × Value → H} {t e : TypeId} (ht : P.underlying t = some (.slice e)) (he : P.underlying e = some (.int .u8)) (hc : P.cellsOf e = 1) {W : World} {base : Nat} {v : Value} {d : DataW H} {ps : List MemPlace}
    (hv : Value.okWide P W .any base t v) (h : DataW.Trod enc P W 0 (fun _ => true) true t v d ps) :
    ∃ (A : Option Addr) (l : List UInt8) (c : Nat), v = .slice A l.length c ∧ l.length ≤ c ∧ c ≤ maxLen ∧ (0 < l.length → ∃ ad, A = some ad ∧ ad.block < W.heap.size ∧ ∀ j (hj : j < l.length), W.cell? (ad.add j) = some (.int .u8 (l[j].toNat : Int))) := by
  obtain ⟨a0, len0, cap0, rfl⟩ := okWide_slice ht hv
  obtain ⟨n, hn⟩ := h
  rcases open_ints ht he hc hn with ⟨hcs, _⟩ | ⟨a, len, cap, zs, hcs, _, hl, hm, hz, _, hcell, hw⟩
  · simp [Value.cells] at hcs
    obtain ⟨rfl, rfl, rfl⟩ := hcs
    exact ⟨none, [], 0, rfl, Nat.le_refl _, Nat.zero_le _, fun h => absurd h (by simp)⟩
  · simp [Value.cells] at hcs
    obtain ⟨rfl, rfl, rfl⟩ := hcs
    simp only [if_true] at hz
    have hlen : ((zs.take len0).map fun z => UInt8.ofNat z.toNat).length = len0 := by rw [List.length_map, List.length_take]; omega
    refine ⟨some a, (zs.take len0).map fun z => UInt8.ofNat z.toNat, cap0, by rw [hlen], by rw [hlen]; exact hl, hm, fun h0 => ⟨a, rfl, ?_, fun j hj => ?_⟩⟩
    · have := hcell 0 (by rw [hlen] at h0; omega)
      have h1 := World.block_lt_of_cell? _ _ this
      rw [block_of_add] at h1
      exact h1
    · have hj' : j < len0 := by rw [hlen] at hj; exact hj
      rw [hcell j (by omega)]
      have hwj := bounds_u8 (hw (zs.getD j 0) (by rw [List.getD_eq_getElem?_getD, List.getElem?_eq_getElem (by omega)]; exact List.getElem_mem _))
      have e1 : (((zs.take len0).map fun z => UInt8.ofNat z.toNat)[j]).toNat = (zs.getD j 0).toNat := by
        rw [List.getElem_map, List.getElem_take, UInt8.toNat_ofNat']
        have e2 : zs.getD j 0 = zs[j] := by rw [List.getD_eq_getElem?_getD, List.getElem?_eq_getElem (by omega)]; rfl
        rw [e2] at hwj ⊢
        omega
      rw [e1, Int.toNat_of_nonneg hwj.1]
end Go.Proofs.YthmcimpdehgaoaaGreatDoor
namespace Go.Proofs.YthmcimpdehgaoaaGreatDoor
open Go.RowKit Go.WideShapes Go.ChangeShapes

theorem cell_spot {W : World} {a : Addr} {v : Value} (h : W.cell? a = some v) : a.spot = none ∧ a.block < W.heap.size := by
  refine ⟨?_, World.block_lt_of_cell? _ _ h⟩
  unfold World.cell? at h
  split at h
  · split at h
    · cases h
    · rename_i hs
      cases hsp : a.spot with
      | none => rfl
      | some _ => rw [hsp] at hs; simp at hs
  · cases h
section
variable {P : Program} {H : Type} {enc : TypeId × Value → H} {t e : TypeId} {W : World}
theorem open_row_cells (ht : P.underlying t = some (.slice e)) (hk : 0 < P.cellsOf e) {n : Nat} {cs : List Value} {x : DataW H × List MemPlace} (hn : DataW.trod enc P W 0 (fun _ => true) true n t cs = some x) :
    ∃ (A : Option Addr) (len c : Nat), cs = [.slice A len c] ∧ len ≤ c ∧ c ≤ maxLen ∧ (len = 0 ∨ ∃ b o, A = some ⟨b, o, none⟩ ∧ b < W.heap.size ∧
      ∀ i, i < len → ∃ cs' m y, cs'.length = P.cellsOf e ∧ (∀ j, j < P.cellsOf e → W.cell? ⟨b, o + i * P.cellsOf e + j, none⟩ = cs'[j]?) ∧ DataW.trod enc P W 0 (fun _ => true) true m e cs' = some y) := by
  rcases Go.Deep.open_slice ht hn with ⟨hcs, _⟩ | ⟨a, len, cap, m, n', D, Pl, hcs, _, hl, hm, hmm, _, hx⟩
  · exact ⟨none, 0, 0, hcs, Nat.le_refl _, Nat.zero_le _, .inl rfl⟩
  · simp only [if_true] at hmm
    subst hmm
    refine ⟨some a, len, m, hcs, hl, hm, ?_⟩
    rcases Nat.eq_zero_or_pos len with h0 | h0
    · exact .inl h0
    · right
      obtain ⟨cs0, h1, _⟩ := hx 0 (by omega)
      obtain ⟨_, hlen, hcell⟩ := World.cells?_some h1
      have hc0 := hcell 0 hk
      rw [List.getElem?_eq_getElem (by omega)] at hc0
      have ha : (a.add (0 * P.cellsOf e)).add 0 = a := by simp [Addr.add]
      rw [ha] at hc0
      obtain ⟨hs, hb⟩ := cell_spot hc0
      obtain ⟨b, o, sp⟩ := a
      simp only at hs
      subst hs
      refine ⟨b, o, rfl, hb, fun i hi => ?_⟩
      obtain ⟨cs', h1, h2⟩ := hx i (by omega)
      obtain ⟨_, hlen, hcell⟩ := World.cells?_some h1
      refine ⟨cs', n', _, hlen, fun j hj => ?_, h2⟩
      rw [← hcell j hj]
      congr 1
      unfold Addr.add
      split <;> split <;> simp_all <;> omega
theorem open_row (ht : P.underlying t = some (.slice e)) (hk : 0 < P.cellsOf e) {base : Nat} {v : Value} {d : DataW H} {ps : List MemPlace} (hv : Value.okWide P W .any base t v) (h : DataW.Trod enc P W 0 (fun _ => true) true t v d ps) :
    ∃ (A : Option Addr) (len c : Nat), v = .slice A len c ∧ len ≤ c ∧ c ≤ maxLen ∧ (len = 0 ∨ ∃ b o, A = some ⟨b, o, none⟩ ∧ b < W.heap.size ∧
      ∀ i, i < len → ∃ cs' m y, cs'.length = P.cellsOf e ∧ (∀ j, j < P.cellsOf e → W.cell? ⟨b, o + i * P.cellsOf e + j, none⟩ = cs'[j]?) ∧ DataW.trod enc P W 0 (fun _ => true) true m e cs' = some y) := by
  obtain ⟨a0, len0, cap0, rfl⟩ := okWide_slice ht hv
  obtain ⟨n, hn⟩ := h
  obtain ⟨A, len, c, hcs, hr⟩ := open_row_cells ht hk hn
  simp [Value.cells] at hcs
  obtain ⟨rfl, rfl, rfl⟩ := hcs
  exact ⟨_, _, _, rfl, hr⟩
end
/-- what each index has, as a list -/
theorem list_of_each {α : Type} {n : Nat} {p : Nat → α → Prop} (h : ∀ i, i < n → ∃ x, p i x) : ∃ l : List α, l.length = n ∧ ∀ i x, l[i]? = some x → p i x := by
  induction n with
  | zero => exact ⟨[], rfl, by simp⟩
  | succ n ih =>
    obtain ⟨l, hl, hp⟩ := ih fun i hi => h i (by omega)
    obtain ⟨x, hx⟩ := h n (by omega)
    refine ⟨l ++ [x], by simp [hl], fun i y hy => ?_⟩
    rw [List.getElem?_append] at hy
    split at hy
    · exact hp i y hy
    · rw [List.getElem?_singleton] at hy
      split at hy
      · injection hy with hy; subst hy
        obtain rfl : i = n := by omega
        exact hx
      · cases hy
end Go.Proofs.YthmcimpdehgaoaaGreatDoor
