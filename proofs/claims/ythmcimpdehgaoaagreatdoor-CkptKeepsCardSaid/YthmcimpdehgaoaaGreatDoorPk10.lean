/- The power comes on again: what stays of a store's files, in plain words. What calls of a disk leave, one behind the other; Off. The table of powers that strconv reads. -/
import Derived.Test.YthmcimpdehgaoaaGreatDoorClS
import Derived.Test.YthmcimpdehgaoaaGreatDoorDk4
import Derived.Test.YthmcimpdehgaoaaGreatDoorMem
import Derived.Test.YthmcimpdehgaoaaGreatDoorShelf
import Derived.Lib.LaidTab
import Derived.Shelf.Abstract
import Derived.Lib.AppendIntMem
namespace Go.Proofs.YthmcimpdehgaoaaGreatDoor
open Go.RowKit

theorem mem_onGo (g : FileD) : ∀ (L : List FileD) (ks : List Int), g ∈ onGo L ks ↔ ∃ (i : Nat) (f : FileD), L[i]? = some f ∧ g ∈ keptL f ks[i]? := by
  intro L
  induction L with
  | nil => intro ks; simp [onGo]
  | cons f L ih =>
    intro ks
    rw [onGo, List.mem_append, ih]
    constructor
    · rintro (h | ⟨i, f', h1, h2⟩)
      · exact ⟨0, f, rfl, by rwa [← List.head?_eq_getElem?]⟩
      · exact ⟨i + 1, f', by simpa using h1, by rwa [List.getElem?_tail] at h2⟩
    · rintro ⟨i, f', h1, h2⟩
      cases i with
      | zero =>
        simp at h1
        subst h1
        exact .inl (by rwa [List.head?_eq_getElem?])
      | succ i => exact .inr ⟨i, f', by simpa using h1, by rwa [List.getElem?_tail]⟩
theorem kept_sure {f : FileD} (h : f.safe = f.b.size) (k : Option Int) : keptL f k = [f] := by
  have hk : keptN f k = f.b.size := by
    unfold keptN
    cases k with
    | none => dsimp only; omega
    | some k =>
      dsimp only
      have h1 : f.safe.toNat = f.b.size := by omega
      rw [h1, Nat.sub_self]
      have : k % ((0 : Nat) + 1 : Int) = 0 := by simp
      rw [this]
      simp
  unfold keptL
  rw [hk, if_pos (.inr (by omega))]
  have hx : f.b.extract 0 f.b.size = f.b := by apply ByteArray.ext; simp
  rw [hx, ← h]
theorem kept_tmpC {Z : Nat} {b : ByteArray} {s : Int} (hb : b.size ≤ Z + 17) (h1 : -1 ≤ s) (h2 : s ≤ b.size) (k : Option Int) : TOkC Z (keptL ⟨tmpC, b, s⟩ k) := by
  have hk : keptN ⟨tmpC, b, s⟩ k ≤ b.size := keptN_le ⟨tmpC, b, s⟩ ⟨h1, h2⟩ k
  unfold keptL
  split
  · refine .inr ⟨_, _, rfl, ?_, by omega, ?_⟩
    · rw [ByteArray.size_extract]; omega
    · rw [ByteArray.size_extract]
      have : min (keptN ⟨tmpC, b, s⟩ k) b.size - 0 = keptN ⟨tmpC, b, s⟩ k := by omega
      rw [this]
      exact Int.le_refl _
  · exact .inl rfl
theorem fileK_sure (k : Nat) (b : ByteArray) : (fileK k b).safe = (fileK k b).b.size := rfl
/-- ON -/
theorem on_inv {K Z : Nat} {M : MapC} {T L : List FileD} {q n l : Int} (ks : List Int) (h : InvC K Z M T L) :
    ∃ L' T', (⟨L, q, n, l, true⟩ : DiskD).on ks = ⟨L', q, n, -1, false⟩ ∧ InvC K Z M T' L' := by
  have hs := onGo_sorted h.sorted ks
  have hon : (⟨L, q, n, l, true⟩ : DiskD).on ks = ⟨onGo L ks, q, n, -1, false⟩ := by unfold DiskD.on; rw [if_pos rfl]
  have hF : ∀ {k b}, M k = some b → fileK k b ∈ onGo L ks := by
    intro k b hk
    obtain ⟨i, hi⟩ := List.mem_iff_getElem?.1 (h.file hk)
    exact (mem_onGo _ L ks).2 ⟨i, _, hi, by rw [kept_sure (fileK_sure k b)]; simp⟩
  rcases h.tmp with rfl | ⟨b, s, rfl, hb1, hb2, hb3⟩
  · refine ⟨onGo L ks, [], hon, hs, fun g => ?_, h.key, .inl rfl, h.lim⟩
    constructor
    · intro hg
      obtain ⟨i, f, hi, hg⟩ := (mem_onGo g L ks).1 hg
      rcases (h.mem f).1 (List.mem_of_getElem? hi) with hf | ⟨k, b, hk, rfl⟩
      · cases hf
      · rw [kept_sure (fileK_sure k b), List.mem_singleton] at hg
        exact .inr ⟨k, b, hk, hg⟩
    · rintro (hg | ⟨k, b, hk, rfl⟩)
      · cases hg
      · exact hF hk
  · obtain ⟨i0, hi0⟩ := List.mem_iff_getElem?.1 ((h.mem ⟨tmpC, b, s⟩).2 (.inl (by simp)))
    refine ⟨onGo L ks, keptL ⟨tmpC, b, s⟩ ks[i0]?, hon, hs, fun g => ?_, h.key, kept_tmpC hb1 hb2 hb3 _, h.lim⟩
    constructor
    · intro hg
      obtain ⟨i, f, hi, hg⟩ := (mem_onGo g L ks).1 hg
      rcases (h.mem f).1 (List.mem_of_getElem? hi) with hf | ⟨k, b', hk, rfl⟩
      · have hf := List.mem_singleton.1 hf
        subst hf
        have hii : i = i0 := by
          have e1 := findN_at h.sorted (t := tmpC) (i := i) (by rw [List.getElem?_map, hi]; rfl)
          have e2 := findN_at h.sorted (t := tmpC) (i := i0) (by rw [List.getElem?_map, hi0]; rfl)
          rw [e1] at e2
          injection e2
        subst hii
        exact .inl hg
      · rw [kept_sure (fileK_sure k b'), List.mem_singleton] at hg
        exact .inr ⟨k, b', hk, hg⟩
    · rintro (hg | ⟨k, b', hk, rfl⟩)
      · exact (mem_onGo g L ks).2 ⟨i0, _, hi0, hg⟩
      · exact hF hk
end Go.Proofs.YthmcimpdehgaoaaGreatDoor
namespace Go.Proofs.YthmcimpdehgaoaaGreatDoor
open Go.RowKit Go.Maps

section
variable [Forb] {w w1 w2 : World} {B p gs : Nat} {v v1 v2 : Value} {D D1 D2 : DiskD}
theorem Out.of_below (h : DiskIs w B p v D) (hB : B ≤ w.heap.size) (hb : Below w.heap.size w w1) : Out B w w1 p v D v :=
  ⟨h.below hb (Nat.le_refl _), hb.mono hB, fun _ _ hx => hx.below hb, fun g _ _ _ _ _ hg => hb.block g (Array.getElem?_eq_some_iff.1 hg).1, fun _ _ _ _ h2 ha => ⟨h2.below hb (Nat.le_refl _), ha⟩⟩
theorem Out.trans (o : Out B w w1 p v D1 v1) (q : Out B w1 w2 p v1 D2 v2) : Out B w w2 p v D2 v2 :=
  ⟨q.is, o.below.trans q.below, fun x s h => q.bt x s (o.bt x s h), fun g cs t fz h1 h2 hh => by
    have e := o.blk g cs t fz h1 h2 hh
    exact (q.blk g cs t fz h1 h2 (e.trans hh)).trans e, fun B' p' v' D' h2 ha => by
    obtain ⟨a, b⟩ := o.other B' p' v' D' h2 ha
    exact q.other B' p' v' D' a b⟩
theorem Out.keep_blk (o : Out B w w1 p v D1 v1) {g : Nat} {t : TypeId} {cs : Array Value} (h : Blk w g t cs) (h1 : t ≠ 68) (h2 : t ≠ 90) : Blk w1 g t cs := (o.blk g cs t _ h1 h2 h).trans h
end
set_option maxHeartbeats 1000000 in
theorem off_any [Forb] (w : World) (B p : Nat) (v : Value) (D : DiskD) (h : DiskIs w B p v D) :
    Calls Tryz.prog 18 #[.pointer (some ⟨p, 0, none⟩)] w fun e w' => e = .returned (.bool D.off) ∧ w' = w := by
  have c4 := h.blk.cell 4
  simp only [List.getElem?_toArray, List.getElem?_cons_zero, List.getElem?_cons_succ] at c4
  clear h
  go_enter Tryz.func18, Tryz.ntmps18
  go_wp2
  go_ret
  exact ⟨rfl, rfl⟩
end Go.Proofs.YthmcimpdehgaoaaGreatDoor
namespace Go.Proofs.YthmcimpdehgaoaaGreatDoor
open Go.RowKit

/-- the table of powers that strconv reads lies below the call's own -/
def Tb (B : Nat) (w : World) : Prop := Lib.TabBelow Tryz.prog B w "internal/strconv.uint64pow10" .u64 Lib.pow10Tab
theorem Tb.on {B : Nat} {w w' : World} (h : Tb B w) (hb : Below B w w') : Tb B w' := Lib.TabBelow.on h hb
theorem Tb.at_ {w W : World} (h : Tb w.heap.size w) (hb : Below w.heap.size w W) : Tb W.heap.size W := fun w2 h2 => h w2 (hb.trans (h2.mono hb.size))
end Go.Proofs.YthmcimpdehgaoaaGreatDoor
