/- A store of manifests amid others' files, as the laws' rounds see it: its state, Write, Open, Newest. The power comes on again: what stays of files that are safe, and of the one that is not, in plain words. -/
import Derived.Test.YtlcgkcafelpglaaGreatDoorMaY
import Derived.Test.YtlcgkcafelpglaaGreatDoorMaX
namespace Go.Proofs.YtlcgkcafelpglaaGreatDoor
open Go.RowKit Go.Maps

/-- a store over a disk of a quota, others' files X, behind some steps -/
structure StSt (w wr : World) (p gs : Nat) (v : Value) (q : Int) (X L : List FileD) (n : Int) (S : StD) : Prop where
  is : DiskIs wr w.heap.size p v ⟨L, q, n, -1, false⟩
  st : StIs wr gs p S
  gl : w.heap.size ≤ gs
  below : Below w.heap.size w wr
  ok : StOk S
  has : Has L (keptF S ++ X)
  n0 : 0 ≤ n
theorem StOk.some_eq {S : StD} (h : StOk S) : S.some = decide (0 < S.m.n) := by
  cases hs : S.some with
  | true => have := (h.1 hs).pos; exact (decide_eq_true (by omega)).symm
  | false => rw [h.2 hs]; rfl
theorem nextS_ok {S : StD} {m : ManM} (h : StOk S) (hm : m.Ok) (hy : (nextM S m).may = true) : StOk ⟨nextM S m, true⟩ := ⟨fun _ => next_good h hm hy, fun e => by cases e⟩
theorem kept_used {S : StD} {L X : List FileD} (h : Has L (keptF S ++ X)) : usedL L ≤ 50 + usedL X ∧ L.length ≤ 1 + X.length := by
  rw [h.used, h.length, usedL_append, List.length_append]
  unfold keptF
  split
  · have : usedL [fileM S.m] = 50 := by simp [usedL, fileM, S.m.bytes_size]
    rw [this]; exact ⟨Nat.le_refl _, Nat.le_refl _⟩
  · have : usedL [] = 0 := rfl
    rw [this]; simp
section
variable {w wr w2 : World} {p gs : Nat} {v v2 : Value} {q n : Int} {X L : List FileD} {S : StD} {m : ManM}
theorem StSt.below_ (a : StSt w wr p gs v q X L n S) (hb : Below wr.heap.size wr w2) : StSt w w2 p gs v q X L n S :=
  ⟨a.is.below hb (Nat.le_refl _), a.st.below hb, a.gl, a.below.trans (hb.mono a.below.size), a.ok, a.has, a.n0⟩
theorem StSt.fit (a : StSt w wr p gs v q X L n S) (hn : n ≤ 1000000) (hX : usedL X ≤ 1000000 ∧ X.length ≤ 1000) : FitN ⟨L, q, n, -1, false⟩ (L.length + 6) := by
  have h := kept_used a.has
  exact fitN_of a.n0 (by omega) (by omega) (by omega)
theorem st_write (a : StSt w wr p gs v q X L n S) (hX : Oth X) (hT : Tb w.heap.size w) (hn : n ≤ 1000000) (hXs : usedL X ≤ 1000000 ∧ X.length ≤ 1000) (hq : (usedL X : Int) + 100 ≤ q) (hm : m.Ok) (hy : (nextM S m).may = true) :
    Calls Tryz.prog 22 #[.pointer (some ⟨gs, 0, none⟩), .agg (mCells m)] wr fun e w' => e = .returned (.int .i64 0) ∧ ∃ L' n' v', StSt w w' p gs v' q X L' n' ⟨nextM S m, true⟩ ∧ n' ≤ n + 5 ∧ Aft w.heap.size gs wr w' p v ⟨nextM S m, true⟩ ⟨L', q, n', -1, false⟩ v' := by
  have h := kept_used a.has
  refine (write_c (T := []) a.is (hT.on a.below) hX a.ok a.gl a.st ((a.fit hn hXs).less (by omega)) hm hy (.inl rfl) a.has (by omega)).mono fun e w' ⟨L', n', v', he, ha, hh, h1, h2⟩ => ?_
  exact ⟨he, L', n', v', ⟨ha.is, ha.st, a.gl, a.below.trans ha.below, nextS_ok a.ok hm hy, hh, by have := a.n0; omega⟩, h2, ha⟩
theorem st_write_no (a : StSt w wr p gs v q X L n S) (hT : Tb w.heap.size w) (hn : n ≤ 1000000) (hXs : usedL X ≤ 1000000 ∧ X.length ≤ 1000) (hm : m.Ok) (hy : (nextM S m).may = false) :
    Calls Tryz.prog 22 #[.pointer (some ⟨gs, 0, none⟩), .agg (mCells m)] wr fun e w' => e = .returned (.int .i64 2) ∧ ∃ v', StSt w w' p gs v' q X L n S ∧ Aft w.heap.size gs wr w' p v S ⟨L, q, n, -1, false⟩ v' := by
  refine (write_no a.is (hT.on a.below) a.ok a.gl a.st ((a.fit hn hXs).less (by omega)) hm hy).mono fun e w' ⟨he, v', ha⟩ => ?_
  exact ⟨he, v', ⟨ha.is, ha.st, a.gl, a.below.trans ha.below, a.ok, a.has, a.n0⟩, ha⟩
theorem st_open (a : StSt w wr p gs v q X L n S) (hX : Oth X) (hT : Tb w.heap.size w) (hn : n ≤ 1000000) (hXs : usedL X ≤ 1000000 ∧ X.length ≤ 1000) :
    Calls Tryz.prog 9 #[.pointer (some ⟨p, 0, none⟩)] wr fun e w' => ∃ g2, e = .returned (.tuple #[.pointer (some ⟨g2, 0, none⟩), .int .i64 0]) ∧ ∃ L' n' v', StSt w w' p g2 v' q X L' n' S ∧ n' ≤ n + 1 ∧ Out w.heap.size wr w' p v ⟨L', q, n', -1, false⟩ v' ∧ wr.heap.size ≤ g2 := by
  refine (open_c (G := []) a.is (hT.on a.below) hX a.ok a.below.size ((a.fit hn hXs).less (by omega)) (.inl (.inl rfl)) a.has).mono fun e w' ⟨g2, L', n', v', he, ho, hst, hg, hh, h1, h2⟩ => ?_
  exact ⟨g2, he, L', n', v', ⟨ho.is, hst, Nat.le_trans a.below.size hg, a.below.trans ho.below, a.ok, hh, by have := a.n0; omega⟩, h2, ho, hg⟩
end
end Go.Proofs.YtlcgkcafelpglaaGreatDoor
namespace Go.Proofs.YtlcgkcafelpglaaGreatDoor
open Go.RowKit

theorem mem_onGo (g : FileD) : ∀ (L : List FileD) (ks : List Int), g ∈ onGo L ks ↔ ∃ (i : Nat) (f : FileD), L[i]? = some f ∧ g ∈ keptL f ks[i]? := by
  intro L
  induction L with
  | nil => intro ks; simp [onGo]
  | cons f L ih =>
    intro ks
    rw [onGo, List.mem_append, ih]
    constructor
    · rintro (h | ⟨i, f', h1, h2⟩)
      · exact ⟨0, f, rfl, by rwa [← List.head?_eq_getElem?]⟩
      · exact ⟨i + 1, f', by simpa using h1, by rwa [List.getElem?_tail] at h2⟩
    · rintro ⟨i, f', h1, h2⟩
      cases i with
      | zero =>
        simp at h1
        subst h1
        exact .inl (by rwa [List.head?_eq_getElem?])
      | succ i => exact .inr ⟨i, f', by simpa using h1, by rwa [List.getElem?_tail]⟩
/-- a file all of whose bytes are safe -/
def Sure (f : FileD) : Prop := f.safe = f.b.size
theorem kept_sure {f : FileD} (h : Sure f) (k : Option Int) : keptL f k = [f] := by
  unfold Sure at h
  have hk : keptN f k = f.b.size := by
    unfold keptN
    cases k with
    | none => dsimp only; omega
    | some k =>
      dsimp only
      have h1 : f.safe.toNat = f.b.size := by omega
      rw [h1, Nat.sub_self]
      have : k % ((0 : Nat) + 1 : Int) = 0 := by simp
      rw [this]
      simp
  unfold keptL
  rw [hk, if_pos (.inr (by omega))]
  have hx : f.b.extract 0 f.b.size = f.b := by apply ByteArray.ext; simp
  rw [hx, ← h]
theorem kept_tmp {b : ByteArray} {s : Int} (hb : b.size ≤ 50) (h1 : -1 ≤ s) (h2 : s ≤ b.size) (k : Option Int) : TOk (keptL ⟨tmpN, b, s⟩ k) := by
  have hk := keptN_le ⟨tmpN, b, s⟩ ⟨h1, h2⟩ k
  unfold keptL
  split
  · refine .inr ⟨_, _, rfl, ?_, by omega, ?_⟩
    · have hk' : keptN ⟨tmpN, b, s⟩ k ≤ b.size := hk
      rw [ByteArray.size_extract]; omega
    · have hk' : keptN ⟨tmpN, b, s⟩ k ≤ b.size := hk
      rw [ByteArray.size_extract]
      have : min (keptN ⟨tmpN, b, s⟩ k) b.size - 0 = keptN ⟨tmpN, b, s⟩ k := by omega
      rw [this]
      exact Int.le_refl _
  · exact .inl rfl
theorem TOk.name {T : List FileD} (h : TOk T) : ∀ f ∈ T, f.name = tmpN := by
  rcases h with rfl | ⟨b, s, rfl, -⟩
  · intro f hf; cases hf
  · intro f hf; rw [List.mem_singleton.1 hf]
/-- ON -/
theorem on_has {L T F : List FileD} {q n l : Int} (ks : List Int) (hT : TOk T) (hF : ∀ f ∈ F, Sure f ∧ f.name ≠ tmpN) (h : Has L (T ++ F)) :
    ∃ L' T', (⟨L, q, n, l, true⟩ : DiskD).on ks = ⟨L', q, n, -1, false⟩ ∧ TOk T' ∧ Has L' (T' ++ F) := by
  have hs := onGo_sorted h.1 ks
  have hndF : F.Nodup := (List.nodup_append.1 h.2.1).2.1
  have hLi : ∀ i f, L[i]? = some f → f ∈ T ∨ f ∈ F := fun i f hi => List.mem_append.1 ((h.2.2 f).1 (List.mem_of_getElem? hi))
  have hFL : ∀ f ∈ F, ∃ i, L[i]? = some f := fun f hf => List.mem_iff_getElem?.1 ((h.2.2 f).2 (List.mem_append_right _ hf))
  have hon : (⟨L, q, n, l, true⟩ : DiskD).on ks = ⟨onGo L ks, q, n, -1, false⟩ := by unfold DiskD.on; rw [if_pos rfl]
  rcases hT with rfl | ⟨b, s, rfl, hb1, hb2, hb3⟩
  · refine ⟨onGo L ks, [], hon, .inl rfl, hs, hndF, fun g => ?_⟩
    rw [mem_onGo, List.nil_append]
    constructor
    · rintro ⟨i, f, hi, hg⟩
      have hf : f ∈ F := (hLi i f hi).resolve_left (by simp)
      rw [kept_sure (hF f hf).1, List.mem_singleton] at hg
      subst hg
      exact hf
    · intro hg
      obtain ⟨i, hi⟩ := hFL g hg
      exact ⟨i, g, hi, by rw [kept_sure (hF g hg).1]; simp⟩
  · obtain ⟨i0, hi0⟩ := List.mem_iff_getElem?.1 ((h.2.2 ⟨tmpN, b, s⟩).2 (by simp))
    have hT' := kept_tmp hb1 hb2 hb3 ks[i0]?
    refine ⟨onGo L ks, keptL ⟨tmpN, b, s⟩ ks[i0]?, hon, hT', hs, ?_, fun g => ?_⟩
    · refine List.nodup_append.2 ⟨?_, hndF, fun x hx y hy e => ?_⟩
      · rcases hT' with h1 | ⟨b', s', h1, _⟩ <;> rw [h1] <;> simp
      · subst e
        exact (hF x hy).2 (TOk.name hT' x hx)
    · rw [mem_onGo, List.mem_append]
      constructor
      · rintro ⟨i, f, hi, hg⟩
        rcases hLi i f hi with hf | hf
        · have hf := List.mem_singleton.1 hf
          subst hf
          have hii : i = i0 := by
            have e1 := findN_at h.1 (t := tmpN) (i := i) (by rw [List.getElem?_map, hi]; rfl)
            have e2 := findN_at h.1 (t := tmpN) (i := i0) (by rw [List.getElem?_map, hi0]; rfl)
            rw [e1] at e2
            injection e2
          subst hii
          exact .inl hg
        · rw [kept_sure (hF f hf).1, List.mem_singleton] at hg
          subst hg
          exact .inr hf
      · rintro (hg | hg)
        · exact ⟨i0, _, hi0, hg⟩
        · obtain ⟨i, hi⟩ := hFL g hg
          exact ⟨i, g, hi, by rw [kept_sure (hF g hg).1]; simp⟩
theorem fileM_sure (m : ManM) : Sure (fileM m) := by unfold Sure fileM; rw [m.bytes_size]; rfl
theorem fileM_tmp {m : ManM} (h : Good m) : (fileM m).name ≠ tmpN := nameM_tmp (by have := h.pos; omega)
end Go.Proofs.YtlcgkcafelpglaaGreatDoor
