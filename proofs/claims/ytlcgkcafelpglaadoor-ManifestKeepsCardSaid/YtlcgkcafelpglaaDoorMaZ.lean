/- A store of manifests amid others' files, as the laws' rounds see it: its state, Write, Open, Newest. -/
import Derived.Test.YtlcgkcafelpglaaDoorMaY
namespace Go.Proofs.YtlcgkcafelpglaaDoor
open Go.RowKit Go.Maps

/-- a store over a disk of a quota, others' files X, behind some steps -/
structure StSt (w wr : World) (p gs : Nat) (v : Value) (q : Int) (X L : List FileD) (n : Int) (S : StD) : Prop where
  is : DiskIs wr w.heap.size p v ⟨L, q, n, -1, false⟩
  st : StIs wr gs p S
  gl : w.heap.size ≤ gs
  below : Below w.heap.size w wr
  ok : StOk S
  has : Has L (keptF S ++ X)
  n0 : 0 ≤ n
theorem StOk.some_eq {S : StD} (h : StOk S) : S.some = decide (0 < S.m.n) := by
  cases hs : S.some with
  | true => have := (h.1 hs).pos; exact (decide_eq_true (by omega)).symm
  | false => rw [h.2 hs]; rfl
theorem nextS_ok {S : StD} {m : ManM} (h : StOk S) (hm : m.Ok) (hy : (nextM S m).may = true) : StOk ⟨nextM S m, true⟩ := ⟨fun _ => next_good h hm hy, fun e => by cases e⟩
theorem kept_used {S : StD} {L X : List FileD} (h : Has L (keptF S ++ X)) : usedL L ≤ 50 + usedL X ∧ L.length ≤ 1 + X.length := by
  rw [h.used, h.length, usedL_append, List.length_append]
  unfold keptF
  split
  · have : usedL [fileM S.m] = 50 := by simp [usedL, fileM, S.m.bytes_size]
    rw [this]; exact ⟨Nat.le_refl _, Nat.le_refl _⟩
  · have : usedL [] = 0 := rfl
    rw [this]; simp
section
variable {w wr w2 : World} {p gs : Nat} {v v2 : Value} {q n : Int} {X L : List FileD} {S : StD} {m : ManM}
theorem StSt.below_ (a : StSt w wr p gs v q X L n S) (hb : Below wr.heap.size wr w2) : StSt w w2 p gs v q X L n S :=
  ⟨a.is.below hb (Nat.le_refl _), a.st.below hb, a.gl, a.below.trans (hb.mono a.below.size), a.ok, a.has, a.n0⟩
theorem StSt.fit (a : StSt w wr p gs v q X L n S) (hn : n ≤ 1000000) (hX : usedL X ≤ 1000000 ∧ X.length ≤ 1000) : FitN ⟨L, q, n, -1, false⟩ (L.length + 6) := by
  have h := kept_used a.has
  exact fitN_of a.n0 (by omega) (by omega) (by omega)
theorem st_write (a : StSt w wr p gs v q X L n S) (hX : Oth X) (hT : Tb w.heap.size w) (hn : n ≤ 1000000) (hXs : usedL X ≤ 1000000 ∧ X.length ≤ 1000) (hq : (usedL X : Int) + 100 ≤ q) (hm : m.Ok) (hy : (nextM S m).may = true) :
    Calls Tryd.prog 17 #[.pointer (some ⟨gs, 0, none⟩), .agg (mCells m)] wr fun e w' => e = .returned (.int .i64 0) ∧ ∃ L' n' v', StSt w w' p gs v' q X L' n' ⟨nextM S m, true⟩ ∧ n' ≤ n + 5 ∧ Aft w.heap.size gs wr w' p v ⟨nextM S m, true⟩ ⟨L', q, n', -1, false⟩ v' := by
  have h := kept_used a.has
  refine (write_c (T := []) a.is (hT.on a.below) hX a.ok a.gl a.st ((a.fit hn hXs).less (by omega)) hm hy (.inl rfl) a.has (by omega)).mono fun e w' ⟨L', n', v', he, ha, hh, h1, h2⟩ => ?_
  exact ⟨he, L', n', v', ⟨ha.is, ha.st, a.gl, a.below.trans ha.below, nextS_ok a.ok hm hy, hh, by have := a.n0; omega⟩, h2, ha⟩
theorem st_write_no (a : StSt w wr p gs v q X L n S) (hT : Tb w.heap.size w) (hn : n ≤ 1000000) (hXs : usedL X ≤ 1000000 ∧ X.length ≤ 1000) (hm : m.Ok) (hy : (nextM S m).may = false) :
    Calls Tryd.prog 17 #[.pointer (some ⟨gs, 0, none⟩), .agg (mCells m)] wr fun e w' => e = .returned (.int .i64 2) ∧ ∃ v', StSt w w' p gs v' q X L n S ∧ Aft w.heap.size gs wr w' p v S ⟨L, q, n, -1, false⟩ v' := by
  refine (write_no a.is (hT.on a.below) a.ok a.gl a.st ((a.fit hn hXs).less (by omega)) hm hy).mono fun e w' ⟨he, v', ha⟩ => ?_
  exact ⟨he, v', ⟨ha.is, ha.st, a.gl, a.below.trans ha.below, a.ok, a.has, a.n0⟩, ha⟩
theorem st_open (a : StSt w wr p gs v q X L n S) (hX : Oth X) (hT : Tb w.heap.size w) (hn : n ≤ 1000000) (hXs : usedL X ≤ 1000000 ∧ X.length ≤ 1000) :
    Calls Tryd.prog 16 #[.pointer (some ⟨p, 0, none⟩)] wr fun e w' => ∃ g2, e = .returned (.tuple #[.pointer (some ⟨g2, 0, none⟩), .int .i64 0]) ∧ ∃ L' n' v', StSt w w' p g2 v' q X L' n' S ∧ n' ≤ n + 1 ∧ Out w.heap.size wr w' p v ⟨L', q, n', -1, false⟩ v' ∧ wr.heap.size ≤ g2 := by
  refine (open_c (G := []) a.is (hT.on a.below) hX a.ok a.below.size ((a.fit hn hXs).less (by omega)) (.inl (.inl rfl)) a.has).mono fun e w' ⟨g2, L', n', v', he, ho, hst, hg, hh, h1, h2⟩ => ?_
  exact ⟨g2, he, L', n', v', ⟨ho.is, hst, Nat.le_trans a.below.size hg, a.below.trans ho.below, a.ok, hh, by have := a.n0; omega⟩, h2, ho, hg⟩
end
end Go.Proofs.YtlcgkcafelpglaaDoor
