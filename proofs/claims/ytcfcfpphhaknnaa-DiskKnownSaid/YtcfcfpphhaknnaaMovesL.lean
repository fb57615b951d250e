/- Files that are given each other's names, in plain words. -/
import Derived.Test.YtcfcfpphhaknnaaRoomL
import Derived.Test.YtcfcfpphhaknnaaStaysL
namespace Go.Proofs.Ytcfcfpphhaknnaa
open Go.RowKit

theorem nm_ne {i j : Nat} (hi : i ≤ 100) (hj : j ≤ 100) (h : nm i = nm j) : i = j := by
  unfold nm at h
  have h1 := congrArg (fun b : ByteArray => (b.data.toList.getD 1 0).toNat) h
  simp only [List.getD_cons_succ, List.getD_cons_zero, UInt8.toNat_ofNat'] at h1
  omega
/-- where the moves have put the files: of each name the number of the bytes that lie there, below 0: none -/
structure MovesSt (l : List ByteArray) (at_ : List Int) (L : List FileD) : Prop where
  len : at_.length ≤ l.length
  sorted : SortedF L
  size : ∀ g ∈ L, SafeOk g ∧ g.b.size ≤ 100
  few : L.length ≤ at_.length
  names : ∀ g ∈ L, ∃ j, j < at_.length ∧ g.name = nm j
  rng : ∀ (i : Nat) (k : Int), at_[i]? = some k → k = -1 ∨ 0 ≤ k ∧ k < l.length
  yes : ∀ (i k : Nat), at_[i]? = some (k : Int) → ∃ g ∈ L, g.name = nm i ∧ l[k]? = some g.b
  no : ∀ (i : Nat), at_[i]? = some (-1) → ∀ g ∈ L, g.name ≠ nm i
theorem does_move {L : List FileD} {i m : Nat} {dst : ByteArray} {f : FileD} : doesL 2 L i m dst f = putF (L.take i ++ L.drop (i + 1)) ⟨dst, f.b, m⟩ := by
  unfold doesL putF
  rw [if_neg (by decide), if_pos rfl]
theorem moves_yes {l : List ByteArray} {at_ : List Int} {L : List FileD} {q n : Int} (h : MovesSt l at_ L) (hl : l.length ≤ 12) {src dst k : Nat} (hd : dst < at_.length) (hk : at_[src]? = some (k : Int)) :
    ∃ L' b, (⟨L, q, n, -1, false⟩ : DiskD).step 2 (nm src) (nm dst) 0 true = (0, ⟨L', q, n + 1, -1, false⟩) ∧ MovesSt l ((at_.set src (-1)).set dst k) L' ∧ l[k]? = some b ∧ (⟨nm dst, b, b.size⟩ : FileD) ∈ L' := by
  obtain ⟨f, hf, hfn, hfb⟩ := h.yes src k hk
  obtain ⟨i, hi, e1⟩ := step_ok (q := q) (n := n) h.sorted hf (by rw [hfn]; rfl) (dst := nm dst) rfl 2 0 true f.b.size (by simp) (Nat.le_refl _)
  rw [hfn, does_move] at e1
  have hs1 := del_sorted h.sorted i
  have hm1 := mem_del h.sorted hi
  have hlen1 : (L.take i ++ L.drop (i + 1)).length + 1 ≤ at_.length := by
    have := (List.getElem?_eq_some_iff.1 hi).1
    have := h.few
    rw [List.length_append, List.length_take, List.length_drop]; omega
  generalize L.take i ++ L.drop (i + 1) = M at *
  have hs2 := putF_sorted hs1 ⟨nm dst, f.b, f.b.size⟩
  have hm2 := mem_putF hs1 ⟨nm dst, f.b, f.b.size⟩
  have hlen2 : (putF M ⟨nm dst, f.b, f.b.size⟩).length ≤ M.length + 1 := put_len (D := ⟨M, q, n, -1, false⟩) _
  have hkl : k < l.length := (List.getElem?_eq_some_iff.1 hfb).1
  have hsl : src < at_.length := (List.getElem?_eq_some_iff.1 hk).1
  have hll := h.len
  refine ⟨putF M ⟨nm dst, f.b, f.b.size⟩, f.b, e1, ⟨by rw [List.length_set, List.length_set]; exact h.len, hs2, fun g hg => ?_, by rw [List.length_set, List.length_set]; omega, fun g hg => ?_, fun j x hj => ?_, fun j x hj => ?_, fun j hj => ?_⟩, hfb, (hm2 _).2 (.inl rfl)⟩
  · rcases (hm2 g).1 hg with rfl | ⟨hg, _⟩
    · exact ⟨⟨by show (-1 : Int) ≤ (f.b.size : Int); omega, Int.le_refl _⟩, (h.size f hf).2⟩
    · exact h.size g ((hm1 g).1 hg).1
  · rw [List.length_set, List.length_set]
    rcases (hm2 g).1 hg with rfl | ⟨hg, _⟩
    · exact ⟨dst, hd, rfl⟩
    · exact h.names g ((hm1 g).1 hg).1
  · rw [List.getElem?_set] at hj
    split at hj
    · split at hj
      · injection hj with hj; right; omega
      · cases hj
    · rw [List.getElem?_set] at hj
      split at hj
      · injection hj with hj; exact .inl hj.symm
      · exact h.rng j x hj
  · rw [List.getElem?_set] at hj
    split at hj
    · rename_i hdj
      subst hdj
      split at hj
      · injection hj with hj
        obtain rfl : k = x := by omega
        exact ⟨_, (hm2 _).2 (.inl rfl), rfl, hfb⟩
      · cases hj
    · rename_i hdj
      rw [List.getElem?_set] at hj
      split at hj
      · injection hj with hj; omega
      · rename_i hsj
        obtain ⟨g, hg, hgn, hgb⟩ := h.yes j x hj
        have hjl : j < at_.length := (List.getElem?_eq_some_iff.1 hj).1
        refine ⟨g, (hm2 g).2 (.inr ⟨(hm1 g).2 ⟨hg, ?_⟩, ?_⟩), hgn, hgb⟩
        · rw [hgn, hfn]; exact fun e => hsj (nm_ne (by omega) (by omega) e).symm
        · rw [hgn]; exact fun e => hdj (nm_ne (by omega) (by omega) e).symm
  · rw [List.getElem?_set] at hj
    split at hj
    · split at hj
      · injection hj with hj; omega
      · cases hj
    · rename_i hdj
      have hjl : j < at_.length := by
        have := (List.getElem?_eq_some_iff.1 hj).1
        rwa [List.length_set] at this
      intro g hg
      rw [List.getElem?_set] at hj
      split at hj
      · rename_i hsj
        rcases (hm2 g).1 hg with rfl | ⟨hg, _⟩
        · show nm dst ≠ nm j
          exact fun e => hdj (nm_ne (by omega) (by omega) e)
        · rw [← hsj, ← hfn]; exact ((hm1 g).1 hg).2
      · rcases (hm2 g).1 hg with rfl | ⟨hg, _⟩
        · show nm dst ≠ nm j
          exact fun e => hdj (nm_ne (by omega) (by omega) e)
        · exact h.no j hj g ((hm1 g).1 hg).1
theorem moves_put {l : List ByteArray} {at_ : List Int} {L : List FileD} {q n : Int} (h : MovesSt l at_ L) (hl : l.length ≤ 12) (hq : 2000 ≤ q) {b : ByteArray} (hb : l[at_.length]? = some b) (hbs : b.size ≤ 100) (hu : usedL L ≤ 100 * at_.length) :
    ∃ L', (⟨L, q, n, -1, false⟩ : DiskD).append (nm at_.length) b = (0, ⟨L', q, n + 1, -1, false⟩) ∧ MovesSt l (at_ ++ [(at_.length : Int)]) L' ∧ usedL L' ≤ 100 * (at_.length + 1) := by
  have hlt : at_.length < l.length := (List.getElem?_eq_some_iff.1 hb).1
  have hnew : ∀ g ∈ L, g.name ≠ nm at_.length := fun g hg e => by
    obtain ⟨j, hj, hn⟩ := h.names g hg
    rw [hn] at e
    have := nm_ne (by omega) (by omega) e
    omega
  obtain ⟨f, hfn, hfb, hfs, e1, hu2⟩ := append_ok (q := q) (n := n) h.sorted (t := nm at_.length) (b := b) rfl (by omega) (by omega)
  have hwas : (⟨L, q, n, -1, false⟩ : DiskD).was (nm at_.length) = ⟨nm at_.length, ByteArray.empty, -1⟩ := by
    unfold DiskD.was
    rw [at_no (D := ⟨L, q, n, -1, false⟩) hnew]
  rw [hwas] at hfb hfs
  have hfb : f.b = b := by rw [hfb]; simp
  have hfs : f.safe = -1 := hfs
  have hm := mem_putF h.sorted f
  have hlen : (putF L f).length ≤ L.length + 1 := put_len (D := ⟨L, q, n, -1, false⟩) f
  have hfew := h.few
  refine ⟨putF L f, e1, ⟨by rw [List.length_append]; simp; omega, putF_sorted h.sorted f, fun g hg => ?_, by rw [List.length_append]; simp; omega, fun g hg => ?_, fun j x hj => ?_, fun j x hj => ?_, fun j hj => ?_⟩, by omega⟩
  · rcases (hm g).1 hg with rfl | ⟨hg, _⟩
    · exact ⟨⟨by omega, by omega⟩, by rw [hfb]; exact hbs⟩
    · exact h.size g hg
  · rw [List.length_append]
    rcases (hm g).1 hg with rfl | ⟨hg, _⟩
    · exact ⟨at_.length, by simp, hfn⟩
    · obtain ⟨j, hj, hn⟩ := h.names g hg
      exact ⟨j, by simp; omega, hn⟩
  · rw [List.getElem?_append] at hj
    split at hj
    · exact h.rng j x hj
    · rw [List.getElem?_singleton] at hj
      split at hj
      · injection hj with hj; right; omega
      · cases hj
  · rw [List.getElem?_append] at hj
    split at hj
    · obtain ⟨g, hg, hgn, hgb⟩ := h.yes j x hj
      refine ⟨g, (hm g).2 (.inr ⟨hg, ?_⟩), hgn, hgb⟩
      rw [hfn]; exact hnew g hg
    · rename_i hjl
      rw [List.getElem?_singleton] at hj
      split at hj
      · injection hj with hj
        obtain rfl : at_.length = x := by omega
        obtain rfl : j = at_.length := by omega
        exact ⟨f, (hm f).2 (.inl rfl), hfn, by rw [hfb]; exact hb⟩
      · cases hj
  · rw [List.getElem?_append] at hj
    split at hj
    · rename_i hjl
      intro g hg
      rcases (hm g).1 hg with rfl | ⟨hg, _⟩
      · rw [hfn]; exact fun e => by have := nm_ne (by omega) (by omega) e; omega
      · exact h.no j hj g hg
    · rw [List.getElem?_singleton] at hj
      split at hj
      · injection hj with hj; omega
      · cases hj
theorem moves_none (l : List ByteArray) : MovesSt l [] [] := ⟨Nat.zero_le _, List.Pairwise.nil, by simp, Nat.le_refl _, by simp, by simp, by simp, by simp⟩
theorem moves_no {l : List ByteArray} {at_ : List Int} {L : List FileD} {q n : Int} (h : MovesSt l at_ L) {src dst : Nat} (hk : at_[src]? = some (-1)) :
    (⟨L, q, n, -1, false⟩ : DiskD).step 2 (nm src) (nm dst) 0 true = (5, ⟨L, q, n, -1, false⟩) := step_none (h.no src hk) rfl rfl 2 0 true
theorem mem_onGo : ∀ (L : List FileD) (g : FileD), g ∈ L → 0 ≤ g.safe → (⟨g.name, g.b.extract 0 g.safe.toNat, g.safe.toNat⟩ : FileD) ∈ onGo L [] := by
  intro L
  induction L with
  | nil => intro g hg; cases hg
  | cons f L ih =>
    intro g hg hs
    rw [onGo, List.mem_append]
    rcases List.mem_cons.1 hg with rfl | hg
    · left
      unfold keptL
      rw [if_pos (.inr (by omega))]
      simp [keptN]
    · exact .inr (ih g hg hs)
/-- what is safe of a file that was moved -/
theorem moves_safe {L : List FileD} {q n : Int} (h : SortedF L) {t b : ByteArray} (hm : (⟨t, b, b.size⟩ : FileD) ∈ L) (ht : badN t = false) :
    ∃ L', (⟨L, q, n, -1, true⟩ : DiskD).on [] = ⟨L', q, n, -1, false⟩ ∧ (⟨L', q, n, -1, false⟩ : DiskD).read t = (0, b) ∧ L'.length ≤ L.length ∧ ∀ g ∈ L', ∃ f ∈ L, g.b.size ≤ f.b.size := by
  have h1 := mem_onGo L _ hm (by show (0 : Int) ≤ (b.size : Int); omega)
  simp only [Int.toNat_natCast] at h1
  rw [extract_all b b.size rfl] at h1
  have h2 := read_ok (q := q) (n := n) (onGo_sorted h []) h1 ht
  refine ⟨onGo L [], rfl, h2, ?_, ?_⟩
  · have := (onGo_sub L []).length_le
    simpa using this
  · clear h h1 h2 hm ht
    induction L with
    | nil => intro g hg; cases hg
    | cons f L ih =>
      intro g hg
      rw [onGo, List.mem_append] at hg
      rcases hg with hg | hg
      · unfold keptL at hg
        split at hg
        · simp at hg
          subst hg
          refine ⟨f, by simp, ?_⟩
          show (f.b.extract 0 _).size ≤ _
          rw [ByteArray.size_extract]; omega
        · cases hg
      · obtain ⟨f', hf', hle⟩ := ih g hg
        exact ⟨f', by simp [hf'], hle⟩
theorem moves_read {l : List ByteArray} {at_ : List Int} {L : List FileD} {q n : Int} (h : MovesSt l at_ L) {i k : Nat} (hk : at_[i]? = some (k : Int)) : ∃ b, l[k]? = some b ∧ (⟨L, q, n, -1, false⟩ : DiskD).read (nm i) = (0, b) := by
  obtain ⟨g, hg, hn, hb⟩ := h.yes i k hk
  refine ⟨g.b, hb, ?_⟩
  rw [← hn]
  exact read_ok h.sorted hg (by rw [hn]; rfl)
theorem moves_readno {l : List ByteArray} {at_ : List Int} {L : List FileD} {q n : Int} (h : MovesSt l at_ L) {i : Nat} (hk : at_[i]? = some (-1)) : (⟨L, q, n, -1, false⟩ : DiskD).read (nm i) = (5, ByteArray.empty) := read_no (h.no i hk) rfl
end Go.Proofs.Ytcfcfpphhaknnaa
