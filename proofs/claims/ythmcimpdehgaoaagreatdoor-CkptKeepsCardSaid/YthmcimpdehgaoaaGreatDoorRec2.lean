/- Rows of one type stay where a row of another type grows. -/
import Derived.Test.YthmcimpdehgaoaaGreatDoorRec
namespace Go.Proofs.YthmcimpdehgaoaaGreatDoor
open Go.RowKit

theorem blk_type2 {w : World} {i : Nat} {t t' : TypeId} {cs cs' : Array Value} {fz fz' : Nat × Nat} (h : w.heap[i]? = some (Obj.cells cs t fz)) (h' : w.heap[i]? = some (Obj.cells cs' t' fz')) (hne : t ≠ t') : False := by
  rw [h] at h'
  injection h' with h'
  injection h' with _ e _
  exact hne e
theorem own_type2 {w : World} {base : Nat} {e : TypeId} {size n : Nat} {v : Value} {xs : List Value} (h : w.ownsRow base e size v n xs) {t : TypeId} (hne : e ≠ t) : ∀ g, v.ownBlock = some g → ∀ cs fz, w.heap[g]? ≠ some (Obj.cells cs t fz) := by
  intro g hg cs fz hh
  rcases h.2 with ⟨rfl, _⟩ | ⟨g', cap, cur, rfl, _, hg', _⟩
  · cases hg
  · simp only [Value.ownBlock, Option.some.injEq] at hg
    subst hg
    exact blk_type2 hg' hh hne
theorem type_grown {w w' : World} {B n size : Nat} {e t : TypeId} {v : Value} {xs : List Value} (ho : w.ownsRow B e size v n xs) {o : Obj} (hg : (w.alloc o).grownBy w' v.ownBlock) (ht : e ≠ t) : ∀ (k : Nat) cs fz, w.heap[k]? = some (.cells cs t fz) → w'.heap[k]? = w.heap[k]? := by
  intro k cs fz hh
  have hk := (Array.getElem?_eq_some_iff.1 hh).1
  exact (hg.block k (by simp; omega) (fun e' => own_type2 ho ht k e'.symm cs fz hh)).trans (Below.heap_alloc w o k hk)
/-- a row that make has made: of one cell each -/
theorem run_make_one {P : Program} (t e : TypeId) (i : TypeInfo) (z : Value) (ht : P.underlying t = some (.slice e)) (hi : P.info? e = some i) (hz : i.zero = some z) (hz1 : z.cells = #[z]) (hs : i.size = 1)
    (n : Nat) (hbytes : i.bytes * n ≤ 281474976710656) (h63 : n ≤ 9223372036854775807) (w : World) :
    (Instr.makeSlice t (.int .i64 (n : Int)) (.int .i64 (n : Int))).run P w = .ok (.slice (some ⟨w.heap.size, 0, none⟩) n n) (w.alloc (.cells (List.replicate n z).toArray e)) := by
  have h := run_make_rowN (P := P) t e i z ht hi hz .i64 .i64 n n (Nat.le_refl _) hbytes h63 w
  have h2 : madeCells z.cells (n * i.size) = (List.replicate n z).toArray := by
    rw [hz1, hs, Nat.mul_one]
    have := toList_madeCells_one z n
    rw [← this]
  rw [h2] at h
  exact h
theorem own_made {w : World} {B : Nat} {e : TypeId} {z : Value} {n : Nat} (hB : B ≤ w.heap.size) (hn : n ≤ maxLen) : (w.alloc (.cells (List.replicate n z).toArray e)).ownsRow B e 1 (.slice (some ⟨w.heap.size, 0, none⟩) n n) n (List.replicate n z) :=
  ⟨by simp, .inr ⟨w.heap.size, n, _, rfl, hB, heap_alloc_new w _, Nat.le_refl _, hn, by simp, by simp⟩⟩
/-- a row of one-cell elements is written at a place -/
theorem own_set1 {w : World} {B g n cap : Nat} {e : TypeId} {xs : List Value} (h : w.ownsRow B e 1 (.slice (some ⟨g, 0, none⟩) n cap) n xs) {i : Nat} (u : Value) :
    (w.setCell ⟨g, i, none⟩ u).ownsRow B e 1 (.slice (some ⟨g, 0, none⟩) n cap) n (xs.set i u) := by
  rcases h.2 with ⟨hv, _⟩ | ⟨g', cap', cur, hv, hb, hh, hc, hmx, hcs, htk⟩
  · cases hv
  · simp only [Value.slice.injEq, Option.some.injEq, Addr.mk.injEq, and_true, true_and] at hv
    obtain ⟨rfl, rfl⟩ := hv
    refine ⟨by rw [List.length_set]; exact h.1, .inr ⟨g, cap, _, rfl, hb, Blk.set_ (cs := cur) hh i u, hc, hmx, by simpa using hcs, ?_⟩⟩
    rw [Array.toList_setIfInBounds, List.take_set, htk]
theorem own_blk {w : World} {B g n cap size : Nat} {e : TypeId} {xs : List Value} (h : w.ownsRow B e size (.slice (some ⟨g, 0, none⟩) n cap) n xs) : ∃ cur, Blk w g e cur ∧ B ≤ g := by
  rcases h.2 with ⟨hv, _⟩ | ⟨g', cap', cur, hv, hb, hh, _⟩
  · cases hv
  · simp only [Value.slice.injEq, Option.some.injEq, Addr.mk.injEq, and_true, true_and] at hv
    obtain ⟨rfl, rfl⟩ := hv
    exact ⟨cur, hh, hb⟩
/-- one cell of a block is written: blocks of other types stay -/
theorem type_set {w : World} {g i : Nat} {e t : TypeId} {cur : Array Value} (hb : Blk w g e cur) (ht : e ≠ t) (u : Value) : ∀ (k : Nat) cs fz, w.heap[k]? = some (.cells cs t fz) → (w.setCell ⟨g, i, none⟩ u).heap[k]? = w.heap[k]? := by
  intro k cs fz hh
  refine Below.heap_setCell w _ u k (fun e' => ?_)
  have e' : k = g := e'
  subst e'
  exact blk_type2 hb hh ht
/-- two cells of a list are set -/
theorem set_two {α : Type} (xs : List α) (p : Nat) (a b : α) (h : p + 2 ≤ xs.length) : (xs.set p a).set (p + 1) b = xs.take p ++ [a, b] ++ xs.drop (p + 2) := by
  apply List.ext_getElem?
  intro j
  rw [List.getElem?_set, List.getElem?_set, List.length_set]
  by_cases h1 : j < p
  · rw [if_neg (by omega), if_neg (by omega), List.append_assoc, List.getElem?_append_left (by rw [List.length_take]; omega), List.getElem?_take, if_pos h1]
  · by_cases h2 : j = p
    · subst h2
      rw [if_neg (by omega), if_pos rfl, if_pos (by omega), List.append_assoc, List.getElem?_append_right (by rw [List.length_take]; omega), List.length_take, show j - min j xs.length = 0 by omega]; rfl
    · by_cases h3 : j = p + 1
      · subst h3
        rw [if_pos rfl, if_pos (by omega), List.append_assoc, List.getElem?_append_right (by rw [List.length_take]; omega), List.length_take, show p + 1 - min p xs.length = 1 by omega]; rfl
      · rw [if_neg (by omega), if_neg (by omega), List.getElem?_append_right (by rw [List.length_append, List.length_take, List.length_cons, List.length_cons, List.length_nil]; omega), List.getElem?_drop]
        congr 1
        rw [List.length_append, List.length_take, List.length_cons, List.length_cons, List.length_nil]; omega
theorem rcs_set {α : Type} {enc : α → List Value} {k : Nat} (hk : ∀ a, (enc a).length = k) (l : List α) (i : Nat) (hi : i < l.length) (y : α) : (rcs enc l).take (i * k) ++ enc y ++ (rcs enc l).drop (i * k + k) = rcs enc (l.set i y) := by
  rw [rcs_take hk, show i * k + k = (i + 1) * k by rw [Nat.add_mul, Nat.one_mul], rcs_drop hk, List.set_eq_take_append_cons_drop, if_pos hi, rcs_append]
  have : rcs enc (y :: l.drop (i + 1)) = enc y ++ rcs enc (l.drop (i + 1)) := by simp [rcs]
  rw [this, List.append_assoc]
/-- a row of two-cell elements is written at a place -/
theorem own_set2 {α : Type} {enc : α → List Value} {w : World} {B g n cap : Nat} {e : TypeId} {l : List α} (hk : ∀ a, (enc a).length = 2) (h : w.ownsRow B e 2 (.slice (some ⟨g, 0, none⟩) n cap) n (rcs enc l)) {i : Nat} (hi : i < l.length) {y : α} {a b : Value} (hy : enc y = [a, b]) :
    ((w.setCell ⟨g, i * 2, none⟩ a).setCell ⟨g, i * 2 + 1, none⟩ b).ownsRow B e 2 (.slice (some ⟨g, 0, none⟩) n cap) n (rcs enc (l.set i y)) := by
  rcases h.2 with ⟨hv, _⟩ | ⟨g', cap', cur, hv, hb, hh, hc, hmx, hcs, htk⟩
  · cases hv
  · simp only [Value.slice.injEq, Option.some.injEq, Addr.mk.injEq, and_true, true_and] at hv
    obtain ⟨rfl, rfl⟩ := hv
    have hl := h.1
    rw [rcs_length hk] at hl
    refine ⟨by rw [rcs_length hk, List.length_set]; exact hl, .inr ⟨g, cap, _, rfl, hb, (Blk.set_ (cs := cur) hh (i * 2) a).set_ (i * 2 + 1) b, hc, hmx, by simpa using hcs, ?_⟩⟩
    rw [Array.toList_setIfInBounds, List.take_set, Array.toList_setIfInBounds, List.take_set, htk, set_two _ _ _ _ (by rw [rcs_length hk]; omega), ← rcs_set hk l i hi y, hy]
theorem made_two (a b : Value) (n : Nat) : madeCells #[a, b] (n * 2) = (List.replicate n [a, b]).flatten.toArray := by
  have h : ∀ n, (List.range (n * 2)).map (fun j => (#[a, b] : Array Value)[j % 2]!) = (List.replicate n [a, b]).flatten := by
    intro n
    induction n with
    | zero => rfl
    | succ n ih =>
      rw [show (n + 1) * 2 = n * 2 + 1 + 1 by omega, List.range_succ, List.range_succ, List.map_append, List.map_append, ih, List.replicate_succ', List.flatten_append]
      have e0 : n * 2 % 2 = 0 := by omega
      have e1 : (n * 2 + 1) % 2 = 1 := by omega
      simp [e0, e1]
  unfold madeCells
  rw [← h n]
  apply Array.ext'
  simp
end Go.Proofs.YthmcimpdehgaoaaGreatDoor
