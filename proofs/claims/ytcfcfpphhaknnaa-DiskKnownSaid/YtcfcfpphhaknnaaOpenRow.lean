/- A slice argument, opened: its cells, element by element. -/
import Derived.Test.YtcfcfpphhaknnaaArgs
import Derived.Deep.Slices
namespace Go.Proofs.Ytcfcfpphhaknnaa
open Go.RowKit Go.WideShapes Go.ChangeShapes

theorem cell_spot {W : World} {a : Addr} {v : Value} (h : W.cell? a = some v) : a.spot = none ∧ a.block < W.heap.size := by
  refine ⟨?_, World.block_lt_of_cell? _ _ h⟩
  unfold World.cell? at h
  split at h
  · split at h
    · cases h
    · rename_i hs
      cases hsp : a.spot with
      | none => rfl
      | some _ => rw [hsp] at hs; simp at hs
  · cases h
section
variable {P : Program} {H : Type} {enc : TypeId × Value → H} {t e : TypeId} {W : World}
theorem open_row_cells (ht : P.underlying t = some (.slice e)) (hk : 0 < P.cellsOf e) {n : Nat} {cs : List Value} {x : DataW H × List MemPlace} (hn : DataW.trod enc P W 0 (fun _ => true) true n t cs = some x) :
    ∃ (A : Option Addr) (len c : Nat), cs = [.slice A len c] ∧ len ≤ c ∧ c ≤ maxLen ∧ (len = 0 ∨ ∃ b o, A = some ⟨b, o, none⟩ ∧ b < W.heap.size ∧
      ∀ i, i < len → ∃ cs' m y, cs'.length = P.cellsOf e ∧ (∀ j, j < P.cellsOf e → W.cell? ⟨b, o + i * P.cellsOf e + j, none⟩ = cs'[j]?) ∧ DataW.trod enc P W 0 (fun _ => true) true m e cs' = some y) := by
  rcases Go.Deep.open_slice ht hn with ⟨hcs, _⟩ | ⟨a, len, cap, m, n', D, Pl, hcs, _, hl, hm, hmm, _, hx⟩
  · exact ⟨none, 0, 0, hcs, Nat.le_refl _, Nat.zero_le _, .inl rfl⟩
  · simp only [if_true] at hmm
    subst hmm
    refine ⟨some a, len, m, hcs, hl, hm, ?_⟩
    rcases Nat.eq_zero_or_pos len with h0 | h0
    · exact .inl h0
    · right
      obtain ⟨cs0, h1, _⟩ := hx 0 (by omega)
      obtain ⟨_, hlen, hcell⟩ := World.cells?_some h1
      have hc0 := hcell 0 hk
      rw [List.getElem?_eq_getElem (by omega)] at hc0
      have ha : (a.add (0 * P.cellsOf e)).add 0 = a := by simp [Addr.add]
      rw [ha] at hc0
      obtain ⟨hs, hb⟩ := cell_spot hc0
      obtain ⟨b, o, sp⟩ := a
      simp only at hs
      subst hs
      refine ⟨b, o, rfl, hb, fun i hi => ?_⟩
      obtain ⟨cs', h1, h2⟩ := hx i (by omega)
      obtain ⟨_, hlen, hcell⟩ := World.cells?_some h1
      refine ⟨cs', n', _, hlen, fun j hj => ?_, h2⟩
      rw [← hcell j hj]
      congr 1
      unfold Addr.add
      split <;> split <;> simp_all <;> omega
theorem open_row (ht : P.underlying t = some (.slice e)) (hk : 0 < P.cellsOf e) {base : Nat} {v : Value} {d : DataW H} {ps : List MemPlace} (hv : Value.okWide P W .any base t v) (h : DataW.Trod enc P W 0 (fun _ => true) true t v d ps) :
    ∃ (A : Option Addr) (len c : Nat), v = .slice A len c ∧ len ≤ c ∧ c ≤ maxLen ∧ (len = 0 ∨ ∃ b o, A = some ⟨b, o, none⟩ ∧ b < W.heap.size ∧
      ∀ i, i < len → ∃ cs' m y, cs'.length = P.cellsOf e ∧ (∀ j, j < P.cellsOf e → W.cell? ⟨b, o + i * P.cellsOf e + j, none⟩ = cs'[j]?) ∧ DataW.trod enc P W 0 (fun _ => true) true m e cs' = some y) := by
  obtain ⟨a0, len0, cap0, rfl⟩ := okWide_slice ht hv
  obtain ⟨n, hn⟩ := h
  obtain ⟨A, len, c, hcs, hr⟩ := open_row_cells ht hk hn
  simp [Value.cells] at hcs
  obtain ⟨rfl, rfl, rfl⟩ := hcs
  exact ⟨_, _, _, rfl, hr⟩
end
/-- what each index has, as a list -/
theorem list_of_each {α : Type} {n : Nat} {p : Nat → α → Prop} (h : ∀ i, i < n → ∃ x, p i x) : ∃ l : List α, l.length = n ∧ ∀ i x, l[i]? = some x → p i x := by
  induction n with
  | zero => exact ⟨[], rfl, by simp⟩
  | succ n ih =>
    obtain ⟨l, hl, hp⟩ := ih fun i hi => h i (by omega)
    obtain ⟨x, hx⟩ := h n (by omega)
    refine ⟨l ++ [x], by simp [hl], fun i y hy => ?_⟩
    rw [List.getElem?_append] at hy
    split at hy
    · exact hp i y hy
    · rw [List.getElem?_singleton] at hy
      split at hy
      · injection hy with hy; subst hy
        obtain rfl : i = n := by omega
        exact hx
      · cases hy
end Go.Proofs.Ytcfcfpphhaknnaa
