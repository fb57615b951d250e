/- Folded messages in plain words: rising by vertices, each once, as the mail tells. -/
import Derived.Test.YtbmjmpojabbegaaInbM
namespace Go.Proofs.Ytbmjmpojabbegaa
open Go.RowKit

abbrev Rising (l : List (Int × Int)) : Prop := l.Pairwise fun a b => a.1 < b.1
theorem rising_inj {l : List (Int × Int)} (h : Rising l) {v x y : Int} (h1 : (v, x) ∈ l) (h2 : (v, y) ∈ l) : x = y := by
  induction l with
  | nil => cases h1
  | cons a l ih =>
    have hc := List.pairwise_cons.1 h
    rcases List.mem_cons.1 h1 with e1 | e1 <;> rcases List.mem_cons.1 h2 with e2 | e2
    · rw [← e1] at e2; injection e2 with _ e2; exact e2.symm
    · have := hc.1 _ e2; rw [← e1] at this; exact absurd this (Int.lt_irrefl _)
    · have := hc.1 _ e1; rw [← e2] at this; exact absurd this (Int.lt_irrefl _)
    · exact ih hc.2 e1 e2
theorem rising_ext : ∀ {l m : List (Int × Int)}, Rising l → Rising m → (∀ p, p ∈ l ↔ p ∈ m) → l = m := by
  intro l
  induction l with
  | nil =>
    intro m _ _ h
    cases m with
    | nil => rfl
    | cons b m => exact absurd ((h b).2 (by simp)) (by simp)
  | cons a l ih =>
    intro m hl hm h
    cases m with
    | nil => exact absurd ((h a).1 (by simp)) (by simp)
    | cons b m =>
      have ha := List.pairwise_cons.1 hl
      have hb := List.pairwise_cons.1 hm
      have hab : a = b := by
        rcases List.mem_cons.1 ((h a).1 (by simp)) with e | e
        · exact e
        · rcases List.mem_cons.1 ((h b).2 (by simp)) with e' | e'
          · exact e'.symm
          · have h1 := hb.1 _ e
            have h2 := ha.1 _ e'
            omega
      subst hab
      rw [ih ha.2 hb.2 fun p => ?_]
      constructor
      · intro hp
        rcases List.mem_cons.1 ((h p).1 (List.mem_cons_of_mem _ hp)) with e | e
        · subst e; exact absurd (ha.1 _ hp) (Int.lt_irrefl _)
        · exact e
      · intro hp
        rcases List.mem_cons.1 ((h p).2 (List.mem_cons_of_mem _ hp)) with e | e
        · subst e; exact absurd (hb.1 _ hp) (Int.lt_irrefl _)
        · exact e
/-- one message more -/
theorem addL_rising (k : Int) : ∀ {l : List (Int × Int)}, Rising l → ∀ m : Int × Int, Rising (addL k l m) ∧ ∀ p : Int × Int, p ∈ addL k l m ↔ (p.1 ≠ m.1 ∧ p ∈ l) ∨ (p.1 = m.1 ∧ p.2 = (match l.find? (fun x => x.1 == m.1) with | some x => combD k x.2 m.2 | none => m.2)) := by
  intro l
  induction l with
  | nil =>
    intro _ m
    refine ⟨by simp [addL], fun p => ?_⟩
    simp only [addL, List.takeWhile_nil, List.dropWhile_nil, List.nil_append, List.mem_singleton, List.not_mem_nil, and_false, false_or, List.find?_nil]
    constructor
    · rintro rfl; exact ⟨rfl, rfl⟩
    · rintro ⟨h1, h2⟩; exact Prod.ext h1 h2
  | cons a l ih =>
    intro hl m
    have ha := List.pairwise_cons.1 hl
    by_cases h1 : a.1 < m.1
    · obtain ⟨i1, i2⟩ := ih ha.2 m
      have e : addL k (a :: l) m = a :: addL k l m := by
        unfold addL
        rw [List.takeWhile_cons_of_pos (by simpa using h1), List.dropWhile_cons_of_pos (by simpa using h1)]; rfl
      have hne : (a.1 == m.1) = false := by simp; omega
      rw [e]
      refine ⟨List.pairwise_cons.2 ⟨fun p hp => ?_, i1⟩, fun p => ?_⟩
      · rcases (i2 p).1 hp with ⟨_, hp⟩ | ⟨hp, _⟩
        · exact ha.1 p hp
        · omega
      · rw [List.mem_cons, i2 p, List.find?_cons, hne, List.mem_cons]
        constructor
        · rintro (rfl | h | h)
          · exact .inl ⟨by omega, .inl rfl⟩
          · exact .inl ⟨h.1, .inr h.2⟩
          · exact .inr h
        · rintro (⟨h, rfl | h'⟩ | h)
          · exact .inl rfl
          · exact .inr (.inl ⟨h, h'⟩)
          · exact .inr (.inr h)
    · have e : addL k (a :: l) m = if a.1 = m.1 then (m.1, combD k a.2 m.2) :: l else m :: a :: l := by
        unfold addL
        rw [List.takeWhile_cons_of_neg (by simpa using h1), List.dropWhile_cons_of_neg (by simpa using h1)]; rfl
      rw [e]
      by_cases h2 : a.1 = m.1
      · rw [if_pos h2]
        have heq : (a.1 == m.1) = true := by simp [h2]
        refine ⟨List.pairwise_cons.2 ⟨fun p hp => by have := ha.1 p hp; show m.1 < p.1; omega, ha.2⟩, fun p => ?_⟩
        rw [List.mem_cons, List.find?_cons, heq, List.mem_cons]
        constructor
        · rintro (rfl | h)
          · exact .inr ⟨rfl, rfl⟩
          · have := ha.1 p h
            exact .inl ⟨by omega, .inr h⟩
        · rintro (⟨h, rfl | h'⟩ | ⟨h, h'⟩)
          · exact absurd h2 h
          · exact .inr h'
          · exact .inl (Prod.ext h h')
      · rw [if_neg h2]
        have hne : (a.1 == m.1) = false := by simp [h2]
        have hnf : l.find? (fun x => x.1 == m.1) = none := by
          rw [List.find?_eq_none]
          intro x hx
          have := ha.1 x hx
          simp; omega
        refine ⟨List.pairwise_cons.2 ⟨fun p hp => ?_, hl⟩, fun p => ?_⟩
        · rcases List.mem_cons.1 hp with rfl | hp
          · omega
          · have := ha.1 p hp; omega
        · rw [List.mem_cons, List.find?_cons, hne, hnf, List.mem_cons]
          constructor
          · rintro (rfl | rfl | h)
            · exact .inr ⟨rfl, rfl⟩
            · exact .inl ⟨h2, .inl rfl⟩
            · have := ha.1 p h
              exact .inl ⟨by omega, .inr h⟩
          · rintro (⟨h, h'⟩ | ⟨h, h'⟩)
            · exact .inr h'
            · exact .inl (Prod.ext h h')
theorem rising_find (l : List (Int × Int)) (v : Int) : (∃ x, (v, x) ∈ l ∧ l.find? (fun y => y.1 == v) = some (v, x)) ∨ (∀ x, (v, x) ∉ l) ∧ l.find? (fun y => y.1 == v) = none := by
  cases hf : l.find? (fun y => y.1 == v) with
  | none =>
    refine .inr ⟨fun x hx => ?_, rfl⟩
    have := List.find?_eq_none.1 hf _ hx
    simp at this
  | some y =>
    have h1 := List.find?_some hf
    have h2 := List.mem_of_find?_eq_some hf
    have h3 : y.1 = v := by simpa using h1
    obtain ⟨a, b⟩ := y
    simp only at h3
    subst h3
    exact .inl ⟨b, h2, rfl⟩
/-- what is folded: rising, and of each vertex its mail -/
theorem foldL_is (k : Int) (l : List (Int × Int)) : Rising (foldL k l) ∧ ∀ v x, (v, x) ∈ foldL k l ↔ mailL k v l = (true, x) := by
  have key : ∀ n, n ≤ l.length → Rising (foldL k (l.take n)) ∧ ∀ v x, (v, x) ∈ foldL k (l.take n) ↔ mailL k v (l.take n) = (true, x) := by
    intro n
    induction n with
    | zero => intro _; refine ⟨by simp [foldL], fun v x => ?_⟩; simp [foldL, mailL]
    | succ n ih =>
      intro hn
      obtain ⟨i1, i2⟩ := ih (by omega)
      have hx : l[n]? = some l[n] := List.getElem?_eq_getElem (by omega)
      generalize l[n] = m at hx
      rw [foldL_snoc hx]
      obtain ⟨j1, j2⟩ := addL_rising k i1 m
      refine ⟨j1, fun v x => ?_⟩
      rw [j2, take_snoc_ hx, mailL_one]
      unfold mailS
      by_cases hv : m.1 = v
      · rw [if_pos hv]
        subst hv
        simp only [ne_eq, not_true_eq_false, false_and, true_and, false_or]
        rcases rising_find (foldL k (l.take n)) m.1 with ⟨y, hy, hf⟩ | ⟨hno, hf⟩
        · rw [hf, (i2 m.1 y).1 hy]
          simp [eq_comm]
        · rw [hf]
          have : (mailL k m.1 (l.take n)).1 = false := by
            cases hb : (mailL k m.1 (l.take n)).1 with
            | false => rfl
            | true => exact absurd ((i2 m.1 (mailL k m.1 (l.take n)).2).2 (Prod.ext hb rfl)) (hno _)
          rw [this]
          simp [eq_comm]
      · rw [if_neg hv, ← i2]
        simp only
        constructor
        · rintro (h | h)
          · exact h.2
          · exact absurd h.1.symm hv
        · exact fun h => .inl ⟨fun e => hv e.symm, h⟩
  have := key l.length (Nat.le_refl _)
  rwa [List.take_length] at this
end Go.Proofs.Ytbmjmpojabbegaa
