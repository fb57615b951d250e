/- Graphs in plain words: a whole text, by both programs; edges in their order are told by which they are. No program stands in this text. -/
import Derived.Test.YtknigkjbnaoldaaDoorGrT
namespace Go.Proofs.YtknigkjbnaoldaaDoor

theorem ahead_irrefl (a : Edg) : aheadE a a = false := by unfold aheadE; simp
theorem sortedE_ext : ∀ {l m : List Edg}, SortedE l → SortedE m → (∀ p, p ∈ l ↔ p ∈ m) → l = m := by
  intro l
  induction l with
  | nil =>
    intro m _ _ h
    cases m with
    | nil => rfl
    | cons b m => exact absurd ((h b).2 (by simp)) (by simp)
  | cons a l ih =>
    intro m hl hm h
    cases m with
    | nil => exact absurd ((h a).1 (by simp)) (by simp)
    | cons b m =>
      have ha := List.pairwise_cons.1 hl
      have hb := List.pairwise_cons.1 hm
      have hab : a = b := by
        rcases List.mem_cons.1 ((h a).1 (by simp)) with e | e
        · exact e
        · rcases List.mem_cons.1 ((h b).2 (by simp)) with e' | e'
          · exact e'.symm
          · have h3 := ahead_trans (hb.1 _ e) (ha.1 _ e')
            rw [ahead_irrefl] at h3
            cases h3
      subst hab
      have hne : ∀ {k : List Edg}, (∀ x ∈ k, aheadE a x = true) → a ∉ k := fun hk hin => by
        have := hk a hin
        rw [ahead_irrefl] at this
        cases this
      rw [ih ha.2 hb.2 fun p => ?_]
      constructor
      · intro hp
        rcases List.mem_cons.1 ((h p).1 (List.mem_cons_of_mem _ hp)) with e | e
        · subst e; exact absurd hp (hne ha.1)
        · exact e
      · intro hp
        rcases List.mem_cons.1 ((h p).2 (List.mem_cons_of_mem _ hp)) with e | e
        · subst e; exact absurd hp (hne hb.1)
        · exact e
section
variable (num : ByteArray → Int × Int) (words : ByteArray → Option (List ByteArray)) (line : Gr → List ByteArray → Option Gr)
/-- the lines of a text: a wrong one's number, or the graph -/
def goL : Nat → Gr → List ByteArray → Nat ⊕ Gr
  | _, g, [] => .inr g
  | i, g, l :: ls =>
    match words l with
    | none => .inl (i + 1)
    | some [] => goL (i + 1) g ls
    | some w => match line g w with
      | none => .inl (i + 1)
      | some g' => goL (i + 1) g' ls
/-- what a text is: a graph (its edges as they come), which line is wrong (0: none), the error's number -/
def textL (ls : List ByteArray) : Gr × Nat × Int :=
  match goL words line 0 (0, []) ls with
  | .inl i => ((0, []), i, 41)
  | .inr g => if g.1 = 0 then ((0, []), ls.length + 1, 41) else (g, 0, 0)
theorem goL_rel : ∀ (ls : List ByteArray) (i : Nat) {a b : Gr}, GrRel a b → (∃ j, goL words (lineP num) i a ls = .inl j ∧ goL words (lineR num) i b ls = .inl j) ∨ ∃ a' b', goL words (lineP num) i a ls = .inr a' ∧ goL words (lineR num) i b ls = .inr b' ∧ GrRel a' b' := by
  intro ls
  induction ls with
  | nil => intro i a b h; exact .inr ⟨a, b, rfl, rfl, h⟩
  | cons l ls ih =>
    intro i a b h
    unfold goL
    cases hw : words l with
    | none => exact .inl ⟨_, rfl, rfl⟩
    | some w =>
      cases w with
      | nil => exact ih (i + 1) h
      | cons x w =>
        dsimp only
        rcases line_rel num h (x :: w) with ⟨h1, h2⟩ | ⟨a', b', h1, h2, h3⟩
        · rw [h1, h2]; exact .inl ⟨_, rfl, rfl⟩
        · rw [h1, h2]; exact ih (i + 1) h3
/-- the same text: the same line and error; graphs that are the same, the program's sorted -/
theorem text_rel (ls : List ByteArray) : (textL words (lineP num) ls).2 = (textL words (lineR num) ls).2 ∧ GrRel (textL words (lineP num) ls).1 (textL words (lineR num) ls).1 := by
  have h0 : GrRel (0, []) (0, []) := ⟨rfl, .refl _, List.Pairwise.nil, by simp⟩
  unfold textL
  rcases goL_rel num words ls 0 h0 with ⟨j, h1, h2⟩ | ⟨a, b, h1, h2, h3⟩
  · rw [h1, h2]; exact ⟨rfl, h0⟩
  · rw [h1, h2]
    dsimp only
    rw [h3.n]
    split
    · exact ⟨rfl, h0⟩
    · exact ⟨rfl, h3⟩
/-- the program's edges, sorted: the reference's -/
theorem rel_sorted {a b : Gr} (h : GrRel a b) {l : List Edg} (hs : SortedE l) (hp : ∀ p, p ∈ l ↔ p ∈ a.2) : l = b.2 :=
  sortedE_ext hs h.sorted fun p => (hp p).trans (h.perm.mem_iff).symm
end
/-- no two edges of a graph that was read are told alike -/
theorem rel_apart {a b : Gr} (h : GrRel a b) : a.2.Pairwise fun x y => sameE x y = false := by
  have h1 : b.2.Pairwise fun x y => sameE x y = false := h.sorted.imp fun hxy => ahead_ne hxy
  exact h.perm.pairwise h1 fun {x y} hxy => by
    unfold sameE at *
    simp at *
    omega
end Go.Proofs.YtknigkjbnaoldaaDoor
