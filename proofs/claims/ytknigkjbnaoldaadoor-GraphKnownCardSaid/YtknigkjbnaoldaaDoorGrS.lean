/- Graphs in plain words: edges in their order, an edge more. No program stands in this text. -/
import Derived.WalkKit
namespace Go.Proofs.YtknigkjbnaoldaaDoor

/-- an edge: from, to, weight -/
abbrev Edg := Int × Int × Int
def fitsE (e : Edg) (n : Int) : Bool := decide (0 ≤ e.1 ∧ e.1 < n ∧ 0 ≤ e.2.1 ∧ e.2.1 < n ∧ 0 ≤ e.2.2 ∧ e.2.2 < 2147483648)
def aheadE (a b : Edg) : Bool := decide (a.1 < b.1 ∨ a.1 = b.1 ∧ a.2.1 < b.2.1)
def sameE (a b : Edg) : Bool := decide (a.1 = b.1 ∧ a.2.1 = b.2.1)
theorem ahead_tri (a b : Edg) (h1 : aheadE a b = false) (h2 : aheadE b a = false) : sameE a b = true := by
  unfold aheadE sameE at *
  simp at *
  omega
theorem ahead_trans {a b c : Edg} (h1 : aheadE a b = true) (h2 : aheadE b c = true) : aheadE a c = true := by
  unfold aheadE at *
  simp at *
  omega
theorem ahead_ne {a b : Edg} (h : aheadE a b = true) : sameE a b = false := by
  unfold aheadE sameE at *
  simp at *
  omega
theorem ahead_ne' {a b : Edg} (h : aheadE a b = true) : sameE b a = false := by
  unfold aheadE sameE at *
  simp at *
  omega
theorem same_not {a b : Edg} (h : sameE a b = true) : aheadE a b = false ∧ aheadE b a = false := by
  unfold aheadE sameE at *
  simp at *
  omega
/-- the edges stand in their order -/
def SortedE (l : List Edg) : Prop := l.Pairwise fun a b => aheadE a b = true
/-- how many stand ahead of one -/
def atE (l : List Edg) (e : Edg) : Nat := (l.takeWhile fun x => aheadE x e).length
/-- the reference's add -/
def addR (n : Int) (l : List Edg) (e : Edg) : Option (List Edg) :=
  if fitsE e n = false ∨ 8192 ≤ l.length then none
  else match l[atE l e]? with
    | none => some (l ++ [e])
    | some x => if aheadE e x = true then some (l.take (atE l e) ++ e :: l.drop (atE l e)) else none
/-- the program's add -/
def addP (n : Int) (l : List Edg) (e : Edg) : Option (List Edg) := if fitsE e n = false ∨ l.any (sameE e) = true ∨ l.length = 8192 then none else some (l ++ [e])
theorem takeWhile_mem {α : Type} {p : α → Bool} : ∀ {l : List α} {x : α}, x ∈ l.takeWhile p → p x = true := by
  intro l
  induction l with
  | nil => intro x h; cases h
  | cons a l ih =>
    intro x h
    rw [List.takeWhile_cons] at h
    split at h
    · rename_i ha
      rcases List.mem_cons.1 h with h | h
      · rw [h]; exact ha
      · exact ih h
    · cases h
theorem atE_spec (l : List Edg) (e : Edg) : l.take (atE l e) = l.takeWhile (fun x => aheadE x e) ∧ l.drop (atE l e) = l.dropWhile (fun x => aheadE x e) := by
  unfold atE
  induction l with
  | nil => simp
  | cons a l ih =>
    rw [List.takeWhile_cons, List.dropWhile_cons]
    split
    · simp [ih.1, ih.2]
    · simp
theorem addR_sorted {n : Int} {l : List Edg} {e : Edg} (hs : SortedE l) (hl : l.length ≤ 8192) :
    (addP n l e = none ∧ addR n l e = none) ∨ ∃ m, addP n l e = some (l ++ [e]) ∧ addR n l e = some m ∧ SortedE m ∧ m.Perm (l ++ [e]) ∧ m.length = l.length + 1 := by
  unfold addP addR
  by_cases hf : fitsE e n = false
  · exact .inl ⟨by rw [if_pos (.inl hf)], by rw [if_pos (.inl hf)]⟩
  by_cases h8 : l.length = 8192
  · exact .inl ⟨by rw [if_pos (.inr (.inr h8))], by rw [if_pos (.inr (by omega))]⟩
  have e1 : l.take (atE l e) ++ l.drop (atE l e) = l := List.take_append_drop _ _
  obtain ⟨ht, hd⟩ := atE_spec l e
  have hta : ∀ x ∈ l.take (atE l e), aheadE x e = true := by
    rw [ht]
    intro x hx
    exact takeWhile_mem (p := fun y => aheadE y e) hx
  cases hx : l[atE l e]? with
  | none =>
    have hlen : l.length ≤ atE l e := by rw [List.getElem?_eq_none_iff] at hx; exact hx
    rw [List.take_of_length_le hlen] at hta
    have hany : ¬ (fitsE e n = false ∨ l.any (sameE e) = true ∨ l.length = 8192) := by
      rintro (h | h | h)
      · exact hf h
      · obtain ⟨x, hx1, hx2⟩ := List.any_eq_true.1 h
        rw [ahead_ne' (hta x hx1)] at hx2
        cases hx2
      · exact h8 h
    refine .inr ⟨l ++ [e], by rw [if_neg hany], by rw [if_neg (by rintro (h | h); exact hf h; omega)], ?_, .refl _, by simp⟩
    unfold SortedE at *
    rw [List.pairwise_append]
    refine ⟨hs, by simp, fun a ha b hb => ?_⟩
    rw [List.mem_singleton.1 hb]
    exact hta a ha
  | some x =>
    have hdx : l.drop (atE l e) = x :: l.drop (atE l e + 1) := by
      have hlt := (List.getElem?_eq_some_iff.1 hx).1
      rw [List.drop_eq_getElem_cons hlt]
      rw [List.getElem?_eq_getElem hlt] at hx
      injection hx with hx
      rw [hx]
    have hxe : aheadE x e = false := by
      have h := List.head?_dropWhile_not (fun y => aheadE y e) l
      rw [← hd, hdx] at h
      simpa using h
    have hs2 := hs
    unfold SortedE at hs2
    rw [← e1, List.pairwise_append, hdx, List.pairwise_cons] at hs2
    obtain ⟨s1, ⟨s2, s3⟩, s4⟩ := hs2
    cases hex : aheadE e x with
    | true =>
      have hde : ∀ y ∈ l.drop (atE l e), aheadE e y = true := by
        rw [hdx]
        intro y hy
        rcases List.mem_cons.1 hy with h | h
        · rw [h]; exact hex
        · exact ahead_trans hex (s2 y h)
      have hany : ¬ (fitsE e n = false ∨ l.any (sameE e) = true ∨ l.length = 8192) := by
        rintro (h | h | h)
        · exact hf h
        · obtain ⟨y, hy1, hy2⟩ := List.any_eq_true.1 h
          rw [← e1] at hy1
          rcases List.mem_append.1 hy1 with h' | h'
          · rw [ahead_ne' (hta y h')] at hy2; cases hy2
          · rw [ahead_ne (hde y h')] at hy2; cases hy2
        · exact h8 h
      refine .inr ⟨l.take (atE l e) ++ e :: l.drop (atE l e), by rw [if_neg hany], by rw [if_neg (by rintro (h | h); exact hf h; omega)]; simp [hex], ?_, ?_, ?_⟩
      · unfold SortedE
        rw [List.pairwise_append, List.pairwise_cons]
        refine ⟨s1, ⟨hde, ?_⟩, fun a ha b hb => ?_⟩
        · rw [hdx, List.pairwise_cons]; exact ⟨s2, s3⟩
        · rcases List.mem_cons.1 hb with h | h
          · rw [h]; exact hta a ha
          · exact ahead_trans (hta a ha) (hde b h)
      · refine (List.perm_middle).trans ?_
        rw [e1]
        exact (List.perm_append_singleton e l).symm
      · have := congrArg List.length e1
        simp at this ⊢
        omega
    | false =>
      have hsm := ahead_tri e x hex hxe
      refine .inl ⟨?_, ?_⟩
      · rw [if_pos (.inr (.inl (List.any_eq_true.2 ⟨x, List.mem_of_getElem? hx, hsm⟩)))]
      · rw [if_neg (by rintro (h | h); exact hf h; omega)]; simp [hex]
end Go.Proofs.YtknigkjbnaoldaaDoor
