/- Plain: turned twice a graph is what it was; what was read may be; how many edges there are, vertex by vertex. No program stands in this text. -/
import Derived.Test.YtknigkjbnaoldaaDoorGrBp
import Derived.Test.YtknigkjbnaoldaaDoorGrTu
namespace Go.Proofs.YtknigkjbnaoldaaDoor

/-- how many edges lead to (from) the first vertices -/
def cntTo (l : List Edg) (u : Nat) : Nat := (l.filter fun e => decide (0 ≤ e.2.1 ∧ e.2.1 < (u : Int))).length
def cntOf (l : List Edg) (u : Nat) : Nat := (l.filter fun e => decide (0 ≤ e.1 ∧ e.1 < (u : Int))).length
theorem cntTo_zero (l : List Edg) : cntTo l 0 = 0 := by
  unfold cntTo
  rw [List.length_eq_zero_iff, List.filter_eq_nil_iff]
  intro e _
  simp only [decide_eq_true_eq]
  omega
theorem cntOf_zero (l : List Edg) : cntOf l 0 = 0 := by
  unfold cntOf
  rw [List.length_eq_zero_iff, List.filter_eq_nil_iff]
  intro e _
  simp only [decide_eq_true_eq]
  omega
theorem cntTo_succ (l : List Edg) (u : Nat) : cntTo l (u + 1) = cntTo l u + (backL l u).length := by
  unfold cntTo backL
  induction l with
  | nil => rfl
  | cons e l ih =>
    by_cases h1 : 0 ≤ e.2.1 ∧ e.2.1 < (u : Int)
    · have h2 : 0 ≤ e.2.1 ∧ e.2.1 < ((u + 1 : Nat) : Int) := by omega
      have h3 : (e.2.1 == (u : Int)) = false := by simp; omega
      rw [List.filter_cons_of_pos (by simpa using h2), List.filter_cons_of_pos (by simpa using h1), List.filter_cons_of_neg (by simp [h3])]
      simp only [List.length_cons]
      omega
    · by_cases h3 : e.2.1 = (u : Int)
      · have h2 : 0 ≤ e.2.1 ∧ e.2.1 < ((u + 1 : Nat) : Int) := by omega
        rw [List.filter_cons_of_pos (by simpa using h2), List.filter_cons_of_neg (by simpa using h1), List.filter_cons_of_pos (by simp [h3])]
        simp only [List.length_cons]
        omega
      · have h2 : ¬ (0 ≤ e.2.1 ∧ e.2.1 < ((u + 1 : Nat) : Int)) := by omega
        rw [List.filter_cons_of_neg (by simpa using h2), List.filter_cons_of_neg (by simpa using h1), List.filter_cons_of_neg (by simpa using h3)]
        exact ih
theorem cntOf_succ (l : List Edg) (u : Nat) : cntOf l (u + 1) = cntOf l u + (outL l u).length := by
  unfold cntOf outL
  induction l with
  | nil => rfl
  | cons e l ih =>
    by_cases h1 : 0 ≤ e.1 ∧ e.1 < (u : Int)
    · have h2 : 0 ≤ e.1 ∧ e.1 < ((u + 1 : Nat) : Int) := by omega
      have h3 : (e.1 == (u : Int)) = false := by simp; omega
      rw [List.filter_cons_of_pos (by simpa using h2), List.filter_cons_of_pos (by simpa using h1), List.filter_cons_of_neg (by simp [h3])]
      simp only [List.length_cons]
      omega
    · by_cases h3 : e.1 = (u : Int)
      · have h2 : 0 ≤ e.1 ∧ e.1 < ((u + 1 : Nat) : Int) := by omega
        rw [List.filter_cons_of_pos (by simpa using h2), List.filter_cons_of_neg (by simpa using h1), List.filter_cons_of_pos (by simp [h3])]
        simp only [List.length_cons]
        omega
      · have h2 : ¬ (0 ≤ e.1 ∧ e.1 < ((u + 1 : Nat) : Int)) := by omega
        rw [List.filter_cons_of_neg (by simpa using h2), List.filter_cons_of_neg (by simpa using h1), List.filter_cons_of_neg (by simpa using h3)]
        exact ih
theorem cnt_all {l : List Edg} {n : Nat} (hf : ∀ e ∈ l, fitsE e n = true) : cntTo l n = l.length ∧ cntOf l n = l.length := by
  have h : ∀ e ∈ l, (0 ≤ e.1 ∧ e.1 < (n : Int)) ∧ (0 ≤ e.2.1 ∧ e.2.1 < (n : Int)) := fun e he => by
    have := hf e he
    unfold fitsE at this
    have := of_decide_eq_true this
    omega
  unfold cntTo cntOf
  rw [List.filter_eq_self.2 fun e he => decide_eq_true (h e he).2, List.filter_eq_self.2 fun e he => decide_eq_true (h e he).1]
  exact ⟨rfl, rfl⟩
theorem turnR_count (l : List Edg) (u : Nat) : (turnR l u).length = cntTo l u := by
  induction u with
  | zero => rw [cntTo_zero]; rfl
  | succ u ih => rw [turnR_succ, List.length_append, List.length_map, ih, cntTo_succ]
theorem fits_swap {e : Edg} {n : Int} (h : fitsE e n = true) : fitsE (swapE e) n = true := by
  unfold fitsE at h ⊢
  have := of_decide_eq_true h
  refine decide_eq_true ?_
  show 0 ≤ e.2.1 ∧ e.2.1 < n ∧ 0 ≤ e.1 ∧ e.1 < n ∧ 0 ≤ e.2.2 ∧ e.2.2 < 2147483648
  omega
/-- a graph that may be, turned: it may be; turned again it is what it was -/
theorem turn_good {n : Nat} {l : List Edg} (h : checkL ((n : Int), l) = 0) : turnG ((n : Int), l) = ((n : Int), turnR l n) ∧ checkL ((n : Int), turnR l n) = 0 ∧ turnR (turnR l n) n = l := by
  obtain ⟨h1, h2, h3, h4, h5⟩ := check_ok h
  dsimp only at h1 h2 h3 h4 h5
  have hm := turn_mem (l := l) (n := n) h4
  have hf : ∀ e ∈ turnR l n, fitsE e n = true := fun e he => by
    obtain ⟨x, hx, rfl⟩ := List.mem_map.1 ((hm e).1 he)
    exact fits_swap (h4 x hx)
  have hs := turn_sorted (l := l) (n := n) h5
  refine ⟨by unfold turnG; rw [if_pos h]; rfl, check_of h1 h2 ?_ hf hs, (turn_is hf hs h5 fun p => ?_).symm⟩
  · show (turnR l n).length ≤ 8192
    rw [turnR_count, (cnt_all h4).1]
    exact h3
  · constructor
    · intro hp
      exact List.mem_map.2 ⟨swapE p, (hm _).2 (List.mem_map_of_mem hp), swap_swap p⟩
    · intro hp
      obtain ⟨x, hx, rfl⟩ := List.mem_map.1 hp
      obtain ⟨y, hy, rfl⟩ := List.mem_map.1 ((hm x).1 hx)
      exact hy
theorem addP_fitq {n : Int} {l l1 : List Edg} {e : Edg} (h : addP n l e = some l1) : fitsE e n = true ∧ l1 = l ++ [e] := by
  refine ⟨?_, (addP_some h).1⟩
  unfold addP at h
  split at h
  · cases h
  · rename_i hn
    cases hf : fitsE e n with
    | true => rfl
    | false => exact absurd (.inl hf) hn
def GoodG (g : Gr) : Prop := (0 ≤ g.1 ∧ g.1 ≤ 512) ∧ g.2.length ≤ 8192 ∧ (∀ e ∈ g.2, fitsE e g.1 = true) ∧ (g.1 = 0 → g.2 = [])
theorem edgeP_good {n : Int} {l : List Edg} {both : Bool} {e : Edg} {g : Gr} (h : edgeP n l both e = some g) (hf : ∀ x ∈ l, fitsE x n = true) : g.1 = n ∧ ∀ x ∈ g.2, fitsE x n = true := by
  unfold edgeP at h
  cases h1 : addP n l e with
  | none => rw [h1] at h; cases h
  | some l1 =>
    rw [h1] at h
    dsimp only at h
    obtain ⟨f1, rfl⟩ := addP_fitq h1
    have hf1 : ∀ x ∈ l ++ [e], fitsE x n = true := fun x hx => by
      rcases List.mem_append.1 hx with hx | hx
      · exact hf x hx
      · simp only [List.mem_singleton] at hx; rw [hx]; exact f1
    split at h
    · cases h2 : addP n (l ++ [e]) (e.2.1, e.1, e.2.2) with
      | none => rw [h2] at h; cases h
      | some l2 =>
        rw [h2] at h
        simp only [Option.map_some, Option.some.injEq] at h
        subst h
        obtain ⟨f2, rfl⟩ := addP_fitq h2
        refine ⟨rfl, fun x hx => ?_⟩
        rcases List.mem_append.1 hx with hx | hx
        · exact hf1 x hx
        · simp only [List.mem_singleton] at hx; rw [hx]; exact f2
    · simp only [Option.some.injEq] at h
      subst h
      exact ⟨rfl, hf1⟩
theorem lineP_good {g g' : Gr} {ws : List ByteArray} (h : lineP numW g ws = some g') (hg : GoodG g) : GoodG g' := by
  obtain ⟨hn, hl, hf, h0⟩ := hg
  have h2 := lineP_few h hn hl
  refine ⟨h2.1, h2.2, ?_⟩
  by_cases hz : g.1 = 0
  · have he := h0 hz
    have : g'.2 = [] := by
      unfold lineP at h
      rw [if_pos hz] at h
      split at h
      · split at h
        · simp only [Option.some.injEq] at h; rw [← h]; exact he
        · cases h
      · cases h
    rw [this]
    exact ⟨by simp, fun _ => rfl⟩
  · have : g'.1 = g.1 ∧ ∀ x ∈ g'.2, fitsE x g.1 = true := by
      unfold lineP at h
      rw [if_neg hz] at h
      split at h
      all_goals first
        | (split at h
           · exact edgeP_good h hf
           · cases h)
        | cases h
    rw [this.1]
    exact ⟨this.2, fun e => absurd e hz⟩
theorem goL_good : ∀ (ls : List ByteArray) (i : Nat) (g g' : Gr), GoodG g → goL wordsP (lineP numW) i g ls = .inr g' → GoodG g' := by
  intro ls
  induction ls with
  | nil => intro i g g' hg h; injection h with h; rw [← h]; exact hg
  | cons s ls ih =>
    intro i g g' hg h
    unfold goL at h
    cases hw : wordsP s with
    | none => rw [hw] at h; cases h
    | some w =>
      rw [hw] at h
      cases w with
      | nil => exact ih _ _ _ hg h
      | cons x w =>
        dsimp only at h
        cases hl : lineP numW g (x :: w) with
        | none => rw [hl] at h; cases h
        | some g2 => rw [hl] at h; exact ih _ _ _ (lineP_good hl hg) h
/-- what was read may be -/
theorem doc_good {s : ByteArray} (h : (docG s).2.2 = 0) : checkL (docG s).1 = 0 := by
  obtain ⟨h1, h2⟩ := text_rel numW wordsP (linesP s)
  have h3 : (textL wordsP (lineP numW) (linesP s)).2.2 = 0 := by rw [h1]; exact h
  have hg : GoodG (textL wordsP (lineP numW) (linesP s)).1 ∧ (textL wordsP (lineP numW) (linesP s)).1.1 ≠ 0 := by
    unfold textL at h3 ⊢
    cases hgo : goL wordsP (lineP numW) 0 (0, []) (linesP s) with
    | inl i => rw [hgo] at h3; cases h3
    | inr g =>
      rw [hgo] at h3
      dsimp only at h3 ⊢
      by_cases hz : g.1 = 0
      · rw [if_pos hz] at h3; cases h3
      · rw [if_neg hz]
        exact ⟨goL_good _ _ _ _ ⟨by simp, by simp, by simp, fun _ => rfl⟩ hgo, hz⟩
  obtain ⟨⟨hn, hl, hf, _⟩, hz⟩ := hg
  have e1 : (textL wordsP (lineP numW) (linesP s)).1.1 = (docG s).1.1 := h2.n
  rw [e1] at hn hf hz
  refine check_of (by omega) (by omega) (doc_few s) (fun e he => hf e (h2.perm.mem_iff.1 he)) h2.sorted
end Go.Proofs.YtknigkjbnaoldaaDoor
