/- The mail of vertices in plain words: in whatever order messages stand, folded ahead or not, split by workers or not. -/
import Derived.Test.YtbmjmpojabbegaaInbS
import Derived.Test.YtbmjmpojabbegaaLawMerge
namespace Go.Proofs.Ytbmjmpojabbegaa
open Go.RowKit

theorem combD_comm (k a b : Int) : combD k a b = combD k b a := by
  unfold combD addD
  split
  · rw [Int.add_comm]
  · split
    · omega
    · rfl
theorem combD_assoc (k a b c : Int) : combD k (combD k a b) c = combD k a (combD k b c) := by
  unfold combD
  by_cases h1 : k = 1
  · simp only [h1, if_true]
    unfold addD distD
    omega
  · simp only [h1, if_false]
    by_cases h2 : k = 2 ∨ k = 3
    · simp only [h2, if_true]; omega
    · simp only [h2, if_false]
theorem mailS_swap (k v : Int) (m : Bool × Int) (x y : Int × Int) : mailS k v (mailS k v m x) y = mailS k v (mailS k v m y) x := by
  obtain ⟨b, n⟩ := m
  unfold mailS
  by_cases hx : x.1 = v <;> by_cases hy : y.1 = v <;> cases b <;> simp [hx, hy]
  · exact combD_comm _ _ _
  · rw [combD_assoc, combD_assoc, combD_comm k x.2 y.2]
theorem mailL_perm (k v : Int) {l m : List (Int × Int)} (h : l.Perm m) : mailL k v l = mailL k v m := by
  unfold mailL
  exact h.foldl_eq' (fun x _ y _ z => mailS_swap k v z x y) _
def joinM (k : Int) (a b : Bool × Int) : Bool × Int := if a.1 then (if b.1 then (true, combD k a.2 b.2) else a) else b
theorem mailL_append (k v : Int) (p q : List (Int × Int)) : mailL k v (p ++ q) = joinM k (mailL k v p) (mailL k v q) := by
  have key : ∀ (n : Nat) (q : List (Int × Int)), q.length = n → mailL k v (p ++ q) = joinM k (mailL k v p) (mailL k v q) := by
    intro n
    induction n with
    | zero =>
      intro q h
      rw [List.eq_nil_of_length_eq_zero h, List.append_nil]
      have e : mailL k v [] = (false, 0) := rfl
      rw [e]
      unfold joinM
      cases h1 : (mailL k v p).1
      · rw [mailL_none h1]; rfl
      · rfl
    | succ n ih =>
      intro q h
      obtain ⟨q', x, rfl⟩ : ∃ q' x, q = q' ++ [x] := by
        refine ⟨q.dropLast, q.getLast (by intro e; rw [e] at h; cases h), (List.dropLast_concat_getLast _).symm⟩
      rw [← List.append_assoc, mailL_one, mailL_one, ih q' (by simp at h; exact h)]
      generalize mailL k v p = a
      generalize mailL k v q' = b
      obtain ⟨a1, a2⟩ := a
      obtain ⟨b1, b2⟩ := b
      unfold mailS joinM
      by_cases hx : x.1 = v <;> cases a1 <;> cases b1 <;> simp [hx, combD_assoc]
  exact key _ q rfl
theorem mailL_filter (k v : Int) (l : List (Int × Int)) : mailL k v l = mailL k v (l.filter fun x => x.1 == v) := by
  unfold mailL
  generalize ((false, 0) : Bool × Int) = m
  induction l generalizing m with
  | nil => rfl
  | cons x l ih =>
    rw [List.foldl_cons, List.filter_cons]
    by_cases hx : x.1 = v
    · rw [if_pos (by simp [hx]), List.foldl_cons]
      exact ih _
    · rw [if_neg (by simp [hx])]
      have e : mailS k v m x = m := by unfold mailS; rw [if_neg hx]
      rw [e]
      exact ih _
theorem rising_filter : ∀ {l : List (Int × Int)}, Rising l → ∀ {v x : Int}, (v, x) ∈ l → l.filter (fun y => y.1 == v) = [(v, x)] := by
  intro l
  induction l with
  | nil => intro _ v x h; cases h
  | cons a l ih =>
    intro hr v x h
    unfold Rising at hr
    rw [List.pairwise_cons] at hr
    obtain ⟨h1, h2⟩ := hr
    rw [List.filter_cons]
    rcases List.mem_cons.1 h with h | h
    · subst h
      rw [if_pos (by simp)]
      congr 1
      rw [List.filter_eq_nil_iff]
      intro y hy
      have := h1 y hy
      simp at this ⊢
      omega
    · have := h1 _ h
      simp at this
      rw [if_neg (by simp; omega)]
      exact ih h2 h
theorem mail_fold (k v : Int) (l : List (Int × Int)) : mailL k v (foldL k l) = mailL k v l := by
  obtain ⟨hr, hm⟩ := foldL_is k l
  cases h : (mailL k v l).1
  · rw [mailL_none h, mailL_filter]
    have e : (foldL k l).filter (fun y => y.1 == v) = [] := by
      rw [List.filter_eq_nil_iff]
      intro y hy hyv
      have hyv' : y.1 = v := by simpa using hyv
      have := (hm y.1 y.2).1 hy
      rw [hyv'] at this
      rw [this] at h
      cases h
    rw [e]; rfl
  · have e : mailL k v l = (true, (mailL k v l).2) := by rw [← h]
    have hin := (hm v _).2 e
    rw [mailL_filter, rising_filter hr hin, e]
    simp [mailL, mailS]
theorem mergeL_ext {k : Int} {own : List Int} {L M : List (List (Int × Int))} (h : ∀ v, mailL k v L.flatten = mailL k v M.flatten) : mergeL k own L = mergeL k own M := by
  unfold mergeL
  exact List.map_congr_left fun v _ => h v
/-- messages to vertices that may be -/
def someL (l : List (Int × Int)) : List (Int × Int) := l.filter fun x => decide (0 ≤ x.1) && decide (x.1 < 512)
theorem mail_split (k v : Int) (l : List (Int × Int)) {n : Nat} (h1 : 1 ≤ n) (h2 : n ≤ 64) : mailL k v (splitL l n).flatten = mailL k v (someL l) := by
  rw [mailL_filter, mailL_filter k v (someL l)]
  congr 1
  have e1 : (someL l).filter (fun x => x.1 == v) = if 0 ≤ v ∧ v < 512 then l.filter (fun x => x.1 == v) else [] := by
    unfold someL
    rw [List.filter_filter]
    split
    · rename_i hv
      refine List.filter_congr fun x _ => ?_
      by_cases hx : x.1 = v
      · simp [hx, hv]
      · simp [hx]
    · rename_i hv
      rw [List.filter_eq_nil_iff]
      intro x _
      simp
      omega
  have e2 : ∀ u : Nat, (rowL l n u).filter (fun x => x.1 == v) = if ofD v n = u then l.filter (fun x => x.1 == v) else [] := by
    intro u
    unfold rowL
    rw [List.filter_filter]
    split
    · rename_i hu
      refine List.filter_congr fun x _ => ?_
      by_cases hx : x.1 = v
      · simp [hx, hu]
      · simp [hx]
    · rename_i hu
      rw [List.filter_eq_nil_iff]
      intro x _
      simp only [Bool.and_eq_true, beq_iff_eq, not_and]
      intro hx
      rw [hx]
      exact hu
  rw [e1]
  have key : ∀ m : Nat, (((List.range m).map (rowL l n)).flatten).filter (fun x => x.1 == v) = if 0 ≤ ofD v n ∧ ofD v n < m then l.filter (fun x => x.1 == v) else [] := by
    intro m
    induction m with
    | zero => rw [if_neg (by omega)]; rfl
    | succ m ih =>
      rw [List.range_succ, List.map_append, List.flatten_append, List.filter_append, ih]
      simp only [List.map_cons, List.map_nil, List.flatten_cons, List.flatten_nil, List.append_nil]
      rw [e2 m]
      by_cases h : ofD v n = m
      · rw [if_pos h, if_neg (by omega), if_pos (by omega)]; rfl
      · rw [if_neg h, List.append_nil]
        by_cases h' : 0 ≤ ofD v n ∧ ofD v n < m
        · rw [if_pos h', if_pos (by omega)]
        · rw [if_neg h', if_neg (by omega)]
  unfold splitL
  rw [key n]
  by_cases hv : 0 ≤ v ∧ v < 512
  · have := ofD_bd v n (by omega)
    rw [if_pos hv, if_pos (by omega)]
  · have e : ofD v n = -1 := by unfold ofD; rw [if_pos (by omega)]
    rw [if_neg hv, e, if_neg (by omega)]
theorem ord_two {k : Int} {own : List Int} {l : List (Int × Int)} (i : Nat) : mergeL k own [l.take i, l.drop i] = mergeL k own [l] := mergeL_ext fun v => by simp
theorem ord_three {k : Int} {own : List Int} {l : List (Int × Int)} (i : Nat) : mergeL k own [l.drop i, [], l.take i] = mergeL k own [l] := mergeL_ext fun v => by
  simp only [List.flatten_cons, List.flatten_nil, List.append_nil, List.nil_append]
  exact mailL_perm k v (List.perm_append_comm.trans (by rw [List.take_append_drop]))
theorem ord_turned {k : Int} {own : List Int} {l : List (Int × Int)} (i : Nat) : mergeL k own [l.drop i ++ l.take i] = mergeL k own [l] := mergeL_ext fun v => by
  simp only [List.flatten_cons, List.flatten_nil, List.append_nil]
  exact mailL_perm k v (List.perm_append_comm.trans (by rw [List.take_append_drop]))
theorem ord_back {k : Int} {own : List Int} {l : List (Int × Int)} : mergeL k own [l.reverse] = mergeL k own [l] := mergeL_ext fun v => by
  simp only [List.flatten_cons, List.flatten_nil, List.append_nil]
  exact mailL_perm k v (List.reverse_perm l)
theorem ord_fold {k : Int} {own : List Int} {l : List (Int × Int)} : mergeL k own [foldL k l] = mergeL k own [l] := mergeL_ext fun v => by
  simp only [List.flatten_cons, List.flatten_nil, List.append_nil]
  exact mail_fold k v l
theorem ord_folds {k : Int} {own : List Int} {l : List (Int × Int)} (i : Nat) : mergeL k own [foldL k (l.reverse.take i), foldL k (l.reverse.drop i)] = mergeL k own [l] := mergeL_ext fun v => by
  simp only [List.flatten_cons, List.flatten_nil, List.append_nil]
  rw [mailL_append, mail_fold, mail_fold, ← mailL_append, List.take_append_drop]
  exact mailL_perm k v (List.reverse_perm l)
theorem ord_split {k : Int} {own : List Int} {l : List (Int × Int)} {n : Nat} (h1 : 1 ≤ n) (h2 : n ≤ 64) : mergeL k own (splitL l n) = mergeL k own [someL l] := mergeL_ext fun v => by
  simp only [List.flatten_cons, List.flatten_nil, List.append_nil]
  exact mail_split k v l h1 h2
end Go.Proofs.Ytbmjmpojabbegaa
