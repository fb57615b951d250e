/- A line cut at a byte (strings.Split at one byte) in plain words; joined words come apart again. -/
import Derived.Lib.SplitLaws
import Derived.Lib.Split
import Derived.Lib.IndexBytes
import Derived.Lib.IndexLaws
namespace Go.Proofs.YtggegefeagkhkaaDoor
open Go.Lib
/-- a line's words, at a byte -/
def sp (c : UInt8) : List UInt8 → List UInt8 → List (List UInt8)
  | [], cur => [cur]
  | b :: r, cur => if b = c then cur :: sp c r [] else sp c r (cur ++ [b])
theorem sp_cur (c : UInt8) : ∀ (s cur : List UInt8), sp c s cur = (cur ++ (sp c s []).headD []) :: (sp c s []).tail := by
  intro s
  induction s with
  | nil => intro cur; simp [sp]
  | cons b r ih =>
    intro cur
    rw [sp, sp]
    by_cases h : b = c
    · rw [if_pos h, if_pos h]; simp
    · rw [if_neg h, if_neg h, ih (cur ++ [b]), ih ([] ++ [b])]; simp
theorem index_cons (b c : UInt8) (r : List UInt8) (h : b ≠ c) : index (b :: r) [c] = if index r [c] = -1 then -1 else index r [c] + 1 := by
  rw [index]
  have : List.isPrefixOf [c] (b :: r) = false := by
    simp [List.isPrefixOf, Ne.symm h]
  rw [this]
  simp
theorem splitK_sp (c : UInt8) : ∀ (s : List UInt8) (k : Nat), count s [c] ≤ k → splitK [c] 0 k s = sp c s [] := by
  intro s
  induction s with
  | nil =>
    intro k _
    cases k with
    | zero => rfl
    | succ k => simp [splitK, index, sp]
  | cons b r ih =>
    intro k hk
    by_cases h : b = c
    · subst h
      rw [count_cons_eq] at hk
      cases k with
      | zero => omega
      | succ k =>
        have hi : index (b :: r) [b] = 0 := by rw [index]; simp
        rw [splitK, hi, sp, if_pos rfl]
        simp only [Int.toNat_zero, Nat.zero_add, List.take_zero, List.length_cons, List.length_nil, List.drop_succ_cons, List.drop_zero]
        rw [if_neg (by decide), ih k (by omega)]
    · have hc : count (b :: r) [c] = count r [c] := count_cons_ne b c r h
      rw [hc] at hk
      have ihk := ih k hk
      rw [sp, if_neg h, sp_cur c r ([] ++ [b]), ← ihk]
      cases k with
      | zero => simp [splitK]
      | succ k =>
        rw [splitK, splitK, index_cons b c r h]
        by_cases hi : index r [c] = -1
        · rw [if_pos hi, hi]; simp
        · have h0 : 0 ≤ index r [c] := by
            have := index_one r c
            have h2 := indexByte_ge r c
            omega
          have ht : (index r [c] + 1).toNat = (index r [c]).toNat + 1 := by omega
          rw [if_neg hi, if_neg (by simp; omega), if_neg (by simpa using hi), ht]
          simp
theorem split_sp (s : List UInt8) (c : UInt8) : split s [c] = sp c s [] := splitK_sp c s _ (Nat.le_refl _)
theorem sp_no (c : UInt8) : ∀ (a r cur : List UInt8), c ∉ a → sp c (a ++ r) cur = sp c r (cur ++ a) := by
  intro a
  induction a with
  | nil => intro r cur _; simp
  | cons b a ih =>
    intro r cur h
    have hb : b ≠ c := fun e => h (by rw [e]; exact List.mem_cons_self ..)
    rw [List.cons_append, sp, if_neg hb, ih r _ (fun e => h (List.mem_cons_of_mem _ e))]
    simp
def joinB (c : UInt8) : List (List UInt8) → List UInt8
  | [] => []
  | [a] => a
  | a :: b :: r => a ++ c :: joinB c (b :: r)
theorem sp_join (c : UInt8) : ∀ (l : List (List UInt8)), l ≠ [] → (∀ g ∈ l, c ∉ g) → sp c (joinB c l) [] = l := by
  intro l
  induction l with
  | nil => intro h; exact absurd rfl h
  | cons a l ih =>
    intro _ h
    have ha := h a (List.mem_cons_self ..)
    cases l with
    | nil =>
      have := sp_no c a [] [] ha
      rw [List.append_nil] at this
      rw [joinB, this]; simp [sp]
    | cons b r =>
      rw [joinB, sp_no c a _ [] ha, sp, if_pos rfl, ih (by simp) fun g hg => h g (List.mem_cons_of_mem _ hg)]
      simp
end Go.Proofs.YtggegefeagkhkaaDoor
