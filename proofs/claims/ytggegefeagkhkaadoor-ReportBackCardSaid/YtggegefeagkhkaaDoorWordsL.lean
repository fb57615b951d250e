/- Plain: the program's words are the reference's; one blank between, they are read again. No program stands in this text. -/
import Derived.Test.YtggegefeagkhkaaDoorChunkS
import Derived.Lib.TrimAscii
namespace Go.Proofs.YtggegefeagkhkaaDoor
open Go.Lib

abbrev Chunk := Nat × List UInt8
def flat (cs : List Chunk) : List UInt8 := cs.flatMap (·.2)
def ba (l : List UInt8) : ByteArray := ⟨l.toArray⟩
theorem ba_toList (l : List UInt8) : (ba l).data.toList = l := by simp [ba]
theorem ba_of (s : ByteArray) : ba s.data.toList = s := by cases s; simp [ba]
theorem ba_inj {a b : List UInt8} (h : ba a = ba b) : a = b := by
  have := congrArg (fun x : ByteArray => x.data.toList) h
  simpa [ba] using this
theorem ba_append (a b : List UInt8) : ba a ++ ba b = ba (a ++ b) := by
  rw [← ba_of (ba a ++ ba b)]
  congr 1
def okC (c : Chunk) : Bool := !brk c && !ctl c.1
/-- up to a '#' -/
def pre : List Chunk → List Chunk
  | [] => []
  | c :: cs => if c.1 = 35 then [] else c :: pre cs
/-- the fields of a row of characters, as rows of characters -/
def fields : List Chunk → List Chunk → List (List Chunk)
  | [], cur => if cur = [] then [] else [cur]
  | c :: cs, cur => if blankN c.1 = true then (if cur = [] then fields cs [] else cur :: fields cs []) else fields cs (cur ++ [c])

theorem takeS {α : Type} (l : List α) (i : Nat) (h : i < l.length) : l.take (i + 1) = l.take i ++ [l[i]] := by
  rw [List.take_add_one, List.getElem?_eq_getElem h]; rfl
theorem sumS (f : ByteArray → Nat) (l : List ByteArray) (i : Nat) (h : i < l.length) : ((l.take (i + 1)).map f).sum = ((l.take i).map f).sum + f l[i] := by
  rw [takeS l i h, List.map_append, List.sum_append]; simp
theorem size_ba (l : List UInt8) : (ba l).size = l.length := by rw [size_eq, ba_toList]
theorem flat_nil_iff {cs : List Chunk} (h : ∀ c ∈ cs, c.2 ≠ []) : flat cs = [] ↔ cs = [] := by
  cases cs with
  | nil => simp [flat]
  | cons c cs =>
    have := h c (by simp)
    simp [flat, this]
theorem extract_drop (s : ByteArray) (a n : Nat) : s.extract a (a + n) = ba ((s.data.toList.drop a).take n) := by
  rw [← ba_of (s.extract a (a + n)), extract_data, List.take_drop]
  first | (congr 1; rw [List.drop_take]; done) | (rw [List.drop_take]; congr 2; omega)

/-- THE REFERENCE: what its road comes to -/
theorem wrdR_eq (s : ByteArray) : ∀ (cs : List Chunk) (at_ : Nat) (cur : List Chunk) (acc : List ByteArray), s.data.toList.drop at_ = flat cs → (∀ c ∈ cs, c.2 ≠ []) → (∀ c ∈ cur, c.2 ≠ []) →
    wrdR s (cs.map fun c => (c.1, c.2.length)) at_ (ba (flat cur)) acc =
      if (pre cs).all okC = true then some (acc ++ (fields (pre cs) cur).map fun g => ba (flat g)) else none := by
  intro cs
  induction cs with
  | nil =>
    intro at_ cur acc _ _ hcur
    rw [List.map_nil, wrdR, pre]
    simp only [List.all_nil, if_true, fields]
    unfold push1
    by_cases h : cur = []
    · subst h; simp [flat, size_ba]
    · have : ¬ (ba (flat cur)).size = 0 := by
        rw [size_ba, List.length_eq_zero_iff, flat_nil_iff hcur]; exact h
      rw [if_neg this, if_neg h]; rfl
  | cons c cs ih =>
    intro at_ cur acc hd hne hcur
    rw [List.map_cons, wrdR, pre]
    have hpush : push1 acc (ba (flat cur)) = acc ++ (if cur = [] then [] else [cur]).map fun g => ba (flat g) := by
      unfold push1
      by_cases h : cur = []
      · subst h; simp [flat, size_ba]
      · have : ¬ (ba (flat cur)).size = 0 := by
          rw [size_ba, List.length_eq_zero_iff, flat_nil_iff hcur]; exact h
        rw [if_neg this, if_neg h]; rfl
    by_cases h35 : c.1 = 35
    · rw [if_pos h35, if_pos h35, hpush]
      simp [fields]
    · rw [if_neg h35, if_neg h35]
      have hbr : isBroken (c.1, c.2.length) = brk c := rfl
      by_cases hok : okC c = true
      · have hno : ¬ (isBroken (c.1, c.2.length) = true ∨ ctl c.1 = true) := by
          rw [hbr]
          simp [okC] at hok
          rintro (h | h) <;> simp_all
        have hdc : s.data.toList.drop (at_ + c.2.length) = flat cs := by
          rw [← List.drop_drop, hd]; simp [flat]
        have hex : s.extract at_ (at_ + c.2.length) = ba c.2 := by
          rw [extract_drop, hd]; simp [flat]
        rw [if_neg hno, List.all_cons, hok, Bool.true_and]
        by_cases hb : blankN c.1 = true
        · have hcl := ih (at_ + c.2.length) [] (push1 acc (ba (flat cur))) hdc (fun x hx => hne x (by simp [hx])) (by simp)
          rw [if_pos hb]
          refine (Eq.trans ?_ hcl).trans ?_
          · rfl
          · rw [hpush]
            simp only [fields, if_pos hb]
            by_cases h : cur = []
            · subst h; simp
            · simp [h]
        · rw [if_neg hb]
          have hcl := ih (at_ + c.2.length) (cur ++ [c]) acc hdc (fun x hx => hne x (by simp [hx])) (fun x hx => by
            rcases List.mem_append.1 hx with h | h
            · exact hcur x h
            · simp at h; subst h; exact hne x (by simp))
          refine (Eq.trans ?_ hcl).trans ?_
          · dsimp only
            rw [hex]
            rw [ba_append]
            simp [flat]
          · simp only [fields, if_neg hb]
      · have hyes : isBroken (c.1, c.2.length) = true ∨ ctl c.1 = true := by
          rw [hbr]
          unfold okC at hok
          cases h1 : brk c <;> cases h2 : ctl c.1 <;> simp_all
        rw [if_pos hyes, List.all_cons]
        simp [hok]

theorem chunks_ne (l : List UInt8) : ∀ c ∈ chunks l, c.2 ≠ [] := by
  have h : ∀ (n : Nat) (l : List UInt8), l.length ≤ n → ∀ c ∈ chunks l, c.2 ≠ [] := by
    intro n
    induction n with
    | zero =>
      intro l hl c hc
      have : l = [] := List.eq_nil_of_length_eq_zero (by omega)
      subst this; simp [chunks_nil] at hc
    | succ n ih =>
      intro l hl c hc
      by_cases h0 : l = []
      · subst h0; simp [chunks_nil] at hc
      · have hw := decodeL_width l
        rw [chunks_cons l h0] at hc
        rcases List.mem_cons.1 hc with rfl | hc
        · intro e
          have := congrArg List.length e
          dsimp only at this
          rw [chunks_width l h0] at this
          simp at this; omega
        · exact ih _ (by rw [List.length_drop]; omega) c hc
  exact h _ l (Nat.le_refl _)

/-- what both come to -/
def wordsC (l : List UInt8) : Option (List ByteArray) := if (pre (chunks l)).all okC = true then some ((fields (pre (chunks l)) []).map fun g => ba (flat g)) else none
theorem wordsR_eq (s : ByteArray) : wordsR s = wordsC s.data.toList := by
  unfold wordsR
  rw [chs_chunks]
  have h := wrdR_eq s (chunks s.data.toList) 0 [] [] (by rw [List.drop_zero]; exact (chunks_flat _).symm) (chunks_ne _) (by simp)
  refine (Eq.trans ?_ h).trans ?_
  · rfl
  · simp [wordsC]
end Go.Proofs.YtggegefeagkhkaaDoor
