/- Plain: the program's words are the reference's; one blank between, they are read again. No program stands in this text. Plain: the program's road over a row of runes and the reference's come to the same number. No program stands in this text. -/
import Derived.Test.YtggegefeagkhkaaDoorPk7
import Derived.Lib.TrimAscii
import Derived.Test.YtggegefeagkhkaaDoorWordsS
namespace Go.Proofs.YtggegefeagkhkaaDoor
open Go.Lib

abbrev Chunk := Nat × List UInt8
def flat (cs : List Chunk) : List UInt8 := cs.flatMap (·.2)
def ba (l : List UInt8) : ByteArray := ⟨l.toArray⟩
theorem ba_toList (l : List UInt8) : (ba l).data.toList = l := by simp [ba]
theorem ba_of (s : ByteArray) : ba s.data.toList = s := by cases s; simp [ba]
theorem ba_inj {a b : List UInt8} (h : ba a = ba b) : a = b := by
  have := congrArg (fun x : ByteArray => x.data.toList) h
  simpa [ba] using this
theorem ba_append (a b : List UInt8) : ba a ++ ba b = ba (a ++ b) := by
  rw [← ba_of (ba a ++ ba b)]
  congr 1
def okC (c : Chunk) : Bool := !brk c && !ctl c.1
/-- up to a '#' -/
def pre : List Chunk → List Chunk
  | [] => []
  | c :: cs => if c.1 = 35 then [] else c :: pre cs
/-- the fields of a row of characters, as rows of characters -/
def fields : List Chunk → List Chunk → List (List Chunk)
  | [], cur => if cur = [] then [] else [cur]
  | c :: cs, cur => if blankN c.1 = true then (if cur = [] then fields cs [] else cur :: fields cs []) else fields cs (cur ++ [c])

theorem takeS {α : Type} (l : List α) (i : Nat) (h : i < l.length) : l.take (i + 1) = l.take i ++ [l[i]] := by
  rw [List.take_add_one, List.getElem?_eq_getElem h]; rfl
theorem sumS (f : ByteArray → Nat) (l : List ByteArray) (i : Nat) (h : i < l.length) : ((l.take (i + 1)).map f).sum = ((l.take i).map f).sum + f l[i] := by
  rw [takeS l i h, List.map_append, List.sum_append]; simp
theorem size_ba (l : List UInt8) : (ba l).size = l.length := by rw [size_eq, ba_toList]
theorem flat_nil_iff {cs : List Chunk} (h : ∀ c ∈ cs, c.2 ≠ []) : flat cs = [] ↔ cs = [] := by
  cases cs with
  | nil => simp [flat]
  | cons c cs =>
    have := h c (by simp)
    simp [flat, this]
theorem extract_drop (s : ByteArray) (a n : Nat) : s.extract a (a + n) = ba ((s.data.toList.drop a).take n) := by
  rw [← ba_of (s.extract a (a + n)), extract_data, List.take_drop]
  first | (congr 1; rw [List.drop_take]; done) | (rw [List.drop_take]; congr 2; omega)

/-- THE REFERENCE: what its road comes to -/
theorem wrdR_eq (s : ByteArray) : ∀ (cs : List Chunk) (at_ : Nat) (cur : List Chunk) (acc : List ByteArray), s.data.toList.drop at_ = flat cs → (∀ c ∈ cs, c.2 ≠ []) → (∀ c ∈ cur, c.2 ≠ []) →
    wrdR s (cs.map fun c => (c.1, c.2.length)) at_ (ba (flat cur)) acc =
      if (pre cs).all okC = true then some (acc ++ (fields (pre cs) cur).map fun g => ba (flat g)) else none := by
  intro cs
  induction cs with
  | nil =>
    intro at_ cur acc _ _ hcur
    rw [List.map_nil, wrdR, pre]
    simp only [List.all_nil, if_true, fields]
    unfold push1
    by_cases h : cur = []
    · subst h; simp [flat, size_ba]
    · have : ¬ (ba (flat cur)).size = 0 := by
        rw [size_ba, List.length_eq_zero_iff, flat_nil_iff hcur]; exact h
      rw [if_neg this, if_neg h]; rfl
  | cons c cs ih =>
    intro at_ cur acc hd hne hcur
    rw [List.map_cons, wrdR, pre]
    have hpush : push1 acc (ba (flat cur)) = acc ++ (if cur = [] then [] else [cur]).map fun g => ba (flat g) := by
      unfold push1
      by_cases h : cur = []
      · subst h; simp [flat, size_ba]
      · have : ¬ (ba (flat cur)).size = 0 := by
          rw [size_ba, List.length_eq_zero_iff, flat_nil_iff hcur]; exact h
        rw [if_neg this, if_neg h]; rfl
    by_cases h35 : c.1 = 35
    · rw [if_pos h35, if_pos h35, hpush]
      simp [fields]
    · rw [if_neg h35, if_neg h35]
      have hbr : isBroken (c.1, c.2.length) = brk c := rfl
      by_cases hok : okC c = true
      · have hno : ¬ (isBroken (c.1, c.2.length) = true ∨ ctl c.1 = true) := by
          rw [hbr]
          simp [okC] at hok
          rintro (h | h) <;> simp_all
        have hdc : s.data.toList.drop (at_ + c.2.length) = flat cs := by
          rw [← List.drop_drop, hd]; simp [flat]
        have hex : s.extract at_ (at_ + c.2.length) = ba c.2 := by
          rw [extract_drop, hd]; simp [flat]
        rw [if_neg hno, List.all_cons, hok, Bool.true_and]
        by_cases hb : blankN c.1 = true
        · have hcl := ih (at_ + c.2.length) [] (push1 acc (ba (flat cur))) hdc (fun x hx => hne x (by simp [hx])) (by simp)
          rw [if_pos hb]
          refine (Eq.trans ?_ hcl).trans ?_
          · rfl
          · rw [hpush]
            simp only [fields, if_pos hb]
            by_cases h : cur = []
            · subst h; simp
            · simp [h]
        · rw [if_neg hb]
          have hcl := ih (at_ + c.2.length) (cur ++ [c]) acc hdc (fun x hx => hne x (by simp [hx])) (fun x hx => by
            rcases List.mem_append.1 hx with h | h
            · exact hcur x h
            · simp at h; subst h; exact hne x (by simp))
          refine (Eq.trans ?_ hcl).trans ?_
          · dsimp only
            rw [hex]
            rw [ba_append]
            simp [flat]
          · simp only [fields, if_neg hb]
      · have hyes : isBroken (c.1, c.2.length) = true ∨ ctl c.1 = true := by
          rw [hbr]
          unfold okC at hok
          cases h1 : brk c <;> cases h2 : ctl c.1 <;> simp_all
        rw [if_pos hyes, List.all_cons]
        simp [hok]

theorem chunks_ne (l : List UInt8) : ∀ c ∈ chunks l, c.2 ≠ [] := by
  have h : ∀ (n : Nat) (l : List UInt8), l.length ≤ n → ∀ c ∈ chunks l, c.2 ≠ [] := by
    intro n
    induction n with
    | zero =>
      intro l hl c hc
      have : l = [] := List.eq_nil_of_length_eq_zero (by omega)
      subst this; simp [chunks_nil] at hc
    | succ n ih =>
      intro l hl c hc
      by_cases h0 : l = []
      · subst h0; simp [chunks_nil] at hc
      · have hw := decodeL_width l
        rw [chunks_cons l h0] at hc
        rcases List.mem_cons.1 hc with rfl | hc
        · intro e
          have := congrArg List.length e
          dsimp only at this
          rw [chunks_width l h0] at this
          simp at this; omega
        · exact ih _ (by rw [List.length_drop]; omega) c hc
  exact h _ l (Nat.le_refl _)

/-- what both come to -/
def wordsC (l : List UInt8) : Option (List ByteArray) := if (pre (chunks l)).all okC = true then some ((fields (pre (chunks l)) []).map fun g => ba (flat g)) else none
theorem wordsR_eq (s : ByteArray) : wordsR s = wordsC s.data.toList := by
  unfold wordsR
  rw [chs_chunks]
  have h := wrdR_eq s (chunks s.data.toList) 0 [] [] (by rw [List.drop_zero]; exact (chunks_flat _).symm) (chunks_ne _) (by simp)
  refine (Eq.trans ?_ h).trans ?_
  · rfl
  · simp [wordsC]
end Go.Proofs.YtggegefeagkhkaaDoor
namespace Go.Proofs.YtggegefeagkhkaaDoor

theorem num_main (k : Int) : ∀ (rs : List Nat) (n n' : Int) (c : Nat) (no ov ov' : Bool), 1 ≤ c → 0 ≤ n → n ≤ 4611686018427387904 →
    ((ov = true ∧ ov' = true) ∨ (ov = false ∧ ov' = false ∧ n = n') ∨ (ov = false ∧ ov' = true ∧ 576460752303423488 < n ∧ 0 < rs.length)) → 0 ≤ k →
    numGo (rs.map fun (r : Nat) => (r : Int)) n c k no ov = if no = true ∧ 1 < c + rs.length then (0, 30) else numRGo k rs n' ov' := by
  intro rs
  induction rs with
  | nil =>
    intro n n' c no ov ov' hc h0 h1 hrel hk
    rw [List.map_nil, numGo_nil, numRGo]
    have hc0 : (c == 0) = false := by simp; omega
    rcases hrel with ⟨rfl, rfl⟩ | ⟨rfl, rfl, rfl⟩ | ⟨_, _, _, h⟩
    · cases no <;> simp [hc0]
    · cases no <;> simp [hc0]
    · simp at h
  | cons r rs ih =>
    intro n n' c no ov ov' hc h0 h1 hrel hk
    rw [List.map_cons]
    by_cases hkr : kindOf r = k
    · have hd := digitOf_k r (by omega)
      have hc0 : ¬ c = 0 := by omega
      have hlen : 1 < c + (r :: rs).length ↔ 1 < c + 1 + rs.length := by simp; omega
      rcases hrel with ⟨rfl, rfl⟩ | ⟨rfl, rfl, rfl⟩ | ⟨rfl, rfl, hn, _⟩
      · rw [numGo_ok (by omega) (.inr hkr) true rfl, if_pos rfl, if_neg hc0, hkr, ih n n' (c + 1) no true true (by omega) h0 h1 (.inl ⟨rfl, rfl⟩) hk]
        simp only [hlen]
        congr 1
        rw [numRGo, if_neg (by simp [hkr]), if_pos rfl]
      · by_cases hcmp : (4611686018427387904 - digitOf r) / 10 < n
        · rw [numGo_ok (by omega) (.inr hkr) true (by simp [hcmp]), if_pos rfl, if_neg hc0, hkr, ih n (n * 10 + digitOf r) (c + 1) no true true (by omega) h0 h1 (.inl ⟨rfl, rfl⟩) hk]
          simp only [hlen]
          congr 1
          conv => rhs; rw [numRGo, if_neg (by simp [hkr]), if_neg (by simp)]
          have : decide (4611686018427387904 < n * 10 + digitOf r) = true := by simp; omega
          rw [this, Bool.or_true]
        · have h2 : n * 10 + digitOf r ≤ 4611686018427387904 := by omega
          have hz : decide (4611686018427387904 < n * 10 + digitOf r) = false := by simp; omega
          rw [numGo_ok (by omega) (.inr hkr) false (by simp [hcmp]), if_neg (by simp), if_neg hc0, hkr]
          by_cases hb : 576460752303423488 < n * 10 + digitOf r ∧ 0 < rs.length
          · have hbb : (decide (576460752303423488 < n * 10 + digitOf r) && decide (0 < rs.length)) = true := by simp [hb]
            rw [ih (n * 10 + digitOf r) (n * 10 + digitOf r) (c + 1) no false true (by omega) (by omega) h2 (.inr (.inr ⟨rfl, rfl, hb.1, hb.2⟩)) hk]
            simp only [hlen]
            congr 1
            conv => rhs; rw [numRGo, if_neg (by simp [hkr]), if_neg (by simp), hz, hbb]
            rfl
          · have hbb : (decide (576460752303423488 < n * 10 + digitOf r) && decide (0 < rs.length)) = false := by
              rw [Bool.and_eq_false_iff, decide_eq_false_iff_not, decide_eq_false_iff_not]
              omega
            rw [ih (n * 10 + digitOf r) (n * 10 + digitOf r) (c + 1) no false false (by omega) (by omega) h2 (.inr (.inl ⟨rfl, rfl, rfl⟩)) hk]
            simp only [hlen]
            congr 1
            conv => rhs; rw [numRGo, if_neg (by simp [hkr]), if_neg (by simp), hz, hbb]
            rfl
      · have hcmp : (4611686018427387904 - digitOf r) / 10 < n := by omega
        rw [numGo_ok (by omega) (.inr hkr) true (by simp [hcmp]), if_pos rfl, if_neg hc0, hkr, ih n n' (c + 1) no true true (by omega) h0 h1 (.inl ⟨rfl, rfl⟩) hk]
        simp only [hlen]
        congr 1
        rw [numRGo, if_neg (by simp [hkr]), if_pos rfl]
    · rw [numGo_bad (.inr ⟨by omega, hkr⟩), numRGo, if_pos hkr, ite_self]

theorem numR_cons (r : Nat) (rs : List Nat) : numR (r :: rs) = if kindOf r < 0 ∨ (0 < rs.length ∧ digitOf r = 0) then (0, 30) else numRGo (kindOf r) (r :: rs) 0 false := rfl
theorem num_eq (l : List Nat) : numP (l.map fun (r : Nat) => (r : Int)) = numR l := by
  cases l with
  | nil => rfl
  | cons r rs =>
    rw [numR_cons, numP, List.map_cons]
    by_cases hk : kindOf r < 0
    · rw [numGo_bad (.inl hk), if_pos (.inl hk)]
    · have hd := digitOf_k r (by omega)
      rw [numGo_ok (by omega) (.inl rfl) false (by simp; omega), if_neg (by simp), if_pos rfl, num_main (kindOf r) rs _ (0 * 10 + digitOf r) 1 _ false false (by omega) (by omega) (by omega) (.inr (.inl ⟨rfl, rfl, rfl⟩)) (by omega)]
      have h1 : ((digitOf r == 0) = true ∧ 1 < 0 + 1 + rs.length) ↔ (kindOf r < 0 ∨ (0 < rs.length ∧ digitOf r = 0)) := by
        rw [beq_iff_eq]; omega
      have h3 : numRGo (kindOf r) (r :: rs) 0 false = numRGo (kindOf r) rs (0 * 10 + digitOf r) ((decide (576460752303423488 < 0 * 10 + digitOf r) && decide (0 < rs.length)) || decide (4611686018427387904 < 0 * 10 + digitOf r)) := by
        rw [numRGo, if_neg (by simp), if_neg (by simp)]
      have h2 : ((decide (576460752303423488 < 0 * 10 + digitOf r) && decide (0 < rs.length)) || decide (4611686018427387904 < 0 * 10 + digitOf r)) = false := by
        have e1 : decide (576460752303423488 < 0 * 10 + digitOf r) = false := by simp; omega
        have e2 : decide (4611686018427387904 < 0 * 10 + digitOf r) = false := by simp; omega
        rw [e1, e2]; rfl
      rw [h3, h2]
      by_cases hc : kindOf r < 0 ∨ (0 < rs.length ∧ digitOf r = 0)
      · rw [if_pos (h1.2 hc), if_pos hc]
      · rw [if_neg (fun h => hc (h1.1 h)), if_neg hc]
end Go.Proofs.YtggegefeagkhkaaDoor
