/- Plain: the program's lines are the reference's; with a byte 10 behind each, they are read again. No program stands in this text. -/
import Derived.Test.YtggegefeagkhkaaDoorPk8
import Derived.Test.YtggegefeagkhkaaDoorLinesS
namespace Go.Proofs.YtggegefeagkhkaaDoor
open Go.Lib

def endL (cur : List UInt8) : List UInt8 := trimSuffix cur [13]
/-- the lines of a row of bytes, behind what is read of one -/
def lin : List UInt8 → List UInt8 → List (List UInt8)
  | [], cur => if cur = [] then [] else [endL cur]
  | b :: bs, cur => if b = 10 then endL cur :: lin bs [] else lin bs (cur ++ [b])
theorem trim_snoc (l : List UInt8) (b : UInt8) : trimSuffix (l ++ [b]) [b] = l := by
  have : hasSuffix (l ++ [b]) [b] = true := by
    unfold hasSuffix
    exact List.isSuffixOf_iff_suffix.2 ⟨l, rfl⟩
  unfold trimSuffix
  rw [this]
  simp
theorem trim_other (l : List UInt8) (a b : UInt8) (h : a ≠ b) : trimSuffix (l ++ [a]) [b] = l ++ [a] := by
  have : hasSuffix (l ++ [a]) [b] = false := by
    unfold hasSuffix
    cases hq : [b].isSuffixOf (l ++ [a])
    · rfl
    · obtain ⟨t, ht⟩ := List.isSuffixOf_iff_suffix.1 hq
      have := List.append_inj_right' ht rfl
      simp at this
      exact absurd this.symm h
  unfold trimSuffix
  rw [this]
  simp
theorem trim_nil (b : UInt8) : trimSuffix [] [b] = [] := by
  unfold trimSuffix; split <;> simp
theorem trim_no (l : List UInt8) (b : UInt8) (h : b ∉ l) : trimSuffix l [b] = l := by
  rcases List.eq_nil_or_concat l with rfl | ⟨m, a, rfl⟩
  · exact trim_nil b
  · rw [List.concat_eq_append] at h ⊢
    exact trim_other m a b fun e => h (by simp [e])
theorem lin_no : ∀ (a rest cur : List UInt8), (10 : UInt8) ∉ a → lin (a ++ rest) cur = lin rest (cur ++ a) := by
  intro a
  induction a with
  | nil => intro rest cur _; simp
  | cons b a ih =>
    intro rest cur h
    simp at h
    rw [List.cons_append, lin, if_neg (fun e => h.1 e.symm), ih rest _ h.2]
    simp
theorem index_split (l : List UInt8) (k : Nat) (h : indexByte l 10 = k) : k < l.length ∧ (10 : UInt8) ∉ l.take k ∧ l = l.take k ++ 10 :: l.drop (k + 1) := by
  obtain ⟨h1, h2⟩ := indexByte_some h
  have hk := (List.getElem?_eq_some_iff.1 h1).1
  refine ⟨hk, fun hm => ?_, ?_⟩
  · obtain ⟨j, hj, e⟩ := List.mem_iff_getElem.1 hm
    rw [List.length_take] at hj
    rw [List.getElem_take] at e
    exact h2 j (by omega) (by rw [List.getElem?_eq_getElem (by omega), e])
  · conv => lhs; rw [← List.take_append_drop k l]
    rw [List.drop_eq_getElem_cons hk, (List.getElem?_eq_some_iff.1 h1).2]
theorem index_no (l : List UInt8) (h : indexByte l 10 = -1) : (10 : UInt8) ∉ l := by
  intro hm
  obtain ⟨j, hj, e⟩ := List.mem_iff_getElem.1 hm
  exact indexByte_none h j (by rw [List.getElem?_eq_getElem hj, e])
theorem extract0 (s : ByteArray) (k : Nat) : s.extract 0 k = ba (s.data.toList.take k) := by
  have := extract_drop s 0 k
  rw [Nat.zero_add, List.drop_zero] at this
  exact this
theorem extract_rest (s : ByteArray) (k : Nat) : (s.extract k s.size).data.toList = s.data.toList.drop k := by
  rw [extract_data, List.take_of_length_le]
  rw [List.length_drop, size_eq]; exact Nat.le_refl _
theorem chop_ba (l : List UInt8) : chop (ba l) = ba (trimSuffix (trimSuffix l [10]) [13]) := rfl
theorem linesP_eq (s : ByteArray) : linesP s = (lin s.data.toList []).map ba := by
  have h : ∀ (f : Nat) (s : ByteArray), s.size ≤ f → (lns f s).map chop = (lin s.data.toList []).map ba := by
    intro f
    induction f with
    | zero =>
      intro s hs
      have : s.data.toList = [] := List.eq_nil_of_length_eq_zero (by rw [← size_eq]; omega)
      rw [this]; rfl
    | succ f ih =>
      intro s hs
      unfold lns
      by_cases h0 : s.size = 0
      · have : s.data.toList = [] := List.eq_nil_of_length_eq_zero (by rw [← size_eq]; omega)
        rw [if_pos h0, this]; rfl
      · rw [if_neg h0]
        have hge := indexByte_ge s.data.toList 10
        by_cases hi : 0 ≤ indexByte s.data.toList 10
        · rw [if_pos hi]
          obtain ⟨k, hk⟩ : ∃ k : Nat, indexByte s.data.toList 10 = k := ⟨_, (Int.toNat_of_nonneg hi).symm⟩
          obtain ⟨h1, h2, h3⟩ := index_split _ k hk
          have hkn : (indexByte s.data.toList 10).toNat = k := by rw [hk]; exact Int.toNat_natCast k
          rw [hkn, List.map_cons, ih _ (by rw [ByteArray.size_extract]; omega), extract_rest, extract0]
          conv => rhs; rw [h3]
          rw [lin_no _ _ _ h2, lin, if_pos rfl, List.map_cons, List.nil_append]
          congr 1
          have ht : s.data.toList.take (k + 1) = s.data.toList.take k ++ [10] := by
            rw [List.take_add_one, (indexByte_some hk).1]; rfl
          rw [ht, chop_ba, trim_snoc]; rfl
        · rw [if_neg hi]
          have hno := index_no _ (by omega : indexByte s.data.toList 10 = -1)
          have hne : s.data.toList ≠ [] := fun e => h0 (by rw [size_eq, e]; rfl)
          have := lin_no s.data.toList [] [] hno
          rw [List.append_nil, List.nil_append] at this
          rw [this, lin, if_neg hne]
          simp only [List.map_cons, List.map_nil]
          congr 1
          conv => lhs; rw [← ba_of s]
          rw [chop_ba, trim_no _ _ hno]; rfl
  exact h s.size s (Nat.le_refl _)

theorem bt_get (s : ByteArray) (i : Nat) : bt s i = (s.data.toList.getD i 0).toNat := by rw [getD_get!']; rfl
theorem drop_cons (s : ByteArray) (i : Nat) (h : i < s.size) : s.data.toList.drop i = s.data.toList.getD i 0 :: s.data.toList.drop (i + 1) := by
  have h' : i < s.data.toList.length := by rw [← size_eq]; exact h
  rw [List.drop_eq_getElem_cons h', List.getD_eq_getElem?_getD, List.getElem?_eq_getElem h']; rfl
theorem extract_snoc (s : ByteArray) (a i : Nat) (ha : a ≤ i) (h : i < s.size) : s.extract a (i + 1) = ba ((s.extract a i).data.toList ++ [s.data.toList.getD i 0]) := by
  rw [← ba_append, ba_of]
  have : ba [s.data.toList.getD i 0] = s.extract i (i + 1) := by
    rw [extract_drop, drop_cons s i h]; rfl
  rw [this, ByteArray.extract_append_extract]
  congr 1 <;> omega
theorem endL_eq (s : ByteArray) (fr i : Nat) (h : fr ≤ i) (hi : i ≤ s.size) : s.extract fr (if fr < i ∧ bt s (i - 1) = 13 then i - 1 else i) = ba (endL (s.extract fr i).data.toList) := by
  unfold endL
  by_cases hf : fr < i
  · obtain ⟨j, rfl⟩ : ∃ j, i = j + 1 := ⟨i - 1, by omega⟩
    have hs := extract_snoc s fr j (by omega) (by omega)
    rw [hs, ba_toList, Nat.add_sub_cancel, bt_get]
    by_cases h13 : (s.data.toList.getD j 0).toNat = 13
    · have : s.data.toList.getD j 0 = 13 := UInt8.toNat_inj.1 h13
      rw [if_pos ⟨hf, h13⟩, this, trim_snoc, ba_of]
    · have : s.data.toList.getD j 0 ≠ 13 := fun e => h13 (by rw [e]; rfl)
      rw [if_neg (fun h => h13 h.2), trim_other _ _ _ this, hs]
  · obtain rfl : fr = i := by omega
    rw [if_neg (fun h => hf h.1)]
    have : (s.extract fr fr).data.toList = [] := List.eq_nil_of_length_eq_zero (by rw [← size_eq, ByteArray.size_extract]; omega)
    rw [this, trim_nil]
    conv => lhs; rw [← ba_of (s.extract fr fr), this]
theorem linR_eq (s : ByteArray) : ∀ (f i fr : Nat) (acc : List ByteArray), i + f = s.size + 1 → fr ≤ i → linR s f i fr acc = acc ++ (lin (s.data.toList.drop i) (s.extract fr i).data.toList).map ba ∨ (f = 0 ∧ linR s f i fr acc = acc) := by
  intro f
  induction f with
  | zero => intro i fr acc _ _; exact .inr ⟨rfl, rfl⟩
  | succ f ih =>
    intro i fr acc hf hfr
    left
    unfold linR
    by_cases hlt : i < s.size
    · rw [drop_cons s i hlt, lin]
      by_cases h10 : bt s i = 10
      · have hb : s.data.toList.getD i 0 = 10 := UInt8.toNat_inj.1 (by rw [← bt_get, h10]; rfl)
        rw [if_neg (by omega), if_pos hb, List.map_cons, endL_eq s fr i hfr (by omega)]
        rcases ih (i + 1) (i + 1) (acc ++ [ba (endL (s.extract fr i).data.toList)]) (by omega) (Nat.le_refl _) with h | ⟨h, _⟩
        · have : (s.extract (i + 1) (i + 1)).data.toList = [] := List.eq_nil_of_length_eq_zero (by rw [← size_eq, ByteArray.size_extract]; omega)
          rw [h, this]; simp
        · omega
      · have hb : s.data.toList.getD i 0 ≠ 10 := fun e => h10 (by rw [bt_get, e]; rfl)
        rw [if_pos (.inl ⟨hlt, h10⟩), if_neg hb]
        rcases ih (i + 1) fr acc (by omega) (by omega) with h | ⟨h, _⟩
        · rw [h, extract_snoc s fr i hfr hlt, ba_toList]
        · omega
    · obtain rfl : i = s.size := by omega
      have hf0 : f = 0 := by omega
      subst hf0
      have hd : s.data.toList.drop s.size = [] := List.drop_eq_nil_of_le (by rw [← size_eq]; exact Nat.le_refl _)
      rw [hd, lin]
      by_cases he : fr = s.size
      · rw [if_pos (.inr ⟨rfl, he⟩)]
        have : (s.extract fr s.size).data.toList = [] := List.eq_nil_of_length_eq_zero (by rw [← size_eq, ByteArray.size_extract]; omega)
        rw [this]; simp [linR]
      · rw [if_neg (by omega)]
        have : ¬ (s.extract fr s.size).data.toList = [] := fun e => by
          have := congrArg List.length e
          rw [← size_eq, ByteArray.size_extract] at this
          simp at this; omega
        rw [if_neg this, endL_eq s fr s.size hfr (Nat.le_refl _)]
        simp [linR]
theorem linesR_eq (s : ByteArray) : linesR s = (lin s.data.toList []).map ba := by
  unfold linesR
  rcases linR_eq s (s.size + 1) 0 0 [] (by omega) (Nat.le_refl _) with h | ⟨h, _⟩
  · have : (s.extract 0 0).data.toList = [] := List.eq_nil_of_length_eq_zero (by rw [← size_eq, ByteArray.size_extract]; omega)
    rw [h, this]; rfl
  · omega
theorem lines_eq (s : ByteArray) : linesP s = linesR s := by rw [linesP_eq, linesR_eq]

/-- lines with a byte 10 behind each, as the law puts them -/
def lT (l : List ByteArray) : Nat → ByteArray
  | 0 => ByteArray.empty
  | i + 1 => (lT l i ++ l.getD i ByteArray.empty) ++ ba [10]
theorem lT_eq (l : List (List UInt8)) : ∀ i, i ≤ l.length → lT (l.map ba) i = ba ((l.take i).flatMap fun g => g ++ [10]) := by
  intro i
  induction i with
  | zero => intro _; rfl
  | succ i ih =>
    intro h
    have hg : (l.map ba).getD i ByteArray.empty = ba l[i] := by
      rw [List.getD_eq_getElem?_getD, List.getElem?_map, List.getElem?_eq_getElem (by omega)]; rfl
    rw [lT, ih (by omega), hg, ba_append, ba_append, takeS l i (by omega), List.flatMap_append, List.append_assoc]
    simp
theorem lin_mem : ∀ (l cur : List UInt8), (10 : UInt8) ∉ cur → ∀ g ∈ lin l cur, (10 : UInt8) ∉ g := by
  have hend : ∀ cur : List UInt8, (10 : UInt8) ∉ cur → (10 : UInt8) ∉ endL cur := by
    intro cur h
    unfold endL trimSuffix
    split
    · exact fun hm => h (List.mem_of_mem_take hm)
    · exact h
  intro l
  induction l with
  | nil =>
    intro cur h g hg
    rw [lin] at hg
    split at hg
    · simp at hg
    · simp at hg; subst hg; exact hend cur h
  | cons b l ih =>
    intro cur h g hg
    rw [lin] at hg
    split at hg
    · rcases List.mem_cons.1 hg with rfl | hg
      · exact hend cur h
      · exact ih [] (by simp) g hg
    · rename_i hb
      exact ih _ (by simp [h]; exact fun e => hb e.symm) g hg
/-- does a line end in a byte 13? -/
def end13 (s : ByteArray) : Bool := !(s.size == 0) && bt s (s.size - 1) == 13
theorem endL_no (g : List UInt8) (h : end13 (ba g) = false) : endL g = g := by
  rcases List.eq_nil_or_concat g with rfl | ⟨m, a, rfl⟩
  · exact trim_nil 13
  · rw [List.concat_eq_append] at h ⊢
    refine trim_other m a 13 fun e => ?_
    subst e
    unfold end13 at h
    rw [bt_get, size_ba, ba_toList] at h
    simp at h
theorem lin_lT : ∀ l : List (List UInt8), (∀ g ∈ l, (10 : UInt8) ∉ g ∧ endL g = g) → lin (l.flatMap fun g => g ++ [10]) [] = l := by
  intro l
  induction l with
  | nil => intro _; rfl
  | cons g l ih =>
    intro h
    obtain ⟨h1, h2⟩ := h g (by simp)
    rw [List.flatMap_cons, List.append_assoc, lin_no _ _ _ h1, List.nil_append, List.singleton_append, lin, if_pos rfl, h2, ih fun x hx => h x (by simp [hx])]
theorem lines_again (s : ByteArray) (h : ∀ w ∈ linesP s, end13 w = false) : linesP (lT (linesP s) (linesP s).length) = linesP s := by
  have he : linesP s = (lin s.data.toList []).map ba := linesP_eq s
  rw [he] at h ⊢
  rw [List.length_map, lT_eq _ _ (Nat.le_refl _), linesP_eq, ba_toList, List.take_length]
  congr 1
  refine lin_lT _ fun g hg => ⟨lin_mem _ [] (by simp) g hg, endL_no g (h _ (List.mem_map_of_mem hg))⟩
theorem lin_size : ∀ l cur : List UInt8, ((lin l cur).map fun g => g.length + 1).sum ≤ l.length + cur.length + 1 := by
  have hend : ∀ cur : List UInt8, (endL cur).length ≤ cur.length := fun cur => trimSuffix_le cur [13]
  intro l
  induction l with
  | nil => intro cur; rw [lin]; have := hend cur; split <;> simp; omega
  | cons b l ih =>
    intro cur
    rw [lin]
    split
    · have h1 := ih []; have := hend cur; simp at h1 ⊢; omega
    · have h1 := ih (cur ++ [b]); simp at h1 ⊢; omega
theorem lT_size (l : List ByteArray) : ∀ i, i ≤ l.length → (lT l i).size ≤ ((l.take i).map fun w => w.size + 1).sum := by
  intro i
  induction i with
  | zero => intro _; simp [lT]
  | succ i ih =>
    intro h
    have h1 := ih (by omega)
    have hg : l.getD i ByteArray.empty = l[i] := by rw [List.getD_eq_getElem?_getD, List.getElem?_eq_getElem (by omega)]; rfl
    rw [lT, hg, sumS _ l i (by omega)]
    simp only [ByteArray.size_append, size_ba, List.length_cons, List.length_nil]; omega
theorem lines_joined (s : ByteArray) (i : Nat) (hi : i ≤ (linesP s).length) : (lT (linesP s) i).size ≤ s.size + 1 := by
  have h2 := lT_size (linesP s) i hi
  have h3 : (((linesP s).take i).map fun w => w.size + 1).sum ≤ ((linesP s).map fun w => w.size + 1).sum := by
    conv => rhs; rw [← List.take_append_drop i (linesP s)]
    rw [List.map_append, List.sum_append]
    omega
  have h4 := lin_size s.data.toList []
  have h5 : ((linesP s).map fun w => w.size + 1).sum = ((lin s.data.toList []).map fun g => g.length + 1).sum := by
    rw [linesP_eq, List.map_map]
    congr 2
  rw [← size_eq] at h4
  simp at h4
  omega
end Go.Proofs.YtggegefeagkhkaaDoor
