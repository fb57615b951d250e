/- Plain words: what the reference's Words and the program's Words gather. No program stands in this text. Plain: a string as a row of characters, each with its bytes; what is decoded of a character does not hang on what stands behind it. No program stands in this text. -/
import Derived.Test.YtggegefeagkhkaaDoorWordsS
import Derived.Lib.Strings
import Derived.Lib.MapLaws
import Derived.Lib.TrimUEq
namespace Go.Proofs.YtggegefeagkhkaaDoor

def ctl (r : Nat) : Bool := (decide (r < 32) && r != 9) || r == 127
def blankN (r : Nat) : Bool := r == 32 || r == 9 || r == 160
def push1 (acc : List ByteArray) (word : ByteArray) : List ByteArray := if word.size = 0 then acc else acc ++ [word]
/-- the reference's road over the characters -/
def wrdR (s : ByteArray) : List (Nat × Nat) → Nat → ByteArray → List ByteArray → Option (List ByteArray)
  | [], _, word, acc => some (push1 acc word)
  | c :: cs, at_, word, acc =>
    if c.1 = 35 then some (push1 acc word)
    else if isBroken c = true ∨ ctl c.1 = true then none
    else if blankN c.1 = true then wrdR s cs (at_ + c.2) ByteArray.empty (push1 acc word)
    else wrdR s cs (at_ + c.2) (word ++ s.extract at_ (at_ + c.2)) acc
def wordsR (s : ByteArray) : Option (List ByteArray) := wrdR s (chs s) 0 ByteArray.empty []

/-- does U+FFFD stand there, well spelt? -/
def pfx (s : ByteArray) (pos : Nat) : Bool := Lib.hasPrefix (s.extract pos s.size).data.toList [239, 191, 189]
/-- the program's look: where the words end -/
def scanP (s : ByteArray) : Nat → Nat → Option Nat
  | 0, _ => some s.size
  | f + 1, pos =>
    if pos < s.size then
      (if (Utf8.decode s pos).1 = 35 then some pos
       else if ((Utf8.decode s pos).1 = 65533 ∧ pfx s pos = false) ∨ ctl (Utf8.decode s pos).1 = true then none
       else scanP s f (pos + (Utf8.decode s pos).2))
    else some s.size
theorem scanP_end (s : ByteArray) (f pos : Nat) (h : ¬ pos < s.size) : scanP s f pos = some s.size := by
  cases f with
  | zero => rfl
  | succ f => rw [scanP, if_neg h]
def wordsP (s : ByteArray) : Option (List ByteArray) := (scanP s s.size 0).map fun e => Lib.goFieldsP blankN (s.extract 0 e)
end Go.Proofs.YtggegefeagkhkaaDoor
namespace Go.Proofs.YtggegefeagkhkaaDoor
open Go.Lib

/-- the characters of a row of bytes -/
def chunksGo : Nat → List UInt8 → List (Nat × List UInt8)
  | 0, _ => []
  | f + 1, l => if l = [] then [] else ((decodeL l).1, l.take (decodeL l).2) :: chunksGo f (l.drop (decodeL l).2)
def chunks (l : List UInt8) : List (Nat × List UInt8) := chunksGo l.length l
def brk (c : Nat × List UInt8) : Bool := c.1 == 65533 && c.2.length == 1

theorem chunksGo_nil (f : Nat) : chunksGo f [] = [] := by cases f <;> simp [chunksGo]
theorem chunksGo_fuel : ∀ (f g : Nat) (l : List UInt8), l.length ≤ f → l.length ≤ g → chunksGo f l = chunksGo g l := by
  intro f
  induction f with
  | zero =>
    intro g l hf _
    have : l = [] := List.eq_nil_of_length_eq_zero (by omega)
    subst this
    rw [chunksGo_nil, chunksGo_nil]
  | succ f ih =>
    intro g l hf hg
    cases g with
    | zero =>
      have : l = [] := List.eq_nil_of_length_eq_zero (by omega)
      subst this
      rw [chunksGo_nil, chunksGo_nil]
    | succ g =>
      unfold chunksGo
      split
      · rfl
      · have hw := decodeL_width l
        rw [ih g (l.drop (decodeL l).2) (by rw [List.length_drop]; omega) (by rw [List.length_drop]; omega)]
theorem chunks_nil : chunks [] = [] := rfl
theorem chunks_cons (l : List UInt8) (h : l ≠ []) : chunks l = ((decodeL l).1, l.take (decodeL l).2) :: chunks (l.drop (decodeL l).2) := by
  have hl : 0 < l.length := List.length_pos_iff.2 h
  have hw := decodeL_width l
  unfold chunks
  obtain ⟨n, hn⟩ : ∃ n, l.length = n + 1 := ⟨l.length - 1, by omega⟩
  rw [hn, chunksGo, if_neg h, chunksGo_fuel n (l.drop (decodeL l).2).length _ (by rw [List.length_drop]; omega) (Nat.le_refl _)]
/-- they make the row up -/
theorem chunks_flat (l : List UInt8) : (chunks l).flatMap (·.2) = l := by
  have h : ∀ (n : Nat) (l : List UInt8), l.length ≤ n → (chunks l).flatMap (·.2) = l := by
    intro n
    induction n with
    | zero =>
      intro l hl
      have : l = [] := List.eq_nil_of_length_eq_zero (by omega)
      subst this; rfl
    | succ n ih =>
      intro l hl
      by_cases h0 : l = []
      · subst h0; rfl
      · have hw := decodeL_width l
        rw [chunks_cons l h0, List.flatMap_cons, ih _ (by rw [List.length_drop]; omega)]
        exact List.take_append_drop _ _
  exact h _ l (Nat.le_refl _)
theorem chunks_width (l : List UInt8) (h : l ≠ []) : (l.take (decodeL l).2).length = (decodeL l).2 := by
  rw [List.length_take]
  have := decodeL_le l h
  omega
theorem dec_drop (s : ByteArray) (pos : Nat) : Utf8.decode s pos = decodeL (s.data.toList.drop pos) := by
  rw [decode_N, decodeL_N, List.length_drop]
  simp only [List.getD_eq_getElem?_getD, List.getElem?_drop, Nat.add_zero]
theorem chsFrom_chunks (s : ByteArray) : ∀ (f pos : Nat), s.size ≤ pos + f → chsFrom s f pos = (chunks (s.data.toList.drop pos)).map fun c => (c.1, c.2.length) := by
  intro f
  induction f with
  | zero =>
    intro pos h
    have : s.data.toList.drop pos = [] := List.drop_eq_nil_of_le (by rw [← size_eq]; omega)
    rw [this, chunks_nil]; rfl
  | succ f ih =>
    intro pos h
    unfold chsFrom
    split
    · rename_i hp
      have hne : s.data.toList.drop pos ≠ [] := by
        intro e
        have := congrArg List.length e
        rw [List.length_drop, ← size_eq] at this
        simp at this; omega
      have hw := width_pos s pos
      rw [chunks_cons _ hne, List.map_cons, ih _ (by omega), chunks_width _ hne, dec_drop, List.drop_drop]
    · have : s.data.toList.drop pos = [] := List.drop_eq_nil_of_le (by rw [← size_eq]; omega)
      rw [this, chunks_nil]; rfl
theorem chs_chunks (s : ByteArray) : chs s = (chunks s.data.toList).map fun c => (c.1, c.2.length) := by
  unfold chs
  rw [chsFrom_chunks s _ _ (by omega), List.drop_zero]

/-- WHAT IS DECODED OF A WHOLE CHARACTER DOES NOT HANG ON WHAT STANDS BEHIND IT. -/
theorem decodeN_local {n b0 b1 b2 b3 n' b1' b2' b3' : Nat} (hv : ¬ ((decodeN n b0 b1 b2 b3).1 = 65533 ∧ (decodeN n b0 b1 b2 b3).2 = 1)) (hn : (decodeN n b0 b1 b2 b3).2 ≤ n')
    (h1 : 1 < (decodeN n b0 b1 b2 b3).2 → b1' = b1) (h2 : 2 < (decodeN n b0 b1 b2 b3).2 → b2' = b2) (h3 : 3 < (decodeN n b0 b1 b2 b3).2 → b3' = b3) :
    decodeN n' b0 b1' b2' b3' = decodeN n b0 b1 b2 b3 := by
  rcases decodeN_shape n b0 b1 b2 b3 with ⟨c, e⟩ | ⟨c1, c2, c3, cv, e⟩ | ⟨c1, c2, c3, c4, cv, cs, e⟩ | ⟨c1, c2, c3, c4, c5, cv, cw, e⟩ | e
  · rw [e]; unfold decodeN; rw [if_pos c]
  · rw [e] at h1 hn ⊢
    have e1 := h1 (by omega)
    subst e1
    unfold decodeN
    rw [if_neg (by omega), if_pos ⟨c1, by dsimp only at hn; omega, c3⟩, if_pos cv]
  · rw [e] at h1 h2 hn ⊢
    have e1 := h1 (by dsimp only; omega)
    have e2 := h2 (by dsimp only; omega)
    subst e1 e2
    dsimp only at hn
    unfold decodeN
    rw [if_neg (by omega), if_neg (by omega), if_pos ⟨c1, ⟨by omega, c3⟩, by omega, c4⟩, if_pos ⟨cv, by omega⟩]
  · rw [e] at h1 h2 h3 hn ⊢
    have e1 := h1 (by dsimp only; omega)
    have e2 := h2 (by dsimp only; omega)
    have e3 := h3 (by dsimp only; omega)
    subst e1 e2 e3
    dsimp only at hn
    unfold decodeN
    rw [if_neg (by omega), if_neg (by omega), if_neg (by omega), if_pos ⟨c1, ⟨by omega, c3⟩, ⟨by omega, c4⟩, by omega, c5⟩, if_pos ⟨cv, by omega⟩]
  · rw [e] at hv; exact absurd ⟨rfl, rfl⟩ hv
theorem decodeL_local (l m : List UInt8) (hne : l ≠ []) (hv : ¬ ((decodeL l).1 = 65533 ∧ (decodeL l).2 = 1)) : decodeL (l.take (decodeL l).2 ++ m) = decodeL l := by
  have hle := decodeL_le l hne
  have hg : ∀ j, j < (decodeL l).2 → (l.take (decodeL l).2 ++ m).getD j 0 = l.getD j 0 := by
    intro j hj
    rw [List.getD_eq_getElem?_getD, List.getD_eq_getElem?_getD, List.getElem?_append_left (by rw [List.length_take]; omega), List.getElem?_take]
    rw [if_pos hj]
  have hw := decodeL_width l
  have h0 := hg 0 (by omega)
  rw [decodeL_N (l.take (decodeL l).2 ++ m), h0]
  have hvN := hv
  rw [decodeL_N l] at hvN
  have hE := decodeL_N l
  have key := decodeN_local (n := l.length) (b0 := (l.getD 0 0).toNat) (b1 := (l.getD 1 0).toNat) (b2 := (l.getD 2 0).toNat) (b3 := (l.getD 3 0).toNat) (n' := (l.take (decodeL l).2 ++ m).length)
    (b1' := ((l.take (decodeL l).2 ++ m).getD 1 0).toNat) (b2' := ((l.take (decodeL l).2 ++ m).getD 2 0).toNat) (b3' := ((l.take (decodeL l).2 ++ m).getD 3 0).toNat) hvN
    (by rw [← hE, List.length_append, List.length_take]; omega) (by rw [← hE]; intro h; rw [hg 1 h]) (by rw [← hE]; intro h; rw [hg 2 h]) (by rw [← hE]; intro h; rw [hg 3 h])
  rw [key, ← hE]

/-- a whole character: what it is decoded from -/
def Whole (c : Nat × List UInt8) : Prop := c.2 ≠ [] ∧ brk c = false ∧ ∀ m, decodeL (c.2 ++ m) = (c.1, c.2.length)
theorem whole_of (l : List UInt8) (hne : l ≠ []) (hv : brk ((decodeL l).1, l.take (decodeL l).2) = false) : Whole ((decodeL l).1, l.take (decodeL l).2) := by
  have hw := decodeL_width l
  have hwl := chunks_width l hne
  refine ⟨fun e => by have := congrArg List.length e; rw [hwl] at this; simp at this; omega, hv, fun m => ?_⟩
  have hv' : ¬ ((decodeL l).1 = 65533 ∧ (decodeL l).2 = 1) := by
    rintro ⟨h1, h2⟩
    have hb : brk ((decodeL l).1, l.take (decodeL l).2) = true := by
      unfold brk
      dsimp only
      rw [hwl, h1, h2]; rfl
    rw [hb] at hv
    cases hv
  rw [decodeL_local l m hne hv', hwl]
theorem chunks_whole (l : List UInt8) : ∀ c ∈ chunks l, brk c = false → Whole c := by
  have h : ∀ (n : Nat) (l : List UInt8), l.length ≤ n → ∀ c ∈ chunks l, brk c = false → Whole c := by
    intro n
    induction n with
    | zero =>
      intro l hl c hc
      have : l = [] := List.eq_nil_of_length_eq_zero (by omega)
      subst this; simp [chunks_nil] at hc
    | succ n ih =>
      intro l hl c hc hb
      by_cases h0 : l = []
      · subst h0; simp [chunks_nil] at hc
      · have hw := decodeL_width l
        rw [chunks_cons l h0] at hc
        rcases List.mem_cons.1 hc with rfl | hc
        · exact whole_of l h0 hb
        · exact ih _ (by rw [List.length_drop]; omega) c hc hb
  exact h _ l (Nat.le_refl _)
/-- whole characters, one behind the other, are read as they are -/
theorem chunks_of_whole : ∀ cs : List (Nat × List UInt8), (∀ c ∈ cs, Whole c) → chunks (cs.flatMap (·.2)) = cs := by
  intro cs
  induction cs with
  | nil => intro _; rfl
  | cons c cs ih =>
    intro h
    obtain ⟨h1, h2, h3⟩ := h c (by simp)
    rw [List.flatMap_cons]
    have hne : c.2 ++ cs.flatMap (·.2) ≠ [] := by simp [h1]
    rw [chunks_cons _ hne, h3]
    simp only [List.take_left, List.drop_left]
    rw [ih fun c hc => h c (by simp [hc])]
end Go.Proofs.YtggegefeagkhkaaDoor
