/- Plain words: the characters of a string, and the number that a row of runes is. No program stands in this text. -/
import GoSem.Core.Utf8
import Derived.Lib.FieldsP
import Derived.Laws.Cover4
namespace Go.Proofs.YtggegefeagkhkaaDoor

/-- which kind of digit a rune is, and its value -/
def kindOf (r : Int) : Int := if 48 ≤ r ∧ r ≤ 57 then 0 else if 1632 ≤ r ∧ r ≤ 1641 then 1 else if 65296 ≤ r ∧ r ≤ 65305 then 2 else -1
def digitOf (r : Int) : Int := if 48 ≤ r ∧ r ≤ 57 then r - 48 else if 1632 ≤ r ∧ r ≤ 1641 then r - 1632 else if 65296 ≤ r ∧ r ≤ 65305 then r - 65296 else -1
def firstOf (k : Int) : Int := if k = 0 then 48 else if k = 1 then 1632 else 65296

theorem kindOf_ge (r : Int) : -1 ≤ kindOf r ∧ kindOf r ≤ 2 := by
  unfold kindOf; split
  · omega
  · split
    · omega
    · split <;> omega
theorem digitOf_ge (r : Int) : -1 ≤ digitOf r ∧ digitOf r ≤ 9 := by
  unfold digitOf; split
  · omega
  · split
    · omega
    · split <;> omega
theorem digitOf_k (r : Int) (h : 0 ≤ kindOf r) : r - firstOf (kindOf r) = digitOf r ∧ 0 ≤ digitOf r ∧ digitOf r ≤ 9 ∧ kindOf r ≤ 2 := by
  unfold kindOf firstOf digitOf at *
  split
  · simp; omega
  · split
    · simp; omega
    · split
      · simp; omega
      · simp_all
theorem digitOf_no (r : Int) (h : kindOf r < 0) : digitOf r = -1 := by
  unfold kindOf digitOf at *
  split at h
  · omega
  · split at h
    · omega
    · split at h
      · omega
      · rename_i a b c; rw [if_neg a, if_neg b, if_neg c]
theorem firstOf_bd (k : Int) : 48 ≤ firstOf k ∧ firstOf k ≤ 65296 := by
  unfold firstOf; split
  · omega
  · split <;> omega

/-- the runes of a string from a place on, at most so many -/
def runesFrom (s : ByteArray) : Nat → Nat → List Int
  | 0, _ => []
  | f + 1, pos => if pos < s.size then ((Utf8.decode s pos).1 : Int) :: runesFrom s f (pos + (Utf8.decode s pos).2) else []
def runes (s : ByteArray) : List Int := runesFrom s s.size 0

theorem runesFrom_end (s : ByteArray) (f pos : Nat) (h : ¬ pos < s.size) : runesFrom s f pos = [] := by
  cases f with
  | zero => rfl
  | succ f => simp [runesFrom, h]
theorem dec_fits (s : ByteArray) (pos : Nat) (h : pos < s.size) : pos + (Utf8.decode s pos).2 ≤ s.size := by
  have := Lib.decodeN_le_n' (s.size - pos) (s.get! pos).toNat (s.get! (pos + 1)).toNat (s.get! (pos + 2)).toNat (s.get! (pos + 3)).toNat (by omega)
  rw [← Lib.decode_at] at this
  omega

/-- the program's road over a row of runes: what is read so far, how many, of which kind, whether the first is nought, whether too great -/
def numGo : List Int → Int → Nat → Int → Bool → Bool → Int × Int
  | [], n, count, _, nought, over => if (count == 0 || nought && decide (1 < count)) = true then (0, 30) else if over = true then (0, 50) else (n, 0)
  | r :: rs, n, count, kind, nought, over =>
    let kind' := if count = 0 then kindOf r else kind
    let nought' := if count = 0 then digitOf r == 0 else nought
    if (decide (kindOf r < 0) || kindOf r != kind') = true then (0, 30)
    else
      let over' := over || decide ((4611686018427387904 - digitOf r) / 10 < n)
      numGo rs (if over' = true then n else n * 10 + digitOf r) (count + 1) kind' nought' over'
def numP (rs : List Int) : Int × Int := numGo rs 0 0 0 false false
theorem numGo_bad {r : Int} {rs : List Int} {n : Int} {c : Nat} {k : Int} {no ov : Bool} (h : kindOf r < 0 ∨ (c ≠ 0 ∧ kindOf r ≠ k)) : numGo (r :: rs) n c k no ov = (0, 30) := by
  unfold numGo
  rcases h with h | ⟨h, h'⟩
  · simp [h]
  · simp [h, h']
theorem numGo_ok {r : Int} {rs : List Int} {n : Int} {c : Nat} {k : Int} {no ov : Bool} (h : 0 ≤ kindOf r) (h' : c = 0 ∨ kindOf r = k) (ov' : Bool) (hov : (ov || decide ((4611686018427387904 - digitOf r) / 10 < n)) = ov') :
    numGo (r :: rs) n c k no ov = numGo rs (if ov' = true then n else n * 10 + digitOf r) (c + 1) (kindOf r) (if c = 0 then digitOf r == 0 else no) ov' := by
  subst hov
  have hk : (if c = 0 then kindOf r else k) = kindOf r := by
    split
    · rfl
    · rcases h' with h' | h'
      · contradiction
      · exact h'.symm
  conv => lhs; unfold numGo
  simp only [hk]
  rw [if_neg (by simp; omega)]
theorem numGo_nil {n : Int} {c : Nat} {k : Int} {no ov : Bool} : numGo [] n c k no ov = if (c == 0 || no && decide (1 < c)) = true then (0, 30) else if ov = true then (0, 50) else (n, 0) := rfl

/-- the digits of a number, the first one ahead -/
def digs : Nat → Nat → List Nat
  | 0, _ => []
  | f + 1, n => if n < 10 then [n] else digs f (n / 10) ++ [n % 10]
/-- digits of a kind as bytes -/
def encD (k : Int) (l : List Nat) : ByteArray := l.foldl (fun (s : ByteArray) (d : Nat) => s ++ Utf8.encode (firstOf k + (d : Int))) ⟨#[]⟩
theorem encD_nil (k : Int) : encD k [] = ⟨#[]⟩ := rfl
theorem encD_snoc (k : Int) (l : List Nat) (d : Nat) : encD k (l ++ [d]) = encD k l ++ Utf8.encode (firstOf k + (d : Int)) := by simp [encD]
theorem encD_append (k : Int) (l m : List Nat) : encD k (l ++ m) = encD k l ++ encD k m := by
  have h : ∀ (m : List Nat) (s : ByteArray), m.foldl (fun (s : ByteArray) (d : Nat) => s ++ Utf8.encode (firstOf k + (d : Int))) s = s ++ encD k m := by
    intro m
    induction m with
    | nil => intro s; simp [encD]; exact (ByteArray.append_empty).symm
    | cons d m ih =>
      intro s
      have h1 := ih (s ++ Utf8.encode (firstOf k + (d : Int)))
      have h2 := ih (⟨#[]⟩ ++ Utf8.encode (firstOf k + (d : Int)))
      simp only [encD, List.foldl_cons] at h1 h2 ⊢
      rw [h1, h2]
      rw [show (⟨#[]⟩ : ByteArray) = ByteArray.empty from rfl, ByteArray.empty_append, ByteArray.append_assoc]
  unfold encD
  rw [List.foldl_append]
  exact h m _
theorem encD_one (k : Int) (d : Nat) : encD k [d] = Utf8.encode (firstOf k + (d : Int)) := by
  show (⟨#[]⟩ : ByteArray) ++ Utf8.encode (firstOf k + (d : Int)) = _
  exact ByteArray.empty_append
theorem encD_size (k : Int) (l : List Nat) : (encD k l).size ≤ 4 * l.length := by
  have h : ∀ (m : List Nat) (s : ByteArray), (m.foldl (fun (s : ByteArray) (d : Nat) => s ++ Utf8.encode (firstOf k + (d : Int))) s).size ≤ s.size + 4 * m.length := by
    intro m
    induction m with
    | nil => intro s; simp
    | cons d m ih =>
      intro s
      have h1 := ih (s ++ Utf8.encode (firstOf k + (d : Int)))
      have h2 := encode_size_le (firstOf k + (d : Int))
      simp only [List.foldl_cons, List.length_cons]
      rw [ByteArray.size_append] at h1
      omega
  have h1 := h l ⟨#[]⟩
  have h0 : (⟨#[]⟩ : ByteArray).size = 0 := rfl
  unfold encD
  omega
theorem digs_length (f : Nat) : ∀ n, (digs f n).length ≤ f := by
  induction f with
  | zero => intro n; simp [digs]
  | succ f ih =>
    intro n
    unfold digs
    split
    · simp
    · simp; exact ih _
/-- a number, printed of a kind -/
def printOf (n kind : Int) : ByteArray := if 0 ≤ n ∧ 0 ≤ kind ∧ kind ≤ 2 then encD kind (digs 19 n.toNat) else ⟨#[]⟩

/-- the characters of a string from a place on: rune and width -/
def chsFrom (s : ByteArray) : Nat → Nat → List (Nat × Nat)
  | 0, _ => []
  | f + 1, pos => if pos < s.size then Utf8.decode s pos :: chsFrom s f (pos + (Utf8.decode s pos).2) else []
def chs (s : ByteArray) : List (Nat × Nat) := chsFrom s s.size 0
theorem chsFrom_end (s : ByteArray) (f pos : Nat) (h : ¬ pos < s.size) : chsFrom s f pos = [] := by
  cases f with
  | zero => rfl
  | succ f => simp [chsFrom, h]
theorem runesFrom_chs (s : ByteArray) : ∀ f pos, runesFrom s f pos = (chsFrom s f pos).map fun c => (c.1 : Int) := by
  intro f
  induction f with
  | zero => intro pos; rfl
  | succ f ih => intro pos; unfold runesFrom chsFrom; split <;> simp [ih]
theorem runes_chs (s : ByteArray) : runes s = (chs s).map fun c => (c.1 : Int) := runesFrom_chs s _ _
theorem chsFrom_length (s : ByteArray) : ∀ f pos, (chsFrom s f pos).length ≤ f := by
  intro f
  induction f with
  | zero => intro pos; simp [chsFrom]
  | succ f ih => intro pos; unfold chsFrom; split <;> simp; exact ih _
theorem chs_length (s : ByteArray) : (chs s).length ≤ s.size := chsFrom_length s _ _
theorem chsFrom_rune (s : ByteArray) : ∀ f pos, ∀ c ∈ chsFrom s f pos, c.1 ≤ 1114111 := by
  intro f
  induction f with
  | zero => intro pos c hc; simp [chsFrom] at hc
  | succ f ih =>
    intro pos c hc
    unfold chsFrom at hc
    split at hc
    · rcases List.mem_cons.1 hc with rfl | h
      · exact Lib.rune_le s pos
      · exact ih _ c h
    · simp at hc
theorem chs_rune (s : ByteArray) : ∀ c ∈ chs s, c.1 ≤ 1114111 := chsFrom_rune s _ _
/-- a character's three cells, ahead of the look at broken ones and behind it -/
def cell0 (c : Nat × Nat) : List Value := [.int .i32 c.1, .int .i64 c.2, .bool false]
def isBroken (c : Nat × Nat) : Bool := c.1 == 65533 && c.2 == 1
def cellB (c : Nat × Nat) : List Value := [.int .i32 c.1, .int .i64 c.2, .bool (isBroken c)]
def cells0 (l : List (Nat × Nat)) : List Value := l.flatMap cell0
def cellsB (l : List (Nat × Nat)) : List Value := l.flatMap cellB
theorem cells0_snoc (l : List (Nat × Nat)) (c : Nat × Nat) : cells0 (l ++ [c]) = cells0 l ++ [.int .i32 c.1, .int .i64 c.2, .bool false] := by simp [cells0, cell0]
theorem cells0_length (l : List (Nat × Nat)) : (cells0 l).length = l.length * 3 := by
  induction l with
  | nil => rfl
  | cons c l ih => simp only [cells0, List.flatMap_cons, List.length_append] at ih ⊢; rw [ih]; simp [cell0]; omega
theorem cellsB_length (l : List (Nat × Nat)) : (cellsB l).length = l.length * 3 := by
  induction l with
  | nil => rfl
  | cons c l ih => simp only [cellsB, List.flatMap_cons, List.length_append] at ih ⊢; rw [ih]; simp [cellB]; omega

/-- the reference's road over a row of runes -/
def numRGo (k0 : Int) : List Nat → Int → Bool → Int × Int
  | [], n, over => if over = true then (0, 50) else (n, 0)
  | r :: rs, n, over =>
    if kindOf r ≠ k0 then (0, 30)
    else if over = true then numRGo k0 rs n true
    else numRGo k0 rs (n * 10 + digitOf r) ((decide (576460752303423488 < n * 10 + digitOf r) && decide (0 < rs.length)) || decide (4611686018427387904 < n * 10 + digitOf r))
def numR : List Nat → Int × Int
  | [] => (0, 30)
  | r :: rs => if kindOf r < 0 ∨ (0 < rs.length ∧ digitOf r = 0) then (0, 30) else numRGo (kindOf r) (r :: rs) 0 false
end Go.Proofs.YtggegefeagkhkaaDoor
