/- A report's text in plain words: its lines, their words; what is printed is read as it was. -/
import Derived.Test.YtggegefeagkhkaaDoorRpS
import Derived.Test.YtggegefeagkhkaaDoorRpD
import Derived.Test.YtggegefeagkhkaaDoorNumL
import Derived.Test.YtggegefeagkhkaaDoorLinesL
namespace Go.Proofs.YtggegefeagkhkaaDoor
open Go.RowKit

def prL (n : Int) : List UInt8 := (printOf n 0).data.toList
def wRank : List UInt8 := [114, 97, 110, 107]
def wLabel : List UInt8 := [108, 97, 98, 101, 108]
def wPaths : List UInt8 := [112, 97, 116, 104, 115]
def wParts : List UInt8 := [112, 97, 114, 116, 115]
def kindW (k : Int) : List UInt8 := if k = 1 then wRank else if k = 2 then wLabel else wPaths
def topI : Int := 4611686018427387904
/-- the words of a value's line -/
def rowW (k : Int) (i : Nat) (x : Int) : List (List UInt8) :=
  if k = 1 then [prL i, prL x, (fixText x.toNat).data.toList] else if k = 3 ∧ x = topI then [prL i, [45]] else [prL i, prL x]
def lineL (ws : List (List UInt8)) : List UInt8 := joinB 32 ws ++ [10]
def headW (k step : Int) (n : Nat) : List (List UInt8) := [kindW k, prL n, prL step]
def rowsW (k : Int) (vs : List Int) (n : Nat) : List (List (List UInt8)) := (List.range n).map fun i => rowW k i (vs.getD i 0)
def tailW (k : Int) (vs : List Int) : List (List (List UInt8)) := if k = 2 then [[wParts, prL (((marks vs).getD 0 : Nat) : Int)]] else []
def docW (k step : Int) (vs : List Int) : List (List (List UInt8)) := headW k step vs.length :: (rowsW k vs vs.length ++ tailW k vs)
def textOf (d : List (List (List UInt8))) : List UInt8 := d.flatMap lineL
def textL (k step : Int) (vs : List Int) : List UInt8 := textOf (docW k step vs)
def textB (k step : Int) (vs : List Int) : ByteArray := ba (textL k step vs)
theorem textOf_append (a b : List (List (List UInt8))) : textOf (a ++ b) = textOf a ++ textOf b := by unfold textOf; rw [List.flatMap_append]
theorem rowsW_succ (k : Int) (vs : List Int) (n : Nat) : rowsW k vs (n + 1) = rowsW k vs n ++ [rowW k n (vs.getD n 0)] := by
  unfold rowsW; rw [List.range_succ, List.map_append]; rfl
/-- a word: at least one byte, each past the blank -/
def Wd (w : List UInt8) : Prop := w ≠ [] ∧ ∀ b ∈ w, 32 < b.toNat
theorem wd_digits (n : Nat) : Wd (Lib.decDigits n) ∧ ∀ b ∈ Lib.decDigits n, 48 ≤ b.toNat ∧ b.toNat ≤ 57 := by
  have key : ∀ n, Lib.decDigits n ≠ [] ∧ ∀ b ∈ Lib.decDigits n, 48 ≤ b.toNat ∧ b.toNat ≤ 57 := by
    intro n
    induction n using Nat.strongRecOn with
    | _ n ih =>
      have hd : ∀ u, u < 10 → 48 ≤ (UInt8.ofNat (48 + u)).toNat ∧ (UInt8.ofNat (48 + u)).toNat ≤ 57 := fun u hu => by
        rw [UInt8.toNat_ofNat']; omega
      by_cases h : n < 10
      · rw [dec_small n h]
        exact ⟨by simp, fun b hb => by rw [List.mem_singleton.1 hb]; exact hd n h⟩
      · rw [dec_step n h]
        refine ⟨by simp, fun b hb => ?_⟩
        rcases List.mem_append.1 hb with hb | hb
        · exact (ih (n / 10) (by omega)).2 b hb
        · rw [List.mem_singleton.1 hb]; exact hd _ (Nat.mod_lt _ (by decide))
  obtain ⟨h1, h2⟩ := key n
  exact ⟨⟨h1, fun b hb => by have := h2 b hb; omega⟩, h2⟩
theorem fixD_wd : ∀ (n r : Nat), r < 4294967296 → ∀ b ∈ fixD n r, 48 ≤ b.toNat ∧ b.toNat ≤ 57 := by
  intro n
  induction n with
  | zero => intro r _ b hb; cases hb
  | succ n ih =>
    intro r hr b hb
    rw [fixD] at hb
    rcases List.mem_cons.1 hb with rfl | hb
    · have : r * 10 / 4294967296 < 10 := by omega
      generalize r * 10 / 4294967296 = q at this ⊢
      rw [UInt8.toNat_ofNat']; omega
    · exact ih _ (Nat.mod_lt _ (by decide)) b hb
theorem wd_fix (a : Nat) : Wd (fixText a).data.toList := by
  unfold fixText
  have h1 := wd_digits (a / 4294967296)
  refine ⟨by simp, fun b hb => ?_⟩
  simp only [List.append_assoc, List.mem_append] at hb
  rcases hb with hb | hb | hb
  · exact h1.1.2 b hb
  · rw [List.mem_singleton.1 hb]; decide
  · have := fixD_wd _ _ (Nat.mod_lt _ (by decide)) b hb; omega
theorem wd_pr (n : Int) (h : 0 ≤ n) (hb : n < 10000000000000000000) : Wd (prL n) := by
  have hp : printOf n 0 = encD 0 (digs 19 n.toNat) := by unfold printOf; rw [if_pos]; omega
  have hk : KIn 0 := .inl rfl
  have h3 := digs_lt 19 n.toNat
  refine ⟨fun e => (print_read n 0 h hk hb).1 (by rw [← ba_of (printOf n 0)]; unfold prL at e; rw [e]; rfl), fun b hb => ?_⟩
  unfold prL at hb
  rw [hp, encD_ba 0 hk _ h3, ba_toList] at hb
  obtain ⟨d, hd, hb⟩ := List.mem_flatMap.1 hb
  have hd10 := h3 d hd
  rw [ek_bytes 0 hk d hd10, if_pos rfl] at hb
  rw [List.mem_singleton.1 hb, UInt8.toNat_ofNat']
  omega
theorem wd_no {w : List UInt8} (h : Wd w) (c : UInt8) (hc : c.toNat ≤ 32) : c ∉ w := fun hm => by have := h.2 c hm; omega
theorem mem_join {c b : UInt8} : ∀ {l : List (List UInt8)}, b ∈ joinB c l → b = c ∨ ∃ w ∈ l, b ∈ w := by
  intro l
  induction l with
  | nil => intro h; cases h
  | cons a l ih =>
    intro h
    cases l with
    | nil => exact .inr ⟨a, by simp, h⟩
    | cons x r =>
      rw [joinB] at h
      rcases List.mem_append.1 h with h | h
      · exact .inr ⟨a, by simp, h⟩
      · rcases List.mem_cons.1 h with h | h
        · exact .inl h
        · rcases ih h with h | ⟨w, hw, hb⟩
          · exact .inl h
          · exact .inr ⟨w, by simp [List.mem_cons.1 hw], hb⟩
/-- a document: lines of words -/
def Dc (d : List (List (List UInt8))) : Prop := ∀ l ∈ d, l ≠ [] ∧ ∀ w ∈ l, Wd w
theorem line_clean {l : List (List UInt8)} (h : ∀ w ∈ l, Wd w) (b : UInt8) (hb : b.toNat < 32) : b ∉ joinB 32 l := fun hm => by
  rcases mem_join hm with e | ⟨w, hw, hm⟩
  · rw [e] at hb; exact absurd hb (by decide)
  · have := (h w hw).2 b hm; omega
theorem lin_doc {d : List (List (List UInt8))} (h : Dc d) : lin (textOf d) [] = d.map (joinB 32) := by
  have e : textOf d = (d.map (joinB 32)).flatMap fun g => g ++ [10] := by
    unfold textOf lineL
    rw [List.flatMap_map]
  rw [e]
  refine lin_lT _ fun g hg => ?_
  obtain ⟨l, hl, rfl⟩ := List.mem_map.1 hg
  exact ⟨line_clean (h l hl).2 10 (by decide), trim_no _ _ (line_clean (h l hl).2 13 (by decide))⟩
theorem sp_line {l : List (List UInt8)} (h0 : l ≠ []) (h : ∀ w ∈ l, Wd w) : sp 32 (joinB 32 l) [] = l :=
  sp_join 32 l h0 fun w hw => wd_no (h w hw) 32 (by decide)
/-- a word's number, if it is one -/
def numL (w : List UInt8) : Option Int := if (numP (runes (ba w))).2 = 0 then some (numP (runes (ba w))).1 else none
theorem num_pr (n : Int) (h : 0 ≤ n) (ht : n ≤ topI) : numL (prL n) = some n := by
  unfold topI at ht
  have hp := (print_read n 0 h (.inl rfl) (by omega)).2
  rw [if_neg (by omega)] at hp
  unfold numL prL
  rw [ba_of, hp]
  rfl
theorem pr_dash (n : Int) (h : 0 ≤ n) (ht : n ≤ topI) : prL n ≠ [45] := fun e => by
  have h1 := num_pr n h ht
  rw [e] at h1
  have h2 : numL [45] = none := by decide
  rw [h2] at h1
  cases h1
def kindN (w : List UInt8) : Int := if w = wRank then 1 else if w = wLabel then 2 else if w = wPaths then 3 else 0
/-- the program's reading of a value's line -/
def valP (line : List UInt8) : Option Int :=
  match sp 32 line [] with
  | _ :: b :: _ => if b = [45] then some topI else numL b
  | _ => none
def valsP : List (List UInt8) → Option (List Int)
  | [] => some []
  | l :: r => match valP l, valsP r with
    | some x, some xs => some (x :: xs)
    | _, _ => none
def headP (rest : List (List UInt8)) : List (List UInt8) → Option (Int × Int × Nat)
  | [a, b, c] => match numL b, numL c with
    | some n, some st => if n ≤ 512 ∧ st ≤ 2000 ∧ 0 < kindN a ∧ n ≤ (rest.length : Int) then some (kindN a, st, n.toNat) else none
    | _, _ => none
  | _ => none
/-- what the program reads of a text's lines -/
def guessP : List (List UInt8) → Option (Int × Int × List Int)
  | [] => none
  | h :: rest => match headP rest (sp 32 h []) with
    | none => none
    | some (k, st, n) => (valsP (rest.take n)).map fun vs => (k, st, vs)
/-- the reference's -/
def valR (line : List UInt8) : Option Int :=
  match sp 32 line [] with
  | _ :: b :: _ => some (if b = [45] then topI else (numL b).getD (-1))
  | _ => none
def valsR : List (List UInt8) → Option (List Int)
  | [] => some []
  | l :: r => match valR l, valsR r with
    | some x, some xs => some (x :: xs)
    | _, _ => none
def headR' (rest : List (List UInt8)) : List (List UInt8) → Option (Int × Int × Nat)
  | [a, b, c] =>
    if kindN a = 0 ∨ (numL b).getD (-1) < 1 ∨ 512 < (numL b).getD (-1) ∨ (rest.length : Int) < (numL b).getD (-1) ∨ (numL c).getD (-1) < 0 ∨ 2000 < (numL c).getD (-1) then none else some (kindN a, (numL c).getD (-1), ((numL b).getD (-1)).toNat)
  | _ => none
def guessR : List (List UInt8) → Option (Int × Int × List Int)
  | [] => none
  | h :: rest => match headR' rest (sp 32 h []) with
    | none => none
    | some (k, st, n) => (valsR (rest.take n)).map fun vs => (k, st, vs)
/-- what may be printed -/
structure Rep (k step : Int) (vs : List Int) : Prop where
  k : k = 1 ∨ k = 2 ∨ k = 3
  n : 1 ≤ vs.length ∧ vs.length ≤ 512
  step : 0 ≤ step ∧ step ≤ 2000
  vals : ∀ x ∈ vs, 0 ≤ x ∧ x ≤ topI
theorem getD_get {α : Type} (l : List α) (i : Nat) (d : α) (h : i < l.length) : l.getD i d = l[i] := by
  rw [List.getD_eq_getElem?_getD, List.getElem?_eq_getElem h]; rfl
theorem marks_all (vs : List Int) : ∀ v, v ≤ vs.length → (marksUpto vs v).isSome = true → ∀ i, i < v → 0 ≤ vs.getD i 0 ∧ vs.getD i 0 ≤ i := by
  intro v
  induction v with
  | zero => intro _ _ i hi; omega
  | succ v ih =>
    intro hv h i hi
    rw [marksUpto] at h
    cases hm : marksUpto vs v with
    | none => rw [hm] at h; cases h
    | some n =>
      rw [hm] at h
      dsimp only at h
      by_cases hb : vs.getD v 0 < 0 ∨ (v : Int) < vs.getD v 0 ∨ vs.getD (vs.getD v 0).toNat 0 ≠ vs.getD v 0
      · rw [if_pos hb] at h; cases h
      · by_cases hiv : i = v
        · subst hiv; omega
        · exact ih (by omega) (by rw [hm]; rfl) i (by omega)
theorem rep_of {k step : Int} {vs : List Int} (h : mayR k step vs = true) : Rep k step vs := by
  unfold mayR at h
  by_cases hh : headR step vs.length = false
  · rw [if_pos hh] at h; cases h
  rw [if_neg hh] at h
  have hh' : 1 ≤ vs.length ∧ vs.length ≤ 512 ∧ 0 ≤ step ∧ step ≤ 2000 := by
    unfold headR at hh
    simpa using hh
  obtain ⟨h1, h2, h3, h4⟩ := hh'
  by_cases k1 : k = 1
  · rw [if_pos k1] at h
    have := of_decide_eq_true h
    exact ⟨.inl k1, ⟨h1, h2⟩, ⟨h3, h4⟩, fun x hx => by have := this x hx; unfold topI; omega⟩
  rw [if_neg k1] at h
  by_cases k2 : k = 2
  · rw [if_pos k2] at h
    refine ⟨.inr (.inl k2), ⟨h1, h2⟩, ⟨h3, h4⟩, fun x hx => ?_⟩
    obtain ⟨i, hi, rfl⟩ := List.mem_iff_getElem.1 hx
    have := marks_all vs vs.length (Nat.le_refl _) h i hi
    rw [getD_get _ _ _ hi] at this
    unfold topI
    omega
  rw [if_neg k2] at h
  by_cases k3 : k = 3
  · rw [if_pos k3] at h
    have := of_decide_eq_true h
    exact ⟨.inr (.inr k3), ⟨h1, h2⟩, ⟨h3, h4⟩, fun x hx => by have := this x hx; unfold topI; omega⟩
  rw [if_neg k3] at h
  cases h
theorem kind_wd (k : Int) : Wd (kindW k) := by
  unfold kindW
  split
  · exact ⟨by decide, by decide⟩
  · split
    · exact ⟨by decide, by decide⟩
    · exact ⟨by decide, by decide⟩
theorem kindN_of {k : Int} (h : k = 1 ∨ k = 2 ∨ k = 3) : kindN (kindW k) = k := by
  rcases h with rfl | rfl | rfl <;> decide
theorem marks_le (vs : List Int) : ∀ v n, marksUpto vs v = some n → n ≤ v := by
  intro v
  induction v with
  | zero => intro n h; rw [marksUpto] at h; injection h with h; omega
  | succ v ih =>
    intro n h
    rw [marksUpto] at h
    cases hm : marksUpto vs v with
    | none => rw [hm] at h; cases h
    | some m =>
      rw [hm] at h
      have := ih m hm
      dsimp only at h
      split at h
      · cases h
      · injection h with h
        split at h <;> omega
theorem row_wd {k : Int} {i : Nat} {x : Int} (hi : i ≤ 512) (hx : 0 ≤ x ∧ x ≤ topI) : rowW k i x ≠ [] ∧ ∀ w ∈ rowW k i x, Wd w := by
  unfold topI at hx
  have h1 := wd_pr (i : Int) (by omega) (by omega)
  have h2 := wd_pr x (by omega) (by omega)
  have h3 := wd_fix x.toNat
  unfold rowW
  split
  · refine ⟨by simp, fun w hw => ?_⟩
    simp only [List.mem_cons, List.not_mem_nil, or_false] at hw
    rcases hw with rfl | rfl | rfl
    · exact h1
    · exact h2
    · exact h3
  · split
    · refine ⟨by simp, fun w hw => ?_⟩
      simp only [List.mem_cons, List.not_mem_nil, or_false] at hw
      rcases hw with rfl | rfl
      · exact h1
      · exact ⟨by decide, by decide⟩
    · refine ⟨by simp, fun w hw => ?_⟩
      simp only [List.mem_cons, List.not_mem_nil, or_false] at hw
      rcases hw with rfl | rfl
      · exact h1
      · exact h2
theorem val_at {vs : List Int} {P : Int → Prop} (h : ∀ x ∈ vs, P x) {i : Nat} (hi : i < vs.length) : P (vs.getD i 0) := by
  rw [getD_get _ _ _ hi]; exact h _ (List.getElem_mem hi)
theorem doc_wd {k step : Int} {vs : List Int} (h : Rep k step vs) : Dc (docW k step vs) := by
  intro l hl
  unfold docW at hl
  rcases List.mem_cons.1 hl with rfl | hl
  · refine ⟨by simp [headW], fun w hw => ?_⟩
    simp only [headW, List.mem_cons, List.not_mem_nil, or_false] at hw
    have := h.n; have := h.step
    rcases hw with rfl | rfl | rfl
    · exact kind_wd k
    · exact wd_pr _ (by omega) (by omega)
    · exact wd_pr _ (by omega) (by omega)
  · rcases List.mem_append.1 hl with hl | hl
    · obtain ⟨i, hi, rfl⟩ := List.mem_map.1 hl
      have hi := List.mem_range.1 hi
      exact row_wd (by have := h.n; omega) (val_at h.vals hi)
    · unfold tailW at hl
      split at hl
      · rw [List.mem_singleton.1 hl]
        refine ⟨by simp, fun w hw => ?_⟩
        simp only [List.mem_cons, List.not_mem_nil, or_false] at hw
        have hm : (marks vs).getD 0 ≤ 512 := by
          cases hm : marks vs with
          | none => simp
          | some n => have := marks_le vs _ n hm; have := h.n; simp; omega
        rcases hw with rfl | rfl
        · exact ⟨by decide, by decide⟩
        · exact wd_pr _ (by omega) (by omega)
      · cases hl
theorem valP_row {k : Int} {i : Nat} {x : Int} (hi : i ≤ 512) (hx : 0 ≤ x ∧ x ≤ topI) : valP (joinB 32 (rowW k i x)) = some x ∧ valR (joinB 32 (rowW k i x)) = some x := by
  have h1 := row_wd (k := k) hi hx
  have h2 := sp_line h1.1 h1.2
  have h3 := num_pr x hx.1 hx.2
  have h4 := pr_dash x hx.1 hx.2
  unfold valP valR
  rw [h2]
  by_cases k1 : k = 1
  · have e : rowW k i x = [prL i, prL x, (fixText x.toNat).data.toList] := by unfold rowW; rw [if_pos k1]
    rw [e]
    exact ⟨by show (if prL x = [45] then some topI else numL (prL x)) = _; rw [if_neg h4, h3], by show some (if prL x = [45] then topI else (numL (prL x)).getD (-1)) = _; rw [if_neg h4, h3]; rfl⟩
  · by_cases k3 : k = 3 ∧ x = topI
    · have e : rowW k i x = [prL i, [45]] := by unfold rowW; rw [if_neg k1, if_pos k3]
      rw [e]
      exact ⟨by rw [k3.2]; rfl, by rw [k3.2]; rfl⟩
    · have e : rowW k i x = [prL i, prL x] := by unfold rowW; rw [if_neg k1, if_neg k3]
      rw [e]
      exact ⟨by show (if prL x = [45] then some topI else numL (prL x)) = _; rw [if_neg h4, h3], by show some (if prL x = [45] then topI else (numL (prL x)).getD (-1)) = _; rw [if_neg h4, h3]; rfl⟩
theorem vals_rows {k : Int} {vs : List Int} (h : ∀ x ∈ vs, 0 ≤ x ∧ x ≤ topI) (hn : vs.length ≤ 512) : valsP ((rowsW k vs vs.length).map (joinB 32)) = some vs ∧ valsR ((rowsW k vs vs.length).map (joinB 32)) = some vs := by
  have key : ∀ (us : List Int) (a : Nat), (∀ i, i < us.length → vs.getD (a + i) 0 = us.getD i 0) → a + us.length ≤ vs.length → (∀ x ∈ us, 0 ≤ x ∧ x ≤ topI) →
      valsP (((List.range' a us.length).map fun i => rowW k i (vs.getD i 0)).map (joinB 32)) = some us ∧ valsR (((List.range' a us.length).map fun i => rowW k i (vs.getD i 0)).map (joinB 32)) = some us := by
    intro us
    induction us with
    | nil => intro a _ _ _; exact ⟨rfl, rfl⟩
    | cons x us ih =>
      intro a hg ha hx
      have h0 : vs.getD a 0 = x := by have := hg 0 (by simp); simpa using this
      have hx0 := hx x (by simp)
      simp only [List.length_cons] at ha ⊢
      obtain ⟨i1, i2⟩ := ih (a + 1) (fun i hi => by have := hg (i + 1) (by simp; omega); rw [show a + 1 + i = a + (i + 1) by omega]; simpa using this) (by omega) fun y hy => hx y (by simp [hy])
      obtain ⟨r1, r2⟩ := valP_row (k := k) (i := a) (x := x) (by omega) hx0
      rw [List.range'_succ, List.map_cons, List.map_cons, h0]
      unfold valsP valsR
      rw [r1, r2, i1, i2]
      exact ⟨rfl, rfl⟩
  have := key vs 0 (fun i _ => by rw [Nat.zero_add]) (by omega) h
  rw [← List.range_eq_range'] at this
  exact this
/-- WHAT IS PRINTED IS READ AS IT WAS, by both. -/
theorem guess_text {k step : Int} {vs : List Int} (h : Rep k step vs) : guessP (lin (textL k step vs) []) = some (k, step, vs) ∧ guessR (lin (textL k step vs) []) = some (k, step, vs) := by
  have hd := doc_wd h
  have hn := h.n; have hs := h.step
  have hh : ∀ w ∈ headW k step vs.length, Wd w := (hd _ (by unfold docW; exact List.mem_cons_self ..)).2
  unfold textL
  rw [lin_doc hd]
  unfold docW
  rw [List.map_cons, List.map_append]
  have hsp := sp_line (l := headW k step vs.length) (by simp [headW]) hh
  have n1 := num_pr (vs.length : Int) (by omega) (by unfold topI; omega)
  have n2 := num_pr step (by omega) (by unfold topI; omega)
  have hk := kindN_of h.k
  have hlen : ((rowsW k vs vs.length).map (joinB 32)).length = vs.length := by simp [rowsW]
  have htk : (((rowsW k vs vs.length).map (joinB 32)) ++ (tailW k vs).map (joinB 32)).take vs.length = (rowsW k vs vs.length).map (joinB 32) := by
    rw [List.take_append_of_le_length (by omega), List.take_of_length_le (by omega)]
  obtain ⟨v1, v2⟩ := vals_rows (k := k) h.vals hn.2
  have hk0 : 0 < k := by rcases h.k with e | e | e <;> omega
  constructor
  · rw [guessP, hsp, headW, headP]
    simp only [n1, n2, hk]
    rw [if_pos ⟨by omega, by omega, hk0, by rw [List.length_append, hlen]; omega⟩]
    dsimp only
    rw [Int.toNat_natCast, htk, v1]
    rfl
  · rw [guessR, hsp, headW, headR']
    simp only [n1, n2, hk, Option.getD_some]
    rw [if_neg (by rw [List.length_append, hlen]; omega)]
    dsimp only
    rw [Int.toNat_natCast, htk, v2]
    rfl
/-- a text is a report -/
def IsRep (k step : Int) (vs : List Int) (s : ByteArray) : Prop := mayR k step vs = true ∧ textB k step vs = s
theorem isRep_guess {k step : Int} {vs : List Int} {s : ByteArray} (h : IsRep k step vs s) : guessP (lin s.data.toList []) = some (k, step, vs) ∧ guessR (lin s.data.toList []) = some (k, step, vs) := by
  obtain ⟨h1, rfl⟩ := h
  unfold textB
  rw [ba_toList]
  exact guess_text (rep_of h1)
theorem isRep_inj {k step k' step' : Int} {vs vs' : List Int} {s : ByteArray} (h : IsRep k step vs s) (h' : IsRep k' step' vs' s) : k = k' ∧ step = step' ∧ vs = vs' := by
  have e := (isRep_guess h).1.symm.trans (isRep_guess h').1
  injection e with e
  injection e with e1 e
  injection e with e2 e3
  exact ⟨e1, e2, e3⟩
end Go.Proofs.YtggegefeagkhkaaDoor
