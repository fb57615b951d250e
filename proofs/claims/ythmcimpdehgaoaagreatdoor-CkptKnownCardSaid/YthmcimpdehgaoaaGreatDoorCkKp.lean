/- The stage's law: wherever the power goes; in plain words. -/
import Derived.Test.YthmcimpdehgaoaaGreatDoorPk42
import Derived.Test.YthmcimpdehgaoaaGreatDoorPk40
import Derived.Test.YthmcimpdehgaoaaGreatDoorPk21
import Derived.Laws.Tables
namespace Go.Proofs.YthmcimpdehgaoaaGreatDoor
open Go.RowKit Go.Maps

theorem infoCall : (Tryz.prog.info? 36).map (·.size) = some 6 := by kernel_rfl
/-- what a call makes of the checkpoints -/
def KcRel (drop : Bool) (k : Nat) (b : ByteArray) (f : Int) (M M1 : MapC) : Prop :=
  (f = 0 ∧ M1 = if drop = true then dropM M k else putC M k b) ∨ (f = 160 ∧ if drop = true then ∀ j, M1 j = M j ∨ M1 j = none ∧ (j : Int) < (k : Int) else M1 = M)
/-- the law's own blocks -/
structure KcO (wx : World) (g1 gx : Nat) (M : MapC) (X : Array Value) : Prop where
  call : Blk wx gx 36 X
  hv : RowK wx g1 9 8 (hvV M)
  is : RowK wx (g1 + 1) 4 8 (isV M)
theorem KcO.kp {wa wb : World} {g1 gx : Nat} {M : MapC} {X : Array Value} (h : KcO wa g1 gx M X) (k : KpB wa wb) : KcO wb g1 gx M X :=
  ⟨k.blk h.call (by decide) (by decide), h.hv.kp k (by decide) (by decide), h.is.kp k (by decide) (by decide)⟩
/-- behind the call -/
def KcMid (w wx : World) (p gs : Nat) (n : Int) (M1 : MapC) (f : Int) : Prop :=
  (f = 0 ∧ ∃ L' n' l' v', KC w wx p v' 8 5000 1048576 M1 [] L' n' l' false ∧ CkSt wx gs p ∧ n' ≤ n + 8) ∨
  (f = 160 ∧ ∃ T' L' n' v', KC w wx p v' 8 5000 1048576 M1 T' L' n' (-1) true ∧ n' ≤ n + 8)
def wasC (M M1 : MapC) (j : Nat) : Bool := decide (M1 j = M j)
def nextC (drop : Bool) (k : Nat) (b : ByteArray) (M M1 : MapC) (j : Nat) : Bool :=
  if drop = true then (if j < k then !(M1 j).isSome else wasC M M1 j) else (if j = k then decide (M1 j = some b) else wasC M M1 j)
theorem next_ok {drop : Bool} {k : Nat} {b : ByteArray} {f : Int} {M M1 : MapC} (h : KcRel drop k b f M M1) (j : Nat) : nextC drop k b M M1 j = true ∨ (nextC drop k b M M1 j = false ∧ f = 160 ∧ wasC M M1 j = true) := by
  unfold nextC
  rcases h with ⟨rfl, rfl⟩ | ⟨rfl, h⟩
  · left
    cases drop with
    | true =>
      simp only [if_true]
      by_cases hj : j < k
      · rw [if_pos hj]; unfold dropM; rw [if_pos (by omega)]; rfl
      · rw [if_neg hj]; unfold wasC dropM; rw [if_neg (by omega)]; exact decide_eq_true rfl
    | false =>
      simp only [Bool.false_eq_true, if_false]
      by_cases hj : j = k
      · rw [if_pos hj]; unfold putC; rw [if_pos hj]; exact decide_eq_true rfl
      · rw [if_neg hj]; unfold wasC putC; rw [if_neg hj]; exact decide_eq_true rfl
  · cases drop with
    | true =>
      simp only [if_true] at h ⊢
      by_cases hj : j < k
      · rw [if_pos hj]
        rcases h j with h1 | ⟨h1, -⟩
        · by_cases hs : (M1 j).isSome = true
          · exact .inr ⟨by rw [hs]; rfl, by simp, decide_eq_true h1⟩
          · exact .inl (by simpa using hs)
        · exact .inl (by rw [h1]; rfl)
      · rw [if_neg hj]
        rcases h j with h1 | ⟨_, h1⟩
        · exact .inl (decide_eq_true h1)
        · omega
    | false =>
      simp only [Bool.false_eq_true, if_false] at h ⊢
      subst h
      by_cases hj : j = k
      · rw [if_pos hj]
        cases hd : decide (M1 j = some b) with
        | true => exact .inl rfl
        | false => exact .inr ⟨rfl, by simp, decide_eq_true rfl⟩
      · rw [if_neg hj]; exact .inl (decide_eq_true rfl)
theorem next_eq (drop : Bool) (k : Nat) (b : ByteArray) (M M1 : MapC) (j : Nat) : nextC drop k b M M1 j = if (!drop && decide ((j : Int) = (k : Int))) = true then decide (M1 j = some b) else if (drop && decide ((j : Int) < (k : Int))) = true then !(M1 j).isSome else wasC M M1 j := by
  unfold nextC
  cases drop with
  | true => simp [Int.ofNat_lt]
  | false => simp [Int.ofNat_inj]
/-- the rows, amid their renewal -/
def midM (M M1 : MapC) (j : Nat) : MapC := fun a => if a < j then M1 a else M a
theorem midM_zero (M M1 : MapC) : midM M M1 0 = M := funext fun a => by unfold midM; rw [if_neg (by omega)]
theorem hv_mid (M M1 : MapC) (j : Nat) (a : Nat) : hvV (midM M M1 (j + 1)) a = if a = j then hvV M1 j else hvV (midM M M1 j) a := by
  unfold hvV midM
  by_cases h : a = j
  · subst h; rw [if_pos (by omega), if_pos rfl]
  · rw [if_neg h]
    by_cases h2 : a < j
    · rw [if_pos (by omega), if_pos h2]
    · rw [if_neg (by omega), if_neg h2]
theorem is_mid (M M1 : MapC) (j : Nat) (a : Nat) : isV (midM M M1 (j + 1)) a = if a = j then isV M1 j else isV (midM M M1 j) a := by
  unfold isV midM
  by_cases h : a = j
  · subst h; rw [if_pos (by omega), if_pos rfl]
  · rw [if_neg h]
    by_cases h2 : a < j
    · rw [if_pos (by omega), if_pos h2]
    · rw [if_neg (by omega), if_neg h2]
theorem RowK.congr {w : World} {g : Nat} {t : TypeId} {K : Nat} {f f' : Nat → Value} (h : RowK w g t K f) (hf : ∀ a, a < K → f' a = f a) : RowK w g t K f' := by
  unfold RowK at *
  have : (List.range K).map f' = (List.range K).map f := List.map_congr_left fun a ha => hf a (List.mem_range.1 ha)
  rw [this]
  exact h
/-- the law's rows, renewed at one step -/
theorem kc_renew {w w9 : World} {p gs2 g1 gx : Nat} {v : Value} {M M1 : MapC} {L : List FileD} {n l : Int} {j : Nat} {s1 : Bool} {b1 : ByteArray} {bv : Value} {X : Array Value}
    (hkc : KC w w9 p v 8 5000 1048576 M1 [] L n l false) (hst : CkSt w9 gs2 p) (hcl : Blk w9 gx 36 X) (hr1 : RowK w9 g1 9 8 (hvV (midM M M1 j))) (hr2 : RowK w9 (g1 + 1) 4 8 (isV (midM M M1 j)))
    (hbt : Bt w9 bv b1) (hg1 : w.heap.size ≤ g1) (hj8 : j < 8) (hgb : hvV M1 j = .string b1) (hgi : isV M1 j = .bool s1) :
    w9.cell? ⟨g1 + 1, j, none⟩ = some (isV (midM M M1 j) j) ∧ w9.frozen? ⟨g1 + 1, j, none⟩ = false ∧
    (convert 33 9 bv).run Tryz.prog (w9.setCell ⟨g1 + 1, j, none⟩ (.bool s1)) = .ok (.string b1) (w9.setCell ⟨g1 + 1, j, none⟩ (.bool s1)) ∧
    (w9.setCell ⟨g1 + 1, j, none⟩ (.bool s1)).cell? ⟨g1, j, none⟩ = some (hvV (midM M M1 j) j) ∧ (w9.setCell ⟨g1 + 1, j, none⟩ (.bool s1)).frozen? ⟨g1, j, none⟩ = false ∧
    KC w ((w9.setCell ⟨g1 + 1, j, none⟩ (.bool s1)).setCell ⟨g1, j, none⟩ (.string b1)) p v 8 5000 1048576 M1 [] L n l false ∧
    CkSt ((w9.setCell ⟨g1 + 1, j, none⟩ (.bool s1)).setCell ⟨g1, j, none⟩ (.string b1)) gs2 p ∧
    Blk ((w9.setCell ⟨g1 + 1, j, none⟩ (.bool s1)).setCell ⟨g1, j, none⟩ (.string b1)) gx 36 X ∧
    RowK ((w9.setCell ⟨g1 + 1, j, none⟩ (.bool s1)).setCell ⟨g1, j, none⟩ (.string b1)) g1 9 8 (hvV (midM M M1 (j + 1))) ∧
    RowK ((w9.setCell ⟨g1 + 1, j, none⟩ (.bool s1)).setCell ⟨g1, j, none⟩ (.string b1)) (g1 + 1) 4 8 (isV (midM M M1 (j + 1))) := by
  have hm1 := Moved.set_ w9 (g1 + 1) j none (.bool s1)
  have h5 := hkc.moved hr2 (by decide) (by decide) (by decide) (Nat.le_succ_of_le hg1) hm1
  have hs5 : CkSt (w9.setCell ⟨g1 + 1, j, none⟩ (.bool s1)) gs2 p := Blk.moved hst hm1 (fun e => by subst e; exact blk_type hst hr2 (by decide))
  have hc5 : Blk (w9.setCell ⟨g1 + 1, j, none⟩ (.bool s1)) gx 36 X := Blk.moved hcl hm1 (fun e => by subst e; exact blk_type hcl hr2 (by decide))
  have hr25 := hr2.set_ j (.bool s1) (isV (midM M M1 (j + 1))) (fun a _ => by rw [is_mid, hgi])
  have hr15 : RowK (w9.setCell ⟨g1 + 1, j, none⟩ (.bool s1)) g1 9 8 (hvV (midM M M1 j)) := Blk.moved hr1 hm1 (by omega)
  have hb5 : Bt (w9.setCell ⟨g1 + 1, j, none⟩ (.bool s1)) bv b1 := hbt.moved hm1 (fun _ _ hh => blk_type hr2 hh (by decide)) (by simp)
  have hm2 := Moved.set_ (w9.setCell ⟨g1 + 1, j, none⟩ (.bool s1)) g1 j none (.string b1)
  have h6 := h5.moved hr15 (by decide) (by decide) (by decide) hg1 hm2
  have hs6 : CkSt ((w9.setCell ⟨g1 + 1, j, none⟩ (.bool s1)).setCell ⟨g1, j, none⟩ (.string b1)) gs2 p := Blk.moved hs5 hm2 (fun e => by subst e; exact blk_type hs5 hr15 (by decide))
  have hc6 : Blk ((w9.setCell ⟨g1 + 1, j, none⟩ (.bool s1)).setCell ⟨g1, j, none⟩ (.string b1)) gx 36 X := Blk.moved hc5 hm2 (fun e => by subst e; exact blk_type hc5 hr15 (by decide))
  have hr16 := hr15.set_ j (.string b1) (hvV (midM M M1 (j + 1))) (fun a _ => by rw [hv_mid, hgb])
  have hr26 : RowK ((w9.setCell ⟨g1 + 1, j, none⟩ (.bool s1)).setCell ⟨g1, j, none⟩ (.string b1)) (g1 + 1) 4 8 (isV (midM M M1 (j + 1))) := Blk.moved hr25 hm2 (by omega)
  exact ⟨hr2.cell hj8, hr2.frozen j, hb5.conv, hr15.cell hj8, hr15.frozen j, h6, hs6, hc6, hr16, hr26⟩
theorem ans_is {e1 : Int} {M1 : MapC} {j : Nat} {b1 : ByteArray} (h : (e1 = 0 ∧ M1 j = some b1) ∨ (e1 = 190 ∧ M1 j = none ∧ b1 = ByteArray.empty)) : (e1 == 0) = (M1 j).isSome ∧ hvV M1 j = .string b1 := by
  unfold hvV
  rcases h with ⟨rfl, h⟩ | ⟨rfl, h, rfl⟩
  · rw [h]; exact ⟨rfl, rfl⟩
  · rw [h]; exact ⟨rfl, rfl⟩
end Go.Proofs.YthmcimpdehgaoaaGreatDoor
