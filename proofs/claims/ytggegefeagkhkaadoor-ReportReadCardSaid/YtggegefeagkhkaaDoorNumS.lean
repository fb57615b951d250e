/- Plain: the program's road over a row of runes and the reference's come to the same number. No program stands in this text. -/
import Derived.Test.YtggegefeagkhkaaDoorWordsS
namespace Go.Proofs.YtggegefeagkhkaaDoor

theorem num_main (k : Int) : ∀ (rs : List Nat) (n n' : Int) (c : Nat) (no ov ov' : Bool), 1 ≤ c → 0 ≤ n → n ≤ 4611686018427387904 →
    ((ov = true ∧ ov' = true) ∨ (ov = false ∧ ov' = false ∧ n = n') ∨ (ov = false ∧ ov' = true ∧ 576460752303423488 < n ∧ 0 < rs.length)) → 0 ≤ k →
    numGo (rs.map fun (r : Nat) => (r : Int)) n c k no ov = if no = true ∧ 1 < c + rs.length then (0, 30) else numRGo k rs n' ov' := by
  intro rs
  induction rs with
  | nil =>
    intro n n' c no ov ov' hc h0 h1 hrel hk
    rw [List.map_nil, numGo_nil, numRGo]
    have hc0 : (c == 0) = false := by simp; omega
    rcases hrel with ⟨rfl, rfl⟩ | ⟨rfl, rfl, rfl⟩ | ⟨_, _, _, h⟩
    · cases no <;> simp [hc0]
    · cases no <;> simp [hc0]
    · simp at h
  | cons r rs ih =>
    intro n n' c no ov ov' hc h0 h1 hrel hk
    rw [List.map_cons]
    by_cases hkr : kindOf r = k
    · have hd := digitOf_k r (by omega)
      have hc0 : ¬ c = 0 := by omega
      have hlen : 1 < c + (r :: rs).length ↔ 1 < c + 1 + rs.length := by simp; omega
      rcases hrel with ⟨rfl, rfl⟩ | ⟨rfl, rfl, rfl⟩ | ⟨rfl, rfl, hn, _⟩
      · rw [numGo_ok (by omega) (.inr hkr) true rfl, if_pos rfl, if_neg hc0, hkr, ih n n' (c + 1) no true true (by omega) h0 h1 (.inl ⟨rfl, rfl⟩) hk]
        simp only [hlen]
        congr 1
        rw [numRGo, if_neg (by simp [hkr]), if_pos rfl]
      · by_cases hcmp : (4611686018427387904 - digitOf r) / 10 < n
        · rw [numGo_ok (by omega) (.inr hkr) true (by simp [hcmp]), if_pos rfl, if_neg hc0, hkr, ih n (n * 10 + digitOf r) (c + 1) no true true (by omega) h0 h1 (.inl ⟨rfl, rfl⟩) hk]
          simp only [hlen]
          congr 1
          conv => rhs; rw [numRGo, if_neg (by simp [hkr]), if_neg (by simp)]
          have : decide (4611686018427387904 < n * 10 + digitOf r) = true := by simp; omega
          rw [this, Bool.or_true]
        · have h2 : n * 10 + digitOf r ≤ 4611686018427387904 := by omega
          have hz : decide (4611686018427387904 < n * 10 + digitOf r) = false := by simp; omega
          rw [numGo_ok (by omega) (.inr hkr) false (by simp [hcmp]), if_neg (by simp), if_neg hc0, hkr]
          by_cases hb : 576460752303423488 < n * 10 + digitOf r ∧ 0 < rs.length
          · have hbb : (decide (576460752303423488 < n * 10 + digitOf r) && decide (0 < rs.length)) = true := by simp [hb]
            rw [ih (n * 10 + digitOf r) (n * 10 + digitOf r) (c + 1) no false true (by omega) (by omega) h2 (.inr (.inr ⟨rfl, rfl, hb.1, hb.2⟩)) hk]
            simp only [hlen]
            congr 1
            conv => rhs; rw [numRGo, if_neg (by simp [hkr]), if_neg (by simp), hz, hbb]
            rfl
          · have hbb : (decide (576460752303423488 < n * 10 + digitOf r) && decide (0 < rs.length)) = false := by
              rw [Bool.and_eq_false_iff, decide_eq_false_iff_not, decide_eq_false_iff_not]
              omega
            rw [ih (n * 10 + digitOf r) (n * 10 + digitOf r) (c + 1) no false false (by omega) (by omega) h2 (.inr (.inl ⟨rfl, rfl, rfl⟩)) hk]
            simp only [hlen]
            congr 1
            conv => rhs; rw [numRGo, if_neg (by simp [hkr]), if_neg (by simp), hz, hbb]
            rfl
      · have hcmp : (4611686018427387904 - digitOf r) / 10 < n := by omega
        rw [numGo_ok (by omega) (.inr hkr) true (by simp [hcmp]), if_pos rfl, if_neg hc0, hkr, ih n n' (c + 1) no true true (by omega) h0 h1 (.inl ⟨rfl, rfl⟩) hk]
        simp only [hlen]
        congr 1
        rw [numRGo, if_neg (by simp [hkr]), if_pos rfl]
    · rw [numGo_bad (.inr ⟨by omega, hkr⟩), numRGo, if_pos hkr, ite_self]

theorem numR_cons (r : Nat) (rs : List Nat) : numR (r :: rs) = if kindOf r < 0 ∨ (0 < rs.length ∧ digitOf r = 0) then (0, 30) else numRGo (kindOf r) (r :: rs) 0 false := rfl
theorem num_eq (l : List Nat) : numP (l.map fun (r : Nat) => (r : Int)) = numR l := by
  cases l with
  | nil => rfl
  | cons r rs =>
    rw [numR_cons, numP, List.map_cons]
    by_cases hk : kindOf r < 0
    · rw [numGo_bad (.inl hk), if_pos (.inl hk)]
    · have hd := digitOf_k r (by omega)
      rw [numGo_ok (by omega) (.inl rfl) false (by simp; omega), if_neg (by simp), if_pos rfl, num_main (kindOf r) rs _ (0 * 10 + digitOf r) 1 _ false false (by omega) (by omega) (by omega) (.inr (.inl ⟨rfl, rfl, rfl⟩)) (by omega)]
      have h1 : ((digitOf r == 0) = true ∧ 1 < 0 + 1 + rs.length) ↔ (kindOf r < 0 ∨ (0 < rs.length ∧ digitOf r = 0)) := by
        rw [beq_iff_eq]; omega
      have h3 : numRGo (kindOf r) (r :: rs) 0 false = numRGo (kindOf r) rs (0 * 10 + digitOf r) ((decide (576460752303423488 < 0 * 10 + digitOf r) && decide (0 < rs.length)) || decide (4611686018427387904 < 0 * 10 + digitOf r)) := by
        rw [numRGo, if_neg (by simp), if_neg (by simp)]
      have h2 : ((decide (576460752303423488 < 0 * 10 + digitOf r) && decide (0 < rs.length)) || decide (4611686018427387904 < 0 * 10 + digitOf r)) = false := by
        have e1 : decide (576460752303423488 < 0 * 10 + digitOf r) = false := by simp; omega
        have e2 : decide (4611686018427387904 < 0 * 10 + digitOf r) = false := by simp; omega
        rw [e1, e2]; rfl
      rw [h3, h2]
      by_cases hc : kindOf r < 0 ∨ (0 < rs.length ∧ digitOf r = 0)
      · rw [if_pos (h1.2 hc), if_pos hc]
      · rw [if_neg (fun h => hc (h1.1 h)), if_neg hc]
end Go.Proofs.YtggegefeagkhkaaDoor
