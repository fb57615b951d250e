/- Walk of words.Number: it returns what the plain road over the word's runes returns. -/
import Derived.Test.YtggegefeagkhkaaDoorWordsA
import Derived.Lib.OthersKept
namespace Go.Proofs.YtggegefeagkhkaaDoor
open Go.RowKit

theorem firsts_below {B : Nat} {w w' : World} (h : Firsts w) (hb : Below B w w') (hB : 1 < B) : Firsts w' :=
  ⟨(hb.cell (by exact hB)).trans h.1, (hb.cell (by exact hB)).trans h.2.1, (hb.cell (by exact hB)).trans h.2.2⟩
theorem firsts_lt {w : World} (h : Firsts w) : 1 < w.heap.size := World.block_lt_of_cell? w ⟨1, 0, none⟩ h.1

theorem ret_pair {k k' : IntKind} {p q : Int × Int} (h : p = q) : Ending.returned (.tuple #[.int k p.1, .int k' p.2]) = .returned (.tuple #[.int k q.1, .int k' q.2]) := by rw [h]
set_option maxHeartbeats 2000000 in
theorem number_any (s : ByteArray) (w : World) (hs : s.size ≤ 9223372036854775807) (hF : Firsts w) :
    Calls Tryd.prog 58 #[.string s] w fun e w' => e = .returned (.tuple #[.int .i64 (numP (runes s)).1, .int .i64 (numP (runes s)).2]) ∧ Below w.heap.size w w' := by
  go_enter Tryd.func58, Tryd.ntmps58
  go_wp2
  go_loopw [4, 5, 6, 7, 8] (fun n c k no ov wr => ∃ (pos f : Nat) (N : Int) (C : Nat) (K : Int) (no' ov' : Bool), wr = w.iter s pos ∧ n = .int .i64 N ∧ c = .int .i64 C ∧ k = .int .i64 K ∧ no = .bool no' ∧ ov = .bool ov' ∧
      numGo (runesFrom s f pos) N C K no' ov' = numP (runes s) ∧ s.size ≤ pos + f ∧ pos ≤ s.size ∧ C ≤ pos ∧ 0 ≤ N ∧ N ≤ 4611686018427387904) (fun _ _ _ _ _ w' => s.size - w'.iterPos w.heap.size)
  case atStart => exact ⟨0, s.size, 0, 0, 0, false, false, rfl, rfl, rfl, rfl, rfl, rfl, rfl, by omega, by omega, by omega, by omega, by omega⟩
  case round =>
    obtain ⟨pos, f, N, C, K, no', ov', rfl, rfl, rfl, rfl, rfl, rfl, hg, hf, hpos, hC, hN0, hN1⟩ := hrel
    by_cases hp : pos < s.size
    · have hnx : ∀ ty, (Instr.next (.pointer (some ⟨w.heap.size, 0, none⟩)) true ty).run Tryd.prog (w.iter s pos) = _ := fun ty => run_next_any w s pos ty hp
      have hwd := Lib.width_pos s pos
      have hfit := dec_fits s pos hp
      have hrl := Lib.rune_le s pos
      have hF' : ∀ p, Firsts (w.iter s p) := fun p => firsts_below hF ((Below.refl w.heap.size w).alloc (Nat.le_refl _) _) (firsts_lt hF)
      obtain ⟨f, rfl⟩ : ∃ g, f = g + 1 := ⟨f - 1, by omega⟩
      rw [runesFrom, if_pos hp] at hg
      obtain ⟨R, hR⟩ : ∃ R : Nat, R = (Utf8.decode s pos).1 := ⟨_, rfl⟩
      obtain ⟨W, hW⟩ : ∃ W : Nat, W = (Utf8.decode s pos).2 := ⟨_, rfl⟩
      rw [← hR, ← hW] at hnx hg
      rw [← hW] at hwd hfit
      rw [← hR] at hrl
      clear hR hW
      have hkb := kindOf_ge R
      have hdb := digitOf_ge R
      have hdig := digit_any R (w.iter s (pos + W)) (by omega) (by omega) (hF' _)
      have HD := Lib.hid hdig
      clear hdig hF'
      by_cases hbad : kindOf R < 0 ∨ (C ≠ 0 ∧ kindOf R ≠ K)
      · rw [numGo_bad hbad] at hg
        have HG := Lib.hid hg
        clear hg
        by_cases hC0 : C = 0
        · subst hC0
          have hk : kindOf R < 0 := by omega
          clear hbad
          go_wp2_with (go_at_call 72; refine (HD.out).mono ?_; rintro e w' ⟨rfl, rfl⟩)
          go_ret2
          exact ⟨ret_pair HG.out, (Below.refl _ _).alloc (Nat.le_refl _) _⟩
        · have hC1 : 0 < C := by omega
          by_cases hk : kindOf R < 0
          · clear hbad
            go_wp2_with (go_at_call 72; refine (HD.out).mono ?_; rintro e w' ⟨rfl, rfl⟩)
            go_ret2
            exact ⟨ret_pair HG.out, (Below.refl _ _).alloc (Nat.le_refl _) _⟩
          · have hk1 : 0 ≤ kindOf R := by omega
            have hk2 : (kindOf R != K) = true := by rw [bne_iff_ne]; omega
            clear hbad hk
            go_wp2_with (go_at_call 72; refine (HD.out).mono ?_; rintro e w' ⟨rfl, rfl⟩)
            go_ret2
            exact ⟨ret_pair HG.out, (Below.refl _ _).alloc (Nat.le_refl _) _⟩
      · have hk1 : 0 ≤ kindOf R := by omega
        have hk3 : C = 0 ∨ kindOf R = K := by omega
        have hd := digitOf_k R hk1
        have hd1 := hd.2.1
        have hstep := fun ov h => numGo_ok (rs := runesFrom s f (pos + W)) (n := N) (no := no') (ov := ov') hk1 hk3 ov h
        clear hbad hd
        by_cases hC0 : C = 0
        · subst hC0
          simp only [if_true] at hstep
          clear hk3
          cases ov'
          · by_cases hcmp : (4611686018427387904 - digitOf R) / 10 < N
            · have HG := Lib.hid ((hstep true (by simp [hcmp])).symm.trans hg)
              have hdc : decide ((4611686018427387904 - digitOf R) / 10 < N) = true := by simp [hcmp]
              clear hstep hg
              go_wp2_with (go_at_call 72; refine (HD.out).mono ?_; rintro e w' ⟨rfl, rfl⟩)
              go_roundw
              case rel => exact ⟨pos + W, f, N, 1, kindOf R, (digitOf R == 0), true, rfl, rfl, by go_num, rfl, rfl, rfl, HG.out, by omega, by omega, by omega, by omega, by omega⟩
              case measure => simp; omega
            · have HG := Lib.hid ((hstep false (by simp [hcmp])).symm.trans hg)
              have hdc : decide ((4611686018427387904 - digitOf R) / 10 < N) = false := by simp [hcmp]
              have hN2 : N * 10 + digitOf R ≤ 4611686018427387904 := by omega
              clear hstep hg
              go_wp2_with (go_at_call 72; refine (HD.out).mono ?_; rintro e w' ⟨rfl, rfl⟩)
              go_roundw
              case rel => exact ⟨pos + W, f, N * 10 + digitOf R, 1, kindOf R, (digitOf R == 0), false, rfl, rfl, by go_num, rfl, rfl, rfl, HG.out, by omega, by omega, by omega, by omega, by omega⟩
              case measure => simp; omega
          · have HG := Lib.hid ((hstep true rfl).symm.trans hg)
            clear hstep hg
            go_wp2_with (go_at_call 72; refine (HD.out).mono ?_; rintro e w' ⟨rfl, rfl⟩)
            go_roundw
            case rel => exact ⟨pos + W, f, N, 1, kindOf R, (digitOf R == 0), true, rfl, rfl, by go_num, rfl, rfl, rfl, HG.out, by omega, by omega, by omega, by omega, by omega⟩
            case measure => simp; omega
        · obtain rfl : K = kindOf R := by omega
          have hC1 : 0 < C := by omega
          simp only [if_neg hC0] at hstep
          clear hk3
          cases ov'
          · by_cases hcmp : (4611686018427387904 - digitOf R) / 10 < N
            · have HG := Lib.hid ((hstep true (by simp [hcmp])).symm.trans hg)
              have hdc : decide ((4611686018427387904 - digitOf R) / 10 < N) = true := by simp [hcmp]
              clear hstep hg
              go_wp2_with (go_at_call 72; refine (HD.out).mono ?_; rintro e w' ⟨rfl, rfl⟩)
              go_roundw
              case rel => exact ⟨pos + W, f, N, C + 1, kindOf R, no', true, rfl, rfl, by go_num, rfl, rfl, rfl, HG.out, by omega, by omega, by omega, by omega, by omega⟩
              case measure => simp; omega
            · have HG := Lib.hid ((hstep false (by simp [hcmp])).symm.trans hg)
              have hdc : decide ((4611686018427387904 - digitOf R) / 10 < N) = false := by simp [hcmp]
              have hN2 : N * 10 + digitOf R ≤ 4611686018427387904 := by omega
              clear hstep hg
              go_wp2_with (go_at_call 72; refine (HD.out).mono ?_; rintro e w' ⟨rfl, rfl⟩)
              go_roundw
              case rel => exact ⟨pos + W, f, N * 10 + digitOf R, C + 1, kindOf R, no', false, rfl, rfl, by go_num, rfl, rfl, rfl, HG.out, by omega, by omega, by omega, by omega, by omega⟩
              case measure => simp; omega
          · have HG := Lib.hid ((hstep true rfl).symm.trans hg)
            clear hstep hg
            go_wp2_with (go_at_call 72; refine (HD.out).mono ?_; rintro e w' ⟨rfl, rfl⟩)
            go_roundw
            case rel => exact ⟨pos + W, f, N, C + 1, kindOf R, no', true, rfl, rfl, by go_num, rfl, rfl, rfl, HG.out, by omega, by omega, by omega, by omega, by omega⟩
            case measure => simp; omega
    · have hnx : ∀ ty, (Instr.next (.pointer (some ⟨w.heap.size, 0, none⟩)) true ty).run Tryd.prog (w.iter s pos) = _ := fun ty => run_next_end w s pos ty hp
      rw [runesFrom_end _ _ _ hp, numGo_nil] at hg
      rcases (show C = 0 ∨ C = 1 ∨ 1 < C by omega) with rfl | rfl | hC1
      · have hg' : (0, 30) = numP (runes s) := by simpa using hg
        have HG := Lib.hid hg'
        clear hg hg'
        go_wp2
        go_ret2
        exact ⟨ret_pair HG.out, (Below.refl _ _).alloc (Nat.le_refl _) _⟩
      · cases ov'
        · have hg' : (N, 0) = numP (runes s) := by simpa using hg
          have HG := Lib.hid hg'
          clear hg hg'
          go_wp2
          all_goals go_ret2
          all_goals exact ⟨ret_pair HG.out, (Below.refl _ _).alloc (Nat.le_refl _) _⟩
        · have hg' : (0, 50) = numP (runes s) := by simpa using hg
          have HG := Lib.hid hg'
          clear hg hg'
          go_wp2
          all_goals go_ret2
          all_goals exact ⟨ret_pair HG.out, (Below.refl _ _).alloc (Nat.le_refl _) _⟩
      · have hC0 : ((C : Int) == 0) = false := by simp; omega
        have hC2 : ¬ C = 0 := by omega
        cases no'
        · cases ov'
          · have hg' : (N, 0) = numP (runes s) := by simpa [hC2] using hg
            have HG := Lib.hid hg'
            clear hg hg' hC2
            go_wp2
            go_ret2
            exact ⟨ret_pair HG.out, (Below.refl _ _).alloc (Nat.le_refl _) _⟩
          · have hg' : (0, 50) = numP (runes s) := by simpa [hC2] using hg
            have HG := Lib.hid hg'
            clear hg hg' hC2
            go_wp2
            go_ret2
            exact ⟨ret_pair HG.out, (Below.refl _ _).alloc (Nat.le_refl _) _⟩
        · have hg' : (0, 30) = numP (runes s) := by simpa [hC1] using hg
          have HG := Lib.hid hg'
          clear hg hg' hC2
          go_wp2
          go_ret2
          exact ⟨ret_pair HG.out, (Below.refl _ _).alloc (Nat.le_refl _) _⟩
end Go.Proofs.YtggegefeagkhkaaDoor
