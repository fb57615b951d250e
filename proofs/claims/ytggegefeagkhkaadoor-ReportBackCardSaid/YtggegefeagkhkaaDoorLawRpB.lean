/- ReportBack, walked: what is printed is read as it was; what is read is printed as the same text. -/
import Derived.Test.YtggegefeagkhkaaDoorLawRpR
namespace Go.Proofs.YtggegefeagkhkaaDoor
open Go.RowKit

theorem prE_zero {k step : Int} {vs : List Int} (h : prE k step vs = 0) : mayR k step vs = true ∧ IsRep k step vs (prT k step vs) := by
  unfold prE at h
  cases hm : mayR k step vs with
  | false => rw [hm] at h; simp at h
  | true => exact ⟨rfl, hm, by unfold prT; rw [if_pos hm]⟩
theorem rep_small {k step : Int} {vs : List Int} {s : ByteArray} (h : IsRep k step vs s) : s.size ≤ 262144 := by
  have h9 := rep_of h.1
  have h8 := done_len (k := k) (step := step) h9.vals vs.length (Nat.le_refl _)
  have h7 : s.size = (textL k step vs).length := by rw [← h.2]; unfold textB; rw [size_ba]
  have h6 : (textL k step vs).length ≤ (doneL k step vs vs.length).length + 200 := by
    by_cases hk2 : k = 2
    · subst hk2
      rw [textL_two, List.length_append, lineL_len]
      have := prL_len (((marks vs).getD 0 : Nat) : Int)
      simp only [joinB, List.length_append, List.length_cons, wParts, List.length_nil]
      omega
    · rw [textL_done _ _ _ hk2]; omega
  have := h9.n
  omega
theorem ans_rep {k step : Int} {vs : List Int} {s : ByteArray} (h : IsRep k step vs s) : Ans s k step vs 0 := .inl ⟨h, rep_small h, rfl⟩
theorem ans_print {k step : Int} {vs : List Int} {s : ByteArray} (h : Ans s k step vs 0) : prT k step vs = s ∧ prE k step vs = 0 := by
  rcases h with ⟨a, _, _⟩ | ⟨_, _, _, _, e⟩
  · exact ⟨by unfold prT; rw [if_pos a.1]; exact a.2, by unfold prE; rw [if_pos a.1]⟩
  · exfalso; revert e; split <;> decide
set_option maxRecDepth 100000 in
set_option maxHeartbeats 8000000 in
theorem lawBack_any (w : World) (hG : Gl w) (k j1 j2 j3 j4 step : Int) (A : Option Addr) (c : Nat) (vs : List Int) (A2 : Option Addr) (n2 c2 : Nat) (A3 : Option Addr) (n3 c3 : Nat) (s4 s5 : Int) (s : ByteArray) (hk : 0 ≤ k ∧ k ≤ 255) (hr : Rd w 1 A vs.length (vs.map (Value.int .i64))) (hls : s.size ≤ 9223372036854775807) (hlv : vs.length ≤ 9223372036854775807) :
    Calls Tryd.prog 5 #[.agg #[.int .u8 k, .int .i64 j1, .int .i64 j2, .int .i64 j3, .int .i64 j4], .agg #[.int .i64 step, .slice A vs.length c, .slice A2 n2 c2, .slice A3 n3 c3, .int .i64 s4, .int .i64 s5], .string s] w fun e w' => e = .returned (.bool true) ∧ Below w.heap.size w w' := by
  have hB1 := ((Below.refl w.heap.size w).alloc (Nat.le_refl _) (.cells #[.int .u8 k, .int .i64 j1, .int .i64 j2, .int .i64 j3, .int .i64 j4] 23)).alloc (by simp) (.cells #[.int .i64 step, .slice A vs.length c, .slice A2 n2 c2, .slice A3 n3 c3, .int .i64 s4, .int .i64 s5] 28)
  have kJ := (Blk.new w 23 #[.int .u8 k, .int .i64 j1, .int .i64 j2, .int .i64 j3, .int .i64 j4]).alloc (.cells #[.int .i64 step, .slice A vs.length c, .slice A2 n2 c2, .slice A3 n3 c3, .int .i64 s4, .int .i64 s5] 28)
  have kS := Blk.new (w.alloc (.cells #[.int .u8 k, .int .i64 j1, .int .i64 j2, .int .i64 j3, .int .i64 j4] 23)) 28 #[.int .i64 step, .slice A vs.length c, .slice A2 n2 c2, .slice A3 n3 c3, .int .i64 s4, .int .i64 s5]
  rw [show (w.alloc (.cells #[.int .u8 k, .int .i64 j1, .int .i64 j2, .int .i64 j3, .int .i64 j4] 23)).heap.size = w.heap.size + 1 by simp] at kS
  obtain ⟨W1, hW1⟩ : ∃ W1, (w.alloc (.cells #[.int .u8 k, .int .i64 j1, .int .i64 j2, .int .i64 j3, .int .i64 j4] 23)).alloc (.cells #[.int .i64 step, .slice A vs.length c, .slice A2 n2 c2, .slice A3 n3 c3, .int .i64 s4, .int .i64 s5] 28) = W1 := ⟨_, rfl⟩
  have HW := Lib.hid (fun (W : World) (hW : Below w.heap.size w W) => works_any W (hG.below hW))
  have HGB := Lib.hid (fun (W : World) (hW : Below w.heap.size w W) => hG.below hW)
  have HRD := Lib.hid (fun (W : World) (hW : Below w.heap.size w W) (t : ByteArray) => pRead_any W (hG.below hW) t)
  by_cases hl : 60 < vs.length
  · have hlI : (60 : Int) < (vs.length : Int) := by omega
    have hld : decide ((60 : Int) < (vs.length : Int)) = true := decide_eq_true hlI
    have HB1 := Lib.hid hB1
    clear hB1 kJ kS hr hW1
    go_enter Tryd.func5, Tryd.ntmps5
    go_wp2_with fail
    refine (HW.out _ HB1.out).mono ?_
    rintro e w9 ⟨rfl, hb9⟩
    have HB9 := Lib.hid (HB1.out.trans (hb9.mono HB1.out.size))
    clear hb9
    go_wp2
    go_ret
    exact ⟨rfl, HB9.out⟩
  have hlI : ¬ (60 : Int) < (vs.length : Int) := by omega
  have hld : decide ((60 : Int) < (vs.length : Int)) = false := decide_eq_false hlI
  by_cases hl2 : 2000 < s.size
  · have hlI2 : (2000 : Int) < (s.size : Int) := by omega
    have hld2 : decide ((2000 : Int) < (s.size : Int)) = true := decide_eq_true hlI2
    have HB1 := Lib.hid hB1
    clear hB1 kJ kS hr hW1
    go_enter Tryd.func5, Tryd.ntmps5
    go_wp2_with fail
    refine (HW.out _ HB1.out).mono ?_
    rintro e w9 ⟨rfl, hb9⟩
    have HB9 := Lib.hid (HB1.out.trans (hb9.mono HB1.out.size))
    clear hb9
    go_wp2
    go_ret
    exact ⟨rfl, HB9.out⟩
  have hlI2 : ¬ (2000 : Int) < (s.size : Int) := by omega
  have hld2 : decide ((2000 : Int) < (s.size : Int)) = false := decide_eq_false hlI2
  rw [hW1] at hB1 kJ kS
  have hP := pPrint_any W1 (hG.below hB1) k step A c vs (.int .i64 j1) (.int .i64 j2) (.int .i64 j3) (.int .i64 j4) (.slice A2 n2 c2) (.slice A3 n3 c3) (.int .i64 s4) (.int .i64 s5) hk (hr.below hB1) (by omega)
  unfold PrintP at hP
  have HB1 := Lib.hid hB1; have HJ := Lib.hid kJ; have HS := Lib.hid kS; have HW1 := Lib.hid hW1; have HR := Lib.hid hr
  obtain ⟨T, hT⟩ : ∃ T, prT k step vs = T := ⟨_, rfl⟩
  obtain ⟨E, hE⟩ : ∃ E, prE k step vs = E := ⟨_, rfl⟩
  rw [hT, hE] at hP
  have HP := Lib.hid hP; have HT := Lib.hid hT; have HE := Lib.hid hE
  clear hP hB1 kJ kS hr hG hW1 hT hE
  go_enter Tryd.func5, Tryd.ntmps5
  go_wp2_with fail
  rw [HW1.out]
  refine HP.out.mono ?_
  rintro e w2 ⟨rfl, hb2⟩
  have HJ2 := Lib.hid (HJ.out.below hb2 HJ.out.lt)
  have HS2 := Lib.hid (HS.out.below hb2 HS.out.lt)
  have HB2 := Lib.hid (HB1.out.trans (hb2.mono HB1.out.size))
  clear hb2
  by_cases hE0 : E = 0
  case neg =>
    have heb : (E == 0) = false := by simpa using hE0
    clear hE0
    go_wp2_with fail
    refine (HRD.out _ HB2.out s).mono ?_
    intro e w6 h6
    obtain ⟨hb6, k6, st6, vs6, A6, c6, er6, ha6, rfl, hr6⟩ := rds_ans h6
    have HB6 := Lib.hid (HB2.out.trans (hb6.mono HB2.out.size))
    obtain ⟨hk6, hl6, her6⟩ := ans_bd ha6
    clear h6 hb6
    rcases her6 with rfl | ⟨hne, rfl⟩
    · obtain ⟨hT6, hE6⟩ := ans_print ha6
      have hP6 := pPrint_any w6 (HGB.out _ HB6.out) k6 st6 A6 c6 vs6 (.int .i64 0) (.int .i64 0) (.int .i64 0) (.int .i64 0) (.slice none 0 0) (.slice none 0 0) (.int .i64 0) (.int .i64 0) hk6 hr6 (by omega)
      unfold PrintP at hP6
      rw [hT6, hE6] at hP6
      have HP6 := Lib.hid hP6
      have hbs : (s.toList == s.toList) = true := by simp
      clear ha6 hr6 hT6 hE6 hP6
      go_wp2_with fail
      refine HP6.out.mono ?_
      rintro e w7 ⟨rfl, hb7⟩
      have HB7 := Lib.hid (HB6.out.trans (hb7.mono HB6.out.size))
      clear hb7
      go_wp2_with fail
      refine (HW.out _ HB7.out).mono ?_
      rintro e w9 ⟨rfl, hb9⟩
      have HB9 := Lib.hid (HB7.out.trans (hb9.mono HB7.out.size))
      clear hb9
      go_wp2
      go_ret
      exact ⟨rfl, HB9.out⟩
    · have heb : (er6 != 0) = true := by simpa using hne
      have HB7 := HB6
      clear ha6 hr6 hne
      simp only [List.length_nil]
      go_wp2_with fail
      refine (HW.out _ HB7.out).mono ?_
      rintro e w9 ⟨rfl, hb9⟩
      have HB9 := Lib.hid (HB7.out.trans (hb9.mono HB7.out.size))
      clear hb9
      go_wp2
      go_ret
      exact ⟨rfl, HB9.out⟩
  subst hE0
  have hrep := (prE_zero HE.out).2
  rw [HT.out] at hrep
  have HAN := Lib.hid (ans_rep hrep)
  clear hrep
  go_wp2_with fail
  refine (HRD.out _ HB2.out T).mono ?_
  intro e w3 h3
  obtain ⟨hb3, k3, st3, vs3, A3', c3', er3, ha3, rfl, hr3⟩ := rds_ans h3
  obtain ⟨rfl, rfl, rfl, rfl⟩ := ans_eq ha3 HAN.out
  have hJ3 := HJ2.out.below hb3 HJ2.out.lt
  have hS3 := HS2.out.below hb3 HS2.out.lt
  have HB3 := Lib.hid (HB2.out.trans (hb3.mono HB2.out.size))
  have HSM := Lib.hid (same64_any w3 A3' A c3' c vs3 vs3 hr3 (HR.out.below HB3.out) (by omega))
  rw [decide_eq_true rfl] at HSM
  have a0 := hJ3.cell 0
  have b0 := hS3.cell 0; have b1 := hS3.cell 1
  simp only [List.getElem?_toArray, List.getElem?_cons_zero, List.getElem?_cons_succ] at a0 b0 b1
  have hkk : (k3 != k3) = false := by simp
  have hss : (st3 != st3) = false := by simp
  clear h3 hb3 ha3 hr3 hJ3 hS3
  go_wp2_with fail
  refine HSM.out.mono ?_
  rintro e w4 ⟨rfl, hb4⟩
  have HB4 := Lib.hid (HB3.out.trans (hb4.mono HB3.out.size))
  clear hb4 a0 b0 b1
  go_wp2_with fail
  refine (HRD.out _ HB4.out s).mono ?_
  intro e w6 h6
  obtain ⟨hb6, k6, st6, vs6, A6, c6, er6, ha6, rfl, hr6⟩ := rds_ans h6
  have HB6 := Lib.hid (HB4.out.trans (hb6.mono HB4.out.size))
  obtain ⟨hk6, hl6, her6⟩ := ans_bd ha6
  clear h6 hb6
  rcases her6 with rfl | ⟨hne, rfl⟩
  · obtain ⟨hT6, hE6⟩ := ans_print ha6
    have hP6 := pPrint_any w6 (HGB.out _ HB6.out) k6 st6 A6 c6 vs6 (.int .i64 0) (.int .i64 0) (.int .i64 0) (.int .i64 0) (.slice none 0 0) (.slice none 0 0) (.int .i64 0) (.int .i64 0) hk6 hr6 (by omega)
    unfold PrintP at hP6
    rw [hT6, hE6] at hP6
    have HP6 := Lib.hid hP6
    have hbs : (s.toList == s.toList) = true := by simp
    clear ha6 hr6 hT6 hE6 hP6
    go_wp2_with fail
    refine HP6.out.mono ?_
    rintro e w7 ⟨rfl, hb7⟩
    have HB7 := Lib.hid (HB6.out.trans (hb7.mono HB6.out.size))
    clear hb7
    go_wp2_with fail
    refine (HW.out _ HB7.out).mono ?_
    rintro e w9 ⟨rfl, hb9⟩
    have HB9 := Lib.hid (HB7.out.trans (hb9.mono HB7.out.size))
    clear hb9
    go_wp2
    go_ret
    exact ⟨rfl, HB9.out⟩
  · have heb : (er6 != 0) = true := by simpa using hne
    have HB7 := HB6
    clear ha6 hr6 hne
    simp only [List.length_nil]
    go_wp2_with fail
    refine (HW.out _ HB7.out).mono ?_
    rintro e w9 ⟨rfl, hb9⟩
    have HB9 := Lib.hid (HB7.out.trans (hb9.mono HB7.out.size))
    clear hb9
    go_wp2
    go_ret
    exact ⟨rfl, HB9.out⟩
end Go.Proofs.YtggegefeagkhkaaDoor
