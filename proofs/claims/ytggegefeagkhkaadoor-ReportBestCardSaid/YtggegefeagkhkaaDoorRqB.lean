/- slices' SymMerge over a row of places: the general case. -/
import Derived.Test.YtggegefeagkhkaaDoorPk39
namespace Go.Proofs.YtggegefeagkhkaaDoor
open Go.RowKit

set_option maxRecDepth 100000 in
set_option maxHeartbeats 16000000 in
theorem sym_gen (w : World) (vs : List Int) (A : Option Addr) (c g gb N : Nat) (p s1 s2 r : List Nat) (a m b K : Nat) (h : Srt w vs A c g gb (p ++ (s1 ++ (s2 ++ r)))) (ha : p.length = a) (hm : a + s1.length = m) (hb : m + s2.length = b) (h1l : 1 < s1.length) (h2l : 1 < s2.length) (h1 : s1.Pairwise (lt vs)) (h2 : s2.Pairwise (lt vs)) (hlt : ∀ x ∈ s1, ∀ y ∈ s2, x < y) (hN : (p ++ (s1 ++ (s2 ++ r))).length = N) (hl : N ≤ 1000000) (hK : s1.length + s2.length ≤ K) (hI : SymC vs A c g gb N K) :
    Calls Tryd.prog 61 #[.slice (some ⟨g, 0, none⟩) N N, .int .i64 (a : Int), .int .i64 (m : Int), .int .i64 (b : Int), .func (.func 25) #[] #[.pointer (some ⟨gb, 0, none⟩)]] w fun e' w' => e' = .returned (.tuple #[]) ∧ SrtP w vs A c g gb p (s1 ++ s2) r w' := by
  have HCC := Lib.hid (fun (W : World) (l : List Nat) (hW : Srt W vs A c g gb l) (x y : Nat) (hx : x ∈ l) (hy : y ∈ l) => clo_cmp W vs A c g gb l hW x y (hW.lt x hx) (hW.lt y hy))
  have hNs : b + r.length = N := by rw [← hN]; simp only [List.length_append]; omega
  have hbN : b ≤ N := by omega
  obtain ⟨mid, hmid⟩ : ∃ mid, (a + b) / 2 = mid := ⟨_, rfl⟩
  have hmidI : ((a : Int) + (b : Int)) / 2 = (mid : Int) := by omega
  have hma : ((m : Int) - (a : Int) == 1) = false := by rw [beq_eq_false_iff_ne]; omega
  have hbm : ((b : Int) - (m : Int) == 1) = false := by rw [beq_eq_false_iff_ne]; omega
  have hmb2 : a < mid ∧ mid < b := by omega
  obtain ⟨hmid1, hmid2⟩ := hmb2
  have haM : (a : Int) ≤ (m : Int) := by omega
  have hmN : (m : Int) ≤ 1000000 := by omega
  have hmb : (m : Int) ≤ (b : Int) := by omega
  have hbN2 : (b : Int) ≤ 1000000 := by omega
  have hmN2 : m < N := by omega
  have ham : a ≤ m := by omega
  have hmbN : m ≤ b := by omega
  obtain ⟨bb, hbb⟩ : ∃ bb, decide ((mid : Int) < (m : Int)) = bb := ⟨_, rfl⟩
  obtain ⟨lo, hi, L⟩ : ∃ lo hi : Nat, (bb = true ∧ (mid : Int) + (m : Int) - (b : Int) = (lo : Int) ∧ mid = hi ∨ bb = false ∧ a = lo ∧ m = hi) ∧ a ≤ lo ∧ mid + m ≤ lo + b ∧ (hi ≤ mid ∧ hi ≤ m) ∧ (lo = a ∨ lo + b = mid + m) ∧ (hi = mid ∨ hi = m) ∧ lo ≤ hi := by
    by_cases hq : (mid : Int) < (m : Int)
    · rw [decide_eq_true hq] at hbb
      exact ⟨mid + m - b, mid, .inl ⟨hbb.symm, by omega, rfl⟩, by omega, by omega, by omega, by omega, by omega, by omega⟩
    · rw [decide_eq_false hq] at hbb
      exact ⟨a, m, .inr ⟨hbb.symm, rfl, rfl⟩, by omega, by omega, by omega, by omega, by omega, by omega⟩
  obtain ⟨L0, L1, L2, L3, L4, L5, L6⟩ := L
  have HS := Lib.hid h; have HA := Lib.hid ha; have HM := Lib.hid hm; have HB := Lib.hid hb; have H1 := Lib.hid h1; have H2 := Lib.hid h2; have HLT := Lib.hid hlt; have HMID := Lib.hid hmidI; have HNS := Lib.hid hNs; have HN := Lib.hid hN; have HL0 := Lib.hid L0; have HKK := Lib.hid hK
  have HL := Lib.hid (And.intro L1 (And.intro L2 (And.intro L3 (And.intro L4 (And.intro L5 L6)))))
  have HI := Lib.hid hI; have HLL := Lib.hid (And.intro h1l h2l); have HBB := Lib.hid hbb
  clear h ha hm hb h1 h2 hlt hmidI hNs hN L0 L1 L2 L3 L4 L5 L6 hI h1l h2l hmid hK hbb
  go_enter Tryd.func61, Tryd.ntmps61
  go_upto_if 140 with (fail)
  rw [HMID.out, HBB.out]
  go_cut [20, 21] (fun s20 s21 wx => s20 = .int .i64 lo ∧ s21 = .int .i64 hi ∧ w = wx)
  case first =>
    rcases HL0.out with ⟨rfl, h3, rfl⟩ | ⟨rfl, rfl, rfl⟩
    · have HL3 := Lib.hid h3
      clear HBB HL0 HL h3
      go_wp2
      go_meet
      exact ⟨by rw [HL3.out], rfl, rfl⟩
    · clear HBB HL0 HL
      go_wp2
      go_meet
      exact ⟨rfl, rfl, rfl⟩
  case rest =>
  as_aux_lemma =>
  obtain ⟨rfl, rfl, rfl⟩ := hcut
  clear HBB HL0
  have HML := Lib.hid (show (mid : Int) ≤ 1000000 by omega)
  have hmidN : (mid : Int) ≤ 1000000 := HML.out
  obtain ⟨PP, hPP⟩ : ∃ PP : Nat, (mid : Int) + (m : Int) - 1 = (PP : Int) := ⟨mid + m - 1, by omega⟩
  have HPP := Lib.hid hPP
  clear hPP
  go_wp2
  rw [HPP.out]
  go_loopg [20, 21] (hi - lo) (fun gf v20 v21 wr => ∃ (i j : Nat), v20 = .int .i64 i ∧ v21 = .int .i64 j ∧ lo ≤ i ∧ i ≤ j ∧ j ≤ hi ∧ j = i + gf ∧ (lo < i → ∃ x y, s1[i - 1 - a]? = some x ∧ s2[mid - i]? = some y ∧ lt vs x y) ∧ (j < hi → ∃ x y, s1[j - a]? = some x ∧ s2[mid - 1 - j]? = some y ∧ lt vs y x) ∧ Srt wr vs A c g gb (p ++ (s1 ++ (s2 ++ r))) ∧ w.grownBy wr (some g))
  case atStart => exact ⟨lo, hi, rfl, rfl, Nat.le_refl _, HL.out.2.2.2.2.2, Nat.le_refl _, by have := HL.out.2.2.2.2.2; omega, fun h => by omega, fun h => by omega, HS.out, World.grownBy.refl w _⟩
  case round =>
    clear HS
    obtain ⟨i, j, rfl, rfl, hi1, hij, hj, hg, q1, q2, hst, hgr⟩ := hrel
    have hHm : hi ≤ m ∧ hi ≤ mid := ⟨HL.out.2.2.1.2, HL.out.2.2.1.1⟩
    obtain ⟨hHm1, hHm2⟩ := hHm
    have hLa : a ≤ lo := HL.out.1
    cases gk with
    | zero =>
      obtain rfl : j = i := by omega
      obtain ⟨u1, u2, v1, v2, hc⟩ := cut_d H1.out H2.out HM.out HB.out HL.out.1 HL.out.2.1 HL.out.2.2.1 HL.out.2.2.2.1 HL.out.2.2.2.2.1 hi1 hj q1 q2
      obtain ⟨E, hE⟩ : ∃ E, mid + m - j = E := ⟨_, rfl⟩
      rw [hE] at hc
      have hEI : (mid : Int) + (m : Int) - (j : Int) = (E : Int) := by omega
      have HC := Lib.hid hc; have HE := Lib.hid hEI
      have hst1 : Srt wr vs A c g gb ((p ++ u1) ++ (u2 ++ (v1 ++ (v2 ++ r)))) := by rw [hc.e1, hc.e2] at hst; simpa using hst
      have HST := Lib.hid hst1; have HG := Lib.hid hgr
      have hjI : (j : Int) ≤ 1000000 := by omega
      have HP1 := Lib.hid (show (p ++ u1).length = j by rw [List.length_append, HA.out]; exact hc.k1)
      have HN1 := Lib.hid (show ((p ++ u1) ++ (u2 ++ (v1 ++ (v2 ++ r)))).length = N by have := HN.out; rw [hc.e1, hc.e2] at this; simpa using this)
      have hu1 : (u1 ++ u2).Pairwise (lt vs) := by rw [← hc.e1]; exact H1.out
      have hv1 : (v1 ++ v2).Pairwise (lt vs) := by rw [← hc.e2]; exact H2.out
      have HU := Lib.hid hu1; have HV := Lib.hid hv1
      have HLT2 := Lib.hid (show ∀ x ∈ u1 ++ u2, ∀ y ∈ v1 ++ v2, x < y by rw [← hc.e1, ← hc.e2]; exact HLT.out)
      have hEb : (E : Int) ≤ 1000000 := by have := hc.k4; omega
      obtain ⟨wo, rfl⟩ : ∃ wo : World, wo = wr := ⟨_, rfl⟩
      clear q1 q2 hst hst1 hgr hg hc hEI hE hu1 hv1 hi1 hij hj hHm1 hHm2
      obtain ⟨B1, hB1⟩ : ∃ B1, decide (j < m) = B1 := ⟨_, rfl⟩
      obtain ⟨B2, hB2⟩ : ∃ B2, decide (m < E) = B2 := ⟨_, rfl⟩
      obtain ⟨B3, hB3⟩ : ∃ B3, decide (a < j) = B3 := ⟨_, rfl⟩
      obtain ⟨B4, hB4⟩ : ∃ B4, decide (j < mid) = B4 := ⟨_, rfl⟩
      obtain ⟨B5, hB5⟩ : ∃ B5, decide (mid < E) = B5 := ⟨_, rfl⟩
      obtain ⟨B6, hB6⟩ : ∃ B6, decide (E < b) = B6 := ⟨_, rfl⟩
      have HB1 := Lib.hid hB1; have HB2 := Lib.hid hB2; have HB3 := Lib.hid hB3; have HB4 := Lib.hid hB4; have HB5 := Lib.hid hB5; have HB6 := Lib.hid hB6
      clear hB1 hB2 hB3 hB4 hB5 hB6
      go_upto_region 39 with (fail)
      rw [HE.out]
      go_cut [185] (fun s185 wx => s185 = .bool (B1 && B2) ∧ wo = wx)
      case first =>
        have hB1 := HB1.out; have hB2 := HB2.out
        clear HB3 HB4 HB5 HB6
        cases B1 <;> cases B2
        all_goals
          go_wp2
          go_meet
          exact ⟨rfl, rfl⟩
      case rest =>
      as_aux_lemma =>
      obtain ⟨rfl, rfl⟩ := hcut
      obtain ⟨C1, hC1⟩ : ∃ C1, (B1 && B2) = C1 := ⟨_, rfl⟩
      rw [hC1]
      have HC1 := Lib.hid hC1
      clear hC1
      go_upto_if 185 with (fail)
      go_cut [24] (fun s24 wx => s24 = .int .i64 E ∧ Srt wx vs A c g gb (p ++ (u1 ++ (v1 ++ (u2 ++ (v2 ++ r))))) ∧ w.grownBy wx (some g))
      case first =>
        cases C1 with
        | false =>
          have HR := Lib.hid (show Srt wo vs A c g gb (p ++ (u1 ++ (v1 ++ (u2 ++ (v2 ++ r))))) by
            have h0 : u2.length = 0 ∨ v1.length = 0 := by
              have h1 := HC1.out
              rw [Bool.and_eq_false_iff, ← HB1.out, ← HB2.out] at h1
              simp only [decide_eq_false_iff_not] at h1
              have := HC.out.k2; have := HC.out.k3
              omega
            have h9 := HST.out
            rcases h0 with h0 | h0
            · rw [List.eq_nil_of_length_eq_zero h0] at h9 ⊢; simpa using h9
            · rw [List.eq_nil_of_length_eq_zero h0] at h9 ⊢; simpa using h9)
          go_wp2
          go_meet
          exact ⟨rfl, HR.out, HG.out⟩
        | true =>
          have h0 : 0 < u2.length ∧ 0 < v1.length := by
            have h1 := HC1.out
            rw [Bool.and_eq_true, ← HB1.out, ← HB2.out] at h1
            simp only [decide_eq_true_eq] at h1
            have := HC.out.k2; have := HC.out.k3
            omega
          have hrot := rot_any wo vs A c g gb N (p ++ u1) u2 v1 (v2 ++ r) (.func (.func 25) #[] #[.pointer (some ⟨gb, 0, none⟩)]) j m E HST.out HP1.out HC.out.k2 HC.out.k3 h0.1 h0.2 HN1.out hl
          have HROT := Lib.hid hrot
          clear hrot h0
          go_wp2_with fail
          (with_reducible refine HROT.out.mono ?_)
          rintro e w2 ⟨rfl, h2, g2⟩
          have HR := Lib.hid h2; have HG2 := Lib.hid (grown_trans_ HG.out g2)
          clear h2 g2
          go_wp2
          go_meet
          exact ⟨rfl, by simpa using HR.out, HG2.out⟩
      case rest =>
      as_aux_lemma =>
      clear HST HG HC1 HB1 HB2 HP1 HN1
      obtain ⟨rfl, hst, hgr⟩ := hcut
      have HST := Lib.hid hst; have HG := Lib.hid hgr
      have HN2 := Lib.hid (show (p ++ (u1 ++ (v1 ++ (u2 ++ (v2 ++ r))))).length = N by have h9 := HN.out; rw [HC.out.e1, HC.out.e2] at h9; simp only [List.length_append] at h9 ⊢; omega)
      clear hst hgr
      go_upto_region 41 with (fail)
      go_cut [199] (fun s199 wx => s199 = .bool (B3 && B4) ∧ wc = wx)
      case first =>
        have hB3 := HB3.out; have hB4 := HB4.out
        clear HB5 HB6
        cases B3 <;> cases B4
        all_goals
          go_wp2
          go_meet
          exact ⟨rfl, rfl⟩
      case rest =>
      as_aux_lemma =>
      obtain ⟨rfl, rfl⟩ := hcut
      obtain ⟨C2, hC2⟩ : ∃ C2, (B3 && B4) = C2 := ⟨_, rfl⟩
      rw [hC2]
      have HC2 := Lib.hid hC2
      clear hC2
      go_upto_if 199 with (fail)
      go_cut [24] (fun s24 wx => s24 = .int .i64 E ∧ SrtP w vs A c g gb p (u1 ++ v1) (u2 ++ (v2 ++ r)) wx)
      case first =>
        have HU1 := Lib.hid (List.pairwise_append.1 HU.out).1
        have HV1 := Lib.hid (List.pairwise_append.1 HV.out).1
        cases C2 with
        | false =>
          have h0 : u1.length = 0 ∨ v1.length = 0 := by
            have h1 := HC2.out
            rw [Bool.and_eq_false_iff, ← HB3.out, ← HB4.out] at h1
            simp only [decide_eq_false_iff_not] at h1
            have := HC.out.k1; have := HC.out.k5
            omega
          have HR := Lib.hid (half_plain HU1.out HV1.out h0 HST.out HG.out)
          clear h0
          go_wp2
          go_meet
          exact ⟨rfl, HR.out⟩
        | true =>
          have h0 : 0 < u1.length ∧ 0 < v1.length := by
            have h1 := HC2.out
            rw [Bool.and_eq_true, ← HB3.out, ← HB4.out] at h1
            simp only [decide_eq_true_eq] at h1
            have := HC.out.k1; have := HC.out.k5
            omega
          have hrec := HI.out u1 v1 (by have := HC.out.k1; have := HC.out.k5; have := HKK.out; have := HM.out; have := HB.out; omega) h0.1 h0.2 HU1.out HV1.out (fun x hx y hy => HLT2.out x (List.mem_append_left _ hx) y (List.mem_append_left _ hy)) _ p (u2 ++ (v2 ++ r)) a j mid HST.out HA.out HC.out.k1 HC.out.k5 HN2.out
          have HREC := Lib.hid hrec
          clear hrec h0
          go_wp2_with fail
          (with_reducible refine HREC.out.mono ?_)
          rintro e w2 ⟨rfl, h2⟩
          have HR := Lib.hid (h2.later HG.out)
          clear h2
          go_wp2
          go_meet
          exact ⟨rfl, HR.out⟩
      case rest =>
      as_aux_lemma =>
      clear HST HG HC2 HB3 HB4
      obtain ⟨rfl, t1, hp1, hs1, hst, hgr⟩ := hcut
      have HP1 := Lib.hid hp1; have HS1 := Lib.hid hs1; have HG := Lib.hid hgr
      have HLN := Lib.hid (show (p ++ t1).length = mid by rw [List.length_append, hp1.length_eq, List.length_append, HA.out]; have := HC.out.k1; have := HC.out.k5; omega)
      have hst1 : Srt wc vs A c g gb ((p ++ t1) ++ (u2 ++ (v2 ++ r))) := by simpa using hst
      have HST := Lib.hid hst1
      have HN3 := Lib.hid (show ((p ++ t1) ++ (u2 ++ (v2 ++ r))).length = N by have h8 := HN2.out; have h9 := hp1.length_eq; simp only [List.length_append] at h8 h9 ⊢; omega)
      clear hp1 hs1 hst hgr hst1
      go_upto_region 43 with (fail)
      go_cut [213] (fun s213 wx => s213 = .bool (B5 && B6) ∧ wc = wx)
      case first =>
        have hB5 := HB5.out; have hB6 := HB6.out
        cases B5 <;> cases B6
        all_goals
          go_wp2
          go_meet
          exact ⟨rfl, rfl⟩
      case rest =>
      as_aux_lemma =>
      obtain ⟨rfl, rfl⟩ := hcut
      obtain ⟨C3, hC3⟩ : ∃ C3, (B5 && B6) = C3 := ⟨_, rfl⟩
      rw [hC3]
      have HC3 := Lib.hid hC3
      clear hC3
      have HU2 := Lib.hid (List.pairwise_append.1 HU.out).2.1
      have HV2 := Lib.hid (List.pairwise_append.1 HV.out).2.1
      have hfin : ∀ W, SrtP w vs A c g gb (p ++ t1) (u2 ++ v2) r W → SrtP w vs A c g gb p (s1 ++ s2) r W := fun W hW => by
        obtain ⟨t2, hp2, hs2, hst, hgr⟩ := hW
        have h9 := merge_parts HU.out HV.out HC.out.l1 HC.out.l2 HP1.out hp2 HS1.out hs2
        rw [HC.out.e1, HC.out.e2]
        exact ⟨t1 ++ t2, h9.1, h9.2, by simpa using hst, hgr⟩
      have HF := Lib.hid hfin
      clear hfin
      cases C3 with
      | false =>
        have h0 : u2.length = 0 ∨ v2.length = 0 := by
          have h1 := HC3.out
          rw [Bool.and_eq_false_iff, ← HB5.out, ← HB6.out] at h1
          simp only [decide_eq_false_iff_not] at h1
          have := HC.out.k6; have := HC.out.k4
          omega
        have HR := Lib.hid (HF.out _ (half_plain HU2.out HV2.out h0 HST.out HG.out))
        clear h0
        go_wp2
        go_end0
        exact ⟨rfl, HR.out⟩
      | true =>
        have h0 : 0 < u2.length ∧ 0 < v2.length := by
          have h1 := HC3.out
          rw [Bool.and_eq_true, ← HB5.out, ← HB6.out] at h1
          simp only [decide_eq_true_eq] at h1
          have := HC.out.k6; have := HC.out.k4
          omega
        have hrec := HI.out u2 v2 (by have := HC.out.k6; have := HC.out.k4; have := HKK.out; have := HM.out; have := HB.out; omega) h0.1 h0.2 HU2.out HV2.out (fun x hx y hy => HLT2.out x (List.mem_append_right _ hx) y (List.mem_append_right _ hy)) _ (p ++ t1) r mid E b HST.out HLN.out HC.out.k6 HC.out.k4 HN3.out
        have HREC := Lib.hid hrec
        clear hrec h0
        go_wp2_with fail
        (with_reducible refine HREC.out.mono ?_)
        rintro e w2 ⟨rfl, h2⟩
        have HR := Lib.hid (HF.out _ (h2.later HG.out))
        clear h2
        go_wp2
        go_end0
        exact ⟨rfl, HR.out⟩
    | succ gf =>
      as_aux_lemma =>
      have hijI : (i : Int) < (j : Int) := by omega
      have hjN : (j : Int) ≤ 1000000 := by omega
      obtain ⟨H, hH⟩ : ∃ H, (i + j) / 2 = H := ⟨_, rfl⟩
      have hHi : i ≤ H ∧ H < j := by omega
      have hHI : ((i : Int) + (j : Int)) / 2 = (H : Int) := by omega
      obtain ⟨D, hD⟩ : ∃ D, m + (mid - 1 - H) = D := ⟨_, rfl⟩
      have hDI : (PP : Int) - (H : Int) = (D : Int) := by have := HPP.out; omega
      have hHs : H - a < s1.length := by have := HM.out; omega
      have hDs : mid - 1 - H < s2.length := by have := HB.out; have := HL.out.2.1; omega
      obtain ⟨x, hx⟩ : ∃ x, s1[H - a]? = some x := ⟨_, List.getElem?_eq_getElem hHs⟩
      obtain ⟨y, hy⟩ : ∃ y, s2[mid - 1 - H]? = some y := ⟨_, List.getElem?_eq_getElem hDs⟩
      have hxs := List.mem_of_getElem? hx
      have hys := List.mem_of_getElem? hy
      have hcx : wr.cell? ⟨g, H, none⟩ = some (.int .i64 (x : Int)) := by
        rw [hst.row.cell]
        refine cellsN_at ?_
        have := HA.out
        rw [List.getElem?_append_right (by omega), show H - p.length = H - a by omega, List.getElem?_append_left hHs]
        exact hx
      have hcy : wr.cell? ⟨g, D, none⟩ = some (.int .i64 (y : Int)) := by
        rw [hst.row.cell]
        refine cellsN_at ?_
        have := HA.out; have := HM.out
        rw [List.getElem?_append_right (by omega), List.getElem?_append_right (by omega), show D - p.length - s1.length = mid - 1 - H by omega, List.getElem?_append_left hDs]
        exact hy
      have hHN : (H : Int) < (N : Int) := by omega
      have hDN : (D : Int) < (N : Int) := by have := HB.out; omega
      have hCM := fun n => HCC.out (wr.drewN n) _ (hst.drewN n) y x (by simp [hys]) (by simp [hxs])
      have hxe : x < y := HLT.out x hxs y hys
      have hbd := cmpI_bd (vs.getD x 0) (vs.getD y 0)
      obtain ⟨q, hq⟩ : ∃ q, cmpV vs y x = q := ⟨_, rfl⟩
      have hqb : -1 ≤ q ∧ q ≤ 1 := by rw [← hq]; exact hbd
      rw [hq] at hCM
      have hPN : (PP : Int) ≤ 2000000 := by have := HPP.out; omega
      have HCM := Lib.hid hCM; have HX := Lib.hid hx; have HY := Lib.hid hy
      have HST := Lib.hid hst; have HG := Lib.hid hgr; have H1' := Lib.hid q1; have H2' := Lib.hid q2; have HGF := Lib.hid hg
      clear hst hgr q1 q2 hg hx hxs hy hys hCM hbd hH hD
      by_cases hq0 : q < 0
      · have hqd : decide (q < 0) = true := decide_eq_true hq0
        have HLE := Lib.hid ((cmpV_late hxe).1 (by rw [hq]; exact hq0))
        have HHI := Lib.hid hHI
        clear hq hHI
        go_wp2_with fail
        rw [HHI.out]
        go_quiet ((go_at_call 25; exact Calls.quiet_of (HCM.out _)))
        go_wp2
        go_roundg (H - i)
        case measure => have := HGF.out; omega
        case rel => exact ⟨i, H, rfl, rfl, hi1, by omega, by omega, by omega, H1'.out, fun _ => ⟨x, y, HX.out, HY.out, HLE.out⟩, HST.out.drewN _, only_drewN HG.out _⟩
      · have hqd : decide (q < 0) = false := decide_eq_false hq0
        have HLE := Lib.hid ((cmpV_early hxe).1 (by rw [hq]; exact hq0))
        have HHI := Lib.hid hHI
        clear hq hHI
        go_wp2_with fail
        rw [HHI.out]
        go_quiet ((go_at_call 25; exact Calls.quiet_of (HCM.out _)))
        go_wp2
        go_roundg (j - (H + 1))
        case measure => have := HGF.out; omega
        case rel => exact ⟨H + 1, j, by go_num, rfl, by omega, by omega, hj, by omega, fun _ => ⟨x, y, HX.out, by rw [show mid - (H + 1) = mid - 1 - H by omega]; exact HY.out, HLE.out⟩, H2'.out, HST.out.drewN _, only_drewN HG.out _⟩
/-- the call, whatever the two pieces -/
theorem sym_any (vs : List Int) (A : Option Addr) (c g gb N : Nat) (hl : N ≤ 1000000) (K : Nat) : SymC vs A c g gb N K := by
  induction K with
  | zero => intro s1 s2 h; omega
  | succ K ih =>
    intro s1 s2 hK h1l h2l h1 h2 hlt W p r a m b h ha hm hb hN
    by_cases e1 : s1.length = 1
    · obtain ⟨e, rfl⟩ := List.length_eq_one_iff.1 e1
      exact sym_left W vs A c g gb N p s2 r e a m b h ha (by simpa using hm.symm) hb h2 (fun y hy => hlt e (by simp) y hy) hN hl
    by_cases e2 : s2.length = 1
    · obtain ⟨e, rfl⟩ := List.length_eq_one_iff.1 e2
      exact sym_right W vs A c g gb N p s1 r e a m b h ha hm (by simpa using hb.symm) e1 h1 (fun y hy => hlt y hy e (by simp)) hN hl
    exact sym_gen W vs A c g gb N p s1 s2 r a m b K h ha hm hb (by omega) (by omega) h1 h2 hlt hN hl (by omega) ih
end Go.Proofs.YtggegefeagkhkaaDoor
