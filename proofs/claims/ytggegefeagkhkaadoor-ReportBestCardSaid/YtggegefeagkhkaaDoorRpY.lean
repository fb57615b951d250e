/- slices' SymMerge over a row of places: one place merged into the others. -/
import Derived.Test.YtggegefeagkhkaaDoorPk37
namespace Go.Proofs.YtggegefeagkhkaaDoor
open Go.RowKit

/-- the middle of two places, as it is reckoned over uint -/
theorem mid_of (i j : Nat) : (i + j) / 2 ≤ max i j := by omega
set_option maxRecDepth 100000 in
set_option maxHeartbeats 8000000 in
theorem sym_left (w : World) (vs : List Int) (A : Option Addr) (c g gb N : Nat) (p s2 r : List Nat) (e : Nat) (a m b : Nat) (h : Srt w vs A c g gb (p ++ (e :: (s2 ++ r)))) (ha : p.length = a) (hm : m = a + 1) (hb : m + s2.length = b) (h2 : s2.Pairwise (lt vs)) (hlt : ∀ y ∈ s2, e < y) (hN : (p ++ (e :: (s2 ++ r))).length = N) (hl : N ≤ 1000000) :
    Calls Tryd.prog 61 #[.slice (some ⟨g, 0, none⟩) N N, .int .i64 (a : Int), .int .i64 (m : Int), .int .i64 (b : Int), .func (.func 25) #[] #[.pointer (some ⟨gb, 0, none⟩)]] w fun e' w' => e' = .returned (.tuple #[]) ∧ SrtP w vs A c g gb p (e :: s2) r w' := by
  have HCC := Lib.hid (fun (W : World) (l : List Nat) (hW : Srt W vs A c g gb l) (x y : Nat) (hx : x ∈ l) (hy : y ∈ l) => clo_cmp W vs A c g gb l hW x y (hW.lt x hx) (hW.lt y hy))
  have hNs : m + s2.length + r.length = N := by rw [← hN]; simp only [List.length_append, List.length_cons]; omega
  have hbN : b ≤ N := by omega
  have hab : a < b + 1 := by omega
  have hma : ((m : Int) - (a : Int) == 1) = true := by rw [beq_iff_eq]; omega
  have hmI : (m : Int) = (a : Int) + 1 := by omega
  have haM : (a : Int) ≤ (m : Int) := by omega
  have hmN : (m : Int) ≤ 1000000 := by omega
  have hmb : m ≤ b := by omega
  have hbN2 : (b : Int) ≤ 1000000 := by omega
  have HS := Lib.hid h; have HA := Lib.hid ha; have HM := Lib.hid hm; have HB := Lib.hid hb; have H2 := Lib.hid h2; have HLT := Lib.hid hlt; have HMI := Lib.hid hmI
  clear h ha hm hb h2 hlt hN hNs hmI
  go_enter Tryd.func61, Tryd.ntmps61
  go_wp2
  go_loopg [10, 11] s2.length (fun gf v10 v11 wr => ∃ (i j : Nat), v10 = .int .i64 i ∧ v11 = .int .i64 j ∧ m ≤ i ∧ i ≤ j ∧ j ≤ b ∧ j = i + gf ∧ (0 < i - m → ∃ x, s2[i - m - 1]? = some x ∧ lt vs x e) ∧ (j - m < s2.length → ∃ y, s2[j - m]? = some y ∧ lt vs e y) ∧ Srt wr vs A c g gb (p ++ (e :: (s2 ++ r))) ∧ w.grownBy wr (some g))
  case atStart => exact ⟨m, b, rfl, rfl, Nat.le_refl _, by omega, Nat.le_refl _, by have := HB.out; omega, fun h => by omega, fun h => by have := HB.out; omega, HS.out, World.grownBy.refl w _⟩
  case round =>
    clear HS
    obtain ⟨i, j, rfl, rfl, hi, hij, hj, hg, h1, h2, hst, hgr⟩ := hrel
    cases gk with
    | zero =>
      obtain rfl : j = i := by omega
      have hk : j - m ≤ s2.length := by have := HB.out; omega
      have q1 := cut_lt H2.out h1
      have q2 := cut_gt H2.out h2
      have hs2 : s2 = s2.take (j - m) ++ s2.drop (j - m) := (List.take_append_drop _ _).symm
      have hl1 : (s2.take (j - m)).length = j - m := by rw [List.length_take]; omega
      obtain ⟨t1, ht1⟩ : ∃ t1, s2.take (j - m) = t1 := ⟨_, rfl⟩
      obtain ⟨t2, ht2⟩ : ∃ t2, s2.drop (j - m) = t2 := ⟨_, rfl⟩
      rw [ht1] at q1 hs2 hl1
      rw [ht2] at q2 hs2
      have hfin : ∀ W, Srt W vs A c g gb (p ++ (t1 ++ e :: (t2 ++ r))) → w.grownBy W (some g) → SrtP w vs A c g gb p (e :: s2) r W := fun W hW hG => by
        refine ⟨t1 ++ e :: t2, ?_, put_between (by rw [← hs2]; exact H2.out) q1 q2, by simpa using hW, hG⟩
        rw [hs2]
        exact List.perm_middle
      have HF := Lib.hid hfin
      have hst0 : Srt wr vs A c g gb (p ++ ([] ++ e :: (t1 ++ (t2 ++ r)))) := by rw [hs2] at hst; simpa using hst
      have HST := Lib.hid hst0; have HG := Lib.hid hgr; have HL1 := Lib.hid hl1
      have hjI : (j : Int) ≤ 1000000 := by omega
      have hj1 : (1 : Int) ≤ (j : Int) := by have := HM.out; omega
      obtain ⟨wo, rfl⟩ : ∃ wo : World, wo = wr := ⟨_, rfl⟩
      clear h1 h2 hst hst0 hgr hg q1 q2 hs2 hl1 ht1 ht2 hfin hk
      go_wp2
      go_loopg [13] t1.length (fun gf v13 wr => ∃ (k : Nat) (x1 x2 : List Nat), v13 = .int .i64 k ∧ t1 = x1 ++ x2 ∧ k = a + x1.length ∧ x2.length = gf ∧ Srt wr vs A c g gb (p ++ (x1 ++ e :: (x2 ++ (t2 ++ r)))) ∧ w.grownBy wr (some g))
      case atStart => exact ⟨a, [], t1, rfl, rfl, rfl, rfl, HST.out, HG.out⟩
      case round =>
        clear HST HG
        obtain ⟨k, x1, x2, rfl, hx, hk, hg, hst, hgr⟩ := hrel
        cases x2 with
        | nil =>
          have hkj : (k : Int) = (j : Int) - 1 := by
            have h9 := HL1.out
            rw [hx] at h9
            simp at h9
            have := HM.out
            omega
          have HR := Lib.hid (HF.out _ (by rw [hx]; simpa using hst) hgr)
          have hd : decide ((k : Int) < (j : Int) - 1) = false := by simp; omega
          have hdI : ¬ (k : Int) < (j : Int) - 1 := by omega
          clear hx hk hg hst hgr hkj
          go_wp2
          refine bodyPost_ret (results_none rfl _ _ _) rfl ?_
          exact ⟨rfl, HR.out⟩
        | cons x x3 =>
          obtain ⟨gf, rfl⟩ : ∃ gf, gk = gf + 1 := ⟨x3.length, by rw [← hg]; simp⟩
          have hst2 : Srt wr vs A c g gb ((p ++ x1) ++ e :: x :: (x3 ++ (t2 ++ r))) := by simpa using hst
          have hpk : (p ++ x1).length = k := by rw [List.length_append, HA.out, hk]
          have hkl : k + 1 < j := by
            have h9 := HL1.out
            rw [hx] at h9
            simp at h9
            have := HM.out
            omega
          have hcy : wr.cell? ⟨g, k, none⟩ = some (.int .i64 (e : Int)) := by
            rw [hst2.row.cell, ← hpk]; exact cellsN_at (at_mid _ _ _)
          have hce : wr.cell? ⟨g, k + 1, none⟩ = some (.int .i64 (x : Int)) := by
            rw [hst2.row.cell, ← hpk]; exact cellsN_at (at_mid2 _ _ _ _)
          have hkI : (k : Int) + 1 < (N : Int) := by omega
          have hkI0 : (k : Int) < (N : Int) := by omega
          have hd : decide ((k : Int) < (j : Int) - 1) = true := by simp; omega
          have hdI : (k : Int) < (j : Int) - 1 := by omega
          have hw1 : IntKind.i64.wrap ((k : Int) + 1) = (k : Int) + 1 := IntWalk.i64_in _ (by omega)
          have ht1 : ((k : Int) + 1).toNat = k + 1 := by omega
          have h01 : (0 : Int) ≤ (k : Int) + 1 := by omega
          have hf0 := hst2.row.frozen k; have hf1 := hst2.row.frozen (k + 1)
          have hsw := hst2.swap' hgr k hpk
          have HSW := Lib.hid (And.intro hsw.1.drew (only_drew hsw.2))
          have HX := Lib.hid hx; have HK := Lib.hid hk; have HG1 := Lib.hid hg
          clear hx hk hg hst hgr hst2 hpk hsw
          go_wp2_with fail
          go_region
          go_wp2
          go_roundg gf
          case measure => omega
          case rel =>
            obtain ⟨f1, f2⟩ := HSW.out
            exact ⟨k + 1, x1 ++ [x], x3, by go_num, by rw [HX.out]; simp, by rw [List.length_append]; have := HK.out; simp; omega, by have := HG1.out; simpa using this, by simpa using f1, f2⟩
    | succ gf =>
      have hijI : (i : Int) < (j : Int) := by omega
      have hjN : (j : Int) ≤ 1000000 := by omega
      obtain ⟨H, hH⟩ : ∃ H, (i + j) / 2 = H := ⟨_, rfl⟩
      have hHi : i ≤ H ∧ H < j := by omega
      have hHI : ((i : Int) + (j : Int)) / 2 = (H : Int) := by omega
      have hHs : H - m < s2.length := by have := HB.out; omega
      obtain ⟨x, hx⟩ : ∃ x, s2[H - m]? = some x := ⟨_, List.getElem?_eq_getElem hHs⟩
      have hxs := List.mem_of_getElem? hx
      have hcx : wr.cell? ⟨g, H, none⟩ = some (.int .i64 (x : Int)) := by
        rw [hst.row.cell]
        refine cellsN_at ?_
        have := HA.out; have := HM.out
        rw [List.getElem?_append_right (by omega), show H - p.length = (H - m) + 1 by omega, List.getElem?_cons_succ, List.getElem?_append_left hHs]
        exact hx
      have hce : wr.cell? ⟨g, a, none⟩ = some (.int .i64 (e : Int)) := by
        rw [hst.row.cell, ← HA.out]
        exact cellsN_at (at_mid _ _ _)
      have hHN : (H : Int) < (N : Int) := by omega
      have haN : (a : Int) < (N : Int) := by omega
      have hCM := fun n => HCC.out (wr.drewN n) _ (hst.drewN n) x e (by simp [hxs]) (by simp)
      have hxe : e < x := HLT.out x hxs
      have hbd := cmpI_bd (vs.getD e 0) (vs.getD x 0)
      obtain ⟨q, hq⟩ : ∃ q, cmpV vs x e = q := ⟨_, rfl⟩
      have hqb : -1 ≤ q ∧ q ≤ 1 := by rw [← hq]; exact hbd
      rw [hq] at hCM
      have HCM := Lib.hid hCM; have HX := Lib.hid hx
      have HST := Lib.hid hst; have HG := Lib.hid hgr; have H1' := Lib.hid h1; have H2' := Lib.hid h2; have HGF := Lib.hid hg
      clear hst hgr h1 h2 hg hx hxs hCM hbd hH
      by_cases hq0 : q < 0
      · have hqd : decide (q < 0) = true := decide_eq_true hq0
        have HLE := Lib.hid ((cmpV_late hxe).1 (by rw [hq]; exact hq0))
        have HHI := Lib.hid hHI
        clear hq hHI
        go_wp2_with fail
        rw [HHI.out]
        go_quiet ((go_at_call 25; exact Calls.quiet_of (HCM.out _)))
        go_wp2
        go_roundg (j - (H + 1))
        case measure => have := HGF.out; omega
        case rel => exact ⟨H + 1, j, by go_num, rfl, by omega, by omega, hj, by omega, fun _ => ⟨x, by rw [show H + 1 - m - 1 = H - m by omega]; exact HX.out, HLE.out⟩, H2'.out, HST.out.drewN _, only_drewN HG.out _⟩
      · have hqd : decide (q < 0) = false := decide_eq_false hq0
        have HLE := Lib.hid ((cmpV_early hxe).1 (by rw [hq]; exact hq0))
        have HHI := Lib.hid hHI
        clear hq hHI
        go_wp2_with fail
        rw [HHI.out]
        go_quiet ((go_at_call 25; exact Calls.quiet_of (HCM.out _)))
        go_wp2
        go_roundg (H - i)
        case measure => have := HGF.out; omega
        case rel => exact ⟨i, H, rfl, rfl, hi, by omega, by omega, by omega, H1'.out, fun _ => ⟨x, HX.out, HLE.out⟩, HST.out.drewN _, only_drewN HG.out _⟩
end Go.Proofs.YtggegefeagkhkaaDoor
