/- slices' SymMerge over a row of places: the last place merged into the others. slices' SymMerge over a row of places: the search for the cut, the two halves merged by the induction's own word. -/
import Derived.Test.YtggegefeagkhkaaDoorRpY
import Derived.Deep.DeepCutAuto
namespace Go.Proofs.YtggegefeagkhkaaDoor
open Go.RowKit

set_option maxRecDepth 100000 in
set_option maxHeartbeats 8000000 in
theorem sym_right (w : World) (vs : List Int) (A : Option Addr) (c g gb N : Nat) (p s1 r : List Nat) (e : Nat) (a m b : Nat) (h : Srt w vs A c g gb (p ++ (s1 ++ (e :: r)))) (ha : p.length = a) (hm : a + s1.length = m) (hb : b = m + 1) (h1l : s1.length ≠ 1) (h2 : s1.Pairwise (lt vs)) (hlt : ∀ y ∈ s1, y < e) (hN : (p ++ (s1 ++ (e :: r))).length = N) (hl : N ≤ 1000000) :
    Calls Tryd.prog 61 #[.slice (some ⟨g, 0, none⟩) N N, .int .i64 (a : Int), .int .i64 (m : Int), .int .i64 (b : Int), .func (.func 25) #[] #[.pointer (some ⟨gb, 0, none⟩)]] w fun e' w' => e' = .returned (.tuple #[]) ∧ SrtP w vs A c g gb p (s1 ++ [e]) r w' := by
  have HCC := Lib.hid (fun (W : World) (l : List Nat) (hW : Srt W vs A c g gb l) (x y : Nat) (hx : x ∈ l) (hy : y ∈ l) => clo_cmp W vs A c g gb l hW x y (hW.lt x hx) (hW.lt y hy))
  have hNs : m + 1 + r.length = N := by rw [← hN]; simp only [List.length_append, List.length_cons]; omega
  have hbN : b ≤ N := by omega
  have hma : ((m : Int) - (a : Int) == 1) = false := by rw [beq_eq_false_iff_ne]; omega
  have hbm : ((b : Int) - (m : Int) == 1) = true := by rw [beq_iff_eq]; omega
  have haM : (a : Int) ≤ (m : Int) := by omega
  have hmN : (m : Int) ≤ 1000000 := by omega
  have hmb : (m : Int) ≤ (b : Int) := by omega
  have hbN2 : (b : Int) ≤ 1000000 := by omega
  have hmN2 : m < N := by omega
  have ham : a ≤ m := by omega
  have HS := Lib.hid h; have HA := Lib.hid ha; have HM := Lib.hid hm; have H2 := Lib.hid h2; have HLT := Lib.hid hlt
  clear h ha hm hb h2 hlt hN hNs h1l
  go_enter Tryd.func61, Tryd.ntmps61
  go_wp2
  go_loopg [14, 15] s1.length (fun gf v14 v15 wr => ∃ (i j : Nat), v14 = .int .i64 i ∧ v15 = .int .i64 j ∧ a ≤ i ∧ i ≤ j ∧ j ≤ m ∧ j = i + gf ∧ (0 < i - a → ∃ x, s1[i - a - 1]? = some x ∧ lt vs x e) ∧ (j - a < s1.length → ∃ y, s1[j - a]? = some y ∧ lt vs e y) ∧ Srt wr vs A c g gb (p ++ (s1 ++ (e :: r))) ∧ w.grownBy wr (some g))
  case atStart => exact ⟨a, m, rfl, rfl, Nat.le_refl _, ham, Nat.le_refl _, by have := HM.out; omega, fun h => by omega, fun h => by have := HM.out; omega, HS.out, World.grownBy.refl w _⟩
  case round =>
    clear HS
    obtain ⟨i, j, rfl, rfl, hi, hij, hj, hg, h1, h2, hst, hgr⟩ := hrel
    cases gk with
    | zero =>
      obtain rfl : j = i := by omega
      have hk : j - a ≤ s1.length := by have := HM.out; omega
      have q1 := cut_lt H2.out h1
      have q2 := cut_gt H2.out h2
      have hs2 : s1 = s1.take (j - a) ++ s1.drop (j - a) := (List.take_append_drop _ _).symm
      have hl1 : (s1.take (j - a)).length = j - a := by rw [List.length_take]; omega
      have hl2 : (s1.drop (j - a)).length = m - j := by rw [List.length_drop]; have := HM.out; omega
      obtain ⟨t1, ht1⟩ : ∃ t1, s1.take (j - a) = t1 := ⟨_, rfl⟩
      obtain ⟨t2, ht2⟩ : ∃ t2, s1.drop (j - a) = t2 := ⟨_, rfl⟩
      rw [ht1] at q1 hs2 hl1
      rw [ht2] at q2 hs2 hl2
      have hfin : ∀ W, Srt W vs A c g gb (p ++ (t1 ++ e :: (t2 ++ r))) → w.grownBy W (some g) → SrtP w vs A c g gb p (s1 ++ [e]) r W := fun W hW hG => by
        refine ⟨t1 ++ e :: t2, ?_, put_between (by rw [← hs2]; exact H2.out) q1 q2, by simpa using hW, hG⟩
        rw [hs2]
        exact List.perm_middle.trans (List.perm_append_singleton e (t1 ++ t2)).symm
      have HF := Lib.hid hfin
      have hst0 : Srt wr vs A c g gb ((p ++ t1) ++ (t2 ++ e :: ([] ++ r))) := by rw [hs2] at hst; simpa using hst
      have HST := Lib.hid hst0; have HG := Lib.hid hgr
      have HP1 := Lib.hid (show (p ++ t1).length = j by rw [List.length_append, HA.out, hl1]; omega)
      have HL2 := Lib.hid (show j + t2.length = m by omega)
      have hjI : (j : Int) ≤ 1000000 := by omega
      obtain ⟨wo, rfl⟩ : ∃ wo : World, wo = wr := ⟨_, rfl⟩
      clear h1 h2 hst hst0 hgr hg q1 q2 hs2 hl1 hl2 ht1 ht2 hfin hk
      go_wp2
      go_loopg [17] t2.length (fun gf v17 wr => ∃ (k : Nat) (x1 x2 : List Nat), v17 = .int .i64 k ∧ t2 = x1 ++ x2 ∧ k = j + x1.length ∧ x1.length = gf ∧ Srt wr vs A c g gb ((p ++ t1) ++ (x1 ++ e :: (x2 ++ r))) ∧ w.grownBy wr (some g))
      case atStart => exact ⟨m, t2, [], rfl, by simp, HL2.out.symm, rfl, HST.out, HG.out⟩
      case round =>
        clear HST HG
        obtain ⟨k, x1, x2, rfl, hx, hk, hg, hst, hgr⟩ := hrel
        rcases List.eq_nil_or_concat x1 with rfl | ⟨y1, y, rfl⟩
        · have hkj : k = j := by simpa using hk
          subst hkj
          have HR := Lib.hid (HF.out _ (by rw [hx]; simpa using hst) hgr)
          clear hx hk hg hst hgr
          go_wp2
          refine bodyPost_ret (results_none rfl _ _ _) rfl ?_
          exact ⟨rfl, HR.out⟩
        · rw [List.concat_eq_append] at *
          obtain ⟨gf, rfl⟩ : ∃ gf, gk = gf + 1 := ⟨y1.length, by rw [← hg]; simp⟩
          obtain ⟨K, rfl⟩ : ∃ K, k = K + 1 := ⟨j + y1.length, by rw [hk]; simp; omega⟩
          have hpk : ((p ++ t1) ++ y1).length = K := by rw [List.length_append, HP1.out]; simp at hk; omega
          have hst2 : Srt wr vs A c g gb (((p ++ t1) ++ y1) ++ y :: e :: (x2 ++ r)) := by simpa using hst
          have hKm : K + 1 ≤ m := by
            have h9 := HL2.out
            rw [hx] at h9
            simp at h9 hk
            omega
          have hKj : j ≤ K := by simp at hk; omega
          have hcy : wr.cell? ⟨g, K, none⟩ = some (.int .i64 (y : Int)) := by
            rw [hst2.row.cell, ← hpk]; exact cellsN_at (at_mid _ _ _)
          have hce : wr.cell? ⟨g, K + 1, none⟩ = some (.int .i64 (e : Int)) := by
            rw [hst2.row.cell, ← hpk]; exact cellsN_at (at_mid2 _ _ _ _)
          have hkI : (K : Int) + 1 < (N : Int) := by omega
          have hkI0 : (K : Int) < (N : Int) := by omega
          have hdI : (j : Int) < (K : Int) + 1 := by omega
          have hdN : j < K + 1 := by omega
          have hw1 : IntKind.i64.wrap (K : Int) = (K : Int) := IntWalk.i64_in _ (by omega)
          have ht1 : ((K : Int) + 1).toNat = K + 1 := by omega
          have h01 : (0 : Int) ≤ (K : Int) + 1 := by omega
          have hf0 := hst2.row.frozen K; have hf1 := hst2.row.frozen (K + 1)
          have hsw := hst2.swap hgr K hpk
          have HSW := Lib.hid (And.intro hsw.1.drew (only_drew hsw.2))
          have HX := Lib.hid hx; have HK := Lib.hid hk; have HG1 := Lib.hid hg
          clear hx hk hg hst hgr hst2 hpk hsw
          go_wp2_with fail
          go_region
          go_wp2
          go_roundg gf
          case measure => omega
          case rel =>
            obtain ⟨f1, f2⟩ := HSW.out
            exact ⟨K, y1, y :: x2, by go_num, by rw [HX.out]; simp, by have := HK.out; simp at this; omega, by have := HG1.out; simpa using this, by simpa using f1, f2⟩
    | succ gf =>
      have hijI : (i : Int) < (j : Int) := by omega
      have hjN : (j : Int) ≤ 1000000 := by omega
      obtain ⟨H, hH⟩ : ∃ H, (i + j) / 2 = H := ⟨_, rfl⟩
      have hHi : i ≤ H ∧ H < j := by omega
      have hHI : ((i : Int) + (j : Int)) / 2 = (H : Int) := by omega
      have hHs : H - a < s1.length := by have := HM.out; omega
      obtain ⟨x, hx⟩ : ∃ x, s1[H - a]? = some x := ⟨_, List.getElem?_eq_getElem hHs⟩
      have hxs := List.mem_of_getElem? hx
      have hcx : wr.cell? ⟨g, H, none⟩ = some (.int .i64 (x : Int)) := by
        rw [hst.row.cell]
        refine cellsN_at ?_
        have := HA.out
        rw [List.getElem?_append_right (by omega), show H - p.length = H - a by omega, List.getElem?_append_left hHs]
        exact hx
      have hce : wr.cell? ⟨g, m, none⟩ = some (.int .i64 (e : Int)) := by
        rw [hst.row.cell, ← HM.out, ← HA.out]
        have h9 := at_mid (p ++ s1) e r
        rw [List.length_append, List.append_assoc] at h9
        exact cellsN_at h9
      have hHN : (H : Int) < (N : Int) := by omega
      have hmNI : (m : Int) < (N : Int) := by omega
      have hCM := fun n => HCC.out (wr.drewN n) _ (hst.drewN n) e x (by simp) (by simp [hxs])
      have hxe : x < e := HLT.out x hxs
      have hbd := cmpI_bd (vs.getD x 0) (vs.getD e 0)
      obtain ⟨q, hq⟩ : ∃ q, cmpV vs e x = q := ⟨_, rfl⟩
      have hqb : -1 ≤ q ∧ q ≤ 1 := by rw [← hq]; exact hbd
      rw [hq] at hCM
      have HCM := Lib.hid hCM; have HX := Lib.hid hx
      have HST := Lib.hid hst; have HG := Lib.hid hgr; have H1' := Lib.hid h1; have H2' := Lib.hid h2; have HGF := Lib.hid hg
      clear hst hgr h1 h2 hg hx hxs hCM hbd hH
      by_cases hq0 : q < 0
      · have hqd : decide (q < 0) = true := decide_eq_true hq0
        have HLE := Lib.hid ((cmpV_late hxe).1 (by rw [hq]; exact hq0))
        have HHI := Lib.hid hHI
        clear hq hHI
        go_wp2_with fail
        rw [HHI.out]
        go_quiet ((go_at_call 25; exact Calls.quiet_of (HCM.out _)))
        go_wp2
        go_roundg (H - i)
        case measure => have := HGF.out; omega
        case rel => exact ⟨i, H, rfl, rfl, hi, by omega, by omega, by omega, H1'.out, fun _ => ⟨x, HX.out, HLE.out⟩, HST.out.drewN _, only_drewN HG.out _⟩
      · have hqd : decide (q < 0) = false := decide_eq_false hq0
        have HLE := Lib.hid ((cmpV_early hxe).1 (by rw [hq]; exact hq0))
        have HHI := Lib.hid hHI
        clear hq hHI
        go_wp2_with fail
        rw [HHI.out]
        go_quiet ((go_at_call 25; exact Calls.quiet_of (HCM.out _)))
        go_wp2
        go_roundg (j - (H + 1))
        case measure => have := HGF.out; omega
        case rel => exact ⟨H + 1, j, by go_num, rfl, by omega, by omega, hj, by omega, fun _ => ⟨x, by rw [show H + 1 - a - 1 = H - a by omega]; exact HX.out, HLE.out⟩, H2'.out, HST.out.drewN _, only_drewN HG.out _⟩
end Go.Proofs.YtggegefeagkhkaaDoor
namespace Go.Proofs.YtggegefeagkhkaaDoor
open Go.RowKit

/-- what the cut leaves -/
structure CutD (vs : List Int) (s1 s2 u1 u2 v1 v2 : List Nat) (a m b mid i E : Nat) : Prop where
  e1 : s1 = u1 ++ u2
  e2 : s2 = v1 ++ v2
  k1 : a + u1.length = i
  k2 : i + u2.length = m
  k3 : m + v1.length = E
  k4 : E + v2.length = b
  k5 : i + v1.length = mid
  k6 : mid + u2.length = E
  l1 : ∀ x ∈ u1, ∀ y ∈ v2, lt vs x y
  l2 : ∀ x ∈ v1, ∀ y ∈ u2, lt vs x y
theorem cut_d {vs : List Int} {s1 s2 : List Nat} (h1 : s1.Pairwise (lt vs)) (h2 : s2.Pairwise (lt vs)) {a m b mid lo hi i : Nat} (hm : a + s1.length = m) (hb : m + s2.length = b) (hla : a ≤ lo) (hlb : mid + m ≤ lo + b) (hhm : hi ≤ mid ∧ hi ≤ m) (hlo : lo = a ∨ lo + b = mid + m) (hhi : hi = mid ∨ hi = m) (hi1 : lo ≤ i) (hi2 : i ≤ hi)
    (q1 : lo < i → ∃ x y, s1[i - 1 - a]? = some x ∧ s2[mid - i]? = some y ∧ lt vs x y) (q2 : i < hi → ∃ x y, s1[i - a]? = some x ∧ s2[mid - 1 - i]? = some y ∧ lt vs y x) :
    ∃ u1 u2 v1 v2, CutD vs s1 s2 u1 u2 v1 v2 a m b mid i (mid + m - i) := by
  refine ⟨s1.take (i - a), s1.drop (i - a), s2.take (mid - i), s2.drop (mid - i), (List.take_append_drop _ _).symm, (List.take_append_drop _ _).symm, ?_, ?_, ?_, ?_, ?_, ?_, ?_, ?_⟩
  · rw [List.length_take]; omega
  · rw [List.length_drop]; omega
  · rw [List.length_take]; omega
  · rw [List.length_drop]; omega
  · rw [List.length_take]; omega
  · rw [List.length_drop]; omega
  · refine cut_two h1 h2 fun h3 h4 => ?_
    obtain ⟨x, y, e1, e2, e3⟩ := q1 (by omega)
    exact ⟨x, y, by rw [show i - a - 1 = i - 1 - a by omega]; exact e1, e2, e3⟩
  · refine cut_two h2 h1 fun h3 h4 => ?_
    obtain ⟨x, y, e1, e2, e3⟩ := q2 (by omega)
    exact ⟨y, x, by rw [show mid - i - 1 = mid - 1 - i by omega]; exact e2, e1, e3⟩
/-- what the call says, of smaller pieces -/
def SymC (vs : List Int) (A : Option Addr) (c g gb N K : Nat) : Prop :=
  ∀ s1 s2 : List Nat, s1.length + s2.length < K → 0 < s1.length → 0 < s2.length → s1.Pairwise (lt vs) → s2.Pairwise (lt vs) → (∀ x ∈ s1, ∀ y ∈ s2, x < y) →
    ∀ (W : World) (p r : List Nat) (a m b : Nat), Srt W vs A c g gb (p ++ (s1 ++ (s2 ++ r))) → p.length = a → a + s1.length = m → m + s2.length = b → (p ++ (s1 ++ (s2 ++ r))).length = N →
      Calls Tryd.prog 61 #[.slice (some ⟨g, 0, none⟩) N N, .int .i64 (a : Int), .int .i64 (m : Int), .int .i64 (b : Int), .func (.func 25) #[] #[.pointer (some ⟨gb, 0, none⟩)]] W fun e' w' => e' = .returned (.tuple #[]) ∧ SrtP W vs A c g gb p (s1 ++ s2) r w'
/-- a half: merged, by the call or because one part is empty -/
theorem half_plain {w W : World} {vs : List Int} {A : Option Addr} {c g gb : Nat} {p u v r : List Nat} (hu : u.Pairwise (lt vs)) (hv : v.Pairwise (lt vs)) (h0 : u.length = 0 ∨ v.length = 0) (h : Srt W vs A c g gb (p ++ (u ++ (v ++ r)))) (hg : w.grownBy W (some g)) : SrtP w vs A c g gb p (u ++ v) r W := by
  refine ⟨u ++ v, List.Perm.refl _, ?_, by simpa using h, hg⟩
  rcases h0 with h0 | h0
  · rw [List.eq_nil_of_length_eq_zero h0]; exact hv
  · rw [List.eq_nil_of_length_eq_zero h0, List.append_nil]; exact hu
theorem SrtP.later {w W w' : World} {vs : List Int} {A : Option Addr} {c g gb : Nat} {p m r : List Nat} (h : SrtP W vs A c g gb p m r w') (hg : w.grownBy W (some g)) : SrtP w vs A c g gb p m r w' := by
  obtain ⟨s, a, b, c, d⟩ := h
  exact ⟨s, a, b, c, grown_trans_ hg d⟩
end Go.Proofs.YtggegefeagkhkaaDoor
