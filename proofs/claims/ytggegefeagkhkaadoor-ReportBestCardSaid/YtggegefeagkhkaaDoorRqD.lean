/- slices' stable sort of any many places. -/
import Derived.Test.YtggegefeagkhkaaDoorPk42
namespace Go.Proofs.YtggegefeagkhkaaDoor
open Go.RowKit

set_option maxRecDepth 100000 in
set_option maxHeartbeats 16000000 in
theorem stable_any (N : Nat) (hl : N ≤ 1000000) : StableC N := by
  intro w vs A c g gb l h hlN hp
  have HINS := Lib.hid (fun (W : World) (p m r : List Nat) (a b : Nat) (h : Srt W vs A c g gb (p ++ (m ++ r))) (hm : m.Pairwise (· < ·)) (hN : (p ++ (m ++ r)).length = N) (h1 : p.length = a) (h2 : a + m.length = b) => by
    have h9 := ins_any W vs A c g gb N p m r h hm hN hl
    rw [h1, h2] at h9
    exact h9)
  have HSY := Lib.hid (sym_any vs A c g gb N hl (2 * N + 1))
  have HS := Lib.hid h; have HLN := Lib.hid hlN; have HP := Lib.hid hp
  have hNI : (N : Int) ≤ 1000000 := by omega
  clear h hlN hp
  go_enter Tryd.func47, Tryd.ntmps47
  go_wp2
  go_loopg [7, 8] N (fun gf v7 v8 wr => ∃ (a b : Nat) (op rr p : List Nat), v7 = .int .i64 a ∧ v8 = .int .i64 b ∧ b = a + 20 ∧ a ≤ N ∧ gf = N - a ∧ l = op ++ rr ∧ op.length = a ∧ p.length = a ∧ Dn vs 20 op p ∧ Srt wr vs A c g gb (p ++ rr) ∧ w.grownBy wr (some g))
  case atStart => exact ⟨0, 20, [], l, [], rfl, rfl, rfl, by omega, by omega, rfl, rfl, rfl, dn_nil _ _, HS.out, World.grownBy.refl w _⟩
  case round =>
    clear HS
    obtain ⟨a, b, op, rr, p, rfl, rfl, hb, haN, hgk, hl0, ho, hp, hd, hst, hgr⟩ := hrel
    have hrl : a + rr.length = N := by rw [← HLN.out, hl0, List.length_append, ho]
    have hplen : p.length + rr.length = N := by omega
    by_cases hbN : b ≤ N
    · as_aux_lemma =>
      have hs2 : rr = rr.take 20 ++ rr.drop 20 := (List.take_append_drop _ _).symm
      have hl1 : (rr.take 20).length = 20 := by rw [List.length_take]; omega
      obtain ⟨m, hm⟩ : ∃ m, rr.take 20 = m := ⟨_, rfl⟩
      obtain ⟨r2, hr2⟩ : ∃ r2, rr.drop 20 = r2 := ⟨_, rfl⟩
      rw [hm, hr2] at hs2
      rw [hm] at hl1
      subst hs2
      have hpw : m.Pairwise (· < ·) := by have h9 := HP.out; rw [hl0] at h9; exact piece_in h9
      have hc := HINS.out wr p m r2 a b hst hpw (by simp only [List.length_append] at hplen ⊢; omega) hp (by omega)
      have HC := Lib.hid hc; have HL0 := Lib.hid hl0; have HO := Lib.hid ho; have HPL := Lib.hid hp; have HD := Lib.hid hd; have HG := Lib.hid hgr; have HM := Lib.hid hl1; have HB := Lib.hid hb; have HGK := Lib.hid hgk
      have hbI : (b : Int) ≤ (N : Int) := by omega
      clear hc hl0 ho hp hd hst hgr hl1 hpw hm hr2 hrl hplen hb hgk
      go_wp2_with fail
      (with_reducible refine HC.out.mono ?_)
      rintro e w2 ⟨rfl, s, hs1, hs2, hs3, hs4⟩
      have H1 := Lib.hid hs1; have H2 := Lib.hid hs2; have H3 := Lib.hid hs3; have H4 := Lib.hid (grown_trans_ HG.out hs4)
      clear hs1 hs2 hs3 hs4
      go_wp2
      go_roundg (N - b)
      case measure => have := HGK.out; have := HB.out; omega
      case rel => exact ⟨b, b + 20, op ++ m, r2, p ++ s, rfl, by go_num, rfl, hbN, rfl, by rw [HL0.out]; simp, by rw [List.length_append, HO.out, HM.out, HB.out], by rw [List.length_append, HPL.out, H1.out.length_eq, HM.out, HB.out], HD.out.snoc HM.out H1.out H2.out, by simpa using H3.out, H4.out⟩
    · have hpw : rr.Pairwise (· < ·) := by have h9 := HP.out; rw [hl0] at h9; exact piece_last h9
      have hc := HINS.out wr p rr [] a N (by simpa using hst) hpw (by simp; omega) hp hrl
      have hfin : ∀ s : List Nat, s.Perm rr → s.Pairwise (lt vs) → Ch vs 20 l (p ++ s) := fun s h1 h2 => by
        rw [hl0]; exact hd.done (by omega) h1 h2
      have HC := Lib.hid hc; have HG := Lib.hid hgr; have HF := Lib.hid hfin
      have hbI : ¬ (b : Int) ≤ (N : Int) := by omega
      obtain ⟨wo, rfl⟩ : ∃ wo : World, wo = wr := ⟨_, rfl⟩
      clear hc hl0 ho hp hd hst hgr hpw hrl hplen hb hgk hfin
      go_wp2_with fail
      (with_reducible refine HC.out.mono ?_)
      rintro e w2 ⟨rfl, s, hs1, hs2, hs3, hs4⟩
      have HCH := Lib.hid (HF.out s hs1 hs2); have HST := Lib.hid (show Srt w2 vs A c g gb (p ++ s) by simpa using hs3); have HG2 := Lib.hid (grown_trans_ HG.out hs4)
      clear hs1 hs2 hs3 hs4 HC HF
      obtain ⟨t0, ht0⟩ : ∃ t0, p ++ s = t0 := ⟨_, rfl⟩
      rw [ht0] at HCH HST
      clear ht0 HG hbI hbN haN
      go_wp2
      go_loopg [6] (N - 20) (fun gf v6 wr => ∃ (B : Nat) (t : List Nat), v6 = .int .i64 B ∧ 0 < B ∧ B ≤ 2000000 ∧ gf = N - B ∧ Ch vs B l t ∧ Srt wr vs A c g gb t ∧ w.grownBy wr (some g))
      case atStart => exact ⟨20, t0, rfl, by omega, by omega, rfl, HCH.out, HST.out, HG2.out⟩
      case round =>
        clear HCH HST HG2
        obtain ⟨B, t, rfl, hB0, hB2, hgk, hch, hst, hgr⟩ := hrel
        by_cases hBN : B < N
        · have hBI : (B : Int) < (N : Int) := by omega
          have HCH := Lib.hid hch; have HST := Lib.hid hst; have HG := Lib.hid hgr; have HGK := Lib.hid hgk
          have hB2I : (B : Int) ≤ 2000000 := by omega
          have hB0I : (0 : Int) ≤ (B : Int) := by omega
          obtain ⟨wm, rfl⟩ : ∃ wm : World, wm = wr := ⟨_, rfl⟩
          clear hch hst hgr hgk
          go_wp2
          go_loopg [7, 8] N (fun gf v7 v8 wr => ∃ (a b : Nat) (op oo p t2 : List Nat), v7 = .int .i64 a ∧ v8 = .int .i64 b ∧ b = a + 2 * B ∧ a ≤ N ∧ gf = N - a ∧ l = op ++ oo ∧ op.length = a ∧ p.length = a ∧ Dn vs (2 * B) op p ∧ Ch vs B oo t2 ∧ Srt wr vs A c g gb (p ++ t2) ∧ w.grownBy wr (some g))
          case atStart => exact ⟨0, 2 * B, [], l, [], t, rfl, by go_num, by omega, by omega, by omega, rfl, rfl, rfl, dn_nil _ _, HCH.out, HST.out, HG.out⟩
          case round =>
            clear HCH HST HG
            obtain ⟨a, b, op, oo, p, t2, rfl, rfl, hb, haN, hgk2, hl0, ho, hp, hd, hch, hst, hgr⟩ := hrel
            have hrl : a + oo.length = N := by rw [← HLN.out, hl0, List.length_append, ho]
            by_cases hbN : b ≤ N
            · as_aux_lemma =>
              obtain ⟨o1, o', t1, t', rfl, rfl, k1, p1, s1, hch⟩ := hch.uncons (by omega)
              have hl1 : o'.length + B + a = N := by rw [← hrl, List.length_append, k1]; omega
              obtain ⟨o2, o3, t2, t3, rfl, rfl, k2, p2, s2, hch⟩ := hch.uncons (by omega)
              have hlt := lt_pieces (show (op ++ (o1 ++ (o2 ++ o3))).Pairwise (· < ·) by have h9 := HP.out; rw [hl0] at h9; exact h9) p1 p2
              have e1 := p1.length_eq; have e2 := p2.length_eq; have e3 := hch.perm.length_eq
              have hc := HSY.out t1 t2 (by omega) (by omega) (by omega) s1 s2 hlt wr p t3 a (a + B) b hst hp (by omega) (by omega) (by simp only [List.length_append] at hrl ⊢; omega)
              rw [Int.natCast_add] at hc
              have HC := Lib.hid hc; have HL0 := Lib.hid hl0; have HG := Lib.hid hgr; have HCH := Lib.hid hch; have HGK2 := Lib.hid hgk2; have HB := Lib.hid hb
              have hbI : (b : Int) ≤ (N : Int) := by omega
              have haI : (a : Int) ≤ (N : Int) := by omega
              have hdn : ∀ s : List Nat, s.Perm (t1 ++ t2) → s.Pairwise (lt vs) → (op ++ (o1 ++ o2)).length = b ∧ (p ++ s).length = b ∧ Dn vs (2 * B) (op ++ (o1 ++ o2)) (p ++ s) := fun s q1 q2 => by
                have e4 := q1.length_eq
                rw [List.length_append] at e4
                refine ⟨by simp only [List.length_append]; omega, by simp only [List.length_append]; omega, hd.snoc (by simp only [List.length_append]; omega) (q1.trans (p1.append p2)) q2⟩
              have HDN := Lib.hid hdn
              clear hc hl0 hgr hch hgk2 hdn hlt p1 p2 s1 s2 e1 e2 e3 k1 k2 hl1 hrl hb hd hst ho hp
              go_wp2_with fail
              (with_reducible refine HC.out.mono ?_)
              rintro e w2 ⟨rfl, s, hs1, hs2, hs3, hs4⟩
              have H1 := Lib.hid hs1; have H2 := Lib.hid hs2; have H3 := Lib.hid hs3; have H4 := Lib.hid (grown_trans_ HG.out hs4)
              clear hs1 hs2 hs3 hs4
              go_wp2
              go_roundg (N - b)
              case measure => have := HGK2.out; have := HB.out; omega
              case rel =>
                obtain ⟨d1, d2, d3⟩ := HDN.out s H1.out H2.out
                exact ⟨b, b + 2 * B, op ++ (o1 ++ o2), o3, p ++ s, t3, rfl, by go_num, rfl, hbN, rfl, by rw [HL0.out]; simp, d1, d2, d3, HCH.out, by simpa using H3.out, H4.out⟩
            · have hbI : ¬ (b : Int) ≤ (N : Int) := by omega
              have haI : (a : Int) ≤ (N : Int) := by omega
              by_cases hmN : a + B < N
              · as_aux_lemma =>
                obtain ⟨o1, o2, t1, t3, rfl, rfl, k1, p1, s1, hch⟩ := hch.uncons (by omega)
                have hl1 : o2.length + B + a = N := by rw [← hrl, List.length_append, k1]; omega
                obtain ⟨p2, s2⟩ := hch.short (by omega)
                have hlt := lt_pieces (b := []) (show (op ++ (o1 ++ (o2 ++ []))).Pairwise (· < ·) by have h9 := HP.out; rw [hl0] at h9; simpa using h9) p1 p2
                have e1 := p1.length_eq; have e2 := p2.length_eq
                have hc := HSY.out t1 t3 (by omega) (by omega) (by omega) s1 s2 hlt wr p [] a (a + B) N (by simpa using hst) hp (by omega) (by omega) (by simp only [List.length_append, List.length_nil] at hrl ⊢; omega)
                rw [Int.natCast_add] at hc
                have hfin : ∀ s : List Nat, s.Perm (t1 ++ t3) → s.Pairwise (lt vs) → Ch vs (2 * B) l (p ++ s) := fun s q1 q2 => by
                  rw [hl0]
                  exact hd.done (by rw [List.length_append]; omega) (q1.trans (p1.append p2)) q2
                have HC := Lib.hid hc; have HG := Lib.hid hgr; have HF := Lib.hid hfin
                have hmI : (a : Int) + (B : Int) < (N : Int) := by omega
                clear hc hl0 hgr hch hgk2 hlt p1 p2 s1 s2 e1 e2 k1 hl1 hrl hb hd hst ho hp hfin
                go_wp2_with fail
                (with_reducible refine HC.out.mono ?_)
                rintro e w2 ⟨rfl, s, hs1, hs2, hs3, hs4⟩
                have H1 := Lib.hid (HF.out s hs1 hs2); have H3 := Lib.hid hs3; have H4 := Lib.hid (grown_trans_ HG.out hs4)
                clear hs1 hs2 hs3 hs4
                go_wp2
                go_roundg (N - 2 * B)
                case measure => have := HGK.out; omega
                case rel => exact ⟨2 * B, p ++ s, by rw [show ((2 * B : Nat) : Int) = (B : Int) * 2 by omega], by omega, by omega, rfl, H1.out, by simpa using H3.out, H4.out⟩
              · as_aux_lemma =>
                obtain ⟨p1, s1⟩ := hch.short (by omega)
                have H1 := Lib.hid (show Ch vs (2 * B) l (p ++ t2) by rw [hl0]; exact hd.done (by omega) p1 s1)
                have H3 := Lib.hid hst; have H4 := Lib.hid hgr
                have hmI : ¬ (a : Int) + (B : Int) < (N : Int) := by omega
                clear hl0 hgr hch hgk2 p1 s1 hrl hb hd hst ho hp
                go_wp2
                go_roundg (N - 2 * B)
                case measure => have := HGK.out; omega
                case rel => exact ⟨2 * B, p ++ t2, by rw [show ((2 * B : Nat) : Int) = (B : Int) * 2 by omega], by omega, by omega, rfl, H1.out, H3.out, H4.out⟩
        · have hBI : ¬ (B : Int) < (N : Int) := by omega
          have hln := HLN.out
          obtain ⟨p1, s1⟩ := hch.short (by omega)
          have HR := Lib.hid (show SrtP w vs A c g gb [] l [] wr from ⟨t, p1, s1, by simpa using hst, hgr⟩)
          clear hch hst hgr hgk p1 s1 hln
          go_wp2
          go_end0
          exact ⟨rfl, HR.out⟩
end Go.Proofs.YtggegefeagkhkaaDoor
