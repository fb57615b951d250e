/- slices' insertion sort over a row of places. -/
import Derived.Test.YtggegefeagkhkaaDoorRpN
namespace Go.Proofs.YtggegefeagkhkaaDoor
open Go.RowKit

/-- what a piece of the sort leaves -/
def SrtP (w : World) (vs : List Int) (A : Option Addr) (c g gb : Nat) (p m r : List Nat) (w' : World) : Prop :=
  ∃ s : List Nat, s.Perm m ∧ s.Pairwise (lt vs) ∧ Srt w' vs A c g gb (p ++ (s ++ r)) ∧ w.grownBy w' (some g)
theorem at_mid {α : Type} (p : List α) (x : α) (r : List α) : (p ++ x :: r)[p.length]? = some x := by simp
theorem at_mid2 {α : Type} (p : List α) (y x : α) (r : List α) : (p ++ y :: x :: r)[p.length + 1]? = some x := by
  rw [List.getElem?_append_right (by omega)]
  simp
theorem set_mid {α : Type} (p : List α) (x y : α) (r : List α) : (p ++ x :: r).set p.length y = p ++ y :: r := by simp
theorem only_cell {a w : World} {g : Nat} (h : a.grownBy w (some g)) (k : Nat) (u : Value) : a.grownBy (w.setCell ⟨g, k, none⟩ u) (some g) := only_setCell (p := ⟨g, k, none⟩) h (Or.inl rfl) u
/-- two neighbours are exchanged -/
theorem Srt.swap {w wr : World} {vs : List Int} {A : Option Addr} {c g gb : Nat} {p r : List Nat} {x y : Nat} (h : Srt wr vs A c g gb (p ++ x :: y :: r)) (hg : w.grownBy wr (some g)) (k : Nat) (hk : p.length = k) :
    Srt ((wr.setCell ⟨g, k + 1, none⟩ (.int .i64 (x : Int))).setCell ⟨g, k, none⟩ (.int .i64 (y : Int))) vs A c g gb (p ++ y :: x :: r) ∧ w.grownBy ((wr.setCell ⟨g, k + 1, none⟩ (.int .i64 (x : Int))).setCell ⟨g, k, none⟩ (.int .i64 (y : Int))) (some g) := by
  subst hk
  have hgr : wr.grownBy ((wr.setCell ⟨g, p.length + 1, none⟩ (.int .i64 (x : Int))).setCell ⟨g, p.length, none⟩ (.int .i64 (y : Int))) (some g) := only_cell (only_cell (World.grownBy.refl wr _) _ _) _ _
  refine ⟨h.step hgr ?_ ?_, only_cell (only_cell hg _ _) _ _⟩
  · have h1 := (h.row.set_ (p.length + 1) (.int .i64 (x : Int))).set_ p.length (.int .i64 (y : Int))
    rw [cellsN_set, cellsN_set] at h1
    have e1 : ((p ++ x :: y :: r).set (p.length + 1) x).set p.length y = p ++ y :: x :: r := by
      have : (p ++ x :: y :: r).set (p.length + 1) x = p ++ x :: x :: r := by
        simp
      rw [this, set_mid]
    rw [e1] at h1
    exact h1
  · intro i hi
    refine h.lt i ?_
    simp only [List.mem_append, List.mem_cons] at hi ⊢
    rcases hi with hi | hi | hi | hi <;> simp [hi]
/-- the same, the stores the other way -/
theorem Srt.swap' {w wr : World} {vs : List Int} {A : Option Addr} {c g gb : Nat} {p r : List Nat} {x y : Nat} (h : Srt wr vs A c g gb (p ++ x :: y :: r)) (hg : w.grownBy wr (some g)) (k : Nat) (hk : p.length = k) :
    Srt ((wr.setCell ⟨g, k, none⟩ (.int .i64 (y : Int))).setCell ⟨g, k + 1, none⟩ (.int .i64 (x : Int))) vs A c g gb (p ++ y :: x :: r) ∧ w.grownBy ((wr.setCell ⟨g, k, none⟩ (.int .i64 (y : Int))).setCell ⟨g, k + 1, none⟩ (.int .i64 (x : Int))) (some g) := by
  subst hk
  have hgr : wr.grownBy ((wr.setCell ⟨g, p.length, none⟩ (.int .i64 (y : Int))).setCell ⟨g, p.length + 1, none⟩ (.int .i64 (x : Int))) (some g) := only_cell (only_cell (World.grownBy.refl wr _) _ _) _ _
  refine ⟨h.step hgr ?_ ?_, only_cell (only_cell hg _ _) _ _⟩
  · have h1 := (h.row.set_ p.length (.int .i64 (y : Int))).set_ (p.length + 1) (.int .i64 (x : Int))
    rw [cellsN_set, cellsN_set] at h1
    have e1 : ((p ++ x :: y :: r).set p.length y).set (p.length + 1) x = p ++ y :: x :: r := by
      rw [set_mid]
      simp
    rw [e1] at h1
    exact h1
  · intro i hi
    refine h.lt i ?_
    simp only [List.mem_append, List.mem_cons] at hi ⊢
    rcases hi with hi | hi | hi | hi <;> simp [hi]
theorem ins_sorted {vs : List Int} {s1 s2 : List Nat} {e : Nat} (hs : (s1 ++ s2).Pairwise (lt vs)) (h2 : ∀ y ∈ s2, lt vs e y) (h1 : ∀ y ∈ s1, lt vs y e) : (s1 ++ e :: s2).Pairwise (lt vs) := by
  rw [List.pairwise_append] at hs ⊢
  obtain ⟨a, b, c⟩ := hs
  refine ⟨a, List.pairwise_cons.2 ⟨h2, b⟩, fun x hx y hy => ?_⟩
  rcases List.mem_cons.1 hy with rfl | hy
  · exact h1 x hx
  · exact c x hx y hy
theorem ins_last {vs : List Int} {s1 : List Nat} {y e : Nat} (hs : (s1 ++ [y]).Pairwise (lt vs)) (h : lt vs y e) : ∀ x ∈ s1 ++ [y], lt vs x e := by
  intro x hx
  rcases List.mem_append.1 hx with hx | hx
  · exact lt_trans ((List.pairwise_append.1 hs).2.2 x hx y (by simp)) h
  · rw [List.mem_singleton.1 hx]; exact h
set_option maxRecDepth 100000 in
set_option maxHeartbeats 8000000 in
theorem ins_any (w : World) (vs : List Int) (A : Option Addr) (c g gb N : Nat) (p m r : List Nat) (h : Srt w vs A c g gb (p ++ (m ++ r))) (hm : m.Pairwise (· < ·)) (hN : (p ++ (m ++ r)).length = N) (hl : N ≤ 1000000) :
    Calls Tryd.prog 60 #[.slice (some ⟨g, 0, none⟩) N N, .int .i64 (p.length : Int), .int .i64 ((p.length + m.length : Nat) : Int), .func (.func 25) #[] #[.pointer (some ⟨gb, 0, none⟩)]] w fun e w' => e = .returned (.tuple #[]) ∧ SrtP w vs A c g gb p m r w' := by
  have hNI : (p.length : Int) + (m.length : Int) ≤ 1000000 := by simp at hN; omega
  have hNN : p.length + m.length ≤ N := by simp at hN; omega
  obtain ⟨P, hP⟩ : ∃ P, p.length = P := ⟨_, rfl⟩
  have HP := Lib.hid hP; have HN := Lib.hid hN
  rw [hP] at hNI hNN ⊢
  cases m with
  | nil =>
    have HF : Hid (SrtP w vs A c g gb p [] r w) := Lib.hid ⟨[], List.Perm.refl _, List.Pairwise.nil, h, World.grownBy.refl w _⟩
    clear h hm hP hN
    simp only [List.length_nil, Nat.add_zero]
    go_enter Tryd.func60, Tryd.ntmps60
    go_wp2
    refine wp_loop_rounds 1 ?_
    rw [rounds_succ]
    go_wp2
    go_end0
    exact ⟨rfl, HF.out⟩
  | cons e0 m0 =>
    have HM := Lib.hid hm
    obtain ⟨M, hM⟩ : ∃ M, (e0 :: m0).length = M := ⟨_, rfl⟩
    have hM1 : m0.length + 1 = M := by rw [← hM]; simp
    rw [hM] at hNI hNN ⊢
    have HS0 : Hid (Srt w vs A c g gb (p ++ ([e0] ++ (m0 ++ r)))) := Lib.hid (by simpa using h)
    have HCC := Lib.hid (fun (W : World) (l : List Nat) (hW : Srt W vs A c g gb l) (x y : Nat) (hx : x ∈ l) (hy : y ∈ l) => clo_cmp W vs A c g gb l hW x y (hW.lt x hx) (hW.lt y hy))
    have HML := Lib.hid hM1
    clear h hm hN hM hP
    go_enter Tryd.func60, Tryd.ntmps60
    go_wp2
    go_loopg [8] m0.length (fun gf v8 wr => ∃ (m1 m2 s : List Nat), e0 :: m0 = m1 ++ m2 ∧ v8 = .int .i64 ((P + m1.length : Nat) : Int) ∧ m2.length = gf ∧ s.Perm m1 ∧ s.Pairwise (lt vs) ∧ Srt wr vs A c g gb (p ++ (s ++ (m2 ++ r))) ∧ w.grownBy wr (some g))
    case atStart => exact ⟨[e0], m0, [e0], rfl, by go_num, rfl, List.Perm.refl _, List.pairwise_singleton _ _, HS0.out, World.grownBy.refl w _⟩
    case round =>
      clear HS0
      obtain ⟨m1, m2, s, hmm, rfl, hg2, hsp, hso, hst, hgr⟩ := hrel
      have hmlen : m1.length + m2.length = M := by rw [← HML.out, ← List.length_append, ← hmm]; simp
      have hsl := hsp.length_eq
      cases m2 with
      | nil =>
        have hm1 : m1.length = M := by simpa using hmlen
        rw [hm1]
        have HF : Hid (SrtP w vs A c g gb p (e0 :: m0) r wr) := Lib.hid ⟨s, by rw [hmm, List.append_nil]; exact hsp, hso, by simpa using hst, hgr⟩
        clear hmm hg2 hsp hso hst hgr hmlen hm1 hsl
        go_wp2
        go_end0
        exact ⟨rfl, HF.out⟩
      | cons e m3 =>
        obtain ⟨gf, rfl⟩ : ∃ gf, gk = gf + 1 := ⟨m3.length, by rw [← hg2]; simp⟩
        have hlt : ∀ y ∈ s, y < e := by
          intro y hy
          have h9 := HM.out
          rw [hmm, List.pairwise_append] at h9
          exact h9.2.2 y (hsp.mem_iff.1 hy) e (by simp)
        have h1M : m1.length < M := by simp at hmlen; omega
        obtain ⟨L1, hL1⟩ : ∃ L1, m1.length = L1 := ⟨_, rfl⟩
        rw [hL1] at h1M hsl ⊢
        obtain ⟨w1, rfl⟩ : ∃ w1 : World, w1 = wr := ⟨_, rfl⟩
        have hst0 : Srt w1 vs A c g gb (p ++ (s ++ e :: ([] ++ (m3 ++ r)))) := by simpa using hst
        have hLI : (P : Int) + (L1 : Int) < (P : Int) + (M : Int) := by omega
        have hLI2 : ((P + L1 : Nat) : Int) < ((P + M : Nat) : Int) := by omega
        have HMM := Lib.hid hmm; have HSP := Lib.hid hsp; have HSO := Lib.hid hso; have HLT := Lib.hid hlt; have HST0 := Lib.hid hst0; have HGR0 := Lib.hid hgr; have HG2 := Lib.hid hg2; have HSL := Lib.hid hsl; have HL1 := Lib.hid hL1
        clear hmm hsp hso hlt hst hst0 hgr hg2 hmlen hsl hL1
        go_wp2
        go_loopg [9] s.length (fun gf v9 wr => ∃ (s1 s2 : List Nat), s = s1 ++ s2 ∧ v9 = .int .i64 ((P + s1.length : Nat) : Int) ∧ s1.length = gf ∧ (∀ y ∈ s2, lt vs e y) ∧ Srt wr vs A c g gb (p ++ (s1 ++ e :: (s2 ++ (m3 ++ r)))) ∧ w.grownBy wr (some g))
        case atStart => exact ⟨s, [], by simp, by rw [HSL.out], rfl, by simp, HST0.out, HGR0.out⟩
        case round =>
          clear HST0 HGR0
          obtain ⟨s1, s2, hss, rfl, hg1, h2e, hst, hgr⟩ := hrel
          have HSS := Lib.hid hss; have H2E := Lib.hid h2e; have HGR := Lib.hid hgr; have HG1 := Lib.hid hg1
          have HGI := Lib.hid (show Srt wr vs A c g gb (p ++ (s1 ++ e :: (s2 ++ (m3 ++ r)))) from hst)
          rcases List.eq_nil_or_concat s1 with rfl | ⟨t, y, rfl⟩
          · have hfin : ∀ n, (m1 ++ [e]).length = L1 + 1 ∧ (e :: s2).Perm (m1 ++ [e]) ∧ (e :: s2).Pairwise (lt vs) ∧ Srt (wr.drewN n) vs A c g gb (p ++ ((e :: s2) ++ (m3 ++ r))) := fun n => by
              have hs2 : s = s2 := by simpa using HSS.out
              refine ⟨by rw [List.length_append, HL1.out]; rfl, ?_, ?_, ?_⟩
              · have := HSP.out
                rw [hs2] at this
                exact (List.Perm.cons e this).trans (by simpa using (List.perm_append_singleton e m1).symm)
              · have := HSO.out
                rw [hs2] at this
                exact List.pairwise_cons.2 ⟨H2E.out, this⟩
              · have := (HGI.out.drewN n)
                simpa using this
            have HFIN := Lib.hid hfin; have HGRD := Lib.hid (fun n => only_drewN HGR.out n)
            clear hst hss hg1 h2e hgr hfin
            simp only [List.length_nil, Nat.add_zero]
            go_wp2_with fail
            go_quiet (fail)
            go_wp2
            go_roundg gf
            case measure => omega
            case rel =>
              obtain ⟨f1, f2, f3, f4⟩ := HFIN.out _
              exact ⟨m1 ++ [e], m3, e :: s2, by rw [HMM.out]; simp, by rw [f1]; go_num, by have := HG2.out; simpa using this, f2, f3, f4, HGRD.out _⟩
          · rw [List.concat_eq_append] at *
            obtain ⟨gi, rfl⟩ : ∃ gi, gk = gi + 1 := ⟨t.length, by rw [← hg1]; simp⟩
            obtain ⟨K, hK⟩ : ∃ K, P + t.length = K := ⟨_, rfl⟩
            have hJ : P + (t ++ [y]).length = K + 1 := by rw [← hK]; simp; omega
            rw [hJ]
            have hst2 : Srt wr vs A c g gb ((p ++ t) ++ y :: e :: (s2 ++ (m3 ++ r))) := by simpa using hst
            have hpk : (p ++ t).length = K := by rw [List.length_append, HP.out, hK]
            have hcy : wr.cell? ⟨g, K, none⟩ = some (.int .i64 (y : Int)) := by
              rw [hst2.row.cell, ← hpk]; exact cellsN_at (at_mid _ _ _)
            have hce : wr.cell? ⟨g, K + 1, none⟩ = some (.int .i64 (e : Int)) := by
              rw [hst2.row.cell, ← hpk]
              exact cellsN_at (at_mid2 _ _ _ _)
            have hkN : K + 1 < N := by
              rw [← HN.out, ← hpk]
              have h8 := congrArg List.length HMM.out
              have h7 := congrArg List.length HSS.out
              have h6 := HSP.out.length_eq
              simp at h8 h7 h6 ⊢
              omega
            have hkP : (P : Int) < (K : Int) + 1 := by omega
            have hkPn : P < K + 1 := by omega
            have hkI : (K : Int) + 1 < (N : Int) := by omega
            have hkI0 : (K : Int) < (N : Int) := by omega
            have hye : y < e := HLT.out y (by rw [HSS.out]; simp)
            have hCM := fun n => HCC.out (wr.drewN n) _ (hst2.drewN n) e y (by simp) (by simp)
            have hbd := cmpI_bd (vs.getD y 0) (vs.getD e 0)
            have hfr := hst2.row.frozen K
            have hfr1 := hst2.row.frozen (K + 1)
            obtain ⟨q, hq⟩ : ∃ q, cmpV vs e y = q := ⟨_, rfl⟩
            have hqb : -1 ≤ q ∧ q ≤ 1 := by rw [← hq]; exact hbd
            rw [hq] at hCM
            have HCM := Lib.hid hCM; have HPK := Lib.hid hpk; have HST2 := Lib.hid hst2
            have hd2 : decide ((P : Int) < (K : Int) + 1) = true := decide_eq_true hkP
            have hw1 : IntKind.i64.wrap (K : Int) = (K : Int) := IntWalk.i64_in _ (by omega)
            have ht1 : ((K : Int) + 1).toNat = K + 1 := by omega
            have h01 : (0 : Int) ≤ (K : Int) + 1 := by omega
            have hd3 : decide (P < K + 1) = true := decide_eq_true hkPn
            clear hst hss hg1 h2e hgr hCM hJ hbd hst2 hpk
            by_cases hq0 : q < 0
            · have hqd : decide (q < 0) = true := decide_eq_true hq0
              have hlt : lt vs e y := (cmpV_late hye).1 (by rw [hq]; exact hq0)
              have HLE := Lib.hid hlt
              clear hq hlt
              go_wp2_with fail
              go_quiet ((go_at_call 25; exact Calls.quiet_of (HCM.out _)))
              go_wp2_with fail
              have HSW := Lib.hid (fun n => (HST2.out.drewN n).swap (only_drewN HGR.out n) K HPK.out)
              have HKK := Lib.hid hK
              go_region
              go_wp2
              go_roundg gi
              case measure => omega
              case rel =>
                obtain ⟨f1, f2⟩ := HSW.out _
                refine ⟨t, y :: s2, by rw [HSS.out]; simp, by rw [HKK.out], by have := HG1.out; simpa using this, fun z hz => ?_, by simpa using f1, f2⟩
                rcases List.mem_cons.1 hz with rfl | hz
                · exact HLE.out
                · exact H2E.out z hz
            · have hqd : decide (q < 0) = false := decide_eq_false hq0
              have hlt : lt vs y e := (cmpV_early hye).1 (by rw [hq]; exact hq0)
              have HLE := Lib.hid hlt
              clear hq hlt
              go_wp2_with fail
              go_quiet ((go_at_call 25; exact Calls.quiet_of (HCM.out _)))
              have hss := HSS.out
              have hso := HSO.out
              have hsp := HSP.out
              rw [hss] at hso hsp
              have h1 := ins_last (List.pairwise_append.1 hso).1 HLE.out
              have hfin : ∀ n, (m1 ++ [e]).length = L1 + 1 ∧ ((t ++ [y]) ++ e :: s2).Perm (m1 ++ [e]) ∧ ((t ++ [y]) ++ e :: s2).Pairwise (lt vs) ∧ Srt (wr.drewN n) vs A c g gb (p ++ (((t ++ [y]) ++ e :: s2) ++ (m3 ++ r))) := fun n => by
                refine ⟨by rw [List.length_append, HL1.out]; rfl, ?_, ins_sorted hso H2E.out h1, ?_⟩
                · exact List.perm_middle.trans ((List.Perm.cons e hsp).trans (by simpa using (List.perm_append_singleton e m1).symm))
                · have := (HST2.out.drewN n)
                  simpa using this
              have HFIN := Lib.hid hfin; have HGRD := Lib.hid (fun n => only_drewN HGR.out n)
              clear hss hso hsp h1 hfin
              go_wp2
              go_roundg gf
              case measure => omega
              case rel =>
                obtain ⟨f1, f2, f3, f4⟩ := HFIN.out _
                exact ⟨m1 ++ [e], m3, (t ++ [y]) ++ e :: s2, by rw [HMM.out]; simp, by rw [f1]; go_num, by have := HG2.out; simpa using this, f2, f3, f4, HGRD.out _⟩
end Go.Proofs.YtggegefeagkhkaaDoor
