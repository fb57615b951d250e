/- ReportBest, walked: the best are the reference's; none of the others is greater. -/
import Derived.Test.YtggegefeagkhkaaDoorRqE
namespace Go.Proofs.YtggegefeagkhkaaDoor
open Go.RowKit

theorem i64_one (vs : List Int) : ∀ u ∈ vs.map (Value.int .i64), u.oneCell' = true := fun u hu => by
  obtain ⟨x, _, rfl⟩ := List.mem_map.1 hu
  rfl
theorem rd_natI {w : World} {A : Option Addr} {K : Nat} {l : List Nat} (h : Rd w 1 A K (l.map fun i : Nat => Value.int .i64 (i : Int))) (hl : l.length = K) : Rd w 1 A (l.map fun i : Nat => (i : Int)).length ((l.map fun i : Nat => (i : Int)).map (Value.int .i64)) := by
  rw [List.map_map, List.length_map, hl]
  exact h
theorem best_not {vs : List Int} {s : List Nat} (h : IsBest vs s) {K k v b : Nat} (hk : k < K) (hb : s[k]? = some b) (hv : v < vs.length) (hn : v ∉ s.take K) : ¬ vs.getD b 0 < vs.getD v 0 := by
  have hvs : v ∈ s := h.1.mem_iff.2 (List.mem_range.2 hv)
  rw [← List.take_append_drop K s] at hvs
  rcases List.mem_append.1 hvs with h1 | h1
  · exact absurd h1 hn
  · obtain ⟨j, hj, hvj⟩ := mem_drop_at h1
    have h2 := sorted_at h.2 (show k < j by omega) hb hvj
    unfold lt at h2
    omega
set_option maxRecDepth 100000 in
set_option maxHeartbeats 8000000 in
theorem lawBest_any (w : World) (hG : Gl w) (A : Option Addr) (c : Nat) (vs : List Int) (n : Int) (hr : Rd w 1 A vs.length (vs.map (Value.int .i64))) (hlv : vs.length ≤ 9223372036854775807) :
    Calls Tryd.prog 6 #[.slice A vs.length c, .int .i64 n] w fun e w' => e = .returned (.bool true) ∧ Below w.heap.size w w' := by
  have HW := Lib.hid (fun (W : World) (hW : Below w.heap.size w W) => works_any W (hG.below hW))
  by_cases hl : 200 < vs.length
  · have hlI : (200 : Int) < (vs.length : Int) := by omega
    have hld : decide ((200 : Int) < (vs.length : Int)) = true := decide_eq_true hlI
    clear hr
    go_enter Tryd.func6, Tryd.ntmps6
    go_wp2_with fail
    refine (HW.out _ (Below.refl _ _)).mono ?_
    rintro e w9 ⟨rfl, hb9⟩
    have HB9 := Lib.hid hb9
    clear hb9
    go_wp2
    go_ret
    exact ⟨rfl, HB9.out⟩
  obtain ⟨i0, hi0, hz0, hz1, hz2⟩ := info_parts infoI64
  obtain ⟨j0, hj0, jz0, jz1, jz2⟩ := info_parts infoB
  have HI0 := Lib.hid hi0; have HZ0 := Lib.hid hz0
  have hmk : ∀ W : World, (Instr.makeSlice 25 (.int .i64 (vs.length : Int)) (.int .i64 (vs.length : Int))).run Tryd.prog W = .ok (.slice (some ⟨W.heap.size, 0, none⟩) vs.length vs.length) (W.alloc (.cells (tkC vs.length []) 4)) := fun W => by
    have := run_make_one (P := Tryd.prog) 25 4 j0 (.bool false) Tryd.underlying25 hj0 jz0 rfl jz1 vs.length (by rw [jz2]; omega) (by omega) W
    rw [tkC_nil] at this
    exact this
  have HMK := Lib.hid hmk
  have hlI : ¬ (200 : Int) < (vs.length : Int) := by omega
  have hld : decide ((200 : Int) < (vs.length : Int)) = false := decide_eq_false hlI
  have ho : w.ownsRow w.heap.size 2 1 (.slice none 0 0) 0 [] := ⟨rfl, .inl ⟨rfl, rfl⟩⟩
  have HO := Lib.hid ho; have HR := Lib.hid hr
  have hBE := Lib.hid (fun (W : World) (A' : Option Addr) (c' : Nat) (h : Rd W 1 A' vs.length (vs.map (Value.int .i64))) => best_any W vs A' c' n h (stable_any vs.length (by omega)) (by omega))
  obtain ⟨L, hL⟩ : ∃ L, vs.map (Value.int .i64) = L := ⟨_, rfl⟩
  have HL1 := Lib.hid (show ∀ u ∈ L, u.oneCell' = true by rw [← hL]; exact i64_one vs)
  have HL := Lib.hid hL
  have hlB : vs.length ≤ 200 := by omega
  rw [hL] at HR
  clear hr ho hL hmk hi0 hj0 jz0 jz1 jz2 hlv hl
  go_enter Tryd.func6, Tryd.ntmps6
  go_wp2_with (at_builtin; refine wpList_append_any _ rfl (.tmp 15) (.tmp 16) 24 rfl w.heap.size 2 i0 (.int .i64 0) 1 8 Tryd.underlying24 HI0.out HZ0.out hz1 hz2 rfl (by decide) _ _ _ rfl HO.out _ _ _ _ L rfl HR.out HL1.out (by unfold maxLen; omega) (by omega) (by simp) ?_; intro v3 w3 h2 h3 h4; have HO3 := Lib.hid h2; have HG3 := Lib.hid h3; clear h2 h3 h4)
  have ho3 := HO3.out
  rw [Nat.zero_add, List.nil_append] at ho3
  obtain ⟨A3, c3, rfl⟩ := own_shape ho3
  have hb3 : Below w.heap.size w w3 := (Below.refl _ _).grown HG3.out (Nat.le_refl _) (fun k hk => (HO.out.lt k hk).1)
  have hB3 := hBE.out w3 A3 c3 (by rw [HL.out]; exact Rd.of_own ho3)
  obtain ⟨K, hK⟩ : ∃ K, takeN n vs.length = K := ⟨_, rfl⟩
  have hKN : K ≤ vs.length := by rw [← hK]; exact takeN_le _ _
  unfold BestP at hB3
  rw [hK] at hB3
  have HB3 := Lib.hid hB3; have HB0 := Lib.hid hb3; have HR3 := Lib.hid (Rd.of_own ho3); have HK := Lib.hid hK
  clear ho3 hb3 hB3 HO3 HG3 HO HL1 hK HI0 HZ0 hz1 hz2 hBE
  (with_reducible refine HB3.out.mono ?_)
  rintro e w4 ⟨hb4, s, A4, c4, hs, rfl, hr4⟩
  have hsl := best_len hs
  have hB := rbest_any w4 vs A c n s hs (by rw [HL.out]; exact HR.out.below (HB0.out.trans (hb4.mono HB0.out.size))) (by omega)
  rw [HK.out] at hB
  unfold RBestP at hB
  have HBR := Lib.hid hB
  have HB4 := Lib.hid (HB0.out.trans (hb4.mono HB0.out.size))
  have HR4 := Lib.hid hr4; have HR34 := Lib.hid (HR3.out.below hb4); have HS := Lib.hid hs; have HSL := Lib.hid hsl
  clear hb4 hr4 hs hB hsl HB3 HR3
  go_wp2_with fail
  (with_reducible refine HBR.out.mono ?_)
  rintro e w5 ⟨hb5, A5, c5, rfl, hr5⟩
  have hkl : (s.take K).length = K := by rw [List.length_take, HSL.out]; omega
  have hsm := sameI_any w5 A4 A5 c4 c5 _ _ (rd_natI (HR4.out.below hb5) hkl) (rd_natI hr5 hkl) (by rw [List.length_map, hkl]; omega)
  rw [decide_eq_true rfl, List.length_map, hkl] at hsm
  have HSM := Lib.hid hsm
  have HB5 := Lib.hid (HB4.out.trans (hb5.mono HB4.out.size))
  have HR45 := Lib.hid (HR4.out.below hb5); have HR35 := Lib.hid (HR34.out.below hb5)
  clear hb5 hr5 hsm HR4 HR34 HBR
  go_wp2_with fail
  (with_reducible refine HSM.out.mono ?_)
  rintro e w6 ⟨rfl, hb6⟩
  have HB6 := Lib.hid (HB5.out.trans (hb6.mono HB5.out.size))
  have HR46 := Lib.hid (HR45.out.below hb6)
  have hsm2 := same64_any w6 A3 A c3 c vs vs (by rw [HL.out]; exact HR35.out.below hb6) (by rw [HL.out]; exact HR.out.below HB6.out) (by omega)
  rw [decide_eq_true rfl] at hsm2
  have HSM2 := Lib.hid hsm2
  clear hb6 hsm2 HR45 HR35 HSM
  go_wp2_with fail
  (with_reducible refine HSM2.out.mono ?_)
  rintro e w7 ⟨rfl, hb7⟩
  have HB7 := Lib.hid (HB6.out.trans (hb7.mono HB6.out.size))
  have HR47 := Lib.hid (HR46.out.below hb7)
  have hmk := HMK.out
  clear hb7 HR46 HSM2
  have hval : ∀ (W : World) (k : Nat), Below w7.heap.size w7 W → k < vs.length → ∃ ad, A = some ad ∧ W.cell? (ad.add k) = some (.int .i64 (vs.getD k 0)) := fun W k hW hk => by
    obtain ⟨ad, u, hA, hu, hc⟩ := ((HR.out.below HB7.out).below hW).at_ (k := k) hk
    rw [← HL.out, List.getElem?_map, List.getElem?_eq_getElem hk] at hu
    injection hu with hu
    rw [List.getD_eq_getElem?_getD, List.getElem?_eq_getElem hk]
    subst hu
    exact ⟨ad, hA, hc⟩
  have hvl : ∀ (W : World) (k b : Nat), Below w7.heap.size w7 W → k < K → s[k]? = some b → ∃ ad, A4 = some ad ∧ W.cell? (ad.add k) = some (.int .i64 (b : Int)) := fun W k b hW hk hb => by
    obtain ⟨ad, u, hA, hu, hc⟩ := (HR47.out.below hW).at_ (k := k) hk
    rw [List.getElem?_map, List.getElem?_take, if_pos hk, hb] at hu
    injection hu with hu
    subst hu
    exact ⟨ad, hA, hc⟩
  have HVAL := Lib.hid hval; have HVL := Lib.hid hvl
  clear hval hvl HR HR47 hkl
  have hst0 : Blk (w7.alloc (.cells (tkC vs.length []) 4)) w7.heap.size 4 (tkC vs.length (s.take 0)) := Blk.new w7 _ _
  have hbl0 : Below w7.heap.size w7 (w7.alloc (.cells (tkC vs.length []) 4)) := (Below.refl _ _).alloc (Nat.le_refl _) _
  have HST0 := Lib.hid hst0; have HBL0 := Lib.hid hbl0
  clear hst0 hbl0
  obtain ⟨N, hN⟩ : ∃ N, vs.length = N := ⟨_, rfl⟩
  rw [hN] at HST0 HBL0 HSL HVAL hKN hmk hlB ⊢
  have HN := Lib.hid hN
  clear hN
  go_wp2
  clear hmk
  go_loopg [8] K (fun gf v8 wr => ∃ i : Nat, v8 = .int .i64 i ∧ i + gf = K ∧ Blk wr w7.heap.size 4 (tkC N (s.take i)) ∧ Below w7.heap.size w7 wr)
  case atStart => exact ⟨0, rfl, by omega, HST0.out, HBL0.out⟩
  case round =>
    clear HST0 HBL0
    obtain ⟨i, rfl, hi, hst, hbl⟩ := hrel
    cases gk with
    | succ gf =>
      have hiK : (i : Int) < (K : Int) := by omega
      obtain ⟨b, hb⟩ : ∃ b, s[i]? = some b := ⟨_, List.getElem?_eq_getElem (by rw [HSL.out]; omega)⟩
      have hbN : b < N := by rw [← HN.out]; exact best_in HS.out hb
      obtain ⟨ad, rfl, hcl⟩ := HVL.out wr i b hbl (by omega) hb
      have hbI : (b : Int) < (N : Int) := by omega
      have hfz := hst.frozen b
      have hct : wr.cell? ⟨w7.heap.size, b, none⟩ = some (.bool (decide (b ∈ s.take i))) := by rw [hst.cell]; exact tkC_at hbN
      have hgs := hst.lt
      have h1 := hst.set_ b (.bool true)
      rw [tkC_set _ hbN, show s.take i ++ [b] = s.take (i + 1) by rw [List.take_add_one, hb]; rfl] at h1
      have H1 := Lib.hid h1; have H2 := Lib.hid (hbl.setCell (p := ⟨w7.heap.size, b, none⟩) (Nat.le_refl _) (.bool true))
      clear hst hbl h1 hb
      go_wp2
      go_roundg gf
      case measure => omega
      case rel => exact ⟨i + 1, by go_num, by omega, H1.out, H2.out⟩
    | zero =>
      obtain rfl : i = K := by omega
      have HST := Lib.hid hst; have HBL := Lib.hid hbl
      obtain ⟨wo, rfl⟩ : ∃ wo : World, wo = wr := ⟨_, rfl⟩
      clear hst hbl
      go_wp2
      go_loopg [9] N (fun gf v9 wr => ∃ v : Nat, v9 = .int .i64 v ∧ v + gf = N ∧ Blk wr w7.heap.size 4 (tkC N (s.take i)) ∧ Below w7.heap.size w7 wr)
      case atStart => exact ⟨0, rfl, by omega, HST.out, HBL.out⟩
      case round =>
        clear HST HBL
        obtain ⟨v, rfl, hv, hst, hbl⟩ := hrel
        cases gk with
        | zero =>
          obtain rfl : v = N := by omega
          have HBL := Lib.hid (HB7.out.trans (hbl.mono HB7.out.size))
          clear hst hbl
          go_wp2_with fail
          refine (HW.out _ HBL.out).mono ?_
          rintro e w9 ⟨rfl, hb9⟩
          have HB9 := Lib.hid (HBL.out.trans (hb9.mono HBL.out.size))
          clear hb9
          go_wp2
          go_ret
          exact ⟨rfl, HB9.out⟩
        | succ gv =>
          have hvN : v < N := by omega
          have hvI : (v : Int) < (N : Int) := by omega
          have HST := Lib.hid hst; have HBL := Lib.hid hbl
          obtain ⟨wp, rfl⟩ : ∃ wp : World, wp = wr := ⟨_, rfl⟩
          clear hst hbl
          go_wp2
          go_loopg [10] i (fun gf v10 wr => ∃ k : Nat, v10 = .int .i64 k ∧ k + gf = i ∧ Blk wr w7.heap.size 4 (tkC N (s.take i)) ∧ Below w7.heap.size w7 wr)
          case atStart => exact ⟨0, rfl, by omega, HST.out, HBL.out⟩
          case round =>
            clear HST HBL
            obtain ⟨k, rfl, hk, hst, hbl⟩ := hrel
            cases gk with
            | zero =>
              obtain rfl : k = i := by omega
              have HST := Lib.hid hst; have HBL := Lib.hid hbl
              clear hst hbl
              go_wp2
              go_roundg gv
              case measure => omega
              case rel => exact ⟨v + 1, by go_num, by omega, HST.out, HBL.out⟩
            | succ gf =>
              have hkI : (k : Int) < (i : Int) := by omega
              obtain ⟨b, hb⟩ : ∃ b, s[k]? = some b := ⟨_, List.getElem?_eq_getElem (by rw [HSL.out]; omega)⟩
              have hbN : b < N := by rw [← HN.out]; exact best_in HS.out hb
              have hbI : (b : Int) < (N : Int) := by omega
              have hct : wr.cell? ⟨w7.heap.size, v, none⟩ = some (.bool (decide (v ∈ s.take i))) := by rw [hst.cell]; exact tkC_at hvN
              obtain ⟨ad, rfl, hcl⟩ := HVL.out wr k b hbl (by omega) hb
              obtain ⟨ae, rfl, hcv⟩ := HVAL.out wr v hbl hvN
              obtain ⟨ae2, he, hcb⟩ := HVAL.out wr b hbl hbN
              injection he with he
              subst he
              have HST := Lib.hid (fun n => hst.drewN n); have HBL := Lib.hid (fun n => (show Below w7.heap.size w7 (wr.drewN n) from ⟨hbl.os, hbl.tape, hbl.output, hbl.size, hbl.block⟩))
              by_cases hvt : v ∈ s.take i
              · rw [decide_eq_true hvt] at hct
                clear hst hbl hb hvt
                go_wp2_with fail
                go_quiet (fail)
                go_wp2
                go_roundg gf
                case measure => omega
                case rel => exact ⟨k + 1, by go_num, by omega, HST.out _, HBL.out _⟩
              · rw [decide_eq_false hvt] at hct
                have hnl := best_not HS.out (show k < i by omega) hb (by rw [HN.out]; exact hvN) hvt
                obtain ⟨xv, hxv⟩ : ∃ xv, vs.getD v 0 = xv := ⟨_, rfl⟩
                obtain ⟨xb, hxb⟩ : ∃ xb, vs.getD b 0 = xb := ⟨_, rfl⟩
                rw [hxv] at hcv hnl
                rw [hxb] at hcb hnl
                have hd : decide (xb < xv) = false := decide_eq_false hnl
                clear hst hbl hb hvt hxv hxb
                go_wp2_with fail
                go_quiet (fail)
                go_wp2
                go_roundg gf
                case measure => omega
                case rel => exact ⟨k + 1, by go_num, by omega, HST.out _, HBL.out _⟩
end Go.Proofs.YtggegefeagkhkaaDoor
