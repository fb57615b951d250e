/- The reference's Read; both Prints; rows of numbers compared. -/
import Derived.Test.YtggegefeagkhkaaDoorRpL
import Derived.BigQuiet
import Derived.Deep.QuietTactic
namespace Go.Proofs.YtggegefeagkhkaaDoor
open Go.RowKit

theorem takes_ne {xs ys : List Int} {i : Nat} {x y : Int} (hx : xs[i]? = some x) (hy : ys[i]? = some y) (h : x ≠ y) : decide (xs = ys) = false := decide_eq_false fun e => by
  subst e
  rw [hx] at hy
  injection hy with hy
  exact h hy
theorem takes_step {xs ys : List Int} {i : Nat} {x : Int} (hx : xs[i]? = some x) (hy : ys[i]? = some x) (h : xs.take i = ys.take i) : xs.take (i + 1) = ys.take (i + 1) := by
  rw [List.take_add_one, List.take_add_one, hx, hy, h]
theorem takes_done {xs ys : List Int} (hl : xs.length = ys.length) (h : xs.take xs.length = ys.take xs.length) : decide (xs = ys) = true := by
  rw [List.take_length, hl, List.take_length] at h
  exact decide_eq_true h
set_option maxRecDepth 100000 in
set_option maxHeartbeats 4000000 in
theorem same64_any (w : World) (A B : Option Addr) (ca cb : Nat) (xs ys : List Int) (ha : Rd w 1 A xs.length (xs.map (Value.int .i64))) (hb : Rd w 1 B ys.length (ys.map (Value.int .i64))) (hla : xs.length ≤ 1000000000) :
    Calls Tryd.prog 12 #[.slice A xs.length ca, .slice B ys.length cb] w fun e w' => e = .returned (.bool (decide (xs = ys))) ∧ Below w.heap.size w w' := by
  have HA := Lib.hid ha; have HB := Lib.hid hb
  clear ha hb
  by_cases hl : xs.length = ys.length
  case neg =>
    have hlb : ((xs.length : Int) != (ys.length : Int)) = true := by rw [bne_iff_ne]; omega
    have HF := Lib.hid (show decide (xs = ys) = false from decide_eq_false fun e => hl (by rw [e]))
    clear hl
    go_enter Tryd.func12, Tryd.ntmps12
    go_wp2
    go_ret
    exact ⟨by rw [HF.out]; rfl, Below.refl _ _⟩
  have hlb : ((xs.length : Int) != (ys.length : Int)) = false := by rw [bne_eq_false_iff_eq]; omega
  have HL := Lib.hid hl
  obtain ⟨L, hL⟩ : ∃ L, ys.length = L := ⟨_, rfl⟩
  rw [hL] at hlb HB HL ⊢
  have HBL := Lib.hid hL
  clear hl hL
  go_enter Tryd.func12, Tryd.ntmps12
  go_wp2
  go_loopg [5] xs.length (fun gf v5 wr => ∃ i : Nat, v5 = .int .i64 i ∧ i + gf = xs.length ∧ xs.take i = ys.take i ∧ Below w.heap.size w wr)
  case atStart => exact ⟨0, rfl, by omega, rfl, Below.refl _ _⟩
  case round =>
    obtain ⟨i, rfl, hi, hab, hbw⟩ := hrel
    have HAB := Lib.hid hab; have HW := Lib.hid hbw
    clear hab hbw
    cases gk with
    | zero =>
      obtain rfl : i = xs.length := by omega
      have HF := Lib.hid (takes_done (HL.out.trans HBL.out.symm) HAB.out)
      go_wp2
      go_ret
      exact ⟨by rw [HF.out]; rfl, HW.out⟩
    | succ gf =>
      have hia : i < xs.length := by omega
      have hib : i < L := by have := HL.out; omega
      have hiI : (i : Int) < (xs.length : Int) := by omega
      have hiJ : (i : Int) < (L : Int) := by omega
      obtain ⟨ad, u, rfl, hu, hc⟩ := (HA.out.below HW.out).at_ hia
      obtain ⟨bd, v, rfl, hv, hd⟩ := (HB.out.below HW.out).at_ hib
      obtain ⟨x, hx⟩ : ∃ x, xs[i]? = some x := ⟨_, List.getElem?_eq_getElem hia⟩
      obtain ⟨y, hy⟩ : ∃ y, ys[i]? = some y := ⟨_, List.getElem?_eq_getElem (by have := HBL.out; omega)⟩
      rw [List.getElem?_map, hx] at hu
      rw [List.getElem?_map, hy] at hv
      injection hu with hu
      injection hv with hv
      subst hu hv
      have HX := Lib.hid hx; have HY := Lib.hid hy
      clear hx hy
      have HWD := Lib.hid (fun n => below_drewN HW.out n)
      by_cases hxy : x = y
      · subst hxy
        have HT := Lib.hid (takes_step HX.out HY.out HAB.out)
        go_wp2
        go_quiet (fail)
        go_wp2
        go_roundg gf
        case measure => omega
        case rel => exact ⟨i + 1, by go_num, by omega, HT.out, HWD.out _⟩
      · have hxb : (x != y) = true := by rw [bne_iff_ne]; exact hxy
        have HF := Lib.hid (takes_ne HX.out HY.out hxy)
        clear hxy
        go_wp2
        go_quiet (fail)
        go_wp2
        go_ret
        exact ⟨by rw [HF.out]; rfl, HWD.out _⟩
set_option maxRecDepth 100000 in
set_option maxHeartbeats 4000000 in
theorem sameI_any (w : World) (A B : Option Addr) (ca cb : Nat) (xs ys : List Int) (ha : Rd w 1 A xs.length (xs.map (Value.int .i64))) (hb : Rd w 1 B ys.length (ys.map (Value.int .i64))) (hla : xs.length ≤ 1000000000) :
    Calls Tryd.prog 14 #[.slice A xs.length ca, .slice B ys.length cb] w fun e w' => e = .returned (.bool (decide (xs = ys))) ∧ Below w.heap.size w w' := by
  have HA := Lib.hid ha; have HB := Lib.hid hb
  clear ha hb
  by_cases hl : xs.length = ys.length
  case neg =>
    have hlb : ((xs.length : Int) != (ys.length : Int)) = true := by rw [bne_iff_ne]; omega
    have HF := Lib.hid (show decide (xs = ys) = false from decide_eq_false fun e => hl (by rw [e]))
    clear hl
    go_enter Tryd.func14, Tryd.ntmps14
    go_wp2
    go_ret
    exact ⟨by rw [HF.out]; rfl, Below.refl _ _⟩
  have hlb : ((xs.length : Int) != (ys.length : Int)) = false := by rw [bne_eq_false_iff_eq]; omega
  have HL := Lib.hid hl
  obtain ⟨L, hL⟩ : ∃ L, ys.length = L := ⟨_, rfl⟩
  rw [hL] at hlb HB HL ⊢
  have HBL := Lib.hid hL
  clear hl hL
  go_enter Tryd.func14, Tryd.ntmps14
  go_wp2
  go_loopg [5] xs.length (fun gf v5 wr => ∃ i : Nat, v5 = .int .i64 i ∧ i + gf = xs.length ∧ xs.take i = ys.take i ∧ Below w.heap.size w wr)
  case atStart => exact ⟨0, rfl, by omega, rfl, Below.refl _ _⟩
  case round =>
    obtain ⟨i, rfl, hi, hab, hbw⟩ := hrel
    have HAB := Lib.hid hab; have HW := Lib.hid hbw
    clear hab hbw
    cases gk with
    | zero =>
      obtain rfl : i = xs.length := by omega
      have HF := Lib.hid (takes_done (HL.out.trans HBL.out.symm) HAB.out)
      go_wp2
      go_ret
      exact ⟨by rw [HF.out]; rfl, HW.out⟩
    | succ gf =>
      have hia : i < xs.length := by omega
      have hib : i < L := by have := HL.out; omega
      have hiI : (i : Int) < (xs.length : Int) := by omega
      have hiJ : (i : Int) < (L : Int) := by omega
      obtain ⟨ad, u, rfl, hu, hc⟩ := (HA.out.below HW.out).at_ hia
      obtain ⟨bd, v, rfl, hv, hd⟩ := (HB.out.below HW.out).at_ hib
      obtain ⟨x, hx⟩ : ∃ x, xs[i]? = some x := ⟨_, List.getElem?_eq_getElem hia⟩
      obtain ⟨y, hy⟩ : ∃ y, ys[i]? = some y := ⟨_, List.getElem?_eq_getElem (by have := HBL.out; omega)⟩
      rw [List.getElem?_map, hx] at hu
      rw [List.getElem?_map, hy] at hv
      injection hu with hu
      injection hv with hv
      subst hu hv
      have HX := Lib.hid hx; have HY := Lib.hid hy
      clear hx hy
      have HWD := Lib.hid (fun n => below_drewN HW.out n)
      by_cases hxy : x = y
      · subst hxy
        have HT := Lib.hid (takes_step HX.out HY.out HAB.out)
        go_wp2
        go_quiet (fail)
        go_wp2
        go_roundg gf
        case measure => omega
        case rel => exact ⟨i + 1, by go_num, by omega, HT.out, HWD.out _⟩
      · have hxb : (x != y) = true := by rw [bne_iff_ne]; exact hxy
        have HF := Lib.hid (takes_ne HX.out HY.out hxy)
        clear hxy
        go_wp2
        go_quiet (fail)
        go_wp2
        go_ret
        exact ⟨by rw [HF.out]; rfl, HWD.out _⟩
theorem guessR_bd {l : List (List UInt8)} {k st : Int} {vs : List Int} (h : guessR l = some (k, st, vs)) : (1 ≤ k ∧ k ≤ 3) ∧ (0 ≤ st ∧ st ≤ 2000) ∧ vs.length ≤ 512 := by
  have vlen : ∀ (l : List (List UInt8)) (vs : List Int), valsR l = some vs → vs.length = l.length := by
    intro l
    induction l with
    | nil => intro vs h; injection h with h; subst h; rfl
    | cons a l ih =>
      intro vs h
      rw [valsR] at h
      cases ha : valR a with
      | none => rw [ha] at h; cases h
      | some x =>
        cases hl : valsR l with
        | none => rw [ha, hl] at h; cases h
        | some xs =>
          rw [ha, hl] at h
          injection h with h
          subst h
          simp [ih _ hl]
  have hbd : ∀ (rest ws : List (List UInt8)) (k st : Int) (n : Nat), headR' rest ws = some (k, st, n) → (1 ≤ k ∧ k ≤ 3) ∧ (0 ≤ st ∧ st ≤ 2000) ∧ n ≤ 512 := by
    intro rest ws k st n h
    match ws, h with
    | [a, b, c], h =>
      rw [headR'] at h
      have b3 := kindN_bd a
      split at h
      · cases h
      · injection h with h
        injection h with h1 h
        injection h with h2 h3
        omega
  match l, h with
  | a :: rest, h =>
    rw [guessR] at h
    cases hh : headR' rest (sp 32 a []) with
    | none => rw [hh] at h; cases h
    | some x =>
      obtain ⟨k', st', n⟩ := x
      rw [hh] at h
      dsimp only at h
      cases hv : valsR (rest.take n) with
      | none => rw [hv] at h; cases h
      | some us =>
        rw [hv] at h
        injection h with h
        injection h with h1 h
        injection h with h2 h3
        subst h1 h2 h3
        have := vlen _ _ hv
        rw [List.length_take] at this
        obtain ⟨b1, b2, b3⟩ := hbd _ _ _ _ _ hh
        exact ⟨b1, b2, by omega⟩
theorem no_guessR {s : ByteArray} (h : guessR ((linesR s).map (·.data.toList)) = none) : ∀ k st vs, s.size ≤ 262144 → ¬ IsRep k st vs s := fun k st vs _ hr => by
  have h1 := (isRep_guess hr).2
  rw [linesR_eq, List.map_map] at h
  have e : ((fun x : ByteArray => x.data.toList) ∘ ba) = id := funext fun x => ba_toList x
  rw [e, List.map_id, h1] at h
  cases h
theorem one_guessR {s : ByteArray} {k st : Int} {vs : List Int} (h : guessR ((linesR s).map (·.data.toList)) = some (k, st, vs)) (hn : ¬ IsRep k st vs s) : ∀ k st vs, s.size ≤ 262144 → ¬ IsRep k st vs s := fun k' st' vs' _ hr => by
  have h1 := (isRep_guess hr).2
  rw [linesR_eq, List.map_map] at h
  have e : ((fun x : ByteArray => x.data.toList) ∘ ba) = id := funext fun x => ba_toList x
  rw [e, List.map_id, h1] at h
  injection h with h
  injection h with h1 h
  injection h with h2 h3
  subst h1 h2 h3
  exact hn hr
set_option maxRecDepth 100000 in
set_option maxHeartbeats 4000000 in
theorem rRead_any (w : World) (s : ByteArray) : Calls Tryd.prog 11 #[.string s] w (RdS s w) := by
  by_cases hs : 262144 < s.size
  · have hsb : decide ((262144 : Int) < (s.size : Int)) = true := by simp; omega
    have hsI : (262144 : Int) < (s.size : Int) := by omega
    have HIF := Lib.hid (show (if 262144 < s.size then (3 : Int) else 270) = 3 from if_pos hs)
    have HNO := Lib.hid (show ∀ k st vs, s.size ≤ 262144 → ¬ IsRep k st vs s from fun _ _ _ h => by omega)
    clear hs
    go_enter Tryd.func11, Tryd.ntmps11
    go_wp2
    exact bodyPost_ret (v := .tuple #[.int .u8 0, .int .i64 0, .slice none 0 0, .int .i64 3]) (by simp [results, Tryd.results11, go_sem]) rfl (rds_no (Below.refl _ _) HNO.out (by rw [HIF.out]))
  have hs' : s.size ≤ 262144 := by omega
  have hsb : decide ((262144 : Int) < (s.size : Int)) = false := by simp; omega
  have hsI : ¬ (262144 : Int) < (s.size : Int) := by omega
  have HIF := Lib.hid (show (if 262144 < s.size then (3 : Int) else 270) = 270 from if_neg hs)
  have hrd := guess_any w s hs'
  obtain ⟨Gs, hgs⟩ : ∃ Gs, guessR ((linesR s).map (·.data.toList)) = Gs := ⟨_, rfl⟩
  rw [hgs] at hrd
  have HRD := Lib.hid hrd; have HGS := Lib.hid hgs
  clear hrd hgs hs
  go_enter Tryd.func11, Tryd.ntmps11
  go_wp2_with fail
  refine HRD.out.mono ?_
  rintro e w5 ⟨hb5, he⟩
  cases Gs with
  | none =>
    dsimp only at he
    subst he
    have HNO := Lib.hid (no_guessR HGS.out); have HB5 := Lib.hid hb5
    clear hb5
    go_wp2_with fail
    exact bodyPost_ret (v := .tuple #[.int .u8 0, .int .i64 0, .slice none 0 0, .int .i64 270]) (by simp [results, Tryd.results11, go_sem]) rfl (rds_no HB5.out HNO.out (by rw [HIF.out]))
  | some x =>
    obtain ⟨k, st, vs⟩ := x
    dsimp only at he
    obtain ⟨A, c, rfl, hr⟩ := he
    obtain ⟨hk, hst, hvl⟩ := guessR_bd HGS.out
    have HMAY := Lib.hid (rmayR_any w5 k st A c vs (by omega) hr (by omega))
    have HR := Lib.hid hr; have HB5 := Lib.hid hb5
    have hkw : 0 ≤ k ∧ k ≤ 255 := by omega
    clear hr hb5 HRD
    go_wp2_with fail
    refine HMAY.out.mono ?_
    rintro e w7 ⟨rfl, rfl⟩
    cases hm : mayR k st vs with
    | false =>
      have HNO := Lib.hid (one_guessR HGS.out (fun h => by have := h.1; rw [hm] at this; cases this))
      clear hm
      go_wp2_with fail
      exact bodyPost_ret (v := .tuple #[.int .u8 0, .int .i64 0, .slice none 0 0, .int .i64 270]) (by simp [results, Tryd.results11, go_sem]) rfl (rds_no HB5.out HNO.out (by rw [HIF.out]))
    | true =>
      have HWR := Lib.hid (rtextR_any w5 k st A c vs HR.out (rep_of hm))
      have HM := Lib.hid hm
      clear hm
      go_wp2_with fail
      refine HWR.out.mono ?_
      rintro e w8 ⟨rfl, hb8⟩
      have HR8 := Lib.hid (HR.out.below hb8)
      have HB8 := Lib.hid (HB5.out.trans (hb8.mono HB5.out.size))
      obtain ⟨q, hq⟩ : ∃ q, textB k st vs = q := ⟨_, rfl⟩
      rw [hq]
      clear hb8
      by_cases hqs : q = s
      · subst hqs
        have hb1 : (q.toList == q.toList) = true := by simp
        have hb2 : (q.toList != q.toList) = false := by simp
        have HREP := Lib.hid (show IsRep k st vs q from ⟨HM.out, hq⟩)
        clear hq
        go_wp2_with fail
        exact bodyPost_ret (v := .tuple #[.int .u8 k, .int .i64 st, .slice A vs.length c, .int .i64 0]) (by simp [results, Tryd.results11, go_sem]) rfl (rds_yes HB8.out HREP.out hs' rfl HR8.out)
      · have hb1 : (q.toList == s.toList) = false := by
          rw [ByteArray.toList_eq, ByteArray.toList_eq]
          simp only [beq_eq_false_iff_ne, ne_eq]
          exact fun e => hqs (by rw [← ba_of q, e, ba_of s])
        have hb2 : (!(q.toList == s.toList)) = true := by rw [hb1]; rfl
        have HNO := Lib.hid (one_guessR HGS.out (fun h => hqs (hq.symm.trans h.2)))
        clear hq hqs
        go_wp2_with fail
        exact bodyPost_ret (v := .tuple #[.int .u8 0, .int .i64 0, .slice none 0 0, .int .i64 270]) (by simp [results, Tryd.results11, go_sem]) rfl (rds_no HB8.out HNO.out (by rw [HIF.out]))
/-- what is printed: a text, an error -/
def prT (k step : Int) (vs : List Int) : ByteArray := if mayR k step vs = true then textB k step vs else ⟨#[]⟩
def prE (k step : Int) (vs : List Int) : Int := if mayR k step vs = true then 0 else 270
def PrintP (w : World) (k step : Int) (vs : List Int) (e : Ending) (w' : World) : Prop := e = .returned (.tuple #[.string (prT k step vs), .int .i64 (prE k step vs)]) ∧ Below w.heap.size w w'
theorem printP_no {w w' : World} {k step : Int} {vs : List Int} {e : Ending} (h : mayR k step vs = false) (he : e = .returned (.tuple #[.string ⟨#[]⟩, .int .i64 270])) (hb : Below w.heap.size w w') : PrintP w k step vs e w' := ⟨by unfold prT prE; rw [h]; exact he, hb⟩
theorem printP_yes {w w' : World} {k step : Int} {vs : List Int} {e : Ending} (h : mayR k step vs = true) (he : e = .returned (.tuple #[.string (textB k step vs), .int .i64 0])) (hb : Below w.heap.size w w') : PrintP w k step vs e w' := ⟨by unfold prT prE; rw [h]; exact he, hb⟩
set_option maxRecDepth 100000 in
set_option maxHeartbeats 4000000 in
theorem pPrint_any (w : World) (hG : Gl w) (k step : Int) (A : Option Addr) (c : Nat) (vs : List Int) (j1 j2 j3 j4 s2 s3 s4 s5 : Value) (hk : 0 ≤ k ∧ k ≤ 255) (hr : Rd w 1 A vs.length (vs.map (Value.int .i64))) (hl : vs.length ≤ 1000000) :
    Calls Tryd.prog 8 #[.agg #[.int .u8 k, j1, j2, j3, j4], .agg #[.int .i64 step, .slice A vs.length c, s2, s3, s4, s5]] w (PrintP w k step vs) := by
  have hB1 := ((Below.refl w.heap.size w).alloc (Nat.le_refl _) (.cells #[.int .u8 k, j1, j2, j3, j4] 23)).alloc (by simp) (.cells #[.int .i64 step, .slice A vs.length c, s2, s3, s4, s5] 28)
  have kJ := (Blk.new w 23 #[.int .u8 k, j1, j2, j3, j4]).alloc (.cells #[.int .i64 step, .slice A vs.length c, s2, s3, s4, s5] 28)
  have kS := Blk.new (w.alloc (.cells #[.int .u8 k, j1, j2, j3, j4] 23)) 28 #[.int .i64 step, .slice A vs.length c, s2, s3, s4, s5]
  rw [show (w.alloc (.cells #[.int .u8 k, j1, j2, j3, j4] 23)).heap.size = w.heap.size + 1 by simp] at kS
  have hm := may_any _ k step A c vs hk (hr.below hB1) hl
  have HB1 := Lib.hid hB1; have HJ := Lib.hid kJ; have HS := Lib.hid kS; have HM := Lib.hid hm; have HR := Lib.hid hr; have HG := Lib.hid hG
  clear hB1 kJ kS hm hr hG
  cases hmy : mayR k step vs with
  | false =>
    rw [hmy] at HM
    have HMY := Lib.hid hmy
    clear hmy
    go_enter Tryd.func8, Tryd.ntmps8
    go_wp2_with fail
    refine HM.out.mono ?_
    rintro e w2 ⟨rfl, hb2⟩
    have HB2 := Lib.hid (HB1.out.trans (hb2.mono HB1.out.size))
    clear hb2
    go_wp2
    go_ret2
    exact printP_no HMY.out rfl HB2.out
  | true =>
    rw [hmy] at HM
    have HMY := Lib.hid hmy
    clear hmy
    go_enter Tryd.func8, Tryd.ntmps8
    go_wp2_with fail
    refine HM.out.mono ?_
    rintro e w2 ⟨rfl, hb2⟩
    have hJ2 := HJ.out.below hb2 (by simp; omega)
    have hS2 := HS.out.below hb2 (by simp)
    have HB2 := Lib.hid (HB1.out.trans (hb2.mono HB1.out.size))
    have HWR := Lib.hid (write_any w2 (HG.out.below HB2.out) k step A c vs (HR.out.below HB2.out) (rep_of HMY.out))
    clear hb2
    have c0 := hJ2.cell 0; have c1 := hS2.cell 0; have c2 := hS2.cell 1
    simp only [List.getElem?_toArray, List.getElem?_cons_zero, List.getElem?_cons_succ] at c0 c1 c2
    clear hJ2 hS2
    go_wp2_with fail
    refine HWR.out.mono ?_
    rintro e w3 ⟨rfl, hb3⟩
    have HB3 := Lib.hid (HB2.out.trans (hb3.mono HB2.out.size))
    clear hb3
    go_wp2
    go_ret2
    exact printP_yes HMY.out rfl HB3.out
set_option maxRecDepth 100000 in
set_option maxHeartbeats 4000000 in
theorem rPrint_any (w : World) (k step : Int) (A : Option Addr) (c : Nat) (vs : List Int) (j1 j2 j3 j4 s2 s3 s4 s5 : Value) (hk : 0 ≤ k ∧ k ≤ 255) (hr : Rd w 1 A vs.length (vs.map (Value.int .i64))) (hl : vs.length ≤ 1000000) :
    Calls Tryd.prog 9 #[.agg #[.int .u8 k, j1, j2, j3, j4], .agg #[.int .i64 step, .slice A vs.length c, s2, s3, s4, s5]] w (PrintP w k step vs) := by
  have hB1 := ((Below.refl w.heap.size w).alloc (Nat.le_refl _) (.cells #[.int .u8 k, j1, j2, j3, j4] 23)).alloc (by simp) (.cells #[.int .i64 step, .slice A vs.length c, s2, s3, s4, s5] 28)
  have kJ := (Blk.new w 23 #[.int .u8 k, j1, j2, j3, j4]).alloc (.cells #[.int .i64 step, .slice A vs.length c, s2, s3, s4, s5] 28)
  have kS := Blk.new (w.alloc (.cells #[.int .u8 k, j1, j2, j3, j4] 23)) 28 #[.int .i64 step, .slice A vs.length c, s2, s3, s4, s5]
  rw [show (w.alloc (.cells #[.int .u8 k, j1, j2, j3, j4] 23)).heap.size = w.heap.size + 1 by simp] at kS
  have hm := rmayR_any _ k step A c vs hk (hr.below hB1) hl
  have HB1 := Lib.hid hB1; have HJ := Lib.hid kJ; have HS := Lib.hid kS; have HM := Lib.hid hm; have HR := Lib.hid hr
  clear hB1 kJ kS hm hr
  cases hmy : mayR k step vs with
  | false =>
    rw [hmy] at HM
    have HMY := Lib.hid hmy
    clear hmy
    go_enter Tryd.func9, Tryd.ntmps9
    go_wp2_with fail
    refine HM.out.mono ?_
    rintro e w2 ⟨rfl, rfl⟩
    have HB2 := HB1
    go_wp2
    go_ret2
    exact printP_no HMY.out rfl HB2.out
  | true =>
    rw [hmy] at HM
    have HMY := Lib.hid hmy
    clear hmy
    go_enter Tryd.func9, Tryd.ntmps9
    go_wp2_with fail
    refine HM.out.mono ?_
    rintro e w2 ⟨rfl, rfl⟩
    have hJ2 := HJ.out
    have hS2 := HS.out
    have HB2 := HB1
    have HWR := Lib.hid (rtextR_any _ k step A c vs (HR.out.below HB2.out) (rep_of HMY.out))
    have c0 := hJ2.cell 0; have c1 := hS2.cell 0; have c2 := hS2.cell 1
    simp only [List.getElem?_toArray, List.getElem?_cons_zero, List.getElem?_cons_succ] at c0 c1 c2
    clear hJ2 hS2
    go_wp2_with fail
    refine HWR.out.mono ?_
    rintro e w3 ⟨rfl, hb3⟩
    have HB3 := Lib.hid (HB2.out.trans (hb3.mono HB2.out.size))
    clear hb3
    go_wp2
    go_ret2
    exact printP_yes HMY.out rfl HB3.out
end Go.Proofs.YtggegefeagkhkaaDoor
