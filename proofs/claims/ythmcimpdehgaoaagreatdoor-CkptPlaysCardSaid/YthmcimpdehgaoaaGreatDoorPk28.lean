/- A store of checkpoints: all. The reference's store of checkpoints: step, of a file's name. -/
import Derived.Test.YthmcimpdehgaoaaGreatDoorPk20
import Derived.Test.YthmcimpdehgaoaaGreatDoorPk27
import Derived.Deep.DeepCutAuto
import Derived.Test.YthmcimpdehgaoaaGreatDoorPk19
namespace Go.Proofs.YthmcimpdehgaoaaGreatDoor
open Go.RowKit Go.Maps

noncomputable def stepsN (l : List ByteArray) : List Nat := l.filterMap stepOf
theorem stepsN_snoc {l : List ByteArray} {i : Nat} {t : ByteArray} (h : l[i]? = some t) : stepsN (l.take (i + 1)) = stepsN (l.take i) ++ (stepOf t).toList := by
  unfold stepsN
  rw [List.take_add_one, h, Option.toList_some, List.filterMap_append]
  cases hs : stepOf t <;> simp [hs]
theorem stepsN_none {l : List ByteArray} {i : Nat} {t : ByteArray} (h : l[i]? = some t) (hs : stepOf t = none) : stepsN (l.take (i + 1)) = stepsN (l.take i) := by rw [stepsN_snoc h, hs]; simp
theorem stepsN_len (l : List ByteArray) (i : Nat) : (stepsN (l.take i)).length ≤ i := Nat.le_trans (List.length_filterMap_le _ _) (List.length_take_le _ _)
def intsN (l : List Nat) : List Value := l.map fun n : Nat => Value.int .i64 (n : Int)
theorem intsN_snoc (l : List Nat) (n : Nat) : intsN (l ++ [n]) = intsN l ++ [.int .i64 (n : Int)] := by unfold intsN; rw [List.map_append]; rfl
theorem bsize (s : ByteArray) : s.size = s.data.toList.length := Array.length_toList.symm
theorem cbeq_ (x y : ByteArray) : (x.toList == y.toList) = decide (x = y) := by
  by_cases h : x = y
  · subst h; simp
  · rw [decide_eq_false h]
    refine beq_eq_false_iff_ne.2 fun e => h ?_
    rw [ByteArray.toList_eq, ByteArray.toList_eq] at e
    exact ByteArray.ext (Array.ext' e)
theorem no1 {T : ByteArray} {v : Int} (h : stepOf T = if takesC T v false = true then some v.toNat else none) (hp : Lib.hasPrefix T.data.toList preC = false) : stepOf T = none := by rw [h, if_neg]; unfold takesC; simp [hp]
theorem no2 {T : ByteArray} {v : Int} (h : stepOf T = if takesC T v false = true then some v.toNat else none) (hp : ¬ 0 ≤ v) : stepOf T = none := by rw [h, if_neg]; unfold takesC; simp; omega
theorem no3 {T : ByteArray} {v : Int} (h : stepOf T = if takesC T v false = true then some v.toNat else none) (hp : ¬ v ≤ 1073741824) : stepOf T = none := by rw [h, if_neg]; unfold takesC; simp; omega
theorem no4 {T : ByteArray} {n : Nat} (h : stepOf T = if takesC T n false = true then some (n : Int).toNat else none) (hp : nameC n ≠ T) : stepOf T = none := by rw [h, if_neg]; unfold takesC; simp [hp]
theorem yes5 {T : ByteArray} {n : Nat} (hn : n ≤ 1073741824) (hp : nameC n = T) : stepOf T = some n := stepOf_some.2 ⟨hn, hp⟩
theorem infoInt : (Tryz.prog.info? 3).map (fun i => (i.zero, i.size, i.bytes)) = some (some (.int .i64 0), 1, 8) := by kernel_rfl
theorem preC_eq : (⟨#[99, 107, 46]⟩ : ByteArray).data.toList = preC := rfl
set_option maxRecDepth 100000 in
set_option maxHeartbeats 16000000 in
theorem call_loop [Forb] (w : World) (B p gs : Nat) (v : Value) (D : DiskD) (h : DiskIs w B p v D) (hs : CkSt w gs p) (hf : Fit D) (hnm : ∀ f ∈ D.files, f.name.size ≤ 1000) (hT : Tb w.heap.size w) (hV : Ev w.heap.size w) :
    Calls Tryz.prog 44 #[.pointer (some ⟨gs, 0, none⟩)] w fun e w' => ∃ A c, e = .returned (.slice A (allC D).length c) ∧ w'.ownsRow w.heap.size 3 1 (.slice A (allC D).length c) (allC D).length (intsN (allC D)) ∧ Below w.heap.size w w' := by
  obtain ⟨i0, hi0, hz0, hz1, hz2⟩ := parts infoInt
  have hc0 : w.cell? ⟨gs, 0, none⟩ = some (.pointer (some ⟨p, 0, none⟩)) := Blk.cell hs 0
  have HNM := Lib.hid (names_any w B p v D h hf.len)
  obtain ⟨l, hl⟩ : ∃ l, D.files.map (·.name) = l := ⟨_, rfl⟩
  have hlen : D.files.length = l.length := by rw [← hl, List.length_map]
  have hll : l.length ≤ 100000000 := by rw [← hlen]; exact hf.len
  have hmap : D.files.map (fun f => Value.string f.name) = l.map Value.string := by rw [← hl, List.map_map]; rfl
  have hall : allC D = (stepsN l).mergeSort := by unfold allC stepsOf stepsN; rw [hl]
  have hnl : ∀ t ∈ l, t.size ≤ 1000 := by rw [← hl]; intro t ht; obtain ⟨f, hf, rfl⟩ := List.mem_map.1 ht; exact hnm f hf
  rw [hlen, hmap] at HNM
  rw [hall]
  have HI0 := Lib.hid hi0; have HZ0 := Lib.hid hz0; have HT := Lib.hid hT; have HV := Lib.hid hV; have HNL := Lib.hid hnl
  clear h hs hf hnm hT hV hl hlen hmap hall hnl hi0 hz0
  go_enter Tryz.func44, Tryz.ntmps44
  go_wp2_with fail
  refine HNM.out.mono ?_
  rintro e w1 ⟨An, cn, rfl, hrd, hb1⟩
  have HR := Lib.hid hrd; have HB1 := Lib.hid hb1
  have hq1 := hb1.size
  clear hrd hb1 HNM hc0
  go_upto_region 3 with (fail)
  go_loopg [3, 16] l.length (fun gf vs vi wr => ∃ i : Nat, vi = .int .i64 i ∧ i + gf = l.length ∧ wr.ownsRow w1.heap.size 3 1 vs (stepsN (l.take i)).length (intsN (stepsN (l.take i))) ∧ Below w1.heap.size w1 wr)
  case atStart => exact ⟨0, rfl, by omega, World.ownsRow_nil _ _ _ _, Below.refl _ _⟩
  case round =>
    obtain ⟨i, rfl, hi, hown, hB⟩ := hrel
    cases gk with
    | zero =>
      obtain rfl : i = l.length := by omega
      rw [List.take_length] at hown
      obtain ⟨A, c, rfl⟩ := own_shape hown
      have hln : (stepsN l).length ≤ 100000000 := by have := stepsN_len l l.length; rw [List.take_length] at this; omega
      have hso := sortI_any wr w1.heap.size A c ((stepsN l).map fun n : Nat => (n : Int)) (by rw [List.length_map, List.map_map]; exact hown) hB.size (by rw [List.length_map]; omega)
      rw [List.length_map, sort_cast, List.map_map] at hso
      have HSO := Lib.hid hso; have HB := Lib.hid hB
      clear hown hB hso
      go_wp2_with fail
      refine HSO.out.mono ?_
      rintro e w2 ⟨rfl, ho2, hb2⟩
      have HO2 := Lib.hid ho2; have HB2 := Lib.hid (HB.out.trans hb2)
      clear ho2 hb2 HSO HB
      go_wp2
      go_ret
      exact ⟨A, c, by rw [List.length_mergeSort]; rfl, by rw [List.length_mergeSort]; exact own_mono HO2.out hq1, HB1.out.trans (HB2.out.mono hq1)⟩
    | succ gf =>
      have hiI : (i : Int) < (l.length : Int) := by omega
      have hir : i < l.length := by omega
      obtain ⟨ad, u, rfl, hx, hcx⟩ := (HR.out.below hB).at_ (k := i) hir
      obtain ⟨T, hT0⟩ : ∃ T, l[i]? = some T := ⟨l[i], List.getElem?_eq_getElem hir⟩
      have hu : u = .string T := by rw [List.getElem?_map, hT0] at hx; injection hx with hx; exact hx.symm
      subst hu
      have hTs : T.size ≤ 1000 := HNL.out T (List.mem_of_getElem? hT0)
      have hcp := Tryz.strings_CutPrefix T ⟨#[99, 107, 46]⟩ wr
      rw [preC_eq] at hcp
      obtain ⟨hp, hhp⟩ : ∃ hp, Lib.hasPrefix T.data.toList preC = hp := ⟨_, rfl⟩
      obtain ⟨S, hS⟩ : ∃ S : ByteArray, (⟨(Lib.trimPrefix T.data.toList preC).toArray⟩ : ByteArray) = S := ⟨_, rfl⟩
      have hSd : S.data.toList = Lib.trimPrefix T.data.toList preC := by rw [← hS]
      have hSl : S.size ≤ 281474976710656 := by
        have h1 := Lib.trimPrefix_le T.data.toList preC
        rw [← hSd] at h1
        have h2 := bsize S
        have h3 := bsize T
        omega
      have HAT := Lib.hid (catoi_any wr (HV.out.at_ (HB1.out.trans (hB.mono hq1))) S hSl)
      rw [hhp, hS] at hcp
      have HCP := Lib.hid hcp
      have HO4 := Lib.hid hown; have HB4 := Lib.hid hB
      have HX := Lib.hid hcx
      have HSD := Lib.hid hSd
      clear hcp hown hB hS hSl hSd hx
      obtain ⟨Lc, hLc⟩ : ∃ Lc, stepsN (l.take i) = Lc := ⟨_, rfl⟩
      have hLl : Lc.length ≤ i := by rw [← hLc]; exact stepsN_len l i
      rw [hLc] at HO4
      obtain ⟨Ao, co, rfl⟩ := own_shape HO4.out
      go_wp2_with fail
      refine HCP.out.mono ?_
      rintro e w4 ⟨rfl, rfl⟩
      clear HCP HX hcx
      go_wp2_with fail
      refine HAT.out.mono ?_
      rintro e w5 ⟨⟨x, ev, rfl, ha⟩, hb5⟩
      have HO5 := Lib.hid (ownC_below HO4.out hb5); have HB5 := Lib.hid (HB4.out.trans (hb5.mono HB4.out.size))
      clear hb5 HO4 HB4 HAT
      have hN0 : ∀ (hno : stepOf T = none), stepsN (l.take (i + 1)) = Lc := fun hno => (stepsN_none hT0 hno).trans hLc
      have HN0 := Lib.hid hN0
      clear hN0
      rcases ha with ⟨vv, rfl, rfl, ha⟩ | ⟨vv, N, rfl, rfl, ha⟩
      case inr =>
        have hno := takes_err (f := T) (by rw [← HSD.out]; exact ha)
        clear ha
        cases hp with
        | false =>
          have HN := Lib.hid (HN0.out hno)
          go_wp2
          go_roundg gf
          case measure => omega
          case rel => exact ⟨i + 1, by go_num, by omega, by rw [HN.out]; exact HO5.out, HB5.out⟩
        | true =>
          have HN := Lib.hid (HN0.out hno)
          go_wp2
          go_roundg gf
          case measure => omega
          case rel => exact ⟨i + 1, by go_num, by omega, by rw [HN.out]; exact HO5.out, HB5.out⟩
      have HST := Lib.hid (takes_ok (f := T) (v := vv) (by rw [← HSD.out]; exact ha))
      clear ha
      cases hp with
      | false =>
        have hno := no1 HST.out hhp
        have HN := Lib.hid (HN0.out hno)
        go_wp2
        go_roundg gf
        case measure => omega
        case rel => exact ⟨i + 1, by go_num, by omega, by rw [HN.out]; exact HO5.out, HB5.out⟩
      | true =>
        by_cases h0 : 0 ≤ vv
        case neg =>
          have hno := no2 HST.out h0
          have HN := Lib.hid (HN0.out hno)
          go_wp2
          go_roundg gf
          case measure => omega
          case rel => exact ⟨i + 1, by go_num, by omega, by rw [HN.out]; exact HO5.out, HB5.out⟩
        by_cases h1 : vv ≤ 1073741824
        case neg =>
          have hno := no3 HST.out h1
          have HN := Lib.hid (HN0.out hno)
          go_wp2
          go_roundg gf
          case measure => omega
          case rel => exact ⟨i + 1, by go_num, by omega, by rw [HN.out]; exact HO5.out, HB5.out⟩
        obtain ⟨n, rfl⟩ : ∃ n : Nat, vv = (n : Int) := ⟨vv.toNat, by omega⟩
        have HNA := Lib.hid (cname_any w5 (HT.out.at_ (HB1.out.trans (HB5.out.mono hq1))) n (by omega))
        obtain ⟨Y, hY⟩ : ∃ Y, nameC n = Y := ⟨_, rfl⟩
        rw [hY] at HNA
        go_wp2_with fail
        refine HNA.out.mono ?_
        rintro e w6 ⟨rfl, hb6⟩
        have HO6 := Lib.hid (ownC_below HO5.out hb6); have HB6 := Lib.hid (HB5.out.trans (hb6.mono HB5.out.size))
        clear hb6 HO5 HB5 HNA
        by_cases hYT : Y = T
        case neg =>
          have hno := no4 HST.out (by rw [hY]; exact hYT)
          have hYb : (Y.toList == T.toList) = false := by rw [cbeq_]; exact decide_eq_false hYT
          have HN := Lib.hid (HN0.out hno)
          go_wp2
          go_roundg gf
          case measure => omega
          case rel => exact ⟨i + 1, by go_num, by omega, by rw [HN.out]; exact HO6.out, HB6.out⟩
        have hs := yes5 (T := T) (n := n) (by omega) (hY.trans hYT)
        have hsn : stepsN (l.take (i + 1)) = Lc ++ [n] := by rw [stepsN_snoc hT0, hLc, hs]; rfl
        have HSN := Lib.hid hsn
        have hYb : (Y.toList == T.toList) = true := by rw [cbeq_]; exact decide_eq_true hYT
        clear hsn hs HST HN0
        go_wp2_with (at_builtin; refine wpList_app _ w6 rfl (.tmp 49) (.tmp 51) 34 rfl w1.heap.size 3 i0 (.int .i64 0) 1 8 Tryz.underlying34 HI0.out HZ0.out hz1 hz2 rfl (by decide) (by decide) _ Lc.length _ rfl HO6 [.int .i64 (n : Int)] rfl rfl rfl w6.heap.size rfl rfl (by omega) HB6.out.size ?_; intro v3 w3 h2 h3 h4; have HO7 := Lib.hid h2.out; have HB7 := Lib.hid h4.out; clear h2 h3 h4)
        go_roundg gf
        case measure => omega
        case rel => exact ⟨i + 1, by go_num, by omega, by rw [HSN.out, intsN_snoc, List.length_append]; exact HO7.out, HB6.out.trans HB7.out⟩
end Go.Proofs.YthmcimpdehgaoaaGreatDoor
namespace Go.Proofs.YthmcimpdehgaoaaGreatDoor
open Go.RowKit Go.Maps

theorem toList_ck : (⟨#[99, 107, 46]⟩ : ByteArray).toList = [99, 107, 46] := by rw [ByteArray.toList_eq]
theorem get_idx (T : ByteArray) (i : Nat) (h : i < T.size) : T[i]'h = T.get! i := by
  simp only [ByteArray.get!, getElem!_pos, show i < T.data.size from h]
  rfl
set_option maxRecDepth 100000 in
set_option maxHeartbeats 8000000 in
theorem rcstep_any (w : World) (T : ByteArray) : Calls Tryz.prog 130 #[.string T] w fun e w' => e = .returned (.int .i64 (stepI T)) ∧ w = w' := by
  have hsh := fun m (h : stepOf T = some m) => stepOf_shape h
  obtain ⟨V, hV⟩ : ∃ V, stepI T = V := ⟨_, rfl⟩
  have hno : (∀ m, stepOf T ≠ some m) → V = -1 := fun h => hV.symm.trans (stepI_none h)
  have hyes : ∀ n, n ≤ 1073741824 → nameC n = T → V = (n : Int) := fun n h1 h2 => hV.symm.trans (stepI_some h1 h2)
  rw [hV]
  have HSH := Lib.hid hsh; have HNO := Lib.hid hno; have HYES := Lib.hid hyes
  clear hsh hno hyes hV
  by_cases h4 : T.size < 4
  · have h4I : (T.size : Int) < 4 := by omega
    have h4b : decide ((T.size : Int) < 4) = true := decide_eq_true h4I
    have HF := Lib.hid (HNO.out (fun m h => by have := (HSH.out m h).1; omega))
    go_enter Tryz.func130, Tryz.ntmps130
    go_wp2
    go_ret
    exact ⟨by rw [HF.out]; rfl, rfl⟩
  have h4I : ¬ (T.size : Int) < 4 := by omega
  have h4b : decide ((T.size : Int) < 4) = false := decide_eq_false h4I
  by_cases h13 : 13 < T.size
  · have h13I : (13 : Int) < (T.size : Int) := by omega
    have h13b : decide ((13 : Int) < (T.size : Int)) = true := decide_eq_true h13I
    have HF := Lib.hid (HNO.out (fun m h => by have := (HSH.out m h).2.1; omega))
    go_enter Tryz.func130, Tryz.ntmps130
    go_wp2
    go_ret
    exact ⟨by rw [HF.out]; rfl, rfl⟩
  have h13I : ¬ (13 : Int) < (T.size : Int) := by omega
  have h13b : decide ((13 : Int) < (T.size : Int)) = false := decide_eq_false h13I
  have hsz3 : ¬ T.size < 3 := by omega
  have hpx : (T.extract 0 3).data.toList = T.data.toList.take 3 := by simp [ByteArray.data_extract]
  by_cases hp : T.extract 0 3 = ⟨#[99, 107, 46]⟩
  case neg =>
    have hYb : ((T.extract 0 3).toList == (⟨#[99, 107, 46]⟩ : ByteArray).toList) = false := by rw [cbeq_]; exact decide_eq_false hp
    have hYl : ((T.extract 0 3).toList == [99, 107, 46]) = false := by rw [← toList_ck]; exact hYb
    have hYp : ¬ (T.extract 0 3).toList = [99, 107, 46] := by simpa using hYl
    have HF := Lib.hid (HNO.out (fun m h => hp (by
      have h1 := (HSH.out m h).2.2.1
      rw [← hpx] at h1
      exact ByteArray.ext (Array.toList_inj.1 h1))))
    clear hp hpx
    go_enter Tryz.func130, Tryz.ntmps130
    go_wp2
    go_ret
    exact ⟨by rw [HF.out]; rfl, rfl⟩
  have hYb : ((T.extract 0 3).toList == (⟨#[99, 107, 46]⟩ : ByteArray).toList) = true := by rw [cbeq_]; exact decide_eq_true hp
  have hYl : ((T.extract 0 3).toList == [99, 107, 46]) = true := by rw [← toList_ck]; exact hYb
  have hYp : (T.extract 0 3).toList = [99, 107, 46] := by simpa using hYl
  clear hp hpx
  go_enter Tryz.func130, Tryz.ntmps130
  go_wp2
  clear hYb hYl hYp
  go_loopg [3, 4] (T.size - 3) (fun gf vn vi wr => ∃ i : Nat, vn = .int .i64 (dvalC ((T.data.toList.drop 3).take (i - 3)) : Nat) ∧ vi = .int .i64 i ∧ 3 ≤ i ∧ i + gf = T.size ∧ (∀ c ∈ (T.data.toList.drop 3).take (i - 3), 48 ≤ c.toNat ∧ c.toNat ≤ 57) ∧ w = wr)
  case atStart => exact ⟨3, rfl, rfl, by omega, by omega, by simp, rfl⟩
  case round =>
    obtain ⟨i, rfl, rfl, h3, hi, hdg, rfl⟩ := hrel
    have hlt := dvalC_lt _ hdg
    have hll : ((T.data.toList.drop 3).take (i - 3)).length ≤ 10 := by rw [List.length_take]; omega
    have hlt2 : dvalC ((T.data.toList.drop 3).take (i - 3)) < 10 ^ 10 := Nat.lt_of_lt_of_le hlt (Nat.pow_le_pow_right (by decide) hll)
    cases gk with
    | zero =>
      obtain rfl : i = T.size := by omega
      have hall : (T.data.toList.drop 3).take (T.size - 3) = T.data.toList.drop 3 := List.take_of_length_le (by rw [List.length_drop]; exact Nat.le_refl _)
      rw [hall] at hlt2 ⊢
      have HSM := Lib.hid (fun m (h : stepOf T = some m) => (show dvalC (T.data.toList.drop 3) = m ∧ m ≤ 1073741824 ∧ nameC m = T from let h2 := HSH.out m h; ⟨h2.2.2.2.2.1, h2.2.2.2.2.2⟩))
      obtain ⟨N, hN⟩ : ∃ N, dvalC (T.data.toList.drop 3) = N := ⟨_, rfl⟩
      rw [hN] at hlt2 HSM ⊢
      have HM := Lib.hid (rcmay_any w (N : Int))
      clear hlt hll hall hdg hN hi
      by_cases hm : N ≤ 1073741824
      case neg =>
        rw [decide_eq_false (by omega)] at HM
        have HF := Lib.hid (HNO.out (fun m h => by have := (HSM.out m h).1; have := (HSM.out m h).2.1; omega))
        go_wp2_with fail
        refine HM.out.mono ?_
        rintro e w1 ⟨rfl, rfl⟩
        clear HM
        go_wp2
        go_ret
        exact ⟨by rw [HF.out]; rfl, rfl⟩
      rw [decide_eq_true ⟨by omega, by omega⟩] at HM
      have HNM := Lib.hid (rcname_any w N (by omega))
      by_cases hn : nameC N = T
      · have hYb : ((nameC N).toList == T.toList) = true := by rw [cbeq_]; exact decide_eq_true hn
        have HF := Lib.hid (HYES.out N hm hn)
        obtain ⟨T2, hT2⟩ : ∃ T2, nameC N = T2 := ⟨_, rfl⟩
        rw [hT2] at hYb HNM
        clear hn hT2
        go_wp2_with fail
        refine HM.out.mono ?_
        rintro e w1 ⟨rfl, rfl⟩
        clear HM
        go_wp2_with fail
        refine HNM.out.mono ?_
        rintro e w1 ⟨rfl, rfl⟩
        go_wp2
        go_ret
        exact ⟨by rw [HF.out]; rfl, rfl⟩
      · have hYb : ((nameC N).toList == T.toList) = false := by rw [cbeq_]; exact decide_eq_false hn
        have HF := Lib.hid (HNO.out (fun m h => hn (by have h1 := (HSM.out m h).1; rw [h1]; exact (HSM.out m h).2.2)))
        obtain ⟨T2, hT2⟩ : ∃ T2, nameC N = T2 := ⟨_, rfl⟩
        rw [hT2] at hYb HNM
        clear hn hT2
        go_wp2_with fail
        refine HM.out.mono ?_
        rintro e w1 ⟨rfl, rfl⟩
        clear HM
        go_wp2_with fail
        refine HNM.out.mono ?_
        rintro e w1 ⟨rfl, rfl⟩
        go_wp2
        go_ret
        exact ⟨by rw [HF.out]; rfl, rfl⟩
    | succ gf =>
      have hiI : (i : Int) < (T.size : Int) := by omega
      have hib : decide ((i : Int) < (T.size : Int)) = true := decide_eq_true hiI
      have hts := take_snoc T i h3 (by omega)
      have hmem : T.get! i ∈ T.data.toList.drop 3 := by
        have h1 : T.get! i ∈ (T.data.toList.drop 3).take (i + 1 - 3) := by rw [hts]; exact List.mem_append_right _ (List.mem_singleton_self _)
        exact List.mem_of_mem_take h1
      have hdv := dvalC_snoc ((T.data.toList.drop 3).take (i - 3)) (T.get! i)
      rw [← hts] at hdv
      have HBAD := Lib.hid (fun (h : ¬ (48 ≤ (T.get! i).toNat ∧ (T.get! i).toNat ≤ 57)) => HNO.out (fun m hm => h ((HSH.out m hm).2.2.2.1 _ hmem)))
      have HDG := Lib.hid (fun (h : 48 ≤ (T.get! i).toNat ∧ (T.get! i).toNat ≤ 57) => show ∀ c ∈ (T.data.toList.drop 3).take (i + 1 - 3), 48 ≤ c.toNat ∧ c.toNat ≤ 57 by
        rw [hts]; intro c hc
        rcases List.mem_append.1 hc with hc | hc
        · exact hdg c hc
        · rw [List.mem_singleton.1 hc]; exact h)
      have HDV := Lib.hid hdv
      obtain ⟨N, hN⟩ : ∃ N, dvalC ((T.data.toList.drop 3).take (i - 3)) = N := ⟨_, rfl⟩
      rw [hN] at hlt2 HDV ⊢
      obtain ⟨z, hz⟩ : ∃ z, (T.get! i).toNat = z := ⟨_, rfl⟩
      have hzi : (T[i]'(by omega)).toNat = z := by rw [get_idx]; exact hz
      rw [hz] at HBAD HDG HDV
      have hz256 : z < 256 := by rw [← hz]; exact (T.get! i).toNat_lt
      clear hlt hll hdg hts hmem hdv hN hz
      by_cases h48 : z < 48
      · have h48I : (z : Int) < 48 := by omega
        have h48b : decide ((z : Int) < 48) = true := decide_eq_true h48I
        have HF := Lib.hid (HBAD.out (by omega))
        go_wp2
        go_ret
        exact ⟨by rw [HF.out]; rfl, rfl⟩
      have h48I : ¬ (z : Int) < 48 := by omega
      have h48b : decide ((z : Int) < 48) = false := decide_eq_false h48I
      by_cases h57 : 57 < z
      · have h57I : (57 : Int) < (z : Int) := by omega
        have h57b : decide ((57 : Int) < (z : Int)) = true := decide_eq_true h57I
        have HF := Lib.hid (HBAD.out (by omega))
        go_wp2
        go_ret
        exact ⟨by rw [HF.out]; rfl, rfl⟩
      have h57I : ¬ (57 : Int) < (z : Int) := by omega
      have h57b : decide ((57 : Int) < (z : Int)) = false := decide_eq_false h57I
      have HD := Lib.hid (HDG.out ⟨by omega, by omega⟩)
      have hw1 : IntKind.i64.wrap ((N : Int) * 10) = (N : Int) * 10 := IntWalk.i64_in _ (by omega)
      have hw2 : IntKind.u8.wrap ((z : Int) - 48) = (z : Int) - 48 := by show ((z : Int) - 48) % 256 = _; omega
      have hw3 : IntKind.i64.wrap ((z : Int) - 48) = (z : Int) - 48 := IntWalk.i64_in _ (by omega)
      have hw4 : IntKind.i64.wrap ((N : Int) * 10 + ((z : Int) - 48)) = (N : Int) * 10 + ((z : Int) - 48) := IntWalk.i64_in _ (by omega)
      go_wp2
      go_roundg gf
      case measure => omega
      case rel => exact ⟨i + 1, by rw [HDV.out]; go_num, by go_num, by omega, by omega, HD.out, rfl⟩
end Go.Proofs.YthmcimpdehgaoaaGreatDoor
