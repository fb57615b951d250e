/- The reference's parts: a number's text, a word's number, a line's words; its text of a report. -/
import Derived.Test.YtggegefeagkhkaaDoorRpJ
import Derived.Test.YtggegefeagkhkaaDoorWordsF
import Derived.Deep.DeepCutAuto
namespace Go.Proofs.YtggegefeagkhkaaDoor
open Go.RowKit

set_option maxHeartbeats 1000000 in
theorem rdg_any (w : World) (x : Int) (h1 : -9223372036854775808 ≤ x) (h2 : x ≤ 9223372036854775807) :
    Calls Tryd.prog 38 #[.int .i64 x] w fun e w' => e = .returned (.string (printOf x 0)) ∧ Below w.heap.size w w' := by
  have HP := Lib.hid (printR_any x 0 w h1 h2)
  go_enter Tryd.func38, Tryd.ntmps38
  go_wp2_with fail
  refine HP.out.mono ?_
  rintro e w' ⟨rfl, hb⟩
  have HB := Lib.hid hb
  clear hb
  go_wp2
  go_ret
  exact ⟨rfl, HB.out⟩
theorem numR_chs (s : ByteArray) : numR ((chs s).map (·.1)) = numP (runes s) := by
  rw [runes_chs, ← num_eq, List.map_map]; rfl
set_option maxHeartbeats 1000000 in
theorem rnum_any (w : World) (s : ByteArray) (hs : s.size ≤ 4294967296) :
    Calls Tryd.prog 46 #[.string s] w fun e w' => e = .returned (.int .i64 ((numL s.data.toList).getD (-1))) ∧ Below w.heap.size w w' := by
  have hp := numberR_any s w hs
  rw [numR_chs] at hp
  cases hn : numL s.data.toList with
  | some n =>
    rw [numL_of hn] at hp
    have HP := Lib.hid hp
    clear hp hn
    go_enter Tryd.func46, Tryd.ntmps46
    go_wp2_with fail
    refine HP.out.mono ?_
    rintro e w' ⟨rfl, hb⟩
    have HB := Lib.hid hb
    clear hb
    go_wp2
    go_ret
    exact ⟨rfl, HB.out⟩
  | none =>
    have hne := numL_none hn
    obtain ⟨a, ha⟩ : ∃ a, (numP (runes s)).1 = a := ⟨_, rfl⟩
    obtain ⟨b, hb⟩ : ∃ b, (numP (runes s)).2 = b := ⟨_, rfl⟩
    rw [ha, hb] at hp
    rw [hb] at hne
    have hbb : (b != 0) = true := by simpa using hne
    have HP := Lib.hid hp
    clear hp hn hne ha hb
    go_enter Tryd.func46, Tryd.ntmps46
    go_wp2_with fail
    refine HP.out.mono ?_
    rintro e w' ⟨rfl, hb⟩
    have HB := Lib.hid hb
    clear hb
    go_wp2
    go_ret
    exact ⟨rfl, HB.out⟩
/-- the reference's words: so many are cut, one is open -/
def WInv (s : ByteArray) (i fr : Nat) (acc : List ByteArray) : Prop :=
  (i ≤ s.size ∧ fr ≤ i ∧ acc.map (·.data.toList) ++ sp 32 (s.data.toList.drop i) (s.extract fr i).data.toList = sp 32 s.data.toList []) ∨ (i = s.size + 1 ∧ acc.map (·.data.toList) = sp 32 s.data.toList [])
theorem WInv.zero (s : ByteArray) : WInv s 0 0 [] := .inl ⟨Nat.zero_le _, Nat.le_refl _, by simp⟩
theorem WInv.next {s : ByteArray} {i fr : Nat} {acc : List ByteArray} (h : WInv s i fr acc) (hi : i < s.size) (hb : bt s i ≠ 32) : WInv s (i + 1) fr acc := by
  rcases h with ⟨_, h2, h3⟩ | ⟨h1, _⟩
  · refine .inl ⟨hi, by omega, ?_⟩
    rw [← h3, drop_cons s i hi, sp, if_neg (fun e => hb (by rw [bt_get, e]; rfl)), extract_snoc s fr i h2 hi, ba_toList]
  · omega
theorem WInv.cut {s : ByteArray} {i fr : Nat} {acc : List ByteArray} (h : WInv s i fr acc) (hi : i < s.size) (hb : bt s i = 32) : WInv s (i + 1) (i + 1) (acc ++ [s.extract fr i]) := by
  rcases h with ⟨_, h2, h3⟩ | ⟨h1, _⟩
  · refine .inl ⟨hi, Nat.le_refl _, ?_⟩
    have he : s.data.toList.getD i 0 = 32 := by
      rw [bt_get] at hb
      exact UInt8.toNat_inj.1 hb
    rw [← h3, drop_cons s i hi, sp, if_pos he, List.map_append, List.append_assoc]
    simp
  · omega
theorem WInv.last {s : ByteArray} {fr : Nat} {acc : List ByteArray} (h : WInv s s.size fr acc) : WInv s (s.size + 1) (s.size + 1) (acc ++ [s.extract fr s.size]) := by
  rcases h with ⟨_, h2, h3⟩ | ⟨h1, _⟩
  · refine .inr ⟨rfl, ?_⟩
    have e : s.data.toList.drop s.size = [] := List.drop_eq_nil_of_le (by rw [← Lib.size_eq]; exact Nat.le_refl _)
    rw [← h3, e, sp, List.map_append]
    rfl
  · omega
theorem WInv.done {s : ByteArray} {fr : Nat} {acc : List ByteArray} (h : WInv s (s.size + 1) fr acc) : acc = spB s := by
  rcases h with ⟨h1, _⟩ | ⟨_, h2⟩
  · omega
  · unfold spB
    rw [← h2, List.map_map]
    have : (ba ∘ fun x : ByteArray => x.data.toList) = id := funext fun x => ba_of x
    rw [this, List.map_id]
theorem ext_self (s : ByteArray) (i : Nat) : s.extract i i = ByteArray.empty := by simp
set_option maxRecDepth 100000 in
set_option maxHeartbeats 4000000 in
theorem rwords_any (w : World) (s : ByteArray) (hs : s.size ≤ 4294967296) :
    Calls Tryd.prog 45 #[.string s] w fun e w' => ∃ v, e = .returned v ∧ w'.ownsRow w.heap.size 9 1 v (spB s).length ((spB s).map Value.string) ∧ Below w.heap.size w w' := by
  obtain ⟨i0, hi, hz0, hz1, hz2⟩ := info_parts info9
  go_enter Tryd.func45, Tryd.ntmps45
  go_wp2
  go_loopg [3, 4, 5] (s.size + 1) (fun gf v3 v4 v5 wr => ∃ (i fr : Nat) (acc : List ByteArray), v5 = .int .i64 i ∧ v4 = .int .i64 fr ∧ i + gf = s.size + 1 ∧ acc.length ≤ i ∧ WInv s i fr acc ∧
      wr.ownsRow w.heap.size 9 1 v3 acc.length (acc.map Value.string) ∧ Below w.heap.size w wr)
  case atStart => exact ⟨0, 0, [], rfl, rfl, by omega, by simp, WInv.zero s, World.ownsRow_nil _ _ _ _, Below.refl _ _⟩
  case round =>
    obtain ⟨i, fr, acc, rfl, rfl, hig, hal, hinv, hown, hB⟩ := hrel
    have hbsz := hB.size
    have HO := Lib.hid hown; have HB := Lib.hid hB
    clear hown hB
    cases gk with
    | zero =>
      obtain rfl : i = s.size + 1 := by omega
      have HD := Lib.hid hinv.done
      clear hinv
      go_wp2
      go_ret
      exact ⟨_, rfl, by rw [← HD.out]; exact HO.out, HB.out⟩
    | succ gf =>
      have hi2 : i ≤ s.size := by omega
      have hfr : fr ≤ i := by
        rcases hinv with ⟨_, h, _⟩ | ⟨h, _⟩ <;> omega
      by_cases hie : i = s.size
      · subst hie
        have HC := Lib.hid hinv.last
        clear hinv
        by_cases hfi : fr = s.size
        · subst hfi
          rw [ext_self] at HC
          go_wp2_with (at_builtin; go_must (refine wpList_app _ wr rfl (.tmp 22) (.tmp 27) 61 rfl w.heap.size 9 i0 (.string ⟨#[]⟩) 1 16 Tryd.underlying61 hi hz0 hz1 hz2 rfl (by decide) (by decide) _ _ _ rfl HO [.string (ByteArray.empty)] rfl rfl rfl _ rfl rfl (by omega) hbsz ?_; intro v3 w3 HO3 HG3 HB3))
          go_roundg gf
          case measure => omega
          case rel => exact ⟨s.size + 1, s.size + 1, _, by go_num, by go_num, by omega, by simp; omega, HC.out, by rw [List.length_append, List.map_append]; exact HO3.out, HB.out.trans HB3.out⟩
        · have hfl : fr < s.size := by omega
          go_wp2_with (at_builtin; go_must (refine wpList_app _ wr rfl (.tmp 22) (.tmp 27) 61 rfl w.heap.size 9 i0 (.string ⟨#[]⟩) 1 16 Tryd.underlying61 hi hz0 hz1 hz2 rfl (by decide) (by decide) _ _ _ rfl HO [.string (s.extract fr s.size)] rfl rfl rfl _ rfl rfl (by omega) hbsz ?_; intro v3 w3 HO3 HG3 HB3))
          go_roundg gf
          case measure => omega
          case rel => exact ⟨s.size + 1, s.size + 1, _, by go_num, by go_num, by omega, by simp; omega, HC.out, by rw [List.length_append, List.map_append]; exact HO3.out, HB.out.trans HB3.out⟩
      · have hil : i < s.size := by omega
        have hieb : ((i : Int) == (s.size : Int)) = false := by rw [beq_eq_false_iff_ne]; omega
        by_cases hb : bt s i = 32
        · have HC := Lib.hid (hinv.cut hil hb)
          rw [bt_lt s i hil] at hb
          have h2b : (((s[i]'hil).toNat : Int) == 32) = true := by rw [beq_iff_eq]; omega
          clear hinv hb hie
          by_cases hfi : fr = i
          · subst hfi
            rw [ext_self] at HC
            go_wp2_with (at_builtin; go_must (refine wpList_app _ wr rfl (.tmp 22) (.tmp 27) 61 rfl w.heap.size 9 i0 (.string ⟨#[]⟩) 1 16 Tryd.underlying61 hi hz0 hz1 hz2 rfl (by decide) (by decide) _ _ _ rfl HO [.string (ByteArray.empty)] rfl rfl rfl _ rfl rfl (by omega) hbsz ?_; intro v3 w3 HO3 HG3 HB3))
            go_roundg gf
            case measure => omega
            case rel => exact ⟨fr + 1, fr + 1, _, by go_num, by go_num, by omega, by simp; omega, HC.out, by rw [List.length_append, List.map_append]; exact HO3.out, HB.out.trans HB3.out⟩
          · have hfl : fr < i := by omega
            go_wp2_with (at_builtin; go_must (refine wpList_app _ wr rfl (.tmp 22) (.tmp 27) 61 rfl w.heap.size 9 i0 (.string ⟨#[]⟩) 1 16 Tryd.underlying61 hi hz0 hz1 hz2 rfl (by decide) (by decide) _ _ _ rfl HO [.string (s.extract fr i)] rfl rfl rfl _ rfl rfl (by omega) hbsz ?_; intro v3 w3 HO3 HG3 HB3))
            go_roundg gf
            case measure => omega
            case rel => exact ⟨i + 1, i + 1, _, by go_num, by go_num, by omega, by simp; omega, HC.out, by rw [List.length_append, List.map_append]; exact HO3.out, HB.out.trans HB3.out⟩
        · have HC := Lib.hid (hinv.next hil hb)
          rw [bt_lt s i hil] at hb
          have h2b : (((s[i]'hil).toNat : Int) == 32) = false := by rw [beq_eq_false_iff_ne]; omega
          clear hinv hb hie
          go_wp2
          go_roundg gf
          case measure => omega
          case rel => exact ⟨i + 1, fr, acc, by go_num, rfl, by omega, by omega, HC.out, HO.out, HB.out⟩
theorem head_text (k step : Int) (vs : List Int) (kw : ByteArray) (h : ba (kindW k) = kw) : ((((kw ++ ⟨#[32]⟩) ++ printOf (vs.length : Int) 0) ++ ⟨#[32]⟩) ++ printOf step 0) ++ ⟨#[10]⟩ = ba (doneL k step vs 0) := by
  have e : ∀ l : List UInt8, (⟨l.toArray⟩ : ByteArray) = ba l := fun _ => rfl
  rw [← h, ← prS, ← prS, doneL_zero, show (⟨#[32]⟩ : ByteArray) = ba [32] from rfl, show (⟨#[10]⟩ : ByteArray) = ba [10] from rfl]
  simp only [ba_append, List.nil_append]
  congr 1
  simp [headW, lineL, joinB]
theorem row_text (k step : Int) (vs : List Int) (i : Nat) (W : ByteArray) (h : joinB 32 (rowW k i (vs.getD i 0)) = prL i ++ 32 :: W.data.toList) : ((((ba (doneL k step vs i) ++ printOf (i : Int) 0) ++ ⟨#[32]⟩) ++ W) ++ ⟨#[10]⟩) = ba (doneL k step vs (i + 1)) := by
  rw [← prS, ← ba_of W, doneL_succ, show (⟨#[32]⟩ : ByteArray) = ba [32] from rfl, show (⟨#[10]⟩ : ByteArray) = ba [10] from rfl]
  simp only [ba_append]
  congr 1
  rw [lineL, h]
  simp
set_option maxRecDepth 100000 in
set_option maxHeartbeats 8000000 in
theorem rtext_1 (w : World) (step : Int) (A : Option Addr) (c : Nat) (vs : List Int) (hr : Rd w 1 A vs.length (vs.map (Value.int .i64))) (hR : Rep 1 step vs) :
    Calls Tryd.prog 19 #[.int .u8 1, .int .i64 step, .slice A vs.length c] w fun e w' => e = .returned (.string (textB 1 step vs)) ∧ Below w.heap.size w w' := by
  have hstep := hR.step; have hn := hR.n; have hvals := hR.vals
  have HN := Lib.hid rdg_any; have HV := Lib.hid hvals; have HR := Lib.hid hr; have HRR := Lib.hid hR
  have HFX := Lib.hid (fun (W : World) (x : Int) (h1 : 0 ≤ x) (h2 : x ≤ 9223372036854775807) => (show Calls Tryd.prog 39 #[.int .i64 x] W fun e w' => e = .returned (.string (fixText x.toNat)) ∧ Below W.heap.size W w' by
    have h := rtext_any W x.toNat (by omega)
    rwa [Int.toNat_of_nonneg h1] at h))
  have hp1 := printOf_sz (vs.length : Int); have hp2 := printOf_sz step
  have hht := head_text 1 step vs ⟨#[114, 97, 110, 107]⟩ rfl
  obtain ⟨P, hP⟩ : ∃ P, printOf (vs.length : Int) 0 = P := ⟨_, rfl⟩
  obtain ⟨Q, hQ⟩ : ∃ Q, printOf step 0 = Q := ⟨_, rfl⟩
  have HN1 := Lib.hid (fun (W : World) => (show Calls Tryd.prog 38 #[.int .i64 vs.length] W fun e w' => e = .returned (.string P) ∧ Below W.heap.size W w' by rw [← hP]; exact rdg_any W _ (by omega) (by omega)))
  have HN2 := Lib.hid (fun (W : World) => (show Calls Tryd.prog 38 #[.int .i64 step] W fun e w' => e = .returned (.string Q) ∧ Below W.heap.size W w' by rw [← hQ]; exact rdg_any W _ (by omega) (by omega)))
  rw [hP] at hp1 hht
  rw [hQ] at hp2 hht
  have hkz : (⟨#[114, 97, 110, 107]⟩ : ByteArray).size = 4 := rfl
  have hz1 : (⟨#[32]⟩ : ByteArray).size = 1 := rfl
  have hz2 : (⟨#[10]⟩ : ByteArray).size = 1 := rfl
  have HHT := Lib.hid hht
  have HB := Lib.hid ((Below.refl w.heap.size w).drew)
  clear hvals hr hR hP hQ hht
  go_enter Tryd.func19, Tryd.ntmps19
  go_upto_region 1 with (fail)
  go_cut [7] (fun s7 wx => s7 = .string (ba (doneL 1 step vs 0)) ∧ Below w.heap.size w wx)
  case first =>
    refine wp_region_noPanic ?_
    refine wp_region_held_drew (S := (fun _ => True)) (by kernel_rfl) ?_ (fun hHeld => ?_)
    · exact trivial
    refine wpAnyH_take (i := 1) (v := ?v1g1_) rfl (by kernel_rfl) (by kernel_rfl) (by kernel_rfl) (fun _ _ _ h => h) (Or.inl ⟨by rfl, ?y1g1_⟩) (by assumption) ?r1g1_
    case y1g1_ => (intro w hSw; (try dsimp only at hSw); go_simp; try with_reducible rfl)
    change wpAnyH _ _ _ _ _ _ _ (Act.put _ (some 13) _) _; simp only [Act.put, List.setIfInBounds_toArray, List.set_cons_zero, List.set_cons_succ]
    refine wpAnyH_take (i := 5) (v := ?v5g1_) rfl (by kernel_rfl) (by kernel_rfl) (by kernel_rfl) (fun _ _ _ h => h) (Or.inl ⟨by rfl, ?y5g1_⟩) (by assumption) ?r5g1_
    case y5g1_ => (intro w hSw; (try dsimp only at hSw); go_simp; try with_reducible rfl)
    change wpAnyH _ _ _ _ _ _ _ (Act.put _ (some 17) _) _; simp only [Act.put, List.setIfInBounds_toArray, List.set_cons_zero, List.set_cons_succ]
    refine wpAnyH_take (i := 6) (v := ?v6g1_) rfl (by kernel_rfl) (by kernel_rfl) (by kernel_rfl) (fun _ _ _ h => h) (Or.inl ⟨by rfl, ?y6g1_⟩) (by assumption) ?r6g1_
    case y6g1_ => (intro w hSw; (try dsimp only at hSw); go_simp; try with_reducible rfl)
    change wpAnyH _ _ _ _ _ _ _ (Act.put _ (some 18) _) _; simp only [Act.put, List.setIfInBounds_toArray, List.set_cons_zero, List.set_cons_succ]
    refine wpAnyH_take (i := 10) (v := ?v10g1_) rfl (by kernel_rfl) (by kernel_rfl) (by kernel_rfl) (fun _ _ _ h => h) (Or.inl ⟨by rfl, ?y10g1_⟩) (by assumption) ?r10g1_
    case y10g1_ => (intro w hSw; (try dsimp only at hSw); go_simp; try with_reducible rfl)
    change wpAnyH _ _ _ _ _ _ _ (Act.put _ (some 22) _) _; simp only [Act.put, List.setIfInBounds_toArray, List.set_cons_zero, List.set_cons_succ]
    refine wpAnyH_ready (rs := [0, 7]) (by kernel_rfl) (by simp) ?_
    refine AllReadyH.cons rfl (fun K hK => ?_) (AllReadyH.cons rfl (fun K hK => ?_) AllReadyH.nil)
    · go_simp
      have HCL := Lib.hid ((fun {W : World} (_ : Below w.heap.size w W) => Blk.new W 9 #[.string ⟨#[]⟩, .string ⟨#[114, 97, 110, 107]⟩, .string ⟨#[108, 97, 98, 101, 108]⟩, .string ⟨#[112, 97, 116, 104, 115]⟩]) HB.out)
      have HBn := Lib.hid (HB.out.alloc HB.out.size (.cells #[.string ⟨#[]⟩, .string ⟨#[114, 97, 110, 107]⟩, .string ⟨#[108, 97, 98, 101, 108]⟩, .string ⟨#[112, 97, 116, 104, 115]⟩] 9))
      clear HB
      have HB := HBn
      clear HBn
      refine hK.out _ _ ?_ (fun hHeld => ?_)
      · exact trivial
      clear hK K
      try simp only [Act.put, List.setIfInBounds_toArray, List.set_cons_zero, List.set_cons_succ]
      refine wpAnyH_take (i := 2) (v := ?v2g1_a) rfl (by kernel_rfl) (by kernel_rfl) (by kernel_rfl) (fun _ _ _ h => h) (Or.inl ⟨by rfl, ?y2g1_a⟩) (by assumption) ?r2g1_a
      case y2g1_a => (intro w hSw; (try dsimp only at hSw); go_simp; try with_reducible rfl)
      change wpAnyH _ _ _ _ _ _ _ (Act.put _ (some 14) _) _; simp only [Act.put, List.setIfInBounds_toArray, List.set_cons_zero, List.set_cons_succ]
      refine wpAnyH_ready (rs := [3, 7]) (by kernel_rfl) (by simp) ?_
      refine AllReadyH.cons rfl (fun K hK => ?_) (AllReadyH.cons rfl (fun K hK => ?_) AllReadyH.nil)
      · have hcl := HCL.out.cell 1
        simp only [List.getElem?_toArray, List.getElem?_cons_zero, List.getElem?_cons_succ] at hcl
        try (change World.cell? _ ⟨w.heap.size, 1, none⟩ = _ at hcl)
        go_simp
        clear hcl
        refine hK.out _ _ ?_ (fun hHeld => ?_)
        · exact trivial
        clear hK K
        try simp only [Act.put, List.setIfInBounds_toArray, List.set_cons_zero, List.set_cons_succ]
        refine wpAnyH_take (i := 4) (v := ?v4g1_aa) rfl (by kernel_rfl) (by kernel_rfl) (by kernel_rfl) (fun _ _ _ h => h) (Or.inl ⟨by rfl, ?y4g1_aa⟩) (by assumption) ?r4g1_aa
        case y4g1_aa => (intro w hSw; (try dsimp only at hSw); go_simp; exact rfl; try with_reducible rfl)
        change wpAnyH _ _ _ _ _ _ _ (Act.put _ (some 16) _) _; simp only [Act.put, List.setIfInBounds_toArray, List.set_cons_zero, List.set_cons_succ]
        refine wpAnyH_ready (rs := [7]) (by kernel_rfl) (by simp) ?_
        refine AllReadyH.cons rfl (fun K hK => ?_) AllReadyH.nil
        go_simp
        refine (HN1.out _).mono ?_
        rintro R w2 ⟨rfl, h2⟩
        try (have HCLn := Lib.hid (HCL.out.below h2 HCL.out.lt); clear HCL; have HCL := HCLn; clear HCLn)
        have HBn := Lib.hid (HB.out.trans (h2.mono HB.out.size))
        clear HB h2
        have HB := HBn
        clear HBn
        dsimp only
        refine hK.out _ _ ?_ (fun hHeld => ?_)
        · exact trivial
        clear hK K
        try simp only [Act.put, List.setIfInBounds_toArray, List.set_cons_zero, List.set_cons_succ]
        refine wpAnyH_take (i := 8) (v := ?v8g1_aa) rfl (by kernel_rfl) (by kernel_rfl) (by kernel_rfl) (fun _ _ _ h => h) (Or.inl ⟨by rfl, ?y8g1_aa⟩) (by assumption) ?r8g1_aa
        case y8g1_aa => (intro w hSw; (try dsimp only at hSw); go_simp; try rw [if_neg (by (try simp only [ByteArray.size_append]); omega)]; try with_reducible rfl)
        change wpAnyH _ _ _ _ _ _ _ (Act.put _ (some 20) _) _; simp only [Act.put, List.setIfInBounds_toArray, List.set_cons_zero, List.set_cons_succ]
        refine wpAnyH_take (i := 9) (v := ?v9g1_aa) rfl (by kernel_rfl) (by kernel_rfl) (by kernel_rfl) (fun _ _ _ h => h) (Or.inl ⟨by rfl, ?y9g1_aa⟩) (by assumption) ?r9g1_aa
        case y9g1_aa => (intro w hSw; (try dsimp only at hSw); go_simp; try rw [if_neg (by (try simp only [ByteArray.size_append]); omega)]; try with_reducible rfl)
        change wpAnyH _ _ _ _ _ _ _ (Act.put _ (some 21) _) _; simp only [Act.put, List.setIfInBounds_toArray, List.set_cons_zero, List.set_cons_succ]
        refine wpAnyH_ready (rs := [11]) (by kernel_rfl) (by simp) ?_
        refine AllReadyH.cons rfl (fun K hK => ?_) AllReadyH.nil
        go_simp
        refine (HN2.out _).mono ?_
        rintro R w3 ⟨rfl, h3⟩
        try (have HCLn := Lib.hid (HCL.out.below h3 HCL.out.lt); clear HCL; have HCL := HCLn; clear HCLn)
        have HBn := Lib.hid (HB.out.trans (h3.mono HB.out.size))
        clear HB h3
        have HB := HBn
        clear HBn
        dsimp only
        refine hK.out _ _ ?_ (fun hHeld => ?_)
        · exact trivial
        clear hK K
        try simp only [Act.put, List.setIfInBounds_toArray, List.set_cons_zero, List.set_cons_succ]
        refine wpAnyH_take (i := 12) (v := ?v12g1_aa) rfl (by kernel_rfl) (by kernel_rfl) (by kernel_rfl) (fun _ _ _ h => h) (Or.inl ⟨by rfl, ?y12g1_aa⟩) (by assumption) ?r12g1_aa
        case y12g1_aa => (intro w hSw; (try dsimp only at hSw); go_simp; try rw [if_neg (by (try simp only [ByteArray.size_append]); omega)]; try with_reducible rfl)
        change wpAnyH _ _ _ _ _ _ _ (Act.put _ (some 24) _) _; simp only [Act.put, List.setIfInBounds_toArray, List.set_cons_zero, List.set_cons_succ]
        refine wpAnyH_take (i := 13) (v := ?v13g1_aa) rfl (by kernel_rfl) (by kernel_rfl) (by kernel_rfl) (fun _ _ _ h => h) (Or.inl ⟨by rfl, ?y13g1_aa⟩) (by assumption) ?r13g1_aa
        case y13g1_aa => (intro w hSw; (try dsimp only at hSw); go_simp; try rw [if_neg (by (try simp only [ByteArray.size_append]); omega)]; try with_reducible rfl)
        change wpAnyH _ _ _ _ _ _ _ (Act.put _ (some 25) _) _; simp only [Act.put, List.setIfInBounds_toArray, List.set_cons_zero, List.set_cons_succ]
        refine wpAnyH_take (i := 14) (v := ?v14g1_aa) rfl (by kernel_rfl) (by kernel_rfl) (by kernel_rfl) (fun _ _ _ h => h) (Or.inl ⟨by rfl, ?y14g1_aa⟩) (by assumption) ?r14g1_aa
        case y14g1_aa => (intro w hSw; (try dsimp only at hSw); go_simp; try with_reducible rfl)
        change wpAnyH _ _ _ _ _ _ _ (Act.put _ (some 7) _) _; simp only [Act.put, List.setIfInBounds_toArray, List.set_cons_zero, List.set_cons_succ]
        refine wpAnyH_done (by kernel_rfl) ?_ _
        refine NoPanic.normal ?_
        go_wp2_with fail
        go_meet
        exact ⟨by rw [← HHT.out], HB.out⟩
      · go_simp
        refine (HN1.out _).mono ?_
        rintro R w2 ⟨rfl, h2⟩
        try (have HCLn := Lib.hid (HCL.out.below h2 HCL.out.lt); clear HCL; have HCL := HCLn; clear HCLn)
        have HBn := Lib.hid (HB.out.trans (h2.mono HB.out.size))
        clear HB h2
        have HB := HBn
        clear HBn
        dsimp only
        refine hK.out _ _ ?_ (fun hHeld => ?_)
        · exact trivial
        clear hK K
        try simp only [Act.put, List.setIfInBounds_toArray, List.set_cons_zero, List.set_cons_succ]
        refine wpAnyH_ready (rs := [3, 11]) (by kernel_rfl) (by simp) ?_
        refine AllReadyH.cons rfl (fun K hK => ?_) (AllReadyH.cons rfl (fun K hK => ?_) AllReadyH.nil)
        · have hcl := HCL.out.cell 1
          simp only [List.getElem?_toArray, List.getElem?_cons_zero, List.getElem?_cons_succ] at hcl
          try (change World.cell? _ ⟨w.heap.size, 1, none⟩ = _ at hcl)
          go_simp
          clear hcl
          refine hK.out _ _ ?_ (fun hHeld => ?_)
          · exact trivial
          clear hK K
          try simp only [Act.put, List.setIfInBounds_toArray, List.set_cons_zero, List.set_cons_succ]
          refine wpAnyH_take (i := 4) (v := ?v4g1_aba) rfl (by kernel_rfl) (by kernel_rfl) (by kernel_rfl) (fun _ _ _ h => h) (Or.inl ⟨by rfl, ?y4g1_aba⟩) (by assumption) ?r4g1_aba
          case y4g1_aba => (intro w hSw; (try dsimp only at hSw); go_simp; exact rfl; try with_reducible rfl)
          change wpAnyH _ _ _ _ _ _ _ (Act.put _ (some 16) _) _; simp only [Act.put, List.setIfInBounds_toArray, List.set_cons_zero, List.set_cons_succ]
          refine wpAnyH_take (i := 8) (v := ?v8g1_aba) rfl (by kernel_rfl) (by kernel_rfl) (by kernel_rfl) (fun _ _ _ h => h) (Or.inl ⟨by rfl, ?y8g1_aba⟩) (by assumption) ?r8g1_aba
          case y8g1_aba => (intro w hSw; (try dsimp only at hSw); go_simp; try rw [if_neg (by (try simp only [ByteArray.size_append]); omega)]; try with_reducible rfl)
          change wpAnyH _ _ _ _ _ _ _ (Act.put _ (some 20) _) _; simp only [Act.put, List.setIfInBounds_toArray, List.set_cons_zero, List.set_cons_succ]
          refine wpAnyH_take (i := 9) (v := ?v9g1_aba) rfl (by kernel_rfl) (by kernel_rfl) (by kernel_rfl) (fun _ _ _ h => h) (Or.inl ⟨by rfl, ?y9g1_aba⟩) (by assumption) ?r9g1_aba
          case y9g1_aba => (intro w hSw; (try dsimp only at hSw); go_simp; try rw [if_neg (by (try simp only [ByteArray.size_append]); omega)]; try with_reducible rfl)
          change wpAnyH _ _ _ _ _ _ _ (Act.put _ (some 21) _) _; simp only [Act.put, List.setIfInBounds_toArray, List.set_cons_zero, List.set_cons_succ]
          refine wpAnyH_ready (rs := [11]) (by kernel_rfl) (by simp) ?_
          refine AllReadyH.cons rfl (fun K hK => ?_) AllReadyH.nil
          go_simp
          refine (HN2.out _).mono ?_
          rintro R w3 ⟨rfl, h3⟩
          try (have HCLn := Lib.hid (HCL.out.below h3 HCL.out.lt); clear HCL; have HCL := HCLn; clear HCLn)
          have HBn := Lib.hid (HB.out.trans (h3.mono HB.out.size))
          clear HB h3
          have HB := HBn
          clear HBn
          dsimp only
          refine hK.out _ _ ?_ (fun hHeld => ?_)
          · exact trivial
          clear hK K
          try simp only [Act.put, List.setIfInBounds_toArray, List.set_cons_zero, List.set_cons_succ]
          refine wpAnyH_take (i := 12) (v := ?v12g1_aba) rfl (by kernel_rfl) (by kernel_rfl) (by kernel_rfl) (fun _ _ _ h => h) (Or.inl ⟨by rfl, ?y12g1_aba⟩) (by assumption) ?r12g1_aba
          case y12g1_aba => (intro w hSw; (try dsimp only at hSw); go_simp; try rw [if_neg (by (try simp only [ByteArray.size_append]); omega)]; try with_reducible rfl)
          change wpAnyH _ _ _ _ _ _ _ (Act.put _ (some 24) _) _; simp only [Act.put, List.setIfInBounds_toArray, List.set_cons_zero, List.set_cons_succ]
          refine wpAnyH_take (i := 13) (v := ?v13g1_aba) rfl (by kernel_rfl) (by kernel_rfl) (by kernel_rfl) (fun _ _ _ h => h) (Or.inl ⟨by rfl, ?y13g1_aba⟩) (by assumption) ?r13g1_aba
          case y13g1_aba => (intro w hSw; (try dsimp only at hSw); go_simp; try rw [if_neg (by (try simp only [ByteArray.size_append]); omega)]; try with_reducible rfl)
          change wpAnyH _ _ _ _ _ _ _ (Act.put _ (some 25) _) _; simp only [Act.put, List.setIfInBounds_toArray, List.set_cons_zero, List.set_cons_succ]
          refine wpAnyH_take (i := 14) (v := ?v14g1_aba) rfl (by kernel_rfl) (by kernel_rfl) (by kernel_rfl) (fun _ _ _ h => h) (Or.inl ⟨by rfl, ?y14g1_aba⟩) (by assumption) ?r14g1_aba
          case y14g1_aba => (intro w hSw; (try dsimp only at hSw); go_simp; try with_reducible rfl)
          change wpAnyH _ _ _ _ _ _ _ (Act.put _ (some 7) _) _; simp only [Act.put, List.setIfInBounds_toArray, List.set_cons_zero, List.set_cons_succ]
          refine wpAnyH_done (by kernel_rfl) ?_ _
          refine NoPanic.normal ?_
          go_wp2_with fail
          go_meet
          exact ⟨by rw [← HHT.out], HB.out⟩
        · go_simp
          refine (HN2.out _).mono ?_
          rintro R w3 ⟨rfl, h3⟩
          try (have HCLn := Lib.hid (HCL.out.below h3 HCL.out.lt); clear HCL; have HCL := HCLn; clear HCLn)
          have HBn := Lib.hid (HB.out.trans (h3.mono HB.out.size))
          clear HB h3
          have HB := HBn
          clear HBn
          dsimp only
          refine hK.out _ _ ?_ (fun hHeld => ?_)
          · exact trivial
          clear hK K
          try simp only [Act.put, List.setIfInBounds_toArray, List.set_cons_zero, List.set_cons_succ]
          refine wpAnyH_ready (rs := [3]) (by kernel_rfl) (by simp) ?_
          refine AllReadyH.cons rfl (fun K hK => ?_) AllReadyH.nil
          have hcl := HCL.out.cell 1
          simp only [List.getElem?_toArray, List.getElem?_cons_zero, List.getElem?_cons_succ] at hcl
          try (change World.cell? _ ⟨w.heap.size, 1, none⟩ = _ at hcl)
          go_simp
          clear hcl
          refine hK.out _ _ ?_ (fun hHeld => ?_)
          · exact trivial
          clear hK K
          try simp only [Act.put, List.setIfInBounds_toArray, List.set_cons_zero, List.set_cons_succ]
          refine wpAnyH_take (i := 4) (v := ?v4g1_abb) rfl (by kernel_rfl) (by kernel_rfl) (by kernel_rfl) (fun _ _ _ h => h) (Or.inl ⟨by rfl, ?y4g1_abb⟩) (by assumption) ?r4g1_abb
          case y4g1_abb => (intro w hSw; (try dsimp only at hSw); go_simp; exact rfl; try with_reducible rfl)
          change wpAnyH _ _ _ _ _ _ _ (Act.put _ (some 16) _) _; simp only [Act.put, List.setIfInBounds_toArray, List.set_cons_zero, List.set_cons_succ]
          refine wpAnyH_take (i := 8) (v := ?v8g1_abb) rfl (by kernel_rfl) (by kernel_rfl) (by kernel_rfl) (fun _ _ _ h => h) (Or.inl ⟨by rfl, ?y8g1_abb⟩) (by assumption) ?r8g1_abb
          case y8g1_abb => (intro w hSw; (try dsimp only at hSw); go_simp; try rw [if_neg (by (try simp only [ByteArray.size_append]); omega)]; try with_reducible rfl)
          change wpAnyH _ _ _ _ _ _ _ (Act.put _ (some 20) _) _; simp only [Act.put, List.setIfInBounds_toArray, List.set_cons_zero, List.set_cons_succ]
          refine wpAnyH_take (i := 9) (v := ?v9g1_abb) rfl (by kernel_rfl) (by kernel_rfl) (by kernel_rfl) (fun _ _ _ h => h) (Or.inl ⟨by rfl, ?y9g1_abb⟩) (by assumption) ?r9g1_abb
          case y9g1_abb => (intro w hSw; (try dsimp only at hSw); go_simp; try rw [if_neg (by (try simp only [ByteArray.size_append]); omega)]; try with_reducible rfl)
          change wpAnyH _ _ _ _ _ _ _ (Act.put _ (some 21) _) _; simp only [Act.put, List.setIfInBounds_toArray, List.set_cons_zero, List.set_cons_succ]
          refine wpAnyH_take (i := 12) (v := ?v12g1_abb) rfl (by kernel_rfl) (by kernel_rfl) (by kernel_rfl) (fun _ _ _ h => h) (Or.inl ⟨by rfl, ?y12g1_abb⟩) (by assumption) ?r12g1_abb
          case y12g1_abb => (intro w hSw; (try dsimp only at hSw); go_simp; try rw [if_neg (by (try simp only [ByteArray.size_append]); omega)]; try with_reducible rfl)
          change wpAnyH _ _ _ _ _ _ _ (Act.put _ (some 24) _) _; simp only [Act.put, List.setIfInBounds_toArray, List.set_cons_zero, List.set_cons_succ]
          refine wpAnyH_take (i := 13) (v := ?v13g1_abb) rfl (by kernel_rfl) (by kernel_rfl) (by kernel_rfl) (fun _ _ _ h => h) (Or.inl ⟨by rfl, ?y13g1_abb⟩) (by assumption) ?r13g1_abb
          case y13g1_abb => (intro w hSw; (try dsimp only at hSw); go_simp; try rw [if_neg (by (try simp only [ByteArray.size_append]); omega)]; try with_reducible rfl)
          change wpAnyH _ _ _ _ _ _ _ (Act.put _ (some 25) _) _; simp only [Act.put, List.setIfInBounds_toArray, List.set_cons_zero, List.set_cons_succ]
          refine wpAnyH_take (i := 14) (v := ?v14g1_abb) rfl (by kernel_rfl) (by kernel_rfl) (by kernel_rfl) (fun _ _ _ h => h) (Or.inl ⟨by rfl, ?y14g1_abb⟩) (by assumption) ?r14g1_abb
          case y14g1_abb => (intro w hSw; (try dsimp only at hSw); go_simp; try with_reducible rfl)
          change wpAnyH _ _ _ _ _ _ _ (Act.put _ (some 7) _) _; simp only [Act.put, List.setIfInBounds_toArray, List.set_cons_zero, List.set_cons_succ]
          refine wpAnyH_done (by kernel_rfl) ?_ _
          refine NoPanic.normal ?_
          go_wp2_with fail
          go_meet
          exact ⟨by rw [← HHT.out], HB.out⟩
    · go_simp
      refine (HN1.out _).mono ?_
      rintro R w2 ⟨rfl, h2⟩
      try (have HCLn := Lib.hid (HCL.out.below h2 HCL.out.lt); clear HCL; have HCL := HCLn; clear HCLn)
      have HBn := Lib.hid (HB.out.trans (h2.mono HB.out.size))
      clear HB h2
      have HB := HBn
      clear HBn
      dsimp only
      refine hK.out _ _ ?_ (fun hHeld => ?_)
      · exact trivial
      clear hK K
      try simp only [Act.put, List.setIfInBounds_toArray, List.set_cons_zero, List.set_cons_succ]
      refine wpAnyH_ready (rs := [0, 11]) (by kernel_rfl) (by simp) ?_
      refine AllReadyH.cons rfl (fun K hK => ?_) (AllReadyH.cons rfl (fun K hK => ?_) AllReadyH.nil)
      · go_simp
        have HCL := Lib.hid ((fun {W : World} (_ : Below w.heap.size w W) => Blk.new W 9 #[.string ⟨#[]⟩, .string ⟨#[114, 97, 110, 107]⟩, .string ⟨#[108, 97, 98, 101, 108]⟩, .string ⟨#[112, 97, 116, 104, 115]⟩]) HB.out)
        have HBn := Lib.hid (HB.out.alloc HB.out.size (.cells #[.string ⟨#[]⟩, .string ⟨#[114, 97, 110, 107]⟩, .string ⟨#[108, 97, 98, 101, 108]⟩, .string ⟨#[112, 97, 116, 104, 115]⟩] 9))
        clear HB
        have HB := HBn
        clear HBn
        refine hK.out _ _ ?_ (fun hHeld => ?_)
        · exact trivial
        clear hK K
        try simp only [Act.put, List.setIfInBounds_toArray, List.set_cons_zero, List.set_cons_succ]
        refine wpAnyH_take (i := 2) (v := ?v2g1_ba) rfl (by kernel_rfl) (by kernel_rfl) (by kernel_rfl) (fun _ _ _ h => h) (Or.inl ⟨by rfl, ?y2g1_ba⟩) (by assumption) ?r2g1_ba
        case y2g1_ba => (intro w hSw; (try dsimp only at hSw); go_simp; try with_reducible rfl)
        change wpAnyH _ _ _ _ _ _ _ (Act.put _ (some 14) _) _; simp only [Act.put, List.setIfInBounds_toArray, List.set_cons_zero, List.set_cons_succ]
        refine wpAnyH_ready (rs := [3, 11]) (by kernel_rfl) (by simp) ?_
        refine AllReadyH.cons rfl (fun K hK => ?_) (AllReadyH.cons rfl (fun K hK => ?_) AllReadyH.nil)
        · have hcl := HCL.out.cell 1
          simp only [List.getElem?_toArray, List.getElem?_cons_zero, List.getElem?_cons_succ] at hcl
          try (change World.cell? _ ⟨w.heap.size, 1, none⟩ = _ at hcl)
          go_simp
          clear hcl
          refine hK.out _ _ ?_ (fun hHeld => ?_)
          · exact trivial
          clear hK K
          try simp only [Act.put, List.setIfInBounds_toArray, List.set_cons_zero, List.set_cons_succ]
          refine wpAnyH_take (i := 4) (v := ?v4g1_baa) rfl (by kernel_rfl) (by kernel_rfl) (by kernel_rfl) (fun _ _ _ h => h) (Or.inl ⟨by rfl, ?y4g1_baa⟩) (by assumption) ?r4g1_baa
          case y4g1_baa => (intro w hSw; (try dsimp only at hSw); go_simp; exact rfl; try with_reducible rfl)
          change wpAnyH _ _ _ _ _ _ _ (Act.put _ (some 16) _) _; simp only [Act.put, List.setIfInBounds_toArray, List.set_cons_zero, List.set_cons_succ]
          refine wpAnyH_take (i := 8) (v := ?v8g1_baa) rfl (by kernel_rfl) (by kernel_rfl) (by kernel_rfl) (fun _ _ _ h => h) (Or.inl ⟨by rfl, ?y8g1_baa⟩) (by assumption) ?r8g1_baa
          case y8g1_baa => (intro w hSw; (try dsimp only at hSw); go_simp; try rw [if_neg (by (try simp only [ByteArray.size_append]); omega)]; try with_reducible rfl)
          change wpAnyH _ _ _ _ _ _ _ (Act.put _ (some 20) _) _; simp only [Act.put, List.setIfInBounds_toArray, List.set_cons_zero, List.set_cons_succ]
          refine wpAnyH_take (i := 9) (v := ?v9g1_baa) rfl (by kernel_rfl) (by kernel_rfl) (by kernel_rfl) (fun _ _ _ h => h) (Or.inl ⟨by rfl, ?y9g1_baa⟩) (by assumption) ?r9g1_baa
          case y9g1_baa => (intro w hSw; (try dsimp only at hSw); go_simp; try rw [if_neg (by (try simp only [ByteArray.size_append]); omega)]; try with_reducible rfl)
          change wpAnyH _ _ _ _ _ _ _ (Act.put _ (some 21) _) _; simp only [Act.put, List.setIfInBounds_toArray, List.set_cons_zero, List.set_cons_succ]
          refine wpAnyH_ready (rs := [11]) (by kernel_rfl) (by simp) ?_
          refine AllReadyH.cons rfl (fun K hK => ?_) AllReadyH.nil
          go_simp
          refine (HN2.out _).mono ?_
          rintro R w3 ⟨rfl, h3⟩
          try (have HCLn := Lib.hid (HCL.out.below h3 HCL.out.lt); clear HCL; have HCL := HCLn; clear HCLn)
          have HBn := Lib.hid (HB.out.trans (h3.mono HB.out.size))
          clear HB h3
          have HB := HBn
          clear HBn
          dsimp only
          refine hK.out _ _ ?_ (fun hHeld => ?_)
          · exact trivial
          clear hK K
          try simp only [Act.put, List.setIfInBounds_toArray, List.set_cons_zero, List.set_cons_succ]
          refine wpAnyH_take (i := 12) (v := ?v12g1_baa) rfl (by kernel_rfl) (by kernel_rfl) (by kernel_rfl) (fun _ _ _ h => h) (Or.inl ⟨by rfl, ?y12g1_baa⟩) (by assumption) ?r12g1_baa
          case y12g1_baa => (intro w hSw; (try dsimp only at hSw); go_simp; try rw [if_neg (by (try simp only [ByteArray.size_append]); omega)]; try with_reducible rfl)
          change wpAnyH _ _ _ _ _ _ _ (Act.put _ (some 24) _) _; simp only [Act.put, List.setIfInBounds_toArray, List.set_cons_zero, List.set_cons_succ]
          refine wpAnyH_take (i := 13) (v := ?v13g1_baa) rfl (by kernel_rfl) (by kernel_rfl) (by kernel_rfl) (fun _ _ _ h => h) (Or.inl ⟨by rfl, ?y13g1_baa⟩) (by assumption) ?r13g1_baa
          case y13g1_baa => (intro w hSw; (try dsimp only at hSw); go_simp; try rw [if_neg (by (try simp only [ByteArray.size_append]); omega)]; try with_reducible rfl)
          change wpAnyH _ _ _ _ _ _ _ (Act.put _ (some 25) _) _; simp only [Act.put, List.setIfInBounds_toArray, List.set_cons_zero, List.set_cons_succ]
          refine wpAnyH_take (i := 14) (v := ?v14g1_baa) rfl (by kernel_rfl) (by kernel_rfl) (by kernel_rfl) (fun _ _ _ h => h) (Or.inl ⟨by rfl, ?y14g1_baa⟩) (by assumption) ?r14g1_baa
          case y14g1_baa => (intro w hSw; (try dsimp only at hSw); go_simp; try with_reducible rfl)
          change wpAnyH _ _ _ _ _ _ _ (Act.put _ (some 7) _) _; simp only [Act.put, List.setIfInBounds_toArray, List.set_cons_zero, List.set_cons_succ]
          refine wpAnyH_done (by kernel_rfl) ?_ _
          refine NoPanic.normal ?_
          go_wp2_with fail
          go_meet
          exact ⟨by rw [← HHT.out], HB.out⟩
        · go_simp
          refine (HN2.out _).mono ?_
          rintro R w3 ⟨rfl, h3⟩
          try (have HCLn := Lib.hid (HCL.out.below h3 HCL.out.lt); clear HCL; have HCL := HCLn; clear HCLn)
          have HBn := Lib.hid (HB.out.trans (h3.mono HB.out.size))
          clear HB h3
          have HB := HBn
          clear HBn
          dsimp only
          refine hK.out _ _ ?_ (fun hHeld => ?_)
          · exact trivial
          clear hK K
          try simp only [Act.put, List.setIfInBounds_toArray, List.set_cons_zero, List.set_cons_succ]
          refine wpAnyH_ready (rs := [3]) (by kernel_rfl) (by simp) ?_
          refine AllReadyH.cons rfl (fun K hK => ?_) AllReadyH.nil
          have hcl := HCL.out.cell 1
          simp only [List.getElem?_toArray, List.getElem?_cons_zero, List.getElem?_cons_succ] at hcl
          try (change World.cell? _ ⟨w.heap.size, 1, none⟩ = _ at hcl)
          go_simp
          clear hcl
          refine hK.out _ _ ?_ (fun hHeld => ?_)
          · exact trivial
          clear hK K
          try simp only [Act.put, List.setIfInBounds_toArray, List.set_cons_zero, List.set_cons_succ]
          refine wpAnyH_take (i := 4) (v := ?v4g1_bab) rfl (by kernel_rfl) (by kernel_rfl) (by kernel_rfl) (fun _ _ _ h => h) (Or.inl ⟨by rfl, ?y4g1_bab⟩) (by assumption) ?r4g1_bab
          case y4g1_bab => (intro w hSw; (try dsimp only at hSw); go_simp; exact rfl; try with_reducible rfl)
          change wpAnyH _ _ _ _ _ _ _ (Act.put _ (some 16) _) _; simp only [Act.put, List.setIfInBounds_toArray, List.set_cons_zero, List.set_cons_succ]
          refine wpAnyH_take (i := 8) (v := ?v8g1_bab) rfl (by kernel_rfl) (by kernel_rfl) (by kernel_rfl) (fun _ _ _ h => h) (Or.inl ⟨by rfl, ?y8g1_bab⟩) (by assumption) ?r8g1_bab
          case y8g1_bab => (intro w hSw; (try dsimp only at hSw); go_simp; try rw [if_neg (by (try simp only [ByteArray.size_append]); omega)]; try with_reducible rfl)
          change wpAnyH _ _ _ _ _ _ _ (Act.put _ (some 20) _) _; simp only [Act.put, List.setIfInBounds_toArray, List.set_cons_zero, List.set_cons_succ]
          refine wpAnyH_take (i := 9) (v := ?v9g1_bab) rfl (by kernel_rfl) (by kernel_rfl) (by kernel_rfl) (fun _ _ _ h => h) (Or.inl ⟨by rfl, ?y9g1_bab⟩) (by assumption) ?r9g1_bab
          case y9g1_bab => (intro w hSw; (try dsimp only at hSw); go_simp; try rw [if_neg (by (try simp only [ByteArray.size_append]); omega)]; try with_reducible rfl)
          change wpAnyH _ _ _ _ _ _ _ (Act.put _ (some 21) _) _; simp only [Act.put, List.setIfInBounds_toArray, List.set_cons_zero, List.set_cons_succ]
          refine wpAnyH_take (i := 12) (v := ?v12g1_bab) rfl (by kernel_rfl) (by kernel_rfl) (by kernel_rfl) (fun _ _ _ h => h) (Or.inl ⟨by rfl, ?y12g1_bab⟩) (by assumption) ?r12g1_bab
          case y12g1_bab => (intro w hSw; (try dsimp only at hSw); go_simp; try rw [if_neg (by (try simp only [ByteArray.size_append]); omega)]; try with_reducible rfl)
          change wpAnyH _ _ _ _ _ _ _ (Act.put _ (some 24) _) _; simp only [Act.put, List.setIfInBounds_toArray, List.set_cons_zero, List.set_cons_succ]
          refine wpAnyH_take (i := 13) (v := ?v13g1_bab) rfl (by kernel_rfl) (by kernel_rfl) (by kernel_rfl) (fun _ _ _ h => h) (Or.inl ⟨by rfl, ?y13g1_bab⟩) (by assumption) ?r13g1_bab
          case y13g1_bab => (intro w hSw; (try dsimp only at hSw); go_simp; try rw [if_neg (by (try simp only [ByteArray.size_append]); omega)]; try with_reducible rfl)
          change wpAnyH _ _ _ _ _ _ _ (Act.put _ (some 25) _) _; simp only [Act.put, List.setIfInBounds_toArray, List.set_cons_zero, List.set_cons_succ]
          refine wpAnyH_take (i := 14) (v := ?v14g1_bab) rfl (by kernel_rfl) (by kernel_rfl) (by kernel_rfl) (fun _ _ _ h => h) (Or.inl ⟨by rfl, ?y14g1_bab⟩) (by assumption) ?r14g1_bab
          case y14g1_bab => (intro w hSw; (try dsimp only at hSw); go_simp; try with_reducible rfl)
          change wpAnyH _ _ _ _ _ _ _ (Act.put _ (some 7) _) _; simp only [Act.put, List.setIfInBounds_toArray, List.set_cons_zero, List.set_cons_succ]
          refine wpAnyH_done (by kernel_rfl) ?_ _
          refine NoPanic.normal ?_
          go_wp2_with fail
          go_meet
          exact ⟨by rw [← HHT.out], HB.out⟩
      · go_simp
        refine (HN2.out _).mono ?_
        rintro R w3 ⟨rfl, h3⟩
        try (have HCLn := Lib.hid (HCL.out.below h3 HCL.out.lt); clear HCL; have HCL := HCLn; clear HCLn)
        have HBn := Lib.hid (HB.out.trans (h3.mono HB.out.size))
        clear HB h3
        have HB := HBn
        clear HBn
        dsimp only
        refine hK.out _ _ ?_ (fun hHeld => ?_)
        · exact trivial
        clear hK K
        try simp only [Act.put, List.setIfInBounds_toArray, List.set_cons_zero, List.set_cons_succ]
        refine wpAnyH_ready (rs := [0]) (by kernel_rfl) (by simp) ?_
        refine AllReadyH.cons rfl (fun K hK => ?_) AllReadyH.nil
        go_simp
        have HCL := Lib.hid ((fun {W : World} (_ : Below w.heap.size w W) => Blk.new W 9 #[.string ⟨#[]⟩, .string ⟨#[114, 97, 110, 107]⟩, .string ⟨#[108, 97, 98, 101, 108]⟩, .string ⟨#[112, 97, 116, 104, 115]⟩]) HB.out)
        have HBn := Lib.hid (HB.out.alloc HB.out.size (.cells #[.string ⟨#[]⟩, .string ⟨#[114, 97, 110, 107]⟩, .string ⟨#[108, 97, 98, 101, 108]⟩, .string ⟨#[112, 97, 116, 104, 115]⟩] 9))
        clear HB
        have HB := HBn
        clear HBn
        refine hK.out _ _ ?_ (fun hHeld => ?_)
        · exact trivial
        clear hK K
        try simp only [Act.put, List.setIfInBounds_toArray, List.set_cons_zero, List.set_cons_succ]
        refine wpAnyH_take (i := 2) (v := ?v2g1_bb) rfl (by kernel_rfl) (by kernel_rfl) (by kernel_rfl) (fun _ _ _ h => h) (Or.inl ⟨by rfl, ?y2g1_bb⟩) (by assumption) ?r2g1_bb
        case y2g1_bb => (intro w hSw; (try dsimp only at hSw); go_simp; try with_reducible rfl)
        change wpAnyH _ _ _ _ _ _ _ (Act.put _ (some 14) _) _; simp only [Act.put, List.setIfInBounds_toArray, List.set_cons_zero, List.set_cons_succ]
        refine wpAnyH_ready (rs := [3]) (by kernel_rfl) (by simp) ?_
        refine AllReadyH.cons rfl (fun K hK => ?_) AllReadyH.nil
        have hcl := HCL.out.cell 1
        simp only [List.getElem?_toArray, List.getElem?_cons_zero, List.getElem?_cons_succ] at hcl
        try (change World.cell? _ ⟨w.heap.size, 1, none⟩ = _ at hcl)
        go_simp
        clear hcl
        refine hK.out _ _ ?_ (fun hHeld => ?_)
        · exact trivial
        clear hK K
        try simp only [Act.put, List.setIfInBounds_toArray, List.set_cons_zero, List.set_cons_succ]
        refine wpAnyH_take (i := 4) (v := ?v4g1_bb) rfl (by kernel_rfl) (by kernel_rfl) (by kernel_rfl) (fun _ _ _ h => h) (Or.inl ⟨by rfl, ?y4g1_bb⟩) (by assumption) ?r4g1_bb
        case y4g1_bb => (intro w hSw; (try dsimp only at hSw); go_simp; exact rfl; try with_reducible rfl)
        change wpAnyH _ _ _ _ _ _ _ (Act.put _ (some 16) _) _; simp only [Act.put, List.setIfInBounds_toArray, List.set_cons_zero, List.set_cons_succ]
        refine wpAnyH_take (i := 8) (v := ?v8g1_bb) rfl (by kernel_rfl) (by kernel_rfl) (by kernel_rfl) (fun _ _ _ h => h) (Or.inl ⟨by rfl, ?y8g1_bb⟩) (by assumption) ?r8g1_bb
        case y8g1_bb => (intro w hSw; (try dsimp only at hSw); go_simp; try rw [if_neg (by (try simp only [ByteArray.size_append]); omega)]; try with_reducible rfl)
        change wpAnyH _ _ _ _ _ _ _ (Act.put _ (some 20) _) _; simp only [Act.put, List.setIfInBounds_toArray, List.set_cons_zero, List.set_cons_succ]
        refine wpAnyH_take (i := 9) (v := ?v9g1_bb) rfl (by kernel_rfl) (by kernel_rfl) (by kernel_rfl) (fun _ _ _ h => h) (Or.inl ⟨by rfl, ?y9g1_bb⟩) (by assumption) ?r9g1_bb
        case y9g1_bb => (intro w hSw; (try dsimp only at hSw); go_simp; try rw [if_neg (by (try simp only [ByteArray.size_append]); omega)]; try with_reducible rfl)
        change wpAnyH _ _ _ _ _ _ _ (Act.put _ (some 21) _) _; simp only [Act.put, List.setIfInBounds_toArray, List.set_cons_zero, List.set_cons_succ]
        refine wpAnyH_take (i := 12) (v := ?v12g1_bb) rfl (by kernel_rfl) (by kernel_rfl) (by kernel_rfl) (fun _ _ _ h => h) (Or.inl ⟨by rfl, ?y12g1_bb⟩) (by assumption) ?r12g1_bb
        case y12g1_bb => (intro w hSw; (try dsimp only at hSw); go_simp; try rw [if_neg (by (try simp only [ByteArray.size_append]); omega)]; try with_reducible rfl)
        change wpAnyH _ _ _ _ _ _ _ (Act.put _ (some 24) _) _; simp only [Act.put, List.setIfInBounds_toArray, List.set_cons_zero, List.set_cons_succ]
        refine wpAnyH_take (i := 13) (v := ?v13g1_bb) rfl (by kernel_rfl) (by kernel_rfl) (by kernel_rfl) (fun _ _ _ h => h) (Or.inl ⟨by rfl, ?y13g1_bb⟩) (by assumption) ?r13g1_bb
        case y13g1_bb => (intro w hSw; (try dsimp only at hSw); go_simp; try rw [if_neg (by (try simp only [ByteArray.size_append]); omega)]; try with_reducible rfl)
        change wpAnyH _ _ _ _ _ _ _ (Act.put _ (some 25) _) _; simp only [Act.put, List.setIfInBounds_toArray, List.set_cons_zero, List.set_cons_succ]
        refine wpAnyH_take (i := 14) (v := ?v14g1_bb) rfl (by kernel_rfl) (by kernel_rfl) (by kernel_rfl) (fun _ _ _ h => h) (Or.inl ⟨by rfl, ?y14g1_bb⟩) (by assumption) ?r14g1_bb
        case y14g1_bb => (intro w hSw; (try dsimp only at hSw); go_simp; try with_reducible rfl)
        change wpAnyH _ _ _ _ _ _ _ (Act.put _ (some 7) _) _; simp only [Act.put, List.setIfInBounds_toArray, List.set_cons_zero, List.set_cons_succ]
        refine wpAnyH_done (by kernel_rfl) ?_ _
        refine NoPanic.normal ?_
        go_wp2_with fail
        go_meet
        exact ⟨by rw [← HHT.out], HB.out⟩
  case rest =>
    obtain ⟨rfl, hbc⟩ := hcut
    clear HB
    have HB := Lib.hid hbc
    clear hbc HHT hkz hz1 hz2 hp1 hp2 HN1 HN2
    go_wp2_with fail
    go_loopg [7, 8] vs.length (fun gf v7 v8 wr => ∃ i : Nat, v8 = .int .i64 i ∧ v7 = .string (ba (doneL 1 step vs i)) ∧ i + gf = vs.length ∧ Below w.heap.size w wr)
    case atStart => exact ⟨0, rfl, rfl, by omega, HB.out⟩
    case round =>
      clear HB
      obtain ⟨i, rfl, rfl, hi, hb⟩ := hrel
      have HB := Lib.hid hb
      have hlen := done_len (k := 1) (step := step) HV.out i (by omega)
      have htz := size_ba (doneL 1 step vs i)
      clear hb
      cases gk with
      | zero =>
        obtain rfl : i = vs.length := by omega
        have hfin : textL 1 step vs = doneL 1 step vs vs.length := textL_done _ _ _ (by decide)
        have HFIN := Lib.hid hfin
        clear hfin hlen htz
        go_wp2
        go_ret
        exact ⟨by unfold textB; rw [HFIN.out]; rfl, HB.out⟩
      | succ gf =>
        have hil : i < vs.length := by omega
        have hiI : (i : Int) < (vs.length : Int) := by omega
        obtain ⟨ad, u, rfl, hu, hc⟩ := (HR.out.below HB.out).at_ (k := i) hil
        obtain ⟨x, rfl⟩ := i64_of hu
        have hgx := getD_of hu
        have hxv := val_at HV.out hil
        rw [hgx] at hxv
        have hp1 := printOf_sz (i : Int); have hp2 := printOf_sz x
        have hrt := fun W => row_text 1 step vs i W
        rw [hgx] at hrt
        obtain ⟨T, hT⟩ : ∃ T, ba (doneL 1 step vs i) = T := ⟨_, rfl⟩
        obtain ⟨P1, hP1⟩ : ∃ T, printOf (i : Int) 0 = T := ⟨_, rfl⟩
        obtain ⟨P2, hP2⟩ : ∃ T, printOf x 0 = T := ⟨_, rfl⟩
        have HNi := Lib.hid (fun (W : World) => (show Calls Tryd.prog 38 #[.int .i64 i] W fun e w' => e = .returned (.string P1) ∧ Below W.heap.size W w' by rw [← hP1]; exact rdg_any W _ (by omega) (by omega)))
        unfold topI at hxv
        have HNx := Lib.hid (fun (W : World) => (show Calls Tryd.prog 38 #[.int .i64 x] W fun e w' => e = .returned (.string P2) ∧ Below W.heap.size W w' by rw [← hP2]; exact rdg_any W _ (by omega) (by omega)))
        rw [hT] at htz hrt ⊢
        rw [hP1] at hp1 hrt
        rw [hP2] at hp2
        have HRT := Lib.hid hrt; have HP2 := Lib.hid hP2
        have hz1 : (⟨#[32]⟩ : ByteArray).size = 1 := rfl
        have hz2 : (⟨#[10]⟩ : ByteArray).size = 1 := rfl
        clear hgx hu hrt hT hP1 hP2
        go_wp2_with fail
        refine (HNx.out _).mono ?_
        rintro e w2 ⟨rfl, h2⟩
        have HB2 := Lib.hid (HB.out.trans (h2.mono HB.out.size))
        have hcx := (h2.cell (p := ad.add i) (World.block_lt_of_cell? _ _ hc)).trans hc
        clear h2
        have hf3 := fixText_sz x.toNat (by omega)
        obtain ⟨P3, hP3⟩ : ∃ T, fixText x.toNat = T := ⟨_, rfl⟩
        have HFx := Lib.hid (fun (W : World) => HFX.out W x (by omega) (by omega))
        rw [hP3] at HFx hf3
        have HP3 := Lib.hid hP3
        clear hP3
        go_wp2_with fail
        refine (HFx.out _).mono ?_
        rintro e w3 ⟨rfl, h3⟩
        have HB3 := Lib.hid (HB2.out.trans (h3.mono HB2.out.size))
        clear h3
        go_wp2_with fail
        refine (HNi.out _).mono ?_
        rintro e w4 ⟨rfl, h4⟩
        have HB4 := Lib.hid (HB3.out.trans (h4.mono HB3.out.size))
        have HE := Lib.hid (HRT.out (P2 ++ ⟨#[32]⟩ ++ P3) (by rw [← HP2.out, ← HP3.out]; simp [rowW, joinB, prL, ByteArray.data_append]))
        clear h4
        go_wp2
        go_roundg gf
        case measure => omega
        case rel => exact ⟨i + 1, by go_num, by rw [← HE.out], by omega, HB4.out⟩
set_option maxRecDepth 100000 in
set_option maxHeartbeats 8000000 in
theorem rtext_2 (w : World) (step : Int) (A : Option Addr) (c : Nat) (vs : List Int) (hr : Rd w 1 A vs.length (vs.map (Value.int .i64))) (hR : Rep 2 step vs) :
    Calls Tryd.prog 19 #[.int .u8 2, .int .i64 step, .slice A vs.length c] w fun e w' => e = .returned (.string (textB 2 step vs)) ∧ Below w.heap.size w w' := by
  have hstep := hR.step; have hn := hR.n; have hvals := hR.vals
  have HN := Lib.hid rdg_any; have HV := Lib.hid hvals; have HR := Lib.hid hr; have HRR := Lib.hid hR
  have HFX := Lib.hid (fun (W : World) (x : Int) (h1 : 0 ≤ x) (h2 : x ≤ 9223372036854775807) => (show Calls Tryd.prog 39 #[.int .i64 x] W fun e w' => e = .returned (.string (fixText x.toNat)) ∧ Below W.heap.size W w' by
    have h := rtext_any W x.toNat (by omega)
    rwa [Int.toNat_of_nonneg h1] at h))
  have hp1 := printOf_sz (vs.length : Int); have hp2 := printOf_sz step
  have hht := head_text 2 step vs ⟨#[108, 97, 98, 101, 108]⟩ rfl
  obtain ⟨P, hP⟩ : ∃ P, printOf (vs.length : Int) 0 = P := ⟨_, rfl⟩
  obtain ⟨Q, hQ⟩ : ∃ Q, printOf step 0 = Q := ⟨_, rfl⟩
  have HN1 := Lib.hid (fun (W : World) => (show Calls Tryd.prog 38 #[.int .i64 vs.length] W fun e w' => e = .returned (.string P) ∧ Below W.heap.size W w' by rw [← hP]; exact rdg_any W _ (by omega) (by omega)))
  have HN2 := Lib.hid (fun (W : World) => (show Calls Tryd.prog 38 #[.int .i64 step] W fun e w' => e = .returned (.string Q) ∧ Below W.heap.size W w' by rw [← hQ]; exact rdg_any W _ (by omega) (by omega)))
  rw [hP] at hp1 hht
  rw [hQ] at hp2 hht
  have hkz : (⟨#[108, 97, 98, 101, 108]⟩ : ByteArray).size = 5 := rfl
  have hz1 : (⟨#[32]⟩ : ByteArray).size = 1 := rfl
  have hz2 : (⟨#[10]⟩ : ByteArray).size = 1 := rfl
  have HHT := Lib.hid hht
  have HB := Lib.hid ((Below.refl w.heap.size w).drew)
  clear hvals hr hR hP hQ hht
  go_enter Tryd.func19, Tryd.ntmps19
  go_upto_region 1 with (fail)
  go_cut [7] (fun s7 wx => s7 = .string (ba (doneL 2 step vs 0)) ∧ Below w.heap.size w wx)
  case first =>
    refine wp_region_noPanic ?_
    refine wp_region_held_drew (S := (fun _ => True)) (by kernel_rfl) ?_ (fun hHeld => ?_)
    · exact trivial
    refine wpAnyH_take (i := 1) (v := ?v1g2_) rfl (by kernel_rfl) (by kernel_rfl) (by kernel_rfl) (fun _ _ _ h => h) (Or.inl ⟨by rfl, ?y1g2_⟩) (by assumption) ?r1g2_
    case y1g2_ => (intro w hSw; (try dsimp only at hSw); go_simp; try with_reducible rfl)
    change wpAnyH _ _ _ _ _ _ _ (Act.put _ (some 13) _) _; simp only [Act.put, List.setIfInBounds_toArray, List.set_cons_zero, List.set_cons_succ]
    refine wpAnyH_take (i := 5) (v := ?v5g2_) rfl (by kernel_rfl) (by kernel_rfl) (by kernel_rfl) (fun _ _ _ h => h) (Or.inl ⟨by rfl, ?y5g2_⟩) (by assumption) ?r5g2_
    case y5g2_ => (intro w hSw; (try dsimp only at hSw); go_simp; try with_reducible rfl)
    change wpAnyH _ _ _ _ _ _ _ (Act.put _ (some 17) _) _; simp only [Act.put, List.setIfInBounds_toArray, List.set_cons_zero, List.set_cons_succ]
    refine wpAnyH_take (i := 6) (v := ?v6g2_) rfl (by kernel_rfl) (by kernel_rfl) (by kernel_rfl) (fun _ _ _ h => h) (Or.inl ⟨by rfl, ?y6g2_⟩) (by assumption) ?r6g2_
    case y6g2_ => (intro w hSw; (try dsimp only at hSw); go_simp; try with_reducible rfl)
    change wpAnyH _ _ _ _ _ _ _ (Act.put _ (some 18) _) _; simp only [Act.put, List.setIfInBounds_toArray, List.set_cons_zero, List.set_cons_succ]
    refine wpAnyH_take (i := 10) (v := ?v10g2_) rfl (by kernel_rfl) (by kernel_rfl) (by kernel_rfl) (fun _ _ _ h => h) (Or.inl ⟨by rfl, ?y10g2_⟩) (by assumption) ?r10g2_
    case y10g2_ => (intro w hSw; (try dsimp only at hSw); go_simp; try with_reducible rfl)
    change wpAnyH _ _ _ _ _ _ _ (Act.put _ (some 22) _) _; simp only [Act.put, List.setIfInBounds_toArray, List.set_cons_zero, List.set_cons_succ]
    refine wpAnyH_ready (rs := [0, 7]) (by kernel_rfl) (by simp) ?_
    refine AllReadyH.cons rfl (fun K hK => ?_) (AllReadyH.cons rfl (fun K hK => ?_) AllReadyH.nil)
    · go_simp
      have HCL := Lib.hid ((fun {W : World} (_ : Below w.heap.size w W) => Blk.new W 9 #[.string ⟨#[]⟩, .string ⟨#[114, 97, 110, 107]⟩, .string ⟨#[108, 97, 98, 101, 108]⟩, .string ⟨#[112, 97, 116, 104, 115]⟩]) HB.out)
      have HBn := Lib.hid (HB.out.alloc HB.out.size (.cells #[.string ⟨#[]⟩, .string ⟨#[114, 97, 110, 107]⟩, .string ⟨#[108, 97, 98, 101, 108]⟩, .string ⟨#[112, 97, 116, 104, 115]⟩] 9))
      clear HB
      have HB := HBn
      clear HBn
      refine hK.out _ _ ?_ (fun hHeld => ?_)
      · exact trivial
      clear hK K
      try simp only [Act.put, List.setIfInBounds_toArray, List.set_cons_zero, List.set_cons_succ]
      refine wpAnyH_take (i := 2) (v := ?v2g2_a) rfl (by kernel_rfl) (by kernel_rfl) (by kernel_rfl) (fun _ _ _ h => h) (Or.inl ⟨by rfl, ?y2g2_a⟩) (by assumption) ?r2g2_a
      case y2g2_a => (intro w hSw; (try dsimp only at hSw); go_simp; try with_reducible rfl)
      change wpAnyH _ _ _ _ _ _ _ (Act.put _ (some 14) _) _; simp only [Act.put, List.setIfInBounds_toArray, List.set_cons_zero, List.set_cons_succ]
      refine wpAnyH_ready (rs := [3, 7]) (by kernel_rfl) (by simp) ?_
      refine AllReadyH.cons rfl (fun K hK => ?_) (AllReadyH.cons rfl (fun K hK => ?_) AllReadyH.nil)
      · have hcl := HCL.out.cell 2
        simp only [List.getElem?_toArray, List.getElem?_cons_zero, List.getElem?_cons_succ] at hcl
        try (change World.cell? _ ⟨w.heap.size, 2, none⟩ = _ at hcl)
        go_simp
        clear hcl
        refine hK.out _ _ ?_ (fun hHeld => ?_)
        · exact trivial
        clear hK K
        try simp only [Act.put, List.setIfInBounds_toArray, List.set_cons_zero, List.set_cons_succ]
        refine wpAnyH_take (i := 4) (v := ?v4g2_aa) rfl (by kernel_rfl) (by kernel_rfl) (by kernel_rfl) (fun _ _ _ h => h) (Or.inl ⟨by rfl, ?y4g2_aa⟩) (by assumption) ?r4g2_aa
        case y4g2_aa => (intro w hSw; (try dsimp only at hSw); go_simp; exact rfl; try with_reducible rfl)
        change wpAnyH _ _ _ _ _ _ _ (Act.put _ (some 16) _) _; simp only [Act.put, List.setIfInBounds_toArray, List.set_cons_zero, List.set_cons_succ]
        refine wpAnyH_ready (rs := [7]) (by kernel_rfl) (by simp) ?_
        refine AllReadyH.cons rfl (fun K hK => ?_) AllReadyH.nil
        go_simp
        refine (HN1.out _).mono ?_
        rintro R w2 ⟨rfl, h2⟩
        try (have HCLn := Lib.hid (HCL.out.below h2 HCL.out.lt); clear HCL; have HCL := HCLn; clear HCLn)
        have HBn := Lib.hid (HB.out.trans (h2.mono HB.out.size))
        clear HB h2
        have HB := HBn
        clear HBn
        dsimp only
        refine hK.out _ _ ?_ (fun hHeld => ?_)
        · exact trivial
        clear hK K
        try simp only [Act.put, List.setIfInBounds_toArray, List.set_cons_zero, List.set_cons_succ]
        refine wpAnyH_take (i := 8) (v := ?v8g2_aa) rfl (by kernel_rfl) (by kernel_rfl) (by kernel_rfl) (fun _ _ _ h => h) (Or.inl ⟨by rfl, ?y8g2_aa⟩) (by assumption) ?r8g2_aa
        case y8g2_aa => (intro w hSw; (try dsimp only at hSw); go_simp; try rw [if_neg (by (try simp only [ByteArray.size_append]); omega)]; try with_reducible rfl)
        change wpAnyH _ _ _ _ _ _ _ (Act.put _ (some 20) _) _; simp only [Act.put, List.setIfInBounds_toArray, List.set_cons_zero, List.set_cons_succ]
        refine wpAnyH_take (i := 9) (v := ?v9g2_aa) rfl (by kernel_rfl) (by kernel_rfl) (by kernel_rfl) (fun _ _ _ h => h) (Or.inl ⟨by rfl, ?y9g2_aa⟩) (by assumption) ?r9g2_aa
        case y9g2_aa => (intro w hSw; (try dsimp only at hSw); go_simp; try rw [if_neg (by (try simp only [ByteArray.size_append]); omega)]; try with_reducible rfl)
        change wpAnyH _ _ _ _ _ _ _ (Act.put _ (some 21) _) _; simp only [Act.put, List.setIfInBounds_toArray, List.set_cons_zero, List.set_cons_succ]
        refine wpAnyH_ready (rs := [11]) (by kernel_rfl) (by simp) ?_
        refine AllReadyH.cons rfl (fun K hK => ?_) AllReadyH.nil
        go_simp
        refine (HN2.out _).mono ?_
        rintro R w3 ⟨rfl, h3⟩
        try (have HCLn := Lib.hid (HCL.out.below h3 HCL.out.lt); clear HCL; have HCL := HCLn; clear HCLn)
        have HBn := Lib.hid (HB.out.trans (h3.mono HB.out.size))
        clear HB h3
        have HB := HBn
        clear HBn
        dsimp only
        refine hK.out _ _ ?_ (fun hHeld => ?_)
        · exact trivial
        clear hK K
        try simp only [Act.put, List.setIfInBounds_toArray, List.set_cons_zero, List.set_cons_succ]
        refine wpAnyH_take (i := 12) (v := ?v12g2_aa) rfl (by kernel_rfl) (by kernel_rfl) (by kernel_rfl) (fun _ _ _ h => h) (Or.inl ⟨by rfl, ?y12g2_aa⟩) (by assumption) ?r12g2_aa
        case y12g2_aa => (intro w hSw; (try dsimp only at hSw); go_simp; try rw [if_neg (by (try simp only [ByteArray.size_append]); omega)]; try with_reducible rfl)
        change wpAnyH _ _ _ _ _ _ _ (Act.put _ (some 24) _) _; simp only [Act.put, List.setIfInBounds_toArray, List.set_cons_zero, List.set_cons_succ]
        refine wpAnyH_take (i := 13) (v := ?v13g2_aa) rfl (by kernel_rfl) (by kernel_rfl) (by kernel_rfl) (fun _ _ _ h => h) (Or.inl ⟨by rfl, ?y13g2_aa⟩) (by assumption) ?r13g2_aa
        case y13g2_aa => (intro w hSw; (try dsimp only at hSw); go_simp; try rw [if_neg (by (try simp only [ByteArray.size_append]); omega)]; try with_reducible rfl)
        change wpAnyH _ _ _ _ _ _ _ (Act.put _ (some 25) _) _; simp only [Act.put, List.setIfInBounds_toArray, List.set_cons_zero, List.set_cons_succ]
        refine wpAnyH_take (i := 14) (v := ?v14g2_aa) rfl (by kernel_rfl) (by kernel_rfl) (by kernel_rfl) (fun _ _ _ h => h) (Or.inl ⟨by rfl, ?y14g2_aa⟩) (by assumption) ?r14g2_aa
        case y14g2_aa => (intro w hSw; (try dsimp only at hSw); go_simp; try with_reducible rfl)
        change wpAnyH _ _ _ _ _ _ _ (Act.put _ (some 7) _) _; simp only [Act.put, List.setIfInBounds_toArray, List.set_cons_zero, List.set_cons_succ]
        refine wpAnyH_done (by kernel_rfl) ?_ _
        refine NoPanic.normal ?_
        go_wp2_with fail
        go_meet
        exact ⟨by rw [← HHT.out], HB.out⟩
      · go_simp
        refine (HN1.out _).mono ?_
        rintro R w2 ⟨rfl, h2⟩
        try (have HCLn := Lib.hid (HCL.out.below h2 HCL.out.lt); clear HCL; have HCL := HCLn; clear HCLn)
        have HBn := Lib.hid (HB.out.trans (h2.mono HB.out.size))
        clear HB h2
        have HB := HBn
        clear HBn
        dsimp only
        refine hK.out _ _ ?_ (fun hHeld => ?_)
        · exact trivial
        clear hK K
        try simp only [Act.put, List.setIfInBounds_toArray, List.set_cons_zero, List.set_cons_succ]
        refine wpAnyH_ready (rs := [3, 11]) (by kernel_rfl) (by simp) ?_
        refine AllReadyH.cons rfl (fun K hK => ?_) (AllReadyH.cons rfl (fun K hK => ?_) AllReadyH.nil)
        · have hcl := HCL.out.cell 2
          simp only [List.getElem?_toArray, List.getElem?_cons_zero, List.getElem?_cons_succ] at hcl
          try (change World.cell? _ ⟨w.heap.size, 2, none⟩ = _ at hcl)
          go_simp
          clear hcl
          refine hK.out _ _ ?_ (fun hHeld => ?_)
          · exact trivial
          clear hK K
          try simp only [Act.put, List.setIfInBounds_toArray, List.set_cons_zero, List.set_cons_succ]
          refine wpAnyH_take (i := 4) (v := ?v4g2_aba) rfl (by kernel_rfl) (by kernel_rfl) (by kernel_rfl) (fun _ _ _ h => h) (Or.inl ⟨by rfl, ?y4g2_aba⟩) (by assumption) ?r4g2_aba
          case y4g2_aba => (intro w hSw; (try dsimp only at hSw); go_simp; exact rfl; try with_reducible rfl)
          change wpAnyH _ _ _ _ _ _ _ (Act.put _ (some 16) _) _; simp only [Act.put, List.setIfInBounds_toArray, List.set_cons_zero, List.set_cons_succ]
          refine wpAnyH_take (i := 8) (v := ?v8g2_aba) rfl (by kernel_rfl) (by kernel_rfl) (by kernel_rfl) (fun _ _ _ h => h) (Or.inl ⟨by rfl, ?y8g2_aba⟩) (by assumption) ?r8g2_aba
          case y8g2_aba => (intro w hSw; (try dsimp only at hSw); go_simp; try rw [if_neg (by (try simp only [ByteArray.size_append]); omega)]; try with_reducible rfl)
          change wpAnyH _ _ _ _ _ _ _ (Act.put _ (some 20) _) _; simp only [Act.put, List.setIfInBounds_toArray, List.set_cons_zero, List.set_cons_succ]
          refine wpAnyH_take (i := 9) (v := ?v9g2_aba) rfl (by kernel_rfl) (by kernel_rfl) (by kernel_rfl) (fun _ _ _ h => h) (Or.inl ⟨by rfl, ?y9g2_aba⟩) (by assumption) ?r9g2_aba
          case y9g2_aba => (intro w hSw; (try dsimp only at hSw); go_simp; try rw [if_neg (by (try simp only [ByteArray.size_append]); omega)]; try with_reducible rfl)
          change wpAnyH _ _ _ _ _ _ _ (Act.put _ (some 21) _) _; simp only [Act.put, List.setIfInBounds_toArray, List.set_cons_zero, List.set_cons_succ]
          refine wpAnyH_ready (rs := [11]) (by kernel_rfl) (by simp) ?_
          refine AllReadyH.cons rfl (fun K hK => ?_) AllReadyH.nil
          go_simp
          refine (HN2.out _).mono ?_
          rintro R w3 ⟨rfl, h3⟩
          try (have HCLn := Lib.hid (HCL.out.below h3 HCL.out.lt); clear HCL; have HCL := HCLn; clear HCLn)
          have HBn := Lib.hid (HB.out.trans (h3.mono HB.out.size))
          clear HB h3
          have HB := HBn
          clear HBn
          dsimp only
          refine hK.out _ _ ?_ (fun hHeld => ?_)
          · exact trivial
          clear hK K
          try simp only [Act.put, List.setIfInBounds_toArray, List.set_cons_zero, List.set_cons_succ]
          refine wpAnyH_take (i := 12) (v := ?v12g2_aba) rfl (by kernel_rfl) (by kernel_rfl) (by kernel_rfl) (fun _ _ _ h => h) (Or.inl ⟨by rfl, ?y12g2_aba⟩) (by assumption) ?r12g2_aba
          case y12g2_aba => (intro w hSw; (try dsimp only at hSw); go_simp; try rw [if_neg (by (try simp only [ByteArray.size_append]); omega)]; try with_reducible rfl)
          change wpAnyH _ _ _ _ _ _ _ (Act.put _ (some 24) _) _; simp only [Act.put, List.setIfInBounds_toArray, List.set_cons_zero, List.set_cons_succ]
          refine wpAnyH_take (i := 13) (v := ?v13g2_aba) rfl (by kernel_rfl) (by kernel_rfl) (by kernel_rfl) (fun _ _ _ h => h) (Or.inl ⟨by rfl, ?y13g2_aba⟩) (by assumption) ?r13g2_aba
          case y13g2_aba => (intro w hSw; (try dsimp only at hSw); go_simp; try rw [if_neg (by (try simp only [ByteArray.size_append]); omega)]; try with_reducible rfl)
          change wpAnyH _ _ _ _ _ _ _ (Act.put _ (some 25) _) _; simp only [Act.put, List.setIfInBounds_toArray, List.set_cons_zero, List.set_cons_succ]
          refine wpAnyH_take (i := 14) (v := ?v14g2_aba) rfl (by kernel_rfl) (by kernel_rfl) (by kernel_rfl) (fun _ _ _ h => h) (Or.inl ⟨by rfl, ?y14g2_aba⟩) (by assumption) ?r14g2_aba
          case y14g2_aba => (intro w hSw; (try dsimp only at hSw); go_simp; try with_reducible rfl)
          change wpAnyH _ _ _ _ _ _ _ (Act.put _ (some 7) _) _; simp only [Act.put, List.setIfInBounds_toArray, List.set_cons_zero, List.set_cons_succ]
          refine wpAnyH_done (by kernel_rfl) ?_ _
          refine NoPanic.normal ?_
          go_wp2_with fail
          go_meet
          exact ⟨by rw [← HHT.out], HB.out⟩
        · go_simp
          refine (HN2.out _).mono ?_
          rintro R w3 ⟨rfl, h3⟩
          try (have HCLn := Lib.hid (HCL.out.below h3 HCL.out.lt); clear HCL; have HCL := HCLn; clear HCLn)
          have HBn := Lib.hid (HB.out.trans (h3.mono HB.out.size))
          clear HB h3
          have HB := HBn
          clear HBn
          dsimp only
          refine hK.out _ _ ?_ (fun hHeld => ?_)
          · exact trivial
          clear hK K
          try simp only [Act.put, List.setIfInBounds_toArray, List.set_cons_zero, List.set_cons_succ]
          refine wpAnyH_ready (rs := [3]) (by kernel_rfl) (by simp) ?_
          refine AllReadyH.cons rfl (fun K hK => ?_) AllReadyH.nil
          have hcl := HCL.out.cell 2
          simp only [List.getElem?_toArray, List.getElem?_cons_zero, List.getElem?_cons_succ] at hcl
          try (change World.cell? _ ⟨w.heap.size, 2, none⟩ = _ at hcl)
          go_simp
          clear hcl
          refine hK.out _ _ ?_ (fun hHeld => ?_)
          · exact trivial
          clear hK K
          try simp only [Act.put, List.setIfInBounds_toArray, List.set_cons_zero, List.set_cons_succ]
          refine wpAnyH_take (i := 4) (v := ?v4g2_abb) rfl (by kernel_rfl) (by kernel_rfl) (by kernel_rfl) (fun _ _ _ h => h) (Or.inl ⟨by rfl, ?y4g2_abb⟩) (by assumption) ?r4g2_abb
          case y4g2_abb => (intro w hSw; (try dsimp only at hSw); go_simp; exact rfl; try with_reducible rfl)
          change wpAnyH _ _ _ _ _ _ _ (Act.put _ (some 16) _) _; simp only [Act.put, List.setIfInBounds_toArray, List.set_cons_zero, List.set_cons_succ]
          refine wpAnyH_take (i := 8) (v := ?v8g2_abb) rfl (by kernel_rfl) (by kernel_rfl) (by kernel_rfl) (fun _ _ _ h => h) (Or.inl ⟨by rfl, ?y8g2_abb⟩) (by assumption) ?r8g2_abb
          case y8g2_abb => (intro w hSw; (try dsimp only at hSw); go_simp; try rw [if_neg (by (try simp only [ByteArray.size_append]); omega)]; try with_reducible rfl)
          change wpAnyH _ _ _ _ _ _ _ (Act.put _ (some 20) _) _; simp only [Act.put, List.setIfInBounds_toArray, List.set_cons_zero, List.set_cons_succ]
          refine wpAnyH_take (i := 9) (v := ?v9g2_abb) rfl (by kernel_rfl) (by kernel_rfl) (by kernel_rfl) (fun _ _ _ h => h) (Or.inl ⟨by rfl, ?y9g2_abb⟩) (by assumption) ?r9g2_abb
          case y9g2_abb => (intro w hSw; (try dsimp only at hSw); go_simp; try rw [if_neg (by (try simp only [ByteArray.size_append]); omega)]; try with_reducible rfl)
          change wpAnyH _ _ _ _ _ _ _ (Act.put _ (some 21) _) _; simp only [Act.put, List.setIfInBounds_toArray, List.set_cons_zero, List.set_cons_succ]
          refine wpAnyH_take (i := 12) (v := ?v12g2_abb) rfl (by kernel_rfl) (by kernel_rfl) (by kernel_rfl) (fun _ _ _ h => h) (Or.inl ⟨by rfl, ?y12g2_abb⟩) (by assumption) ?r12g2_abb
          case y12g2_abb => (intro w hSw; (try dsimp only at hSw); go_simp; try rw [if_neg (by (try simp only [ByteArray.size_append]); omega)]; try with_reducible rfl)
          change wpAnyH _ _ _ _ _ _ _ (Act.put _ (some 24) _) _; simp only [Act.put, List.setIfInBounds_toArray, List.set_cons_zero, List.set_cons_succ]
          refine wpAnyH_take (i := 13) (v := ?v13g2_abb) rfl (by kernel_rfl) (by kernel_rfl) (by kernel_rfl) (fun _ _ _ h => h) (Or.inl ⟨by rfl, ?y13g2_abb⟩) (by assumption) ?r13g2_abb
          case y13g2_abb => (intro w hSw; (try dsimp only at hSw); go_simp; try rw [if_neg (by (try simp only [ByteArray.size_append]); omega)]; try with_reducible rfl)
          change wpAnyH _ _ _ _ _ _ _ (Act.put _ (some 25) _) _; simp only [Act.put, List.setIfInBounds_toArray, List.set_cons_zero, List.set_cons_succ]
          refine wpAnyH_take (i := 14) (v := ?v14g2_abb) rfl (by kernel_rfl) (by kernel_rfl) (by kernel_rfl) (fun _ _ _ h => h) (Or.inl ⟨by rfl, ?y14g2_abb⟩) (by assumption) ?r14g2_abb
          case y14g2_abb => (intro w hSw; (try dsimp only at hSw); go_simp; try with_reducible rfl)
          change wpAnyH _ _ _ _ _ _ _ (Act.put _ (some 7) _) _; simp only [Act.put, List.setIfInBounds_toArray, List.set_cons_zero, List.set_cons_succ]
          refine wpAnyH_done (by kernel_rfl) ?_ _
          refine NoPanic.normal ?_
          go_wp2_with fail
          go_meet
          exact ⟨by rw [← HHT.out], HB.out⟩
    · go_simp
      refine (HN1.out _).mono ?_
      rintro R w2 ⟨rfl, h2⟩
      try (have HCLn := Lib.hid (HCL.out.below h2 HCL.out.lt); clear HCL; have HCL := HCLn; clear HCLn)
      have HBn := Lib.hid (HB.out.trans (h2.mono HB.out.size))
      clear HB h2
      have HB := HBn
      clear HBn
      dsimp only
      refine hK.out _ _ ?_ (fun hHeld => ?_)
      · exact trivial
      clear hK K
      try simp only [Act.put, List.setIfInBounds_toArray, List.set_cons_zero, List.set_cons_succ]
      refine wpAnyH_ready (rs := [0, 11]) (by kernel_rfl) (by simp) ?_
      refine AllReadyH.cons rfl (fun K hK => ?_) (AllReadyH.cons rfl (fun K hK => ?_) AllReadyH.nil)
      · go_simp
        have HCL := Lib.hid ((fun {W : World} (_ : Below w.heap.size w W) => Blk.new W 9 #[.string ⟨#[]⟩, .string ⟨#[114, 97, 110, 107]⟩, .string ⟨#[108, 97, 98, 101, 108]⟩, .string ⟨#[112, 97, 116, 104, 115]⟩]) HB.out)
        have HBn := Lib.hid (HB.out.alloc HB.out.size (.cells #[.string ⟨#[]⟩, .string ⟨#[114, 97, 110, 107]⟩, .string ⟨#[108, 97, 98, 101, 108]⟩, .string ⟨#[112, 97, 116, 104, 115]⟩] 9))
        clear HB
        have HB := HBn
        clear HBn
        refine hK.out _ _ ?_ (fun hHeld => ?_)
        · exact trivial
        clear hK K
        try simp only [Act.put, List.setIfInBounds_toArray, List.set_cons_zero, List.set_cons_succ]
        refine wpAnyH_take (i := 2) (v := ?v2g2_ba) rfl (by kernel_rfl) (by kernel_rfl) (by kernel_rfl) (fun _ _ _ h => h) (Or.inl ⟨by rfl, ?y2g2_ba⟩) (by assumption) ?r2g2_ba
        case y2g2_ba => (intro w hSw; (try dsimp only at hSw); go_simp; try with_reducible rfl)
        change wpAnyH _ _ _ _ _ _ _ (Act.put _ (some 14) _) _; simp only [Act.put, List.setIfInBounds_toArray, List.set_cons_zero, List.set_cons_succ]
        refine wpAnyH_ready (rs := [3, 11]) (by kernel_rfl) (by simp) ?_
        refine AllReadyH.cons rfl (fun K hK => ?_) (AllReadyH.cons rfl (fun K hK => ?_) AllReadyH.nil)
        · have hcl := HCL.out.cell 2
          simp only [List.getElem?_toArray, List.getElem?_cons_zero, List.getElem?_cons_succ] at hcl
          try (change World.cell? _ ⟨w.heap.size, 2, none⟩ = _ at hcl)
          go_simp
          clear hcl
          refine hK.out _ _ ?_ (fun hHeld => ?_)
          · exact trivial
          clear hK K
          try simp only [Act.put, List.setIfInBounds_toArray, List.set_cons_zero, List.set_cons_succ]
          refine wpAnyH_take (i := 4) (v := ?v4g2_baa) rfl (by kernel_rfl) (by kernel_rfl) (by kernel_rfl) (fun _ _ _ h => h) (Or.inl ⟨by rfl, ?y4g2_baa⟩) (by assumption) ?r4g2_baa
          case y4g2_baa => (intro w hSw; (try dsimp only at hSw); go_simp; exact rfl; try with_reducible rfl)
          change wpAnyH _ _ _ _ _ _ _ (Act.put _ (some 16) _) _; simp only [Act.put, List.setIfInBounds_toArray, List.set_cons_zero, List.set_cons_succ]
          refine wpAnyH_take (i := 8) (v := ?v8g2_baa) rfl (by kernel_rfl) (by kernel_rfl) (by kernel_rfl) (fun _ _ _ h => h) (Or.inl ⟨by rfl, ?y8g2_baa⟩) (by assumption) ?r8g2_baa
          case y8g2_baa => (intro w hSw; (try dsimp only at hSw); go_simp; try rw [if_neg (by (try simp only [ByteArray.size_append]); omega)]; try with_reducible rfl)
          change wpAnyH _ _ _ _ _ _ _ (Act.put _ (some 20) _) _; simp only [Act.put, List.setIfInBounds_toArray, List.set_cons_zero, List.set_cons_succ]
          refine wpAnyH_take (i := 9) (v := ?v9g2_baa) rfl (by kernel_rfl) (by kernel_rfl) (by kernel_rfl) (fun _ _ _ h => h) (Or.inl ⟨by rfl, ?y9g2_baa⟩) (by assumption) ?r9g2_baa
          case y9g2_baa => (intro w hSw; (try dsimp only at hSw); go_simp; try rw [if_neg (by (try simp only [ByteArray.size_append]); omega)]; try with_reducible rfl)
          change wpAnyH _ _ _ _ _ _ _ (Act.put _ (some 21) _) _; simp only [Act.put, List.setIfInBounds_toArray, List.set_cons_zero, List.set_cons_succ]
          refine wpAnyH_ready (rs := [11]) (by kernel_rfl) (by simp) ?_
          refine AllReadyH.cons rfl (fun K hK => ?_) AllReadyH.nil
          go_simp
          refine (HN2.out _).mono ?_
          rintro R w3 ⟨rfl, h3⟩
          try (have HCLn := Lib.hid (HCL.out.below h3 HCL.out.lt); clear HCL; have HCL := HCLn; clear HCLn)
          have HBn := Lib.hid (HB.out.trans (h3.mono HB.out.size))
          clear HB h3
          have HB := HBn
          clear HBn
          dsimp only
          refine hK.out _ _ ?_ (fun hHeld => ?_)
          · exact trivial
          clear hK K
          try simp only [Act.put, List.setIfInBounds_toArray, List.set_cons_zero, List.set_cons_succ]
          refine wpAnyH_take (i := 12) (v := ?v12g2_baa) rfl (by kernel_rfl) (by kernel_rfl) (by kernel_rfl) (fun _ _ _ h => h) (Or.inl ⟨by rfl, ?y12g2_baa⟩) (by assumption) ?r12g2_baa
          case y12g2_baa => (intro w hSw; (try dsimp only at hSw); go_simp; try rw [if_neg (by (try simp only [ByteArray.size_append]); omega)]; try with_reducible rfl)
          change wpAnyH _ _ _ _ _ _ _ (Act.put _ (some 24) _) _; simp only [Act.put, List.setIfInBounds_toArray, List.set_cons_zero, List.set_cons_succ]
          refine wpAnyH_take (i := 13) (v := ?v13g2_baa) rfl (by kernel_rfl) (by kernel_rfl) (by kernel_rfl) (fun _ _ _ h => h) (Or.inl ⟨by rfl, ?y13g2_baa⟩) (by assumption) ?r13g2_baa
          case y13g2_baa => (intro w hSw; (try dsimp only at hSw); go_simp; try rw [if_neg (by (try simp only [ByteArray.size_append]); omega)]; try with_reducible rfl)
          change wpAnyH _ _ _ _ _ _ _ (Act.put _ (some 25) _) _; simp only [Act.put, List.setIfInBounds_toArray, List.set_cons_zero, List.set_cons_succ]
          refine wpAnyH_take (i := 14) (v := ?v14g2_baa) rfl (by kernel_rfl) (by kernel_rfl) (by kernel_rfl) (fun _ _ _ h => h) (Or.inl ⟨by rfl, ?y14g2_baa⟩) (by assumption) ?r14g2_baa
          case y14g2_baa => (intro w hSw; (try dsimp only at hSw); go_simp; try with_reducible rfl)
          change wpAnyH _ _ _ _ _ _ _ (Act.put _ (some 7) _) _; simp only [Act.put, List.setIfInBounds_toArray, List.set_cons_zero, List.set_cons_succ]
          refine wpAnyH_done (by kernel_rfl) ?_ _
          refine NoPanic.normal ?_
          go_wp2_with fail
          go_meet
          exact ⟨by rw [← HHT.out], HB.out⟩
        · go_simp
          refine (HN2.out _).mono ?_
          rintro R w3 ⟨rfl, h3⟩
          try (have HCLn := Lib.hid (HCL.out.below h3 HCL.out.lt); clear HCL; have HCL := HCLn; clear HCLn)
          have HBn := Lib.hid (HB.out.trans (h3.mono HB.out.size))
          clear HB h3
          have HB := HBn
          clear HBn
          dsimp only
          refine hK.out _ _ ?_ (fun hHeld => ?_)
          · exact trivial
          clear hK K
          try simp only [Act.put, List.setIfInBounds_toArray, List.set_cons_zero, List.set_cons_succ]
          refine wpAnyH_ready (rs := [3]) (by kernel_rfl) (by simp) ?_
          refine AllReadyH.cons rfl (fun K hK => ?_) AllReadyH.nil
          have hcl := HCL.out.cell 2
          simp only [List.getElem?_toArray, List.getElem?_cons_zero, List.getElem?_cons_succ] at hcl
          try (change World.cell? _ ⟨w.heap.size, 2, none⟩ = _ at hcl)
          go_simp
          clear hcl
          refine hK.out _ _ ?_ (fun hHeld => ?_)
          · exact trivial
          clear hK K
          try simp only [Act.put, List.setIfInBounds_toArray, List.set_cons_zero, List.set_cons_succ]
          refine wpAnyH_take (i := 4) (v := ?v4g2_bab) rfl (by kernel_rfl) (by kernel_rfl) (by kernel_rfl) (fun _ _ _ h => h) (Or.inl ⟨by rfl, ?y4g2_bab⟩) (by assumption) ?r4g2_bab
          case y4g2_bab => (intro w hSw; (try dsimp only at hSw); go_simp; exact rfl; try with_reducible rfl)
          change wpAnyH _ _ _ _ _ _ _ (Act.put _ (some 16) _) _; simp only [Act.put, List.setIfInBounds_toArray, List.set_cons_zero, List.set_cons_succ]
          refine wpAnyH_take (i := 8) (v := ?v8g2_bab) rfl (by kernel_rfl) (by kernel_rfl) (by kernel_rfl) (fun _ _ _ h => h) (Or.inl ⟨by rfl, ?y8g2_bab⟩) (by assumption) ?r8g2_bab
          case y8g2_bab => (intro w hSw; (try dsimp only at hSw); go_simp; try rw [if_neg (by (try simp only [ByteArray.size_append]); omega)]; try with_reducible rfl)
          change wpAnyH _ _ _ _ _ _ _ (Act.put _ (some 20) _) _; simp only [Act.put, List.setIfInBounds_toArray, List.set_cons_zero, List.set_cons_succ]
          refine wpAnyH_take (i := 9) (v := ?v9g2_bab) rfl (by kernel_rfl) (by kernel_rfl) (by kernel_rfl) (fun _ _ _ h => h) (Or.inl ⟨by rfl, ?y9g2_bab⟩) (by assumption) ?r9g2_bab
          case y9g2_bab => (intro w hSw; (try dsimp only at hSw); go_simp; try rw [if_neg (by (try simp only [ByteArray.size_append]); omega)]; try with_reducible rfl)
          change wpAnyH _ _ _ _ _ _ _ (Act.put _ (some 21) _) _; simp only [Act.put, List.setIfInBounds_toArray, List.set_cons_zero, List.set_cons_succ]
          refine wpAnyH_take (i := 12) (v := ?v12g2_bab) rfl (by kernel_rfl) (by kernel_rfl) (by kernel_rfl) (fun _ _ _ h => h) (Or.inl ⟨by rfl, ?y12g2_bab⟩) (by assumption) ?r12g2_bab
          case y12g2_bab => (intro w hSw; (try dsimp only at hSw); go_simp; try rw [if_neg (by (try simp only [ByteArray.size_append]); omega)]; try with_reducible rfl)
          change wpAnyH _ _ _ _ _ _ _ (Act.put _ (some 24) _) _; simp only [Act.put, List.setIfInBounds_toArray, List.set_cons_zero, List.set_cons_succ]
          refine wpAnyH_take (i := 13) (v := ?v13g2_bab) rfl (by kernel_rfl) (by kernel_rfl) (by kernel_rfl) (fun _ _ _ h => h) (Or.inl ⟨by rfl, ?y13g2_bab⟩) (by assumption) ?r13g2_bab
          case y13g2_bab => (intro w hSw; (try dsimp only at hSw); go_simp; try rw [if_neg (by (try simp only [ByteArray.size_append]); omega)]; try with_reducible rfl)
          change wpAnyH _ _ _ _ _ _ _ (Act.put _ (some 25) _) _; simp only [Act.put, List.setIfInBounds_toArray, List.set_cons_zero, List.set_cons_succ]
          refine wpAnyH_take (i := 14) (v := ?v14g2_bab) rfl (by kernel_rfl) (by kernel_rfl) (by kernel_rfl) (fun _ _ _ h => h) (Or.inl ⟨by rfl, ?y14g2_bab⟩) (by assumption) ?r14g2_bab
          case y14g2_bab => (intro w hSw; (try dsimp only at hSw); go_simp; try with_reducible rfl)
          change wpAnyH _ _ _ _ _ _ _ (Act.put _ (some 7) _) _; simp only [Act.put, List.setIfInBounds_toArray, List.set_cons_zero, List.set_cons_succ]
          refine wpAnyH_done (by kernel_rfl) ?_ _
          refine NoPanic.normal ?_
          go_wp2_with fail
          go_meet
          exact ⟨by rw [← HHT.out], HB.out⟩
      · go_simp
        refine (HN2.out _).mono ?_
        rintro R w3 ⟨rfl, h3⟩
        try (have HCLn := Lib.hid (HCL.out.below h3 HCL.out.lt); clear HCL; have HCL := HCLn; clear HCLn)
        have HBn := Lib.hid (HB.out.trans (h3.mono HB.out.size))
        clear HB h3
        have HB := HBn
        clear HBn
        dsimp only
        refine hK.out _ _ ?_ (fun hHeld => ?_)
        · exact trivial
        clear hK K
        try simp only [Act.put, List.setIfInBounds_toArray, List.set_cons_zero, List.set_cons_succ]
        refine wpAnyH_ready (rs := [0]) (by kernel_rfl) (by simp) ?_
        refine AllReadyH.cons rfl (fun K hK => ?_) AllReadyH.nil
        go_simp
        have HCL := Lib.hid ((fun {W : World} (_ : Below w.heap.size w W) => Blk.new W 9 #[.string ⟨#[]⟩, .string ⟨#[114, 97, 110, 107]⟩, .string ⟨#[108, 97, 98, 101, 108]⟩, .string ⟨#[112, 97, 116, 104, 115]⟩]) HB.out)
        have HBn := Lib.hid (HB.out.alloc HB.out.size (.cells #[.string ⟨#[]⟩, .string ⟨#[114, 97, 110, 107]⟩, .string ⟨#[108, 97, 98, 101, 108]⟩, .string ⟨#[112, 97, 116, 104, 115]⟩] 9))
        clear HB
        have HB := HBn
        clear HBn
        refine hK.out _ _ ?_ (fun hHeld => ?_)
        · exact trivial
        clear hK K
        try simp only [Act.put, List.setIfInBounds_toArray, List.set_cons_zero, List.set_cons_succ]
        refine wpAnyH_take (i := 2) (v := ?v2g2_bb) rfl (by kernel_rfl) (by kernel_rfl) (by kernel_rfl) (fun _ _ _ h => h) (Or.inl ⟨by rfl, ?y2g2_bb⟩) (by assumption) ?r2g2_bb
        case y2g2_bb => (intro w hSw; (try dsimp only at hSw); go_simp; try with_reducible rfl)
        change wpAnyH _ _ _ _ _ _ _ (Act.put _ (some 14) _) _; simp only [Act.put, List.setIfInBounds_toArray, List.set_cons_zero, List.set_cons_succ]
        refine wpAnyH_ready (rs := [3]) (by kernel_rfl) (by simp) ?_
        refine AllReadyH.cons rfl (fun K hK => ?_) AllReadyH.nil
        have hcl := HCL.out.cell 2
        simp only [List.getElem?_toArray, List.getElem?_cons_zero, List.getElem?_cons_succ] at hcl
        try (change World.cell? _ ⟨w.heap.size, 2, none⟩ = _ at hcl)
        go_simp
        clear hcl
        refine hK.out _ _ ?_ (fun hHeld => ?_)
        · exact trivial
        clear hK K
        try simp only [Act.put, List.setIfInBounds_toArray, List.set_cons_zero, List.set_cons_succ]
        refine wpAnyH_take (i := 4) (v := ?v4g2_bb) rfl (by kernel_rfl) (by kernel_rfl) (by kernel_rfl) (fun _ _ _ h => h) (Or.inl ⟨by rfl, ?y4g2_bb⟩) (by assumption) ?r4g2_bb
        case y4g2_bb => (intro w hSw; (try dsimp only at hSw); go_simp; exact rfl; try with_reducible rfl)
        change wpAnyH _ _ _ _ _ _ _ (Act.put _ (some 16) _) _; simp only [Act.put, List.setIfInBounds_toArray, List.set_cons_zero, List.set_cons_succ]
        refine wpAnyH_take (i := 8) (v := ?v8g2_bb) rfl (by kernel_rfl) (by kernel_rfl) (by kernel_rfl) (fun _ _ _ h => h) (Or.inl ⟨by rfl, ?y8g2_bb⟩) (by assumption) ?r8g2_bb
        case y8g2_bb => (intro w hSw; (try dsimp only at hSw); go_simp; try rw [if_neg (by (try simp only [ByteArray.size_append]); omega)]; try with_reducible rfl)
        change wpAnyH _ _ _ _ _ _ _ (Act.put _ (some 20) _) _; simp only [Act.put, List.setIfInBounds_toArray, List.set_cons_zero, List.set_cons_succ]
        refine wpAnyH_take (i := 9) (v := ?v9g2_bb) rfl (by kernel_rfl) (by kernel_rfl) (by kernel_rfl) (fun _ _ _ h => h) (Or.inl ⟨by rfl, ?y9g2_bb⟩) (by assumption) ?r9g2_bb
        case y9g2_bb => (intro w hSw; (try dsimp only at hSw); go_simp; try rw [if_neg (by (try simp only [ByteArray.size_append]); omega)]; try with_reducible rfl)
        change wpAnyH _ _ _ _ _ _ _ (Act.put _ (some 21) _) _; simp only [Act.put, List.setIfInBounds_toArray, List.set_cons_zero, List.set_cons_succ]
        refine wpAnyH_take (i := 12) (v := ?v12g2_bb) rfl (by kernel_rfl) (by kernel_rfl) (by kernel_rfl) (fun _ _ _ h => h) (Or.inl ⟨by rfl, ?y12g2_bb⟩) (by assumption) ?r12g2_bb
        case y12g2_bb => (intro w hSw; (try dsimp only at hSw); go_simp; try rw [if_neg (by (try simp only [ByteArray.size_append]); omega)]; try with_reducible rfl)
        change wpAnyH _ _ _ _ _ _ _ (Act.put _ (some 24) _) _; simp only [Act.put, List.setIfInBounds_toArray, List.set_cons_zero, List.set_cons_succ]
        refine wpAnyH_take (i := 13) (v := ?v13g2_bb) rfl (by kernel_rfl) (by kernel_rfl) (by kernel_rfl) (fun _ _ _ h => h) (Or.inl ⟨by rfl, ?y13g2_bb⟩) (by assumption) ?r13g2_bb
        case y13g2_bb => (intro w hSw; (try dsimp only at hSw); go_simp; try rw [if_neg (by (try simp only [ByteArray.size_append]); omega)]; try with_reducible rfl)
        change wpAnyH _ _ _ _ _ _ _ (Act.put _ (some 25) _) _; simp only [Act.put, List.setIfInBounds_toArray, List.set_cons_zero, List.set_cons_succ]
        refine wpAnyH_take (i := 14) (v := ?v14g2_bb) rfl (by kernel_rfl) (by kernel_rfl) (by kernel_rfl) (fun _ _ _ h => h) (Or.inl ⟨by rfl, ?y14g2_bb⟩) (by assumption) ?r14g2_bb
        case y14g2_bb => (intro w hSw; (try dsimp only at hSw); go_simp; try with_reducible rfl)
        change wpAnyH _ _ _ _ _ _ _ (Act.put _ (some 7) _) _; simp only [Act.put, List.setIfInBounds_toArray, List.set_cons_zero, List.set_cons_succ]
        refine wpAnyH_done (by kernel_rfl) ?_ _
        refine NoPanic.normal ?_
        go_wp2_with fail
        go_meet
        exact ⟨by rw [← HHT.out], HB.out⟩
  case rest =>
    obtain ⟨rfl, hbc⟩ := hcut
    clear HB
    have HB := Lib.hid hbc
    clear hbc HHT hkz hz1 hz2 hp1 hp2 HN1 HN2
    go_wp2_with fail
    go_loopg [7, 8] vs.length (fun gf v7 v8 wr => ∃ i : Nat, v8 = .int .i64 i ∧ v7 = .string (ba (doneL 2 step vs i)) ∧ i + gf = vs.length ∧ Below w.heap.size w wr)
    case atStart => exact ⟨0, rfl, rfl, by omega, HB.out⟩
    case round =>
      clear HB
      obtain ⟨i, rfl, rfl, hi, hb⟩ := hrel
      have HB := Lib.hid hb
      have hlen := done_len (k := 2) (step := step) HV.out i (by omega)
      have htz := size_ba (doneL 2 step vs i)
      clear hb
      cases gk with
      | zero =>
        obtain rfl : i = vs.length := by omega
        have HM := Lib.hid (rmarks_any wr A c vs (HR.out.below HB.out) (by omega))
        obtain ⟨q, hq⟩ : ∃ q : Nat, (marks vs).getD 0 = q := ⟨_, rfl⟩
        have hq5 : (q : Int) ≤ 512 := by
          cases hm : marks vs with
          | none => rw [hm] at hq; simp at hq; omega
          | some n => have := marks_le vs _ n hm; rw [hm] at hq; simp at hq; omega
        have hfin : ((ba (doneL 2 step vs vs.length) ++ ⟨#[112, 97, 114, 116, 115, 32]⟩) ++ printOf (q : Int) 0) ++ ⟨#[10]⟩ = textB 2 step vs := by
          unfold textB
          rw [textL_two, hq, ← prS, show (⟨#[112, 97, 114, 116, 115, 32]⟩ : ByteArray) = ba [112, 97, 114, 116, 115, 32] from rfl, show (⟨#[10]⟩ : ByteArray) = ba [10] from rfl]
          simp only [ba_append]
          congr 1
          simp [lineL, joinB, wParts]
        have hpq := printOf_sz (q : Int)
        obtain ⟨T, hT⟩ : ∃ T, ba (doneL 2 step vs vs.length) = T := ⟨_, rfl⟩
        obtain ⟨Q2, hQ2⟩ : ∃ T, printOf (q : Int) 0 = T := ⟨_, rfl⟩
        have HNq := Lib.hid (fun (W : World) => (show Calls Tryd.prog 38 #[.int .i64 q] W fun e w' => e = .returned (.string Q2) ∧ Below W.heap.size W w' by rw [← hQ2]; exact rdg_any W _ (by omega) (by omega)))
        rw [hT] at hfin htz ⊢
        rw [hQ2] at hfin hpq
        have HQ := Lib.hid hq; have HFIN := Lib.hid hfin
        have hs6 : (⟨#[112, 97, 114, 116, 115, 32]⟩ : ByteArray).size = 6 := rfl
        have hs1 : (⟨#[10]⟩ : ByteArray).size = 1 := rfl
        clear hq hfin hT hQ2
        go_wp2_with fail
        refine HM.out.mono ?_
        rintro e w2 ⟨rfl, rfl⟩
        rw [HQ.out]
        go_wp2_with fail
        refine (HNq.out _).mono ?_
        rintro e w3 ⟨rfl, h3⟩
        have HB3 := Lib.hid (HB.out.trans (h3.mono HB.out.size))
        clear h3
        go_wp2
        go_ret
        exact ⟨by rw [← HFIN.out]; rfl, HB3.out⟩
      | succ gf =>
        have hil : i < vs.length := by omega
        have hiI : (i : Int) < (vs.length : Int) := by omega
        obtain ⟨ad, u, rfl, hu, hc⟩ := (HR.out.below HB.out).at_ (k := i) hil
        obtain ⟨x, rfl⟩ := i64_of hu
        have hgx := getD_of hu
        have hxv := val_at HV.out hil
        rw [hgx] at hxv
        have hp1 := printOf_sz (i : Int); have hp2 := printOf_sz x
        have hrt := fun W => row_text 2 step vs i W
        rw [hgx] at hrt
        obtain ⟨T, hT⟩ : ∃ T, ba (doneL 2 step vs i) = T := ⟨_, rfl⟩
        obtain ⟨P1, hP1⟩ : ∃ T, printOf (i : Int) 0 = T := ⟨_, rfl⟩
        obtain ⟨P2, hP2⟩ : ∃ T, printOf x 0 = T := ⟨_, rfl⟩
        have HNi := Lib.hid (fun (W : World) => (show Calls Tryd.prog 38 #[.int .i64 i] W fun e w' => e = .returned (.string P1) ∧ Below W.heap.size W w' by rw [← hP1]; exact rdg_any W _ (by omega) (by omega)))
        unfold topI at hxv
        have HNx := Lib.hid (fun (W : World) => (show Calls Tryd.prog 38 #[.int .i64 x] W fun e w' => e = .returned (.string P2) ∧ Below W.heap.size W w' by rw [← hP2]; exact rdg_any W _ (by omega) (by omega)))
        rw [hT] at htz hrt ⊢
        rw [hP1] at hp1 hrt
        rw [hP2] at hp2
        have HRT := Lib.hid hrt; have HP2 := Lib.hid hP2
        have hz1 : (⟨#[32]⟩ : ByteArray).size = 1 := rfl
        have hz2 : (⟨#[10]⟩ : ByteArray).size = 1 := rfl
        clear hgx hu hrt hT hP1 hP2
        go_wp2_with fail
        refine (HNx.out _).mono ?_
        rintro e w2 ⟨rfl, h2⟩
        have HB2 := Lib.hid (HB.out.trans (h2.mono HB.out.size))
        clear h2
        go_wp2_with fail
        refine (HNi.out _).mono ?_
        rintro e w4 ⟨rfl, h4⟩
        have HB4 := Lib.hid (HB2.out.trans (h4.mono HB2.out.size))
        have HE := Lib.hid (HRT.out (P2) (by rw [← HP2.out]; simp [rowW, joinB, prL]))
        clear h4
        go_wp2
        go_roundg gf
        case measure => omega
        case rel => exact ⟨i + 1, by go_num, by rw [← HE.out], by omega, HB4.out⟩
set_option maxRecDepth 100000 in
set_option maxHeartbeats 8000000 in
theorem rtext_3 (w : World) (step : Int) (A : Option Addr) (c : Nat) (vs : List Int) (hr : Rd w 1 A vs.length (vs.map (Value.int .i64))) (hR : Rep 3 step vs) :
    Calls Tryd.prog 19 #[.int .u8 3, .int .i64 step, .slice A vs.length c] w fun e w' => e = .returned (.string (textB 3 step vs)) ∧ Below w.heap.size w w' := by
  have hstep := hR.step; have hn := hR.n; have hvals := hR.vals
  have HN := Lib.hid rdg_any; have HV := Lib.hid hvals; have HR := Lib.hid hr; have HRR := Lib.hid hR
  have HFX := Lib.hid (fun (W : World) (x : Int) (h1 : 0 ≤ x) (h2 : x ≤ 9223372036854775807) => (show Calls Tryd.prog 39 #[.int .i64 x] W fun e w' => e = .returned (.string (fixText x.toNat)) ∧ Below W.heap.size W w' by
    have h := rtext_any W x.toNat (by omega)
    rwa [Int.toNat_of_nonneg h1] at h))
  have hp1 := printOf_sz (vs.length : Int); have hp2 := printOf_sz step
  have hht := head_text 3 step vs ⟨#[112, 97, 116, 104, 115]⟩ rfl
  obtain ⟨P, hP⟩ : ∃ P, printOf (vs.length : Int) 0 = P := ⟨_, rfl⟩
  obtain ⟨Q, hQ⟩ : ∃ Q, printOf step 0 = Q := ⟨_, rfl⟩
  have HN1 := Lib.hid (fun (W : World) => (show Calls Tryd.prog 38 #[.int .i64 vs.length] W fun e w' => e = .returned (.string P) ∧ Below W.heap.size W w' by rw [← hP]; exact rdg_any W _ (by omega) (by omega)))
  have HN2 := Lib.hid (fun (W : World) => (show Calls Tryd.prog 38 #[.int .i64 step] W fun e w' => e = .returned (.string Q) ∧ Below W.heap.size W w' by rw [← hQ]; exact rdg_any W _ (by omega) (by omega)))
  rw [hP] at hp1 hht
  rw [hQ] at hp2 hht
  have hkz : (⟨#[112, 97, 116, 104, 115]⟩ : ByteArray).size = 5 := rfl
  have hz1 : (⟨#[32]⟩ : ByteArray).size = 1 := rfl
  have hz2 : (⟨#[10]⟩ : ByteArray).size = 1 := rfl
  have HHT := Lib.hid hht
  have HB := Lib.hid ((Below.refl w.heap.size w).drew)
  clear hvals hr hR hP hQ hht
  go_enter Tryd.func19, Tryd.ntmps19
  go_upto_region 1 with (fail)
  go_cut [7] (fun s7 wx => s7 = .string (ba (doneL 3 step vs 0)) ∧ Below w.heap.size w wx)
  case first =>
    refine wp_region_noPanic ?_
    refine wp_region_held_drew (S := (fun _ => True)) (by kernel_rfl) ?_ (fun hHeld => ?_)
    · exact trivial
    refine wpAnyH_take (i := 1) (v := ?v1g3_) rfl (by kernel_rfl) (by kernel_rfl) (by kernel_rfl) (fun _ _ _ h => h) (Or.inl ⟨by rfl, ?y1g3_⟩) (by assumption) ?r1g3_
    case y1g3_ => (intro w hSw; (try dsimp only at hSw); go_simp; try with_reducible rfl)
    change wpAnyH _ _ _ _ _ _ _ (Act.put _ (some 13) _) _; simp only [Act.put, List.setIfInBounds_toArray, List.set_cons_zero, List.set_cons_succ]
    refine wpAnyH_take (i := 5) (v := ?v5g3_) rfl (by kernel_rfl) (by kernel_rfl) (by kernel_rfl) (fun _ _ _ h => h) (Or.inl ⟨by rfl, ?y5g3_⟩) (by assumption) ?r5g3_
    case y5g3_ => (intro w hSw; (try dsimp only at hSw); go_simp; try with_reducible rfl)
    change wpAnyH _ _ _ _ _ _ _ (Act.put _ (some 17) _) _; simp only [Act.put, List.setIfInBounds_toArray, List.set_cons_zero, List.set_cons_succ]
    refine wpAnyH_take (i := 6) (v := ?v6g3_) rfl (by kernel_rfl) (by kernel_rfl) (by kernel_rfl) (fun _ _ _ h => h) (Or.inl ⟨by rfl, ?y6g3_⟩) (by assumption) ?r6g3_
    case y6g3_ => (intro w hSw; (try dsimp only at hSw); go_simp; try with_reducible rfl)
    change wpAnyH _ _ _ _ _ _ _ (Act.put _ (some 18) _) _; simp only [Act.put, List.setIfInBounds_toArray, List.set_cons_zero, List.set_cons_succ]
    refine wpAnyH_take (i := 10) (v := ?v10g3_) rfl (by kernel_rfl) (by kernel_rfl) (by kernel_rfl) (fun _ _ _ h => h) (Or.inl ⟨by rfl, ?y10g3_⟩) (by assumption) ?r10g3_
    case y10g3_ => (intro w hSw; (try dsimp only at hSw); go_simp; try with_reducible rfl)
    change wpAnyH _ _ _ _ _ _ _ (Act.put _ (some 22) _) _; simp only [Act.put, List.setIfInBounds_toArray, List.set_cons_zero, List.set_cons_succ]
    refine wpAnyH_ready (rs := [0, 7]) (by kernel_rfl) (by simp) ?_
    refine AllReadyH.cons rfl (fun K hK => ?_) (AllReadyH.cons rfl (fun K hK => ?_) AllReadyH.nil)
    · go_simp
      have HCL := Lib.hid ((fun {W : World} (_ : Below w.heap.size w W) => Blk.new W 9 #[.string ⟨#[]⟩, .string ⟨#[114, 97, 110, 107]⟩, .string ⟨#[108, 97, 98, 101, 108]⟩, .string ⟨#[112, 97, 116, 104, 115]⟩]) HB.out)
      have HBn := Lib.hid (HB.out.alloc HB.out.size (.cells #[.string ⟨#[]⟩, .string ⟨#[114, 97, 110, 107]⟩, .string ⟨#[108, 97, 98, 101, 108]⟩, .string ⟨#[112, 97, 116, 104, 115]⟩] 9))
      clear HB
      have HB := HBn
      clear HBn
      refine hK.out _ _ ?_ (fun hHeld => ?_)
      · exact trivial
      clear hK K
      try simp only [Act.put, List.setIfInBounds_toArray, List.set_cons_zero, List.set_cons_succ]
      refine wpAnyH_take (i := 2) (v := ?v2g3_a) rfl (by kernel_rfl) (by kernel_rfl) (by kernel_rfl) (fun _ _ _ h => h) (Or.inl ⟨by rfl, ?y2g3_a⟩) (by assumption) ?r2g3_a
      case y2g3_a => (intro w hSw; (try dsimp only at hSw); go_simp; try with_reducible rfl)
      change wpAnyH _ _ _ _ _ _ _ (Act.put _ (some 14) _) _; simp only [Act.put, List.setIfInBounds_toArray, List.set_cons_zero, List.set_cons_succ]
      refine wpAnyH_ready (rs := [3, 7]) (by kernel_rfl) (by simp) ?_
      refine AllReadyH.cons rfl (fun K hK => ?_) (AllReadyH.cons rfl (fun K hK => ?_) AllReadyH.nil)
      · have hcl := HCL.out.cell 3
        simp only [List.getElem?_toArray, List.getElem?_cons_zero, List.getElem?_cons_succ] at hcl
        try (change World.cell? _ ⟨w.heap.size, 3, none⟩ = _ at hcl)
        go_simp
        clear hcl
        refine hK.out _ _ ?_ (fun hHeld => ?_)
        · exact trivial
        clear hK K
        try simp only [Act.put, List.setIfInBounds_toArray, List.set_cons_zero, List.set_cons_succ]
        refine wpAnyH_take (i := 4) (v := ?v4g3_aa) rfl (by kernel_rfl) (by kernel_rfl) (by kernel_rfl) (fun _ _ _ h => h) (Or.inl ⟨by rfl, ?y4g3_aa⟩) (by assumption) ?r4g3_aa
        case y4g3_aa => (intro w hSw; (try dsimp only at hSw); go_simp; exact rfl; try with_reducible rfl)
        change wpAnyH _ _ _ _ _ _ _ (Act.put _ (some 16) _) _; simp only [Act.put, List.setIfInBounds_toArray, List.set_cons_zero, List.set_cons_succ]
        refine wpAnyH_ready (rs := [7]) (by kernel_rfl) (by simp) ?_
        refine AllReadyH.cons rfl (fun K hK => ?_) AllReadyH.nil
        go_simp
        refine (HN1.out _).mono ?_
        rintro R w2 ⟨rfl, h2⟩
        try (have HCLn := Lib.hid (HCL.out.below h2 HCL.out.lt); clear HCL; have HCL := HCLn; clear HCLn)
        have HBn := Lib.hid (HB.out.trans (h2.mono HB.out.size))
        clear HB h2
        have HB := HBn
        clear HBn
        dsimp only
        refine hK.out _ _ ?_ (fun hHeld => ?_)
        · exact trivial
        clear hK K
        try simp only [Act.put, List.setIfInBounds_toArray, List.set_cons_zero, List.set_cons_succ]
        refine wpAnyH_take (i := 8) (v := ?v8g3_aa) rfl (by kernel_rfl) (by kernel_rfl) (by kernel_rfl) (fun _ _ _ h => h) (Or.inl ⟨by rfl, ?y8g3_aa⟩) (by assumption) ?r8g3_aa
        case y8g3_aa => (intro w hSw; (try dsimp only at hSw); go_simp; try rw [if_neg (by (try simp only [ByteArray.size_append]); omega)]; try with_reducible rfl)
        change wpAnyH _ _ _ _ _ _ _ (Act.put _ (some 20) _) _; simp only [Act.put, List.setIfInBounds_toArray, List.set_cons_zero, List.set_cons_succ]
        refine wpAnyH_take (i := 9) (v := ?v9g3_aa) rfl (by kernel_rfl) (by kernel_rfl) (by kernel_rfl) (fun _ _ _ h => h) (Or.inl ⟨by rfl, ?y9g3_aa⟩) (by assumption) ?r9g3_aa
        case y9g3_aa => (intro w hSw; (try dsimp only at hSw); go_simp; try rw [if_neg (by (try simp only [ByteArray.size_append]); omega)]; try with_reducible rfl)
        change wpAnyH _ _ _ _ _ _ _ (Act.put _ (some 21) _) _; simp only [Act.put, List.setIfInBounds_toArray, List.set_cons_zero, List.set_cons_succ]
        refine wpAnyH_ready (rs := [11]) (by kernel_rfl) (by simp) ?_
        refine AllReadyH.cons rfl (fun K hK => ?_) AllReadyH.nil
        go_simp
        refine (HN2.out _).mono ?_
        rintro R w3 ⟨rfl, h3⟩
        try (have HCLn := Lib.hid (HCL.out.below h3 HCL.out.lt); clear HCL; have HCL := HCLn; clear HCLn)
        have HBn := Lib.hid (HB.out.trans (h3.mono HB.out.size))
        clear HB h3
        have HB := HBn
        clear HBn
        dsimp only
        refine hK.out _ _ ?_ (fun hHeld => ?_)
        · exact trivial
        clear hK K
        try simp only [Act.put, List.setIfInBounds_toArray, List.set_cons_zero, List.set_cons_succ]
        refine wpAnyH_take (i := 12) (v := ?v12g3_aa) rfl (by kernel_rfl) (by kernel_rfl) (by kernel_rfl) (fun _ _ _ h => h) (Or.inl ⟨by rfl, ?y12g3_aa⟩) (by assumption) ?r12g3_aa
        case y12g3_aa => (intro w hSw; (try dsimp only at hSw); go_simp; try rw [if_neg (by (try simp only [ByteArray.size_append]); omega)]; try with_reducible rfl)
        change wpAnyH _ _ _ _ _ _ _ (Act.put _ (some 24) _) _; simp only [Act.put, List.setIfInBounds_toArray, List.set_cons_zero, List.set_cons_succ]
        refine wpAnyH_take (i := 13) (v := ?v13g3_aa) rfl (by kernel_rfl) (by kernel_rfl) (by kernel_rfl) (fun _ _ _ h => h) (Or.inl ⟨by rfl, ?y13g3_aa⟩) (by assumption) ?r13g3_aa
        case y13g3_aa => (intro w hSw; (try dsimp only at hSw); go_simp; try rw [if_neg (by (try simp only [ByteArray.size_append]); omega)]; try with_reducible rfl)
        change wpAnyH _ _ _ _ _ _ _ (Act.put _ (some 25) _) _; simp only [Act.put, List.setIfInBounds_toArray, List.set_cons_zero, List.set_cons_succ]
        refine wpAnyH_take (i := 14) (v := ?v14g3_aa) rfl (by kernel_rfl) (by kernel_rfl) (by kernel_rfl) (fun _ _ _ h => h) (Or.inl ⟨by rfl, ?y14g3_aa⟩) (by assumption) ?r14g3_aa
        case y14g3_aa => (intro w hSw; (try dsimp only at hSw); go_simp; try with_reducible rfl)
        change wpAnyH _ _ _ _ _ _ _ (Act.put _ (some 7) _) _; simp only [Act.put, List.setIfInBounds_toArray, List.set_cons_zero, List.set_cons_succ]
        refine wpAnyH_done (by kernel_rfl) ?_ _
        refine NoPanic.normal ?_
        go_wp2_with fail
        go_meet
        exact ⟨by rw [← HHT.out], HB.out⟩
      · go_simp
        refine (HN1.out _).mono ?_
        rintro R w2 ⟨rfl, h2⟩
        try (have HCLn := Lib.hid (HCL.out.below h2 HCL.out.lt); clear HCL; have HCL := HCLn; clear HCLn)
        have HBn := Lib.hid (HB.out.trans (h2.mono HB.out.size))
        clear HB h2
        have HB := HBn
        clear HBn
        dsimp only
        refine hK.out _ _ ?_ (fun hHeld => ?_)
        · exact trivial
        clear hK K
        try simp only [Act.put, List.setIfInBounds_toArray, List.set_cons_zero, List.set_cons_succ]
        refine wpAnyH_ready (rs := [3, 11]) (by kernel_rfl) (by simp) ?_
        refine AllReadyH.cons rfl (fun K hK => ?_) (AllReadyH.cons rfl (fun K hK => ?_) AllReadyH.nil)
        · have hcl := HCL.out.cell 3
          simp only [List.getElem?_toArray, List.getElem?_cons_zero, List.getElem?_cons_succ] at hcl
          try (change World.cell? _ ⟨w.heap.size, 3, none⟩ = _ at hcl)
          go_simp
          clear hcl
          refine hK.out _ _ ?_ (fun hHeld => ?_)
          · exact trivial
          clear hK K
          try simp only [Act.put, List.setIfInBounds_toArray, List.set_cons_zero, List.set_cons_succ]
          refine wpAnyH_take (i := 4) (v := ?v4g3_aba) rfl (by kernel_rfl) (by kernel_rfl) (by kernel_rfl) (fun _ _ _ h => h) (Or.inl ⟨by rfl, ?y4g3_aba⟩) (by assumption) ?r4g3_aba
          case y4g3_aba => (intro w hSw; (try dsimp only at hSw); go_simp; exact rfl; try with_reducible rfl)
          change wpAnyH _ _ _ _ _ _ _ (Act.put _ (some 16) _) _; simp only [Act.put, List.setIfInBounds_toArray, List.set_cons_zero, List.set_cons_succ]
          refine wpAnyH_take (i := 8) (v := ?v8g3_aba) rfl (by kernel_rfl) (by kernel_rfl) (by kernel_rfl) (fun _ _ _ h => h) (Or.inl ⟨by rfl, ?y8g3_aba⟩) (by assumption) ?r8g3_aba
          case y8g3_aba => (intro w hSw; (try dsimp only at hSw); go_simp; try rw [if_neg (by (try simp only [ByteArray.size_append]); omega)]; try with_reducible rfl)
          change wpAnyH _ _ _ _ _ _ _ (Act.put _ (some 20) _) _; simp only [Act.put, List.setIfInBounds_toArray, List.set_cons_zero, List.set_cons_succ]
          refine wpAnyH_take (i := 9) (v := ?v9g3_aba) rfl (by kernel_rfl) (by kernel_rfl) (by kernel_rfl) (fun _ _ _ h => h) (Or.inl ⟨by rfl, ?y9g3_aba⟩) (by assumption) ?r9g3_aba
          case y9g3_aba => (intro w hSw; (try dsimp only at hSw); go_simp; try rw [if_neg (by (try simp only [ByteArray.size_append]); omega)]; try with_reducible rfl)
          change wpAnyH _ _ _ _ _ _ _ (Act.put _ (some 21) _) _; simp only [Act.put, List.setIfInBounds_toArray, List.set_cons_zero, List.set_cons_succ]
          refine wpAnyH_ready (rs := [11]) (by kernel_rfl) (by simp) ?_
          refine AllReadyH.cons rfl (fun K hK => ?_) AllReadyH.nil
          go_simp
          refine (HN2.out _).mono ?_
          rintro R w3 ⟨rfl, h3⟩
          try (have HCLn := Lib.hid (HCL.out.below h3 HCL.out.lt); clear HCL; have HCL := HCLn; clear HCLn)
          have HBn := Lib.hid (HB.out.trans (h3.mono HB.out.size))
          clear HB h3
          have HB := HBn
          clear HBn
          dsimp only
          refine hK.out _ _ ?_ (fun hHeld => ?_)
          · exact trivial
          clear hK K
          try simp only [Act.put, List.setIfInBounds_toArray, List.set_cons_zero, List.set_cons_succ]
          refine wpAnyH_take (i := 12) (v := ?v12g3_aba) rfl (by kernel_rfl) (by kernel_rfl) (by kernel_rfl) (fun _ _ _ h => h) (Or.inl ⟨by rfl, ?y12g3_aba⟩) (by assumption) ?r12g3_aba
          case y12g3_aba => (intro w hSw; (try dsimp only at hSw); go_simp; try rw [if_neg (by (try simp only [ByteArray.size_append]); omega)]; try with_reducible rfl)
          change wpAnyH _ _ _ _ _ _ _ (Act.put _ (some 24) _) _; simp only [Act.put, List.setIfInBounds_toArray, List.set_cons_zero, List.set_cons_succ]
          refine wpAnyH_take (i := 13) (v := ?v13g3_aba) rfl (by kernel_rfl) (by kernel_rfl) (by kernel_rfl) (fun _ _ _ h => h) (Or.inl ⟨by rfl, ?y13g3_aba⟩) (by assumption) ?r13g3_aba
          case y13g3_aba => (intro w hSw; (try dsimp only at hSw); go_simp; try rw [if_neg (by (try simp only [ByteArray.size_append]); omega)]; try with_reducible rfl)
          change wpAnyH _ _ _ _ _ _ _ (Act.put _ (some 25) _) _; simp only [Act.put, List.setIfInBounds_toArray, List.set_cons_zero, List.set_cons_succ]
          refine wpAnyH_take (i := 14) (v := ?v14g3_aba) rfl (by kernel_rfl) (by kernel_rfl) (by kernel_rfl) (fun _ _ _ h => h) (Or.inl ⟨by rfl, ?y14g3_aba⟩) (by assumption) ?r14g3_aba
          case y14g3_aba => (intro w hSw; (try dsimp only at hSw); go_simp; try with_reducible rfl)
          change wpAnyH _ _ _ _ _ _ _ (Act.put _ (some 7) _) _; simp only [Act.put, List.setIfInBounds_toArray, List.set_cons_zero, List.set_cons_succ]
          refine wpAnyH_done (by kernel_rfl) ?_ _
          refine NoPanic.normal ?_
          go_wp2_with fail
          go_meet
          exact ⟨by rw [← HHT.out], HB.out⟩
        · go_simp
          refine (HN2.out _).mono ?_
          rintro R w3 ⟨rfl, h3⟩
          try (have HCLn := Lib.hid (HCL.out.below h3 HCL.out.lt); clear HCL; have HCL := HCLn; clear HCLn)
          have HBn := Lib.hid (HB.out.trans (h3.mono HB.out.size))
          clear HB h3
          have HB := HBn
          clear HBn
          dsimp only
          refine hK.out _ _ ?_ (fun hHeld => ?_)
          · exact trivial
          clear hK K
          try simp only [Act.put, List.setIfInBounds_toArray, List.set_cons_zero, List.set_cons_succ]
          refine wpAnyH_ready (rs := [3]) (by kernel_rfl) (by simp) ?_
          refine AllReadyH.cons rfl (fun K hK => ?_) AllReadyH.nil
          have hcl := HCL.out.cell 3
          simp only [List.getElem?_toArray, List.getElem?_cons_zero, List.getElem?_cons_succ] at hcl
          try (change World.cell? _ ⟨w.heap.size, 3, none⟩ = _ at hcl)
          go_simp
          clear hcl
          refine hK.out _ _ ?_ (fun hHeld => ?_)
          · exact trivial
          clear hK K
          try simp only [Act.put, List.setIfInBounds_toArray, List.set_cons_zero, List.set_cons_succ]
          refine wpAnyH_take (i := 4) (v := ?v4g3_abb) rfl (by kernel_rfl) (by kernel_rfl) (by kernel_rfl) (fun _ _ _ h => h) (Or.inl ⟨by rfl, ?y4g3_abb⟩) (by assumption) ?r4g3_abb
          case y4g3_abb => (intro w hSw; (try dsimp only at hSw); go_simp; exact rfl; try with_reducible rfl)
          change wpAnyH _ _ _ _ _ _ _ (Act.put _ (some 16) _) _; simp only [Act.put, List.setIfInBounds_toArray, List.set_cons_zero, List.set_cons_succ]
          refine wpAnyH_take (i := 8) (v := ?v8g3_abb) rfl (by kernel_rfl) (by kernel_rfl) (by kernel_rfl) (fun _ _ _ h => h) (Or.inl ⟨by rfl, ?y8g3_abb⟩) (by assumption) ?r8g3_abb
          case y8g3_abb => (intro w hSw; (try dsimp only at hSw); go_simp; try rw [if_neg (by (try simp only [ByteArray.size_append]); omega)]; try with_reducible rfl)
          change wpAnyH _ _ _ _ _ _ _ (Act.put _ (some 20) _) _; simp only [Act.put, List.setIfInBounds_toArray, List.set_cons_zero, List.set_cons_succ]
          refine wpAnyH_take (i := 9) (v := ?v9g3_abb) rfl (by kernel_rfl) (by kernel_rfl) (by kernel_rfl) (fun _ _ _ h => h) (Or.inl ⟨by rfl, ?y9g3_abb⟩) (by assumption) ?r9g3_abb
          case y9g3_abb => (intro w hSw; (try dsimp only at hSw); go_simp; try rw [if_neg (by (try simp only [ByteArray.size_append]); omega)]; try with_reducible rfl)
          change wpAnyH _ _ _ _ _ _ _ (Act.put _ (some 21) _) _; simp only [Act.put, List.setIfInBounds_toArray, List.set_cons_zero, List.set_cons_succ]
          refine wpAnyH_take (i := 12) (v := ?v12g3_abb) rfl (by kernel_rfl) (by kernel_rfl) (by kernel_rfl) (fun _ _ _ h => h) (Or.inl ⟨by rfl, ?y12g3_abb⟩) (by assumption) ?r12g3_abb
          case y12g3_abb => (intro w hSw; (try dsimp only at hSw); go_simp; try rw [if_neg (by (try simp only [ByteArray.size_append]); omega)]; try with_reducible rfl)
          change wpAnyH _ _ _ _ _ _ _ (Act.put _ (some 24) _) _; simp only [Act.put, List.setIfInBounds_toArray, List.set_cons_zero, List.set_cons_succ]
          refine wpAnyH_take (i := 13) (v := ?v13g3_abb) rfl (by kernel_rfl) (by kernel_rfl) (by kernel_rfl) (fun _ _ _ h => h) (Or.inl ⟨by rfl, ?y13g3_abb⟩) (by assumption) ?r13g3_abb
          case y13g3_abb => (intro w hSw; (try dsimp only at hSw); go_simp; try rw [if_neg (by (try simp only [ByteArray.size_append]); omega)]; try with_reducible rfl)
          change wpAnyH _ _ _ _ _ _ _ (Act.put _ (some 25) _) _; simp only [Act.put, List.setIfInBounds_toArray, List.set_cons_zero, List.set_cons_succ]
          refine wpAnyH_take (i := 14) (v := ?v14g3_abb) rfl (by kernel_rfl) (by kernel_rfl) (by kernel_rfl) (fun _ _ _ h => h) (Or.inl ⟨by rfl, ?y14g3_abb⟩) (by assumption) ?r14g3_abb
          case y14g3_abb => (intro w hSw; (try dsimp only at hSw); go_simp; try with_reducible rfl)
          change wpAnyH _ _ _ _ _ _ _ (Act.put _ (some 7) _) _; simp only [Act.put, List.setIfInBounds_toArray, List.set_cons_zero, List.set_cons_succ]
          refine wpAnyH_done (by kernel_rfl) ?_ _
          refine NoPanic.normal ?_
          go_wp2_with fail
          go_meet
          exact ⟨by rw [← HHT.out], HB.out⟩
    · go_simp
      refine (HN1.out _).mono ?_
      rintro R w2 ⟨rfl, h2⟩
      try (have HCLn := Lib.hid (HCL.out.below h2 HCL.out.lt); clear HCL; have HCL := HCLn; clear HCLn)
      have HBn := Lib.hid (HB.out.trans (h2.mono HB.out.size))
      clear HB h2
      have HB := HBn
      clear HBn
      dsimp only
      refine hK.out _ _ ?_ (fun hHeld => ?_)
      · exact trivial
      clear hK K
      try simp only [Act.put, List.setIfInBounds_toArray, List.set_cons_zero, List.set_cons_succ]
      refine wpAnyH_ready (rs := [0, 11]) (by kernel_rfl) (by simp) ?_
      refine AllReadyH.cons rfl (fun K hK => ?_) (AllReadyH.cons rfl (fun K hK => ?_) AllReadyH.nil)
      · go_simp
        have HCL := Lib.hid ((fun {W : World} (_ : Below w.heap.size w W) => Blk.new W 9 #[.string ⟨#[]⟩, .string ⟨#[114, 97, 110, 107]⟩, .string ⟨#[108, 97, 98, 101, 108]⟩, .string ⟨#[112, 97, 116, 104, 115]⟩]) HB.out)
        have HBn := Lib.hid (HB.out.alloc HB.out.size (.cells #[.string ⟨#[]⟩, .string ⟨#[114, 97, 110, 107]⟩, .string ⟨#[108, 97, 98, 101, 108]⟩, .string ⟨#[112, 97, 116, 104, 115]⟩] 9))
        clear HB
        have HB := HBn
        clear HBn
        refine hK.out _ _ ?_ (fun hHeld => ?_)
        · exact trivial
        clear hK K
        try simp only [Act.put, List.setIfInBounds_toArray, List.set_cons_zero, List.set_cons_succ]
        refine wpAnyH_take (i := 2) (v := ?v2g3_ba) rfl (by kernel_rfl) (by kernel_rfl) (by kernel_rfl) (fun _ _ _ h => h) (Or.inl ⟨by rfl, ?y2g3_ba⟩) (by assumption) ?r2g3_ba
        case y2g3_ba => (intro w hSw; (try dsimp only at hSw); go_simp; try with_reducible rfl)
        change wpAnyH _ _ _ _ _ _ _ (Act.put _ (some 14) _) _; simp only [Act.put, List.setIfInBounds_toArray, List.set_cons_zero, List.set_cons_succ]
        refine wpAnyH_ready (rs := [3, 11]) (by kernel_rfl) (by simp) ?_
        refine AllReadyH.cons rfl (fun K hK => ?_) (AllReadyH.cons rfl (fun K hK => ?_) AllReadyH.nil)
        · have hcl := HCL.out.cell 3
          simp only [List.getElem?_toArray, List.getElem?_cons_zero, List.getElem?_cons_succ] at hcl
          try (change World.cell? _ ⟨w.heap.size, 3, none⟩ = _ at hcl)
          go_simp
          clear hcl
          refine hK.out _ _ ?_ (fun hHeld => ?_)
          · exact trivial
          clear hK K
          try simp only [Act.put, List.setIfInBounds_toArray, List.set_cons_zero, List.set_cons_succ]
          refine wpAnyH_take (i := 4) (v := ?v4g3_baa) rfl (by kernel_rfl) (by kernel_rfl) (by kernel_rfl) (fun _ _ _ h => h) (Or.inl ⟨by rfl, ?y4g3_baa⟩) (by assumption) ?r4g3_baa
          case y4g3_baa => (intro w hSw; (try dsimp only at hSw); go_simp; exact rfl; try with_reducible rfl)
          change wpAnyH _ _ _ _ _ _ _ (Act.put _ (some 16) _) _; simp only [Act.put, List.setIfInBounds_toArray, List.set_cons_zero, List.set_cons_succ]
          refine wpAnyH_take (i := 8) (v := ?v8g3_baa) rfl (by kernel_rfl) (by kernel_rfl) (by kernel_rfl) (fun _ _ _ h => h) (Or.inl ⟨by rfl, ?y8g3_baa⟩) (by assumption) ?r8g3_baa
          case y8g3_baa => (intro w hSw; (try dsimp only at hSw); go_simp; try rw [if_neg (by (try simp only [ByteArray.size_append]); omega)]; try with_reducible rfl)
          change wpAnyH _ _ _ _ _ _ _ (Act.put _ (some 20) _) _; simp only [Act.put, List.setIfInBounds_toArray, List.set_cons_zero, List.set_cons_succ]
          refine wpAnyH_take (i := 9) (v := ?v9g3_baa) rfl (by kernel_rfl) (by kernel_rfl) (by kernel_rfl) (fun _ _ _ h => h) (Or.inl ⟨by rfl, ?y9g3_baa⟩) (by assumption) ?r9g3_baa
          case y9g3_baa => (intro w hSw; (try dsimp only at hSw); go_simp; try rw [if_neg (by (try simp only [ByteArray.size_append]); omega)]; try with_reducible rfl)
          change wpAnyH _ _ _ _ _ _ _ (Act.put _ (some 21) _) _; simp only [Act.put, List.setIfInBounds_toArray, List.set_cons_zero, List.set_cons_succ]
          refine wpAnyH_ready (rs := [11]) (by kernel_rfl) (by simp) ?_
          refine AllReadyH.cons rfl (fun K hK => ?_) AllReadyH.nil
          go_simp
          refine (HN2.out _).mono ?_
          rintro R w3 ⟨rfl, h3⟩
          try (have HCLn := Lib.hid (HCL.out.below h3 HCL.out.lt); clear HCL; have HCL := HCLn; clear HCLn)
          have HBn := Lib.hid (HB.out.trans (h3.mono HB.out.size))
          clear HB h3
          have HB := HBn
          clear HBn
          dsimp only
          refine hK.out _ _ ?_ (fun hHeld => ?_)
          · exact trivial
          clear hK K
          try simp only [Act.put, List.setIfInBounds_toArray, List.set_cons_zero, List.set_cons_succ]
          refine wpAnyH_take (i := 12) (v := ?v12g3_baa) rfl (by kernel_rfl) (by kernel_rfl) (by kernel_rfl) (fun _ _ _ h => h) (Or.inl ⟨by rfl, ?y12g3_baa⟩) (by assumption) ?r12g3_baa
          case y12g3_baa => (intro w hSw; (try dsimp only at hSw); go_simp; try rw [if_neg (by (try simp only [ByteArray.size_append]); omega)]; try with_reducible rfl)
          change wpAnyH _ _ _ _ _ _ _ (Act.put _ (some 24) _) _; simp only [Act.put, List.setIfInBounds_toArray, List.set_cons_zero, List.set_cons_succ]
          refine wpAnyH_take (i := 13) (v := ?v13g3_baa) rfl (by kernel_rfl) (by kernel_rfl) (by kernel_rfl) (fun _ _ _ h => h) (Or.inl ⟨by rfl, ?y13g3_baa⟩) (by assumption) ?r13g3_baa
          case y13g3_baa => (intro w hSw; (try dsimp only at hSw); go_simp; try rw [if_neg (by (try simp only [ByteArray.size_append]); omega)]; try with_reducible rfl)
          change wpAnyH _ _ _ _ _ _ _ (Act.put _ (some 25) _) _; simp only [Act.put, List.setIfInBounds_toArray, List.set_cons_zero, List.set_cons_succ]
          refine wpAnyH_take (i := 14) (v := ?v14g3_baa) rfl (by kernel_rfl) (by kernel_rfl) (by kernel_rfl) (fun _ _ _ h => h) (Or.inl ⟨by rfl, ?y14g3_baa⟩) (by assumption) ?r14g3_baa
          case y14g3_baa => (intro w hSw; (try dsimp only at hSw); go_simp; try with_reducible rfl)
          change wpAnyH _ _ _ _ _ _ _ (Act.put _ (some 7) _) _; simp only [Act.put, List.setIfInBounds_toArray, List.set_cons_zero, List.set_cons_succ]
          refine wpAnyH_done (by kernel_rfl) ?_ _
          refine NoPanic.normal ?_
          go_wp2_with fail
          go_meet
          exact ⟨by rw [← HHT.out], HB.out⟩
        · go_simp
          refine (HN2.out _).mono ?_
          rintro R w3 ⟨rfl, h3⟩
          try (have HCLn := Lib.hid (HCL.out.below h3 HCL.out.lt); clear HCL; have HCL := HCLn; clear HCLn)
          have HBn := Lib.hid (HB.out.trans (h3.mono HB.out.size))
          clear HB h3
          have HB := HBn
          clear HBn
          dsimp only
          refine hK.out _ _ ?_ (fun hHeld => ?_)
          · exact trivial
          clear hK K
          try simp only [Act.put, List.setIfInBounds_toArray, List.set_cons_zero, List.set_cons_succ]
          refine wpAnyH_ready (rs := [3]) (by kernel_rfl) (by simp) ?_
          refine AllReadyH.cons rfl (fun K hK => ?_) AllReadyH.nil
          have hcl := HCL.out.cell 3
          simp only [List.getElem?_toArray, List.getElem?_cons_zero, List.getElem?_cons_succ] at hcl
          try (change World.cell? _ ⟨w.heap.size, 3, none⟩ = _ at hcl)
          go_simp
          clear hcl
          refine hK.out _ _ ?_ (fun hHeld => ?_)
          · exact trivial
          clear hK K
          try simp only [Act.put, List.setIfInBounds_toArray, List.set_cons_zero, List.set_cons_succ]
          refine wpAnyH_take (i := 4) (v := ?v4g3_bab) rfl (by kernel_rfl) (by kernel_rfl) (by kernel_rfl) (fun _ _ _ h => h) (Or.inl ⟨by rfl, ?y4g3_bab⟩) (by assumption) ?r4g3_bab
          case y4g3_bab => (intro w hSw; (try dsimp only at hSw); go_simp; exact rfl; try with_reducible rfl)
          change wpAnyH _ _ _ _ _ _ _ (Act.put _ (some 16) _) _; simp only [Act.put, List.setIfInBounds_toArray, List.set_cons_zero, List.set_cons_succ]
          refine wpAnyH_take (i := 8) (v := ?v8g3_bab) rfl (by kernel_rfl) (by kernel_rfl) (by kernel_rfl) (fun _ _ _ h => h) (Or.inl ⟨by rfl, ?y8g3_bab⟩) (by assumption) ?r8g3_bab
          case y8g3_bab => (intro w hSw; (try dsimp only at hSw); go_simp; try rw [if_neg (by (try simp only [ByteArray.size_append]); omega)]; try with_reducible rfl)
          change wpAnyH _ _ _ _ _ _ _ (Act.put _ (some 20) _) _; simp only [Act.put, List.setIfInBounds_toArray, List.set_cons_zero, List.set_cons_succ]
          refine wpAnyH_take (i := 9) (v := ?v9g3_bab) rfl (by kernel_rfl) (by kernel_rfl) (by kernel_rfl) (fun _ _ _ h => h) (Or.inl ⟨by rfl, ?y9g3_bab⟩) (by assumption) ?r9g3_bab
          case y9g3_bab => (intro w hSw; (try dsimp only at hSw); go_simp; try rw [if_neg (by (try simp only [ByteArray.size_append]); omega)]; try with_reducible rfl)
          change wpAnyH _ _ _ _ _ _ _ (Act.put _ (some 21) _) _; simp only [Act.put, List.setIfInBounds_toArray, List.set_cons_zero, List.set_cons_succ]
          refine wpAnyH_take (i := 12) (v := ?v12g3_bab) rfl (by kernel_rfl) (by kernel_rfl) (by kernel_rfl) (fun _ _ _ h => h) (Or.inl ⟨by rfl, ?y12g3_bab⟩) (by assumption) ?r12g3_bab
          case y12g3_bab => (intro w hSw; (try dsimp only at hSw); go_simp; try rw [if_neg (by (try simp only [ByteArray.size_append]); omega)]; try with_reducible rfl)
          change wpAnyH _ _ _ _ _ _ _ (Act.put _ (some 24) _) _; simp only [Act.put, List.setIfInBounds_toArray, List.set_cons_zero, List.set_cons_succ]
          refine wpAnyH_take (i := 13) (v := ?v13g3_bab) rfl (by kernel_rfl) (by kernel_rfl) (by kernel_rfl) (fun _ _ _ h => h) (Or.inl ⟨by rfl, ?y13g3_bab⟩) (by assumption) ?r13g3_bab
          case y13g3_bab => (intro w hSw; (try dsimp only at hSw); go_simp; try rw [if_neg (by (try simp only [ByteArray.size_append]); omega)]; try with_reducible rfl)
          change wpAnyH _ _ _ _ _ _ _ (Act.put _ (some 25) _) _; simp only [Act.put, List.setIfInBounds_toArray, List.set_cons_zero, List.set_cons_succ]
          refine wpAnyH_take (i := 14) (v := ?v14g3_bab) rfl (by kernel_rfl) (by kernel_rfl) (by kernel_rfl) (fun _ _ _ h => h) (Or.inl ⟨by rfl, ?y14g3_bab⟩) (by assumption) ?r14g3_bab
          case y14g3_bab => (intro w hSw; (try dsimp only at hSw); go_simp; try with_reducible rfl)
          change wpAnyH _ _ _ _ _ _ _ (Act.put _ (some 7) _) _; simp only [Act.put, List.setIfInBounds_toArray, List.set_cons_zero, List.set_cons_succ]
          refine wpAnyH_done (by kernel_rfl) ?_ _
          refine NoPanic.normal ?_
          go_wp2_with fail
          go_meet
          exact ⟨by rw [← HHT.out], HB.out⟩
      · go_simp
        refine (HN2.out _).mono ?_
        rintro R w3 ⟨rfl, h3⟩
        try (have HCLn := Lib.hid (HCL.out.below h3 HCL.out.lt); clear HCL; have HCL := HCLn; clear HCLn)
        have HBn := Lib.hid (HB.out.trans (h3.mono HB.out.size))
        clear HB h3
        have HB := HBn
        clear HBn
        dsimp only
        refine hK.out _ _ ?_ (fun hHeld => ?_)
        · exact trivial
        clear hK K
        try simp only [Act.put, List.setIfInBounds_toArray, List.set_cons_zero, List.set_cons_succ]
        refine wpAnyH_ready (rs := [0]) (by kernel_rfl) (by simp) ?_
        refine AllReadyH.cons rfl (fun K hK => ?_) AllReadyH.nil
        go_simp
        have HCL := Lib.hid ((fun {W : World} (_ : Below w.heap.size w W) => Blk.new W 9 #[.string ⟨#[]⟩, .string ⟨#[114, 97, 110, 107]⟩, .string ⟨#[108, 97, 98, 101, 108]⟩, .string ⟨#[112, 97, 116, 104, 115]⟩]) HB.out)
        have HBn := Lib.hid (HB.out.alloc HB.out.size (.cells #[.string ⟨#[]⟩, .string ⟨#[114, 97, 110, 107]⟩, .string ⟨#[108, 97, 98, 101, 108]⟩, .string ⟨#[112, 97, 116, 104, 115]⟩] 9))
        clear HB
        have HB := HBn
        clear HBn
        refine hK.out _ _ ?_ (fun hHeld => ?_)
        · exact trivial
        clear hK K
        try simp only [Act.put, List.setIfInBounds_toArray, List.set_cons_zero, List.set_cons_succ]
        refine wpAnyH_take (i := 2) (v := ?v2g3_bb) rfl (by kernel_rfl) (by kernel_rfl) (by kernel_rfl) (fun _ _ _ h => h) (Or.inl ⟨by rfl, ?y2g3_bb⟩) (by assumption) ?r2g3_bb
        case y2g3_bb => (intro w hSw; (try dsimp only at hSw); go_simp; try with_reducible rfl)
        change wpAnyH _ _ _ _ _ _ _ (Act.put _ (some 14) _) _; simp only [Act.put, List.setIfInBounds_toArray, List.set_cons_zero, List.set_cons_succ]
        refine wpAnyH_ready (rs := [3]) (by kernel_rfl) (by simp) ?_
        refine AllReadyH.cons rfl (fun K hK => ?_) AllReadyH.nil
        have hcl := HCL.out.cell 3
        simp only [List.getElem?_toArray, List.getElem?_cons_zero, List.getElem?_cons_succ] at hcl
        try (change World.cell? _ ⟨w.heap.size, 3, none⟩ = _ at hcl)
        go_simp
        clear hcl
        refine hK.out _ _ ?_ (fun hHeld => ?_)
        · exact trivial
        clear hK K
        try simp only [Act.put, List.setIfInBounds_toArray, List.set_cons_zero, List.set_cons_succ]
        refine wpAnyH_take (i := 4) (v := ?v4g3_bb) rfl (by kernel_rfl) (by kernel_rfl) (by kernel_rfl) (fun _ _ _ h => h) (Or.inl ⟨by rfl, ?y4g3_bb⟩) (by assumption) ?r4g3_bb
        case y4g3_bb => (intro w hSw; (try dsimp only at hSw); go_simp; exact rfl; try with_reducible rfl)
        change wpAnyH _ _ _ _ _ _ _ (Act.put _ (some 16) _) _; simp only [Act.put, List.setIfInBounds_toArray, List.set_cons_zero, List.set_cons_succ]
        refine wpAnyH_take (i := 8) (v := ?v8g3_bb) rfl (by kernel_rfl) (by kernel_rfl) (by kernel_rfl) (fun _ _ _ h => h) (Or.inl ⟨by rfl, ?y8g3_bb⟩) (by assumption) ?r8g3_bb
        case y8g3_bb => (intro w hSw; (try dsimp only at hSw); go_simp; try rw [if_neg (by (try simp only [ByteArray.size_append]); omega)]; try with_reducible rfl)
        change wpAnyH _ _ _ _ _ _ _ (Act.put _ (some 20) _) _; simp only [Act.put, List.setIfInBounds_toArray, List.set_cons_zero, List.set_cons_succ]
        refine wpAnyH_take (i := 9) (v := ?v9g3_bb) rfl (by kernel_rfl) (by kernel_rfl) (by kernel_rfl) (fun _ _ _ h => h) (Or.inl ⟨by rfl, ?y9g3_bb⟩) (by assumption) ?r9g3_bb
        case y9g3_bb => (intro w hSw; (try dsimp only at hSw); go_simp; try rw [if_neg (by (try simp only [ByteArray.size_append]); omega)]; try with_reducible rfl)
        change wpAnyH _ _ _ _ _ _ _ (Act.put _ (some 21) _) _; simp only [Act.put, List.setIfInBounds_toArray, List.set_cons_zero, List.set_cons_succ]
        refine wpAnyH_take (i := 12) (v := ?v12g3_bb) rfl (by kernel_rfl) (by kernel_rfl) (by kernel_rfl) (fun _ _ _ h => h) (Or.inl ⟨by rfl, ?y12g3_bb⟩) (by assumption) ?r12g3_bb
        case y12g3_bb => (intro w hSw; (try dsimp only at hSw); go_simp; try rw [if_neg (by (try simp only [ByteArray.size_append]); omega)]; try with_reducible rfl)
        change wpAnyH _ _ _ _ _ _ _ (Act.put _ (some 24) _) _; simp only [Act.put, List.setIfInBounds_toArray, List.set_cons_zero, List.set_cons_succ]
        refine wpAnyH_take (i := 13) (v := ?v13g3_bb) rfl (by kernel_rfl) (by kernel_rfl) (by kernel_rfl) (fun _ _ _ h => h) (Or.inl ⟨by rfl, ?y13g3_bb⟩) (by assumption) ?r13g3_bb
        case y13g3_bb => (intro w hSw; (try dsimp only at hSw); go_simp; try rw [if_neg (by (try simp only [ByteArray.size_append]); omega)]; try with_reducible rfl)
        change wpAnyH _ _ _ _ _ _ _ (Act.put _ (some 25) _) _; simp only [Act.put, List.setIfInBounds_toArray, List.set_cons_zero, List.set_cons_succ]
        refine wpAnyH_take (i := 14) (v := ?v14g3_bb) rfl (by kernel_rfl) (by kernel_rfl) (by kernel_rfl) (fun _ _ _ h => h) (Or.inl ⟨by rfl, ?y14g3_bb⟩) (by assumption) ?r14g3_bb
        case y14g3_bb => (intro w hSw; (try dsimp only at hSw); go_simp; try with_reducible rfl)
        change wpAnyH _ _ _ _ _ _ _ (Act.put _ (some 7) _) _; simp only [Act.put, List.setIfInBounds_toArray, List.set_cons_zero, List.set_cons_succ]
        refine wpAnyH_done (by kernel_rfl) ?_ _
        refine NoPanic.normal ?_
        go_wp2_with fail
        go_meet
        exact ⟨by rw [← HHT.out], HB.out⟩
  case rest =>
    obtain ⟨rfl, hbc⟩ := hcut
    clear HB
    have HB := Lib.hid hbc
    clear hbc HHT hkz hz1 hz2 hp1 hp2 HN1 HN2
    go_wp2_with fail
    go_loopg [7, 8] vs.length (fun gf v7 v8 wr => ∃ i : Nat, v8 = .int .i64 i ∧ v7 = .string (ba (doneL 3 step vs i)) ∧ i + gf = vs.length ∧ Below w.heap.size w wr)
    case atStart => exact ⟨0, rfl, rfl, by omega, HB.out⟩
    case round =>
      clear HB
      obtain ⟨i, rfl, rfl, hi, hb⟩ := hrel
      have HB := Lib.hid hb
      have hlen := done_len (k := 3) (step := step) HV.out i (by omega)
      have htz := size_ba (doneL 3 step vs i)
      clear hb
      cases gk with
      | zero =>
        obtain rfl : i = vs.length := by omega
        have hfin : textL 3 step vs = doneL 3 step vs vs.length := textL_done _ _ _ (by decide)
        have HFIN := Lib.hid hfin
        clear hfin hlen htz
        go_wp2
        go_ret
        exact ⟨by unfold textB; rw [HFIN.out]; rfl, HB.out⟩
      | succ gf =>
        have hil : i < vs.length := by omega
        have hiI : (i : Int) < (vs.length : Int) := by omega
        obtain ⟨ad, u, rfl, hu, hc⟩ := (HR.out.below HB.out).at_ (k := i) hil
        obtain ⟨x, rfl⟩ := i64_of hu
        have hgx := getD_of hu
        have hxv := val_at HV.out hil
        rw [hgx] at hxv
        have hp1 := printOf_sz (i : Int); have hp2 := printOf_sz x
        have hrt := fun W => row_text 3 step vs i W
        rw [hgx] at hrt
        obtain ⟨T, hT⟩ : ∃ T, ba (doneL 3 step vs i) = T := ⟨_, rfl⟩
        obtain ⟨P1, hP1⟩ : ∃ T, printOf (i : Int) 0 = T := ⟨_, rfl⟩
        obtain ⟨P2, hP2⟩ : ∃ T, printOf x 0 = T := ⟨_, rfl⟩
        have HNi := Lib.hid (fun (W : World) => (show Calls Tryd.prog 38 #[.int .i64 i] W fun e w' => e = .returned (.string P1) ∧ Below W.heap.size W w' by rw [← hP1]; exact rdg_any W _ (by omega) (by omega)))
        unfold topI at hxv
        have HNx := Lib.hid (fun (W : World) => (show Calls Tryd.prog 38 #[.int .i64 x] W fun e w' => e = .returned (.string P2) ∧ Below W.heap.size W w' by rw [← hP2]; exact rdg_any W _ (by omega) (by omega)))
        rw [hT] at htz hrt ⊢
        rw [hP1] at hp1 hrt
        rw [hP2] at hp2
        have HRT := Lib.hid hrt; have HP2 := Lib.hid hP2
        have hz1 : (⟨#[32]⟩ : ByteArray).size = 1 := rfl
        have hz2 : (⟨#[10]⟩ : ByteArray).size = 1 := rfl
        clear hgx hu hrt hT hP1 hP2
        go_wp2_with fail
        refine (HNx.out _).mono ?_
        rintro e w2 ⟨rfl, h2⟩
        have HB2 := Lib.hid (HB.out.trans (h2.mono HB.out.size))
        have hcx := (h2.cell (p := ad.add i) (World.block_lt_of_cell? _ _ hc)).trans hc
        clear h2
        by_cases hx3 : x = 4611686018427387904
        · subst hx3
          have hs45 : (⟨#[45]⟩ : ByteArray).size = 1 := rfl
          go_wp2_with fail
          refine (HNi.out _).mono ?_
          rintro e w4 ⟨rfl, h4⟩
          have HB4 := Lib.hid (HB2.out.trans (h4.mono HB2.out.size))
          have HE := Lib.hid (HRT.out (⟨#[45]⟩) (by simp [rowW, joinB, topI]))
          clear h4
          go_wp2
          go_roundg gf
          case measure => omega
          case rel => exact ⟨i + 1, by go_num, by rw [← HE.out], by omega, HB4.out⟩
        · have hx3b : (x == 4611686018427387904) = false := by simpa using hx3
          have HX3 := Lib.hid hx3
          clear hx3
          go_wp2_with fail
          refine (HNi.out _).mono ?_
          rintro e w4 ⟨rfl, h4⟩
          have HB4 := Lib.hid (HB2.out.trans (h4.mono HB2.out.size))
          have HE := Lib.hid (HRT.out (P2) (by rw [← HP2.out]; simp [rowW, joinB, prL, topI, HX3.out]))
          clear h4
          go_wp2
          go_roundg gf
          case measure => omega
          case rel => exact ⟨i + 1, by go_num, by rw [← HE.out], by omega, HB4.out⟩
theorem rtextR_any (w : World) (k step : Int) (A : Option Addr) (c : Nat) (vs : List Int) (hr : Rd w 1 A vs.length (vs.map (Value.int .i64))) (hR : Rep k step vs) :
    Calls Tryd.prog 19 #[.int .u8 k, .int .i64 step, .slice A vs.length c] w fun e w' => e = .returned (.string (textB k step vs)) ∧ Below w.heap.size w w' := by
  rcases hR.k with rfl | rfl | rfl
  · exact rtext_1 w step A c vs hr hR
  · exact rtext_2 w step A c vs hr hR
  · exact rtext_3 w step A c vs hr hR
end Go.Proofs.YtggegefeagkhkaaDoor
