/- The program writes a report. -/
import Derived.Test.YtggegefeagkhkaaDoorRpF
import Derived.Deep.RegionHeld3
import Derived.TacticsInMore
namespace Go.Proofs.YtggegefeagkhkaaDoor
open Go.RowKit

theorem WSt.gl {w wr : World} {b : Nat} {t : List UInt8} (h : WSt w wr b t) (hG : Gl w) : Gl wr := hG.below h.below
theorem n_st (w : World) (hG : Gl w) (b : Nat) (t : List UInt8) (x : Int) (W : World) (h1 : -9223372036854775808 ≤ x) (h2 : x ≤ 9223372036854775807) (h : WSt w W b t) :
    Calls Tryd.prog 33 #[.int .i64 x] W fun e w' => e = .returned (.string (printOf x 0)) ∧ WSt w w' b t :=
  (n_any W x h1 h2 (h.gl hG)).mono fun _ _ ⟨he, hb⟩ => ⟨he, h.on hb⟩
theorem fix_st (w : World) (hG : Gl w) (b : Nat) (t : List UInt8) (x : Int) (W : World) (h1 : 0 ≤ x) (h2 : x ≤ 9223372036854775807) (h : WSt w W b t) :
    Calls Tryd.prog 35 #[.int .i64 x] W fun e w' => e = .returned (.string (fixText x.toNat)) ∧ WSt w w' b t := by
  have := text_any W (h.gl hG).tab x.toNat (by omega)
  rw [Int.toNat_of_nonneg h1] at this
  exact this.mono fun _ _ ⟨he, hb⟩ => ⟨he, h.on hb⟩
theorem line2_st (w : World) (b : Nat) (t : List UInt8) (p q : ByteArray) (W : World) (h : WSt w W b t) (hsz : t.length + p.size + q.size ≤ 100000000) :
    Calls Tryd.prog 30 #[.slice (some ⟨W.heap.size, 0, none⟩) 2 2, .pointer (some ⟨b, 0, none⟩)] (W.alloc (.cells #[.string p, .string q] 9)) fun e w' => e = .returned (.tuple #[]) ∧ WSt w w' b (t ++ lineL [p.data.toList, q.data.toList]) := by
  refine line_any w W b t [p, q] h ?_ (by simp)
  have h1 := Lib.size_eq p; have h2 := Lib.size_eq q
  simp only [List.map_cons, List.map_nil, joinB, List.length_append, List.length_cons]
  omega
theorem line3_st (w : World) (b : Nat) (t : List UInt8) (p q r : ByteArray) (W : World) (h : WSt w W b t) (hsz : t.length + p.size + q.size + r.size ≤ 100000000) :
    Calls Tryd.prog 30 #[.slice (some ⟨W.heap.size, 0, none⟩) 3 3, .pointer (some ⟨b, 0, none⟩)] (W.alloc (.cells #[.string p, .string q, .string r] 9)) fun e w' => e = .returned (.tuple #[]) ∧ WSt w w' b (t ++ lineL [p.data.toList, q.data.toList, r.data.toList]) := by
  refine line_any w W b t [p, q, r] h ?_ (by simp)
  have h1 := Lib.size_eq p; have h2 := Lib.size_eq q; have h3 := Lib.size_eq r
  simp only [List.map_cons, List.map_nil, joinB, List.length_append, List.length_cons]
  omega
theorem fixText_sz (a : Nat) (h : a ≤ 9223372036854775807) : (fixText a).size ≤ 120 := by
  unfold fixText
  rw [show ∀ l : List UInt8, (⟨l.toArray⟩ : ByteArray).size = l.length from fun l => by simp [ByteArray.size]]
  have := dec_len (a / 4294967296) (by omega)
  simp [fixD_len]
  omega
/-- the head, and so many values' lines -/
def doneL (k step : Int) (vs : List Int) (i : Nat) : List UInt8 := textOf (headW k step vs.length :: rowsW k vs i)
theorem doneL_zero (k step : Int) (vs : List Int) : doneL k step vs 0 = [] ++ lineL (headW k step vs.length) := by unfold doneL rowsW textOf; simp
theorem doneL_succ (k step : Int) (vs : List Int) (i : Nat) : doneL k step vs (i + 1) = doneL k step vs i ++ lineL (rowW k i (vs.getD i 0)) := by
  unfold doneL
  rw [rowsW_succ, ← List.cons_append, textOf_append]
  unfold textOf
  simp
theorem textL_done (k step : Int) (vs : List Int) (h : k ≠ 2) : textL k step vs = doneL k step vs vs.length := by
  unfold textL docW doneL tailW
  rw [if_neg h, List.append_nil]
theorem textL_two (step : Int) (vs : List Int) : textL 2 step vs = doneL 2 step vs vs.length ++ lineL [wParts, prL (((marks vs).getD 0 : Nat) : Int)] := by
  unfold textL docW doneL tailW
  rw [if_pos rfl, ← List.cons_append, textOf_append]
  unfold textOf
  simp
theorem prL_len (n : Int) : (prL n).length ≤ 76 := by unfold prL; rw [← Lib.size_eq]; exact printOf_sz n
theorem row_len {k : Int} {i : Nat} {x : Int} (hx : 0 ≤ x ∧ x ≤ topI) : (lineL (rowW k i x)).length ≤ 300 := by
  have h1 := prL_len i; have h2 := prL_len x
  have h3 := fixText_sz x.toNat (by unfold topI at hx; omega)
  rw [Lib.size_eq] at h3
  rw [lineL_len]
  unfold rowW
  split
  · simp only [joinB, List.length_append, List.length_cons]; omega
  · split
    · simp only [joinB, List.length_append, List.length_cons, List.length_nil]; omega
    · simp only [joinB, List.length_append, List.length_cons]; omega
theorem done_len {k step : Int} {vs : List Int} (hv : ∀ x ∈ vs, 0 ≤ x ∧ x ≤ topI) : ∀ i, i ≤ vs.length → (doneL k step vs i).length ≤ 300 * (i + 1) := by
  intro i
  induction i with
  | zero =>
    intro _
    rw [doneL_zero, List.nil_append, lineL_len]
    have h1 := prL_len vs.length; have h2 := prL_len step
    have h3 : (kindW k).length ≤ 5 := by unfold kindW; (repeat' split) <;> decide
    simp only [headW, joinB, List.length_append, List.length_cons]
    omega
  | succ i ih =>
    intro hi
    have := ih (by omega)
    have h2 := row_len (k := k) (i := i) (val_at hv (i := i) (by omega))
    rw [doneL_succ, List.length_append]
    omega
set_option maxRecDepth 100000 in
set_option maxHeartbeats 8000000 in
theorem write_1 (w : World) (hG : Gl w) (step : Int) (A : Option Addr) (c : Nat) (vs : List Int) (hr : Rd w 1 A vs.length (vs.map (Value.int .i64))) (hR : Rep 1 step vs) :
    Calls Tryd.prog 17 #[.int .u8 1, .int .i64 step, .slice A vs.length c] w fun e w' => e = .returned (.string (textB 1 step vs)) ∧ Below w.heap.size w w' := by
  have hmf : ∀ (fn : Fn) (first cap : Array Value) (w : World), (Instr.makeFunc fn first cap).run Tryd.prog w = .ok (.func fn first cap) w := fun _ _ _ _ => rfl
  have hstep := hR.step; have hn := hR.n; have hvals := hR.vals
  have HN := Lib.hid (n_st w hG w.heap.size); have HL3 := Lib.hid (line3_st w w.heap.size)
  have HL2 := Lib.hid (line2_st w w.heap.size); have HFX := Lib.hid (fix_st w hG w.heap.size); have HV := Lib.hid hvals; have HR := Lib.hid hr; have HRR := Lib.hid hR
  have HKS := Lib.hid (show ∀ W, Below w.heap.size w W → W.cell? ⟨0, 1, none⟩ = some (.string ⟨#[114, 97, 110, 107]⟩) from fun W hW => (hG.below hW).kinds 1 _ rfl)
  have HW0 := Lib.hid (WSt.new w)
  have hps := fun n => printOf_sz n
  have hp1 := hps (vs.length : Int); have hp2 := hps step
  have hkz : (⟨#[114, 97, 110, 107]⟩ : ByteArray).size = 4 := rfl
  have HD := Lib.hid HW0.out.drew
  have HD0 := Lib.hid (doneL_zero 1 step vs)
  clear hG hvals hr hR hps
  go_enter Tryd.func17, Tryd.ntmps17
  go_wp2_with fail
  refine wp_region_noPanic ?_
  refine wp_region_held_drew (S := (fun w' => w'.cell? ⟨0, 1, none⟩ = some (.string ⟨#[114, 97, 110, 107]⟩))) (by kernel_rfl) ?_ (fun hHeld => ?_)
  · exact HKS.out _ HD.out.below
  refine wpAnyH_take (i := 0) (v := ?v0g1_) rfl (by kernel_rfl) (by kernel_rfl) (by kernel_rfl) (fun _ _ _ h => h) (Or.inl ⟨by rfl, ?y0g1_⟩) (by assumption) ?r0g1_
  case y0g1_ => (intro w hSw; (try dsimp only at hSw); go_simp; try with_reducible rfl)
  change wpAnyH _ _ _ _ _ _ _ (Act.put _ (some 15) _) _; simp only [Act.put, List.setIfInBounds_toArray, List.set_cons_zero, List.set_cons_succ]
  refine wpAnyH_take (i := 1) (v := ?v1g1_) rfl (by kernel_rfl) (by kernel_rfl) (by kernel_rfl) (fun _ _ _ h => h) (Or.inl ⟨by rfl, ?y1g1_⟩) (by assumption) ?r1g1_
  case y1g1_ => (intro w hSw; (try dsimp only at hSw); go_simp; try with_reducible rfl)
  change wpAnyH _ _ _ _ _ _ _ (Act.put _ (some 16) _) _; simp only [Act.put, List.setIfInBounds_toArray, List.set_cons_zero, List.set_cons_succ]
  refine wpAnyH_take (i := 2) (v := ?v2g1_) rfl (by kernel_rfl) (by kernel_rfl) (by kernel_rfl) (fun _ _ _ h => h) (Or.inl ⟨by rfl, ?y2g1_⟩) (by assumption) ?r2g1_
  case y2g1_ => (intro w hSw; (try dsimp only at hSw); go_simp; try with_reducible rfl)
  change wpAnyH _ _ _ _ _ _ _ (Act.put _ (some 17) _) _; simp only [Act.put, List.setIfInBounds_toArray, List.set_cons_zero, List.set_cons_succ]
  refine wpAnyH_take (i := 3) (v := ?v3g1_) rfl (by kernel_rfl) (by kernel_rfl) (by kernel_rfl) (fun _ _ _ h => h) (Or.inl ⟨by rfl, ?y3g1_⟩) (by assumption) ?r3g1_
  case y3g1_ => (intro w hSw; (try dsimp only at hSw); go_simp; try with_reducible rfl)
  change wpAnyH _ _ _ _ _ _ _ (Act.put _ (some 18) _) _; simp only [Act.put, List.setIfInBounds_toArray, List.set_cons_zero, List.set_cons_succ]
  refine wpAnyH_take (i := 4) (v := ?v4g1_) rfl (by kernel_rfl) (by kernel_rfl) (by kernel_rfl) (fun _ _ _ h => h) (Or.inl ⟨by rfl, ?y4g1_⟩) (by assumption) ?r4g1_
  case y4g1_ => (intro w hSw; (try dsimp only at hSw); go_simp; try with_reducible rfl)
  change wpAnyH _ _ _ _ _ _ _ (Act.put _ (some 19) _) _; simp only [Act.put, List.setIfInBounds_toArray, List.set_cons_zero, List.set_cons_succ]
  refine wpAnyH_take (i := 5) (v := ?v5g1_) rfl (by kernel_rfl) (by kernel_rfl) (by kernel_rfl) (fun _ _ _ h => h) (Or.inl ⟨by rfl, ?y5g1_⟩) (by assumption) ?r5g1_
  case y5g1_ => (intro w hSw; (try dsimp only at hSw); go_simp; try with_reducible rfl)
  change wpAnyH _ _ _ _ _ _ _ (Act.put _ (some 20) _) _; simp only [Act.put, List.setIfInBounds_toArray, List.set_cons_zero, List.set_cons_succ]
  refine wpAnyH_take (i := 6) (v := ?v6g1_) rfl (by kernel_rfl) (by kernel_rfl) (by kernel_rfl) (fun _ _ _ h => h) (Or.inl ⟨by rfl, ?y6g1_⟩) (by assumption) ?r6g1_
  case y6g1_ => (intro w hSw; (try dsimp only at hSw); go_simp; try with_reducible rfl)
  change wpAnyH _ _ _ _ _ _ _ (Act.put _ (some 21) _) _; simp only [Act.put, List.setIfInBounds_toArray, List.set_cons_zero, List.set_cons_succ]
  refine wpAnyH_take (i := 8) (v := ?v8g1_) rfl (by kernel_rfl) (by kernel_rfl) (by kernel_rfl) (fun _ _ _ h => h) (Or.inl ⟨by rfl, ?y8g1_⟩) (by assumption) ?r8g1_
  case y8g1_ => (intro w hSw; (try dsimp only at hSw); go_simp; try with_reducible rfl)
  change wpAnyH _ _ _ _ _ _ _ (Act.put _ (some 23) _) _; simp only [Act.put, List.setIfInBounds_toArray, List.set_cons_zero, List.set_cons_succ]
  refine wpAnyH_take (i := 9) (v := ?v9g1_) rfl (by kernel_rfl) (by kernel_rfl) (by kernel_rfl) (fun _ _ _ h => h) (Or.inl ⟨by rfl, ?y9g1_⟩) (by assumption) ?r9g1_
  case y9g1_ => (intro w hSw; (try dsimp only at hSw); go_simp; try with_reducible rfl)
  change wpAnyH _ _ _ _ _ _ _ (Act.put _ (some 24) _) _; simp only [Act.put, List.setIfInBounds_toArray, List.set_cons_zero, List.set_cons_succ]
  refine wpAnyH_ready (rs := [7]) (by kernel_rfl) (by simp) ?_
  refine AllReadyH.cons rfl (fun K hK => ?_) AllReadyH.nil
  go_simp
  refine (HN.out [] _ _ (by omega) (by omega) HD.out).mono ?_
  rintro R w2 ⟨rfl, h2⟩
  have H2 := Lib.hid h2
  clear h2
  dsimp only
  refine hK.out _ _ ?_ (fun hHeld => ?_)
  · exact HKS.out _ H2.out.below
  clear hK K
  try simp only [Act.put, List.setIfInBounds_toArray, List.set_cons_zero, List.set_cons_succ]
  refine wpAnyH_ready (rs := [10]) (by kernel_rfl) (by simp) ?_
  refine AllReadyH.cons rfl (fun K hK => ?_) AllReadyH.nil
  go_simp
  refine (HN.out [] _ _ (by omega) (by omega) H2.out).mono ?_
  rintro R w3 ⟨rfl, h3⟩
  have H3 := Lib.hid h3
  clear h3
  dsimp only
  refine hK.out _ _ ?_ (fun hHeld => ?_)
  · exact HKS.out _ H3.out.below
  clear hK K
  try simp only [Act.put, List.setIfInBounds_toArray, List.set_cons_zero, List.set_cons_succ]
  refine wpAnyH_ready (rs := [11]) (by kernel_rfl) (by simp) ?_
  refine AllReadyH.cons rfl (fun K hK => ?_) AllReadyH.nil
  go_simp
  refine hK.out _ _ ?_ (fun hHeld => ?_)
  · exact HKS.out _ (H3.out.below.alloc H3.out.below.size _)
  clear hK K
  try simp only [Act.put, List.setIfInBounds_toArray, List.set_cons_zero, List.set_cons_succ]
  refine wpAnyH_ready (rs := [12]) (by kernel_rfl) (by simp) ?_
  refine AllReadyH.cons rfl (fun K hK => ?_) AllReadyH.nil
  go_simp
  refine (HL3.out [] _ _ _ _ H3.out (by rw [List.length_nil]; omega)).mono ?_
  rintro R w4 ⟨rfl, h4⟩
  have H4 := Lib.hid h4
  clear h4
  dsimp only
  refine hK.out _ _ ?_ (fun hHeld => ?_)
  · exact HKS.out _ H4.out.below
  clear hK K
  try simp only [Act.put, List.setIfInBounds_toArray, List.set_cons_zero, List.set_cons_succ]
  refine wpAnyH_done (by kernel_rfl) ?_ _
  refine NoPanic.normal ?_
  have h4 := H4.out
  rw [show ([] ++ lineL [(⟨#[114, 97, 110, 107]⟩ : ByteArray).data.toList, (printOf ↑vs.length 0).data.toList, (printOf step 0).data.toList] : List UInt8) = doneL 1 step vs 0 from HD0.out.symm] at h4
  have H5 := Lib.hid h4
  clear h4 H4 HD HD0 hHeld H2 H3 HKS HW0 hkz hp1 hp2
  go_wp2_with fail
  go_loopg [30] vs.length (fun gf vi wr => ∃ i : Nat, vi = .int .i64 i ∧ i + gf = vs.length ∧ WSt w wr w.heap.size (doneL 1 step vs i))
  case atStart => exact ⟨0, rfl, by omega, H5.out⟩
  case round =>
    clear H5
    obtain ⟨i, rfl, hi, hst⟩ := hrel
    have hlen := done_len (k := 1) (step := step) HV.out i (by omega)
    have HST := Lib.hid hst
    clear hst
    cases gk with
    | zero =>
      obtain rfl : i = vs.length := by omega
      have hfin : textL 1 step vs = doneL 1 step vs vs.length := textL_done _ _ _ (by decide)
      have hsb := Tryd.Builder_String_any w.heap.size w.heap.size (doneL 1 step vs vs.length) wr HST.out.bld HST.out.below.size
      have HFIN := Lib.hid hfin; have HSB := Lib.hid hsb
      clear hfin hsb hlen
      go_wp2_with fail
      refine HSB.out.mono ?_
      rintro e w3 ⟨rfl, hb3⟩
      have HB3 := Lib.hid (HST.out.below.trans hb3)
      clear hb3
      go_wp2
      go_ret
      exact ⟨by unfold textB; rw [HFIN.out]; rfl, HB3.out⟩
    | succ gf =>
      have hil : i < vs.length := by omega
      have hiI : (i : Int) < (vs.length : Int) := by omega
      obtain ⟨ad, u, rfl, hu, hc⟩ := (HR.out.below HST.out.below).at_ (k := i) hil
      obtain ⟨x, rfl⟩ := i64_of hu
      have hgx := getD_of hu
      have hxv := val_at HV.out hil
      rw [hgx] at hxv
      have hds := doneL_succ 1 step vs i
      rw [hgx] at hds
      have hp1 := printOf_sz (i : Int); have hp2 := printOf_sz x
      have HDS := Lib.hid hds
      clear hgx hds hu
      unfold topI at hxv
      go_wp2_with fail
      refine (HN.out _ _ _ (by omega) (by omega) HST.out).mono ?_
      rintro e w2 ⟨rfl, h2⟩
      have H2 := Lib.hid h2
      clear h2
      go_wp2_with fail
      refine (HN.out _ _ _ (by omega) (by omega) H2.out).mono ?_
      rintro e w3 ⟨rfl, h3⟩
      have H3 := Lib.hid h3
      clear h3
      have hf3 := fixText_sz x.toNat (by omega)
      go_wp2_with fail
      refine (HFX.out _ _ _ (by omega) (by omega) H3.out).mono ?_
      rintro e w4 ⟨rfl, h4⟩
      have H4 := Lib.hid h4
      clear h4
      go_wp2_with fail
      refine (HL3.out _ _ _ _ _ H4.out (by omega)).mono ?_
      rintro e w5 ⟨rfl, h5⟩
      rw [show doneL 1 step vs i ++ lineL [(printOf ↑i 0).data.toList, (printOf x 0).data.toList, (fixText x.toNat).data.toList] = doneL 1 step vs (i + 1) from HDS.out.symm] at h5
      have H5 := Lib.hid h5
      clear h5
      go_wp2
      go_roundg gf
      case measure => omega
      case rel => exact ⟨i + 1, by go_num, by omega, H5.out⟩
set_option maxRecDepth 100000 in
set_option maxHeartbeats 8000000 in
theorem write_2 (w : World) (hG : Gl w) (step : Int) (A : Option Addr) (c : Nat) (vs : List Int) (hr : Rd w 1 A vs.length (vs.map (Value.int .i64))) (hR : Rep 2 step vs) :
    Calls Tryd.prog 17 #[.int .u8 2, .int .i64 step, .slice A vs.length c] w fun e w' => e = .returned (.string (textB 2 step vs)) ∧ Below w.heap.size w w' := by
  have hmf : ∀ (fn : Fn) (first cap : Array Value) (w : World), (Instr.makeFunc fn first cap).run Tryd.prog w = .ok (.func fn first cap) w := fun _ _ _ _ => rfl
  have hstep := hR.step; have hn := hR.n; have hvals := hR.vals
  have HN := Lib.hid (n_st w hG w.heap.size); have HL3 := Lib.hid (line3_st w w.heap.size)
  have HL2 := Lib.hid (line2_st w w.heap.size); have HFX := Lib.hid (fix_st w hG w.heap.size); have HV := Lib.hid hvals; have HR := Lib.hid hr; have HRR := Lib.hid hR
  have HKS := Lib.hid (show ∀ W, Below w.heap.size w W → W.cell? ⟨0, 2, none⟩ = some (.string ⟨#[108, 97, 98, 101, 108]⟩) from fun W hW => (hG.below hW).kinds 2 _ rfl)
  have HW0 := Lib.hid (WSt.new w)
  have hps := fun n => printOf_sz n
  have hp1 := hps (vs.length : Int); have hp2 := hps step
  have hkz : (⟨#[108, 97, 98, 101, 108]⟩ : ByteArray).size = 5 := rfl
  have HD := Lib.hid HW0.out.drew
  have HD0 := Lib.hid (doneL_zero 2 step vs)
  clear hG hvals hr hR hps
  go_enter Tryd.func17, Tryd.ntmps17
  go_wp2_with fail
  refine wp_region_noPanic ?_
  refine wp_region_held_drew (S := (fun w' => w'.cell? ⟨0, 2, none⟩ = some (.string ⟨#[108, 97, 98, 101, 108]⟩))) (by kernel_rfl) ?_ (fun hHeld => ?_)
  · exact HKS.out _ HD.out.below
  refine wpAnyH_take (i := 0) (v := ?v0g2_) rfl (by kernel_rfl) (by kernel_rfl) (by kernel_rfl) (fun _ _ _ h => h) (Or.inl ⟨by rfl, ?y0g2_⟩) (by assumption) ?r0g2_
  case y0g2_ => (intro w hSw; (try dsimp only at hSw); go_simp; try with_reducible rfl)
  change wpAnyH _ _ _ _ _ _ _ (Act.put _ (some 15) _) _; simp only [Act.put, List.setIfInBounds_toArray, List.set_cons_zero, List.set_cons_succ]
  refine wpAnyH_take (i := 1) (v := ?v1g2_) rfl (by kernel_rfl) (by kernel_rfl) (by kernel_rfl) (fun _ _ _ h => h) (Or.inl ⟨by rfl, ?y1g2_⟩) (by assumption) ?r1g2_
  case y1g2_ => (intro w hSw; (try dsimp only at hSw); go_simp; try with_reducible rfl)
  change wpAnyH _ _ _ _ _ _ _ (Act.put _ (some 16) _) _; simp only [Act.put, List.setIfInBounds_toArray, List.set_cons_zero, List.set_cons_succ]
  refine wpAnyH_take (i := 2) (v := ?v2g2_) rfl (by kernel_rfl) (by kernel_rfl) (by kernel_rfl) (fun _ _ _ h => h) (Or.inl ⟨by rfl, ?y2g2_⟩) (by assumption) ?r2g2_
  case y2g2_ => (intro w hSw; (try dsimp only at hSw); go_simp; try with_reducible rfl)
  change wpAnyH _ _ _ _ _ _ _ (Act.put _ (some 17) _) _; simp only [Act.put, List.setIfInBounds_toArray, List.set_cons_zero, List.set_cons_succ]
  refine wpAnyH_take (i := 3) (v := ?v3g2_) rfl (by kernel_rfl) (by kernel_rfl) (by kernel_rfl) (fun _ _ _ h => h) (Or.inl ⟨by rfl, ?y3g2_⟩) (by assumption) ?r3g2_
  case y3g2_ => (intro w hSw; (try dsimp only at hSw); go_simp; try with_reducible rfl)
  change wpAnyH _ _ _ _ _ _ _ (Act.put _ (some 18) _) _; simp only [Act.put, List.setIfInBounds_toArray, List.set_cons_zero, List.set_cons_succ]
  refine wpAnyH_take (i := 4) (v := ?v4g2_) rfl (by kernel_rfl) (by kernel_rfl) (by kernel_rfl) (fun _ _ _ h => h) (Or.inl ⟨by rfl, ?y4g2_⟩) (by assumption) ?r4g2_
  case y4g2_ => (intro w hSw; (try dsimp only at hSw); go_simp; try with_reducible rfl)
  change wpAnyH _ _ _ _ _ _ _ (Act.put _ (some 19) _) _; simp only [Act.put, List.setIfInBounds_toArray, List.set_cons_zero, List.set_cons_succ]
  refine wpAnyH_take (i := 5) (v := ?v5g2_) rfl (by kernel_rfl) (by kernel_rfl) (by kernel_rfl) (fun _ _ _ h => h) (Or.inl ⟨by rfl, ?y5g2_⟩) (by assumption) ?r5g2_
  case y5g2_ => (intro w hSw; (try dsimp only at hSw); go_simp; try with_reducible rfl)
  change wpAnyH _ _ _ _ _ _ _ (Act.put _ (some 20) _) _; simp only [Act.put, List.setIfInBounds_toArray, List.set_cons_zero, List.set_cons_succ]
  refine wpAnyH_take (i := 6) (v := ?v6g2_) rfl (by kernel_rfl) (by kernel_rfl) (by kernel_rfl) (fun _ _ _ h => h) (Or.inl ⟨by rfl, ?y6g2_⟩) (by assumption) ?r6g2_
  case y6g2_ => (intro w hSw; (try dsimp only at hSw); go_simp; try with_reducible rfl)
  change wpAnyH _ _ _ _ _ _ _ (Act.put _ (some 21) _) _; simp only [Act.put, List.setIfInBounds_toArray, List.set_cons_zero, List.set_cons_succ]
  refine wpAnyH_take (i := 8) (v := ?v8g2_) rfl (by kernel_rfl) (by kernel_rfl) (by kernel_rfl) (fun _ _ _ h => h) (Or.inl ⟨by rfl, ?y8g2_⟩) (by assumption) ?r8g2_
  case y8g2_ => (intro w hSw; (try dsimp only at hSw); go_simp; try with_reducible rfl)
  change wpAnyH _ _ _ _ _ _ _ (Act.put _ (some 23) _) _; simp only [Act.put, List.setIfInBounds_toArray, List.set_cons_zero, List.set_cons_succ]
  refine wpAnyH_take (i := 9) (v := ?v9g2_) rfl (by kernel_rfl) (by kernel_rfl) (by kernel_rfl) (fun _ _ _ h => h) (Or.inl ⟨by rfl, ?y9g2_⟩) (by assumption) ?r9g2_
  case y9g2_ => (intro w hSw; (try dsimp only at hSw); go_simp; try with_reducible rfl)
  change wpAnyH _ _ _ _ _ _ _ (Act.put _ (some 24) _) _; simp only [Act.put, List.setIfInBounds_toArray, List.set_cons_zero, List.set_cons_succ]
  refine wpAnyH_ready (rs := [7]) (by kernel_rfl) (by simp) ?_
  refine AllReadyH.cons rfl (fun K hK => ?_) AllReadyH.nil
  go_simp
  refine (HN.out [] _ _ (by omega) (by omega) HD.out).mono ?_
  rintro R w2 ⟨rfl, h2⟩
  have H2 := Lib.hid h2
  clear h2
  dsimp only
  refine hK.out _ _ ?_ (fun hHeld => ?_)
  · exact HKS.out _ H2.out.below
  clear hK K
  try simp only [Act.put, List.setIfInBounds_toArray, List.set_cons_zero, List.set_cons_succ]
  refine wpAnyH_ready (rs := [10]) (by kernel_rfl) (by simp) ?_
  refine AllReadyH.cons rfl (fun K hK => ?_) AllReadyH.nil
  go_simp
  refine (HN.out [] _ _ (by omega) (by omega) H2.out).mono ?_
  rintro R w3 ⟨rfl, h3⟩
  have H3 := Lib.hid h3
  clear h3
  dsimp only
  refine hK.out _ _ ?_ (fun hHeld => ?_)
  · exact HKS.out _ H3.out.below
  clear hK K
  try simp only [Act.put, List.setIfInBounds_toArray, List.set_cons_zero, List.set_cons_succ]
  refine wpAnyH_ready (rs := [11]) (by kernel_rfl) (by simp) ?_
  refine AllReadyH.cons rfl (fun K hK => ?_) AllReadyH.nil
  go_simp
  refine hK.out _ _ ?_ (fun hHeld => ?_)
  · exact HKS.out _ (H3.out.below.alloc H3.out.below.size _)
  clear hK K
  try simp only [Act.put, List.setIfInBounds_toArray, List.set_cons_zero, List.set_cons_succ]
  refine wpAnyH_ready (rs := [12]) (by kernel_rfl) (by simp) ?_
  refine AllReadyH.cons rfl (fun K hK => ?_) AllReadyH.nil
  go_simp
  refine (HL3.out [] _ _ _ _ H3.out (by rw [List.length_nil]; omega)).mono ?_
  rintro R w4 ⟨rfl, h4⟩
  have H4 := Lib.hid h4
  clear h4
  dsimp only
  refine hK.out _ _ ?_ (fun hHeld => ?_)
  · exact HKS.out _ H4.out.below
  clear hK K
  try simp only [Act.put, List.setIfInBounds_toArray, List.set_cons_zero, List.set_cons_succ]
  refine wpAnyH_done (by kernel_rfl) ?_ _
  refine NoPanic.normal ?_
  have h4 := H4.out
  rw [show ([] ++ lineL [(⟨#[108, 97, 98, 101, 108]⟩ : ByteArray).data.toList, (printOf ↑vs.length 0).data.toList, (printOf step 0).data.toList] : List UInt8) = doneL 2 step vs 0 from HD0.out.symm] at h4
  have H5 := Lib.hid h4
  clear h4 H4 HD HD0 hHeld H2 H3 HKS HW0 hkz hp1 hp2
  go_wp2_with fail
  go_loopg [30] vs.length (fun gf vi wr => ∃ i : Nat, vi = .int .i64 i ∧ i + gf = vs.length ∧ WSt w wr w.heap.size (doneL 2 step vs i))
  case atStart => exact ⟨0, rfl, by omega, H5.out⟩
  case round =>
    clear H5
    obtain ⟨i, rfl, hi, hst⟩ := hrel
    have hlen := done_len (k := 2) (step := step) HV.out i (by omega)
    have HST := Lib.hid hst
    clear hst
    cases gk with
    | zero =>
      obtain rfl : i = vs.length := by omega
      have HM := Lib.hid (marks_any wr A c vs (HR.out.below HST.out.below) (by omega))
      obtain ⟨q, hq⟩ : ∃ q : Nat, (marks vs).getD 0 = q := ⟨_, rfl⟩
      have hq5 : (q : Int) ≤ 512 := by
        cases hm : marks vs with
        | none => rw [hm] at hq; simp at hq; omega
        | some n => have := marks_le vs _ n hm; rw [hm] at hq; simp at hq; omega
      have hfin : textL 2 step vs = doneL 2 step vs vs.length ++ lineL [wParts, (printOf (q : Int) 0).data.toList] := by rw [textL_two, hq]; rfl
      have HQ := Lib.hid hq; have HFIN := Lib.hid hfin
      have hpq := printOf_sz (q : Int)
      clear hq hfin
      go_wp2_with fail
      refine HM.out.mono ?_
      rintro e w2 ⟨rfl, rfl⟩
      rw [HQ.out]
      go_wp2_with fail
      refine (HN.out _ _ _ (by omega) (by omega) HST.out).mono ?_
      rintro e w3 ⟨rfl, h3⟩
      have H3 := Lib.hid h3
      clear h3
      have hwz : (⟨#[112, 97, 114, 116, 115]⟩ : ByteArray).size = 5 := rfl
      go_wp2_with fail
      refine (HL2.out _ ⟨#[112, 97, 114, 116, 115]⟩ _ _ H3.out (by omega)).mono ?_
      rintro e w4 ⟨rfl, h4⟩
      have hsb := Tryd.Builder_String_any w.heap.size w.heap.size (doneL 2 step vs vs.length ++ lineL [wParts, (printOf (q : Int) 0).data.toList]) w4 h4.bld h4.below.size
      have HSB := Lib.hid hsb; have H4 := Lib.hid h4
      clear hsb h4 hwz hpq hlen
      go_wp2_with fail
      refine HSB.out.mono ?_
      rintro e w5 ⟨rfl, hb5⟩
      have HB5 := Lib.hid (H4.out.below.trans hb5)
      clear hb5
      go_wp2
      go_ret
      exact ⟨by unfold textB; rw [HFIN.out]; rfl, HB5.out⟩
    | succ gf =>
      have hil : i < vs.length := by omega
      have hiI : (i : Int) < (vs.length : Int) := by omega
      obtain ⟨ad, u, rfl, hu, hc⟩ := (HR.out.below HST.out.below).at_ (k := i) hil
      obtain ⟨x, rfl⟩ := i64_of hu
      have hgx := getD_of hu
      have hxv := val_at HV.out hil
      rw [hgx] at hxv
      have hds := doneL_succ 2 step vs i
      rw [hgx] at hds
      have hp1 := printOf_sz (i : Int); have hp2 := printOf_sz x
      have HDS := Lib.hid hds
      clear hgx hds hu
      unfold topI at hxv
      go_wp2_with fail
      refine (HN.out _ _ _ (by omega) (by omega) HST.out).mono ?_
      rintro e w2 ⟨rfl, h2⟩
      have H2 := Lib.hid h2
      clear h2
      go_wp2_with fail
      refine (HN.out _ _ _ (by omega) (by omega) H2.out).mono ?_
      rintro e w3 ⟨rfl, h3⟩
      have H3 := Lib.hid h3
      clear h3
      go_wp2_with fail
      refine (HL2.out _ _ _ _ H3.out (by omega)).mono ?_
      rintro e w5 ⟨rfl, h5⟩
      rw [show doneL 2 step vs i ++ lineL [(printOf ↑i 0).data.toList, (printOf x 0).data.toList] = doneL 2 step vs (i + 1) from HDS.out.symm] at h5
      have H5 := Lib.hid h5
      clear h5
      go_wp2
      go_roundg gf
      case measure => omega
      case rel => exact ⟨i + 1, by go_num, by omega, H5.out⟩
set_option maxRecDepth 100000 in
set_option maxHeartbeats 8000000 in
theorem write_3 (w : World) (hG : Gl w) (step : Int) (A : Option Addr) (c : Nat) (vs : List Int) (hr : Rd w 1 A vs.length (vs.map (Value.int .i64))) (hR : Rep 3 step vs) :
    Calls Tryd.prog 17 #[.int .u8 3, .int .i64 step, .slice A vs.length c] w fun e w' => e = .returned (.string (textB 3 step vs)) ∧ Below w.heap.size w w' := by
  have hmf : ∀ (fn : Fn) (first cap : Array Value) (w : World), (Instr.makeFunc fn first cap).run Tryd.prog w = .ok (.func fn first cap) w := fun _ _ _ _ => rfl
  have hstep := hR.step; have hn := hR.n; have hvals := hR.vals
  have HN := Lib.hid (n_st w hG w.heap.size); have HL3 := Lib.hid (line3_st w w.heap.size)
  have HL2 := Lib.hid (line2_st w w.heap.size); have HFX := Lib.hid (fix_st w hG w.heap.size); have HV := Lib.hid hvals; have HR := Lib.hid hr; have HRR := Lib.hid hR
  have HKS := Lib.hid (show ∀ W, Below w.heap.size w W → W.cell? ⟨0, 3, none⟩ = some (.string ⟨#[112, 97, 116, 104, 115]⟩) from fun W hW => (hG.below hW).kinds 3 _ rfl)
  have HW0 := Lib.hid (WSt.new w)
  have hps := fun n => printOf_sz n
  have hp1 := hps (vs.length : Int); have hp2 := hps step
  have hkz : (⟨#[112, 97, 116, 104, 115]⟩ : ByteArray).size = 5 := rfl
  have HD := Lib.hid HW0.out.drew
  have HD0 := Lib.hid (doneL_zero 3 step vs)
  clear hG hvals hr hR hps
  go_enter Tryd.func17, Tryd.ntmps17
  go_wp2_with fail
  refine wp_region_noPanic ?_
  refine wp_region_held_drew (S := (fun w' => w'.cell? ⟨0, 3, none⟩ = some (.string ⟨#[112, 97, 116, 104, 115]⟩))) (by kernel_rfl) ?_ (fun hHeld => ?_)
  · exact HKS.out _ HD.out.below
  refine wpAnyH_take (i := 0) (v := ?v0g3_) rfl (by kernel_rfl) (by kernel_rfl) (by kernel_rfl) (fun _ _ _ h => h) (Or.inl ⟨by rfl, ?y0g3_⟩) (by assumption) ?r0g3_
  case y0g3_ => (intro w hSw; (try dsimp only at hSw); go_simp; try with_reducible rfl)
  change wpAnyH _ _ _ _ _ _ _ (Act.put _ (some 15) _) _; simp only [Act.put, List.setIfInBounds_toArray, List.set_cons_zero, List.set_cons_succ]
  refine wpAnyH_take (i := 1) (v := ?v1g3_) rfl (by kernel_rfl) (by kernel_rfl) (by kernel_rfl) (fun _ _ _ h => h) (Or.inl ⟨by rfl, ?y1g3_⟩) (by assumption) ?r1g3_
  case y1g3_ => (intro w hSw; (try dsimp only at hSw); go_simp; try with_reducible rfl)
  change wpAnyH _ _ _ _ _ _ _ (Act.put _ (some 16) _) _; simp only [Act.put, List.setIfInBounds_toArray, List.set_cons_zero, List.set_cons_succ]
  refine wpAnyH_take (i := 2) (v := ?v2g3_) rfl (by kernel_rfl) (by kernel_rfl) (by kernel_rfl) (fun _ _ _ h => h) (Or.inl ⟨by rfl, ?y2g3_⟩) (by assumption) ?r2g3_
  case y2g3_ => (intro w hSw; (try dsimp only at hSw); go_simp; try with_reducible rfl)
  change wpAnyH _ _ _ _ _ _ _ (Act.put _ (some 17) _) _; simp only [Act.put, List.setIfInBounds_toArray, List.set_cons_zero, List.set_cons_succ]
  refine wpAnyH_take (i := 3) (v := ?v3g3_) rfl (by kernel_rfl) (by kernel_rfl) (by kernel_rfl) (fun _ _ _ h => h) (Or.inl ⟨by rfl, ?y3g3_⟩) (by assumption) ?r3g3_
  case y3g3_ => (intro w hSw; (try dsimp only at hSw); go_simp; try with_reducible rfl)
  change wpAnyH _ _ _ _ _ _ _ (Act.put _ (some 18) _) _; simp only [Act.put, List.setIfInBounds_toArray, List.set_cons_zero, List.set_cons_succ]
  refine wpAnyH_take (i := 4) (v := ?v4g3_) rfl (by kernel_rfl) (by kernel_rfl) (by kernel_rfl) (fun _ _ _ h => h) (Or.inl ⟨by rfl, ?y4g3_⟩) (by assumption) ?r4g3_
  case y4g3_ => (intro w hSw; (try dsimp only at hSw); go_simp; try with_reducible rfl)
  change wpAnyH _ _ _ _ _ _ _ (Act.put _ (some 19) _) _; simp only [Act.put, List.setIfInBounds_toArray, List.set_cons_zero, List.set_cons_succ]
  refine wpAnyH_take (i := 5) (v := ?v5g3_) rfl (by kernel_rfl) (by kernel_rfl) (by kernel_rfl) (fun _ _ _ h => h) (Or.inl ⟨by rfl, ?y5g3_⟩) (by assumption) ?r5g3_
  case y5g3_ => (intro w hSw; (try dsimp only at hSw); go_simp; try with_reducible rfl)
  change wpAnyH _ _ _ _ _ _ _ (Act.put _ (some 20) _) _; simp only [Act.put, List.setIfInBounds_toArray, List.set_cons_zero, List.set_cons_succ]
  refine wpAnyH_take (i := 6) (v := ?v6g3_) rfl (by kernel_rfl) (by kernel_rfl) (by kernel_rfl) (fun _ _ _ h => h) (Or.inl ⟨by rfl, ?y6g3_⟩) (by assumption) ?r6g3_
  case y6g3_ => (intro w hSw; (try dsimp only at hSw); go_simp; try with_reducible rfl)
  change wpAnyH _ _ _ _ _ _ _ (Act.put _ (some 21) _) _; simp only [Act.put, List.setIfInBounds_toArray, List.set_cons_zero, List.set_cons_succ]
  refine wpAnyH_take (i := 8) (v := ?v8g3_) rfl (by kernel_rfl) (by kernel_rfl) (by kernel_rfl) (fun _ _ _ h => h) (Or.inl ⟨by rfl, ?y8g3_⟩) (by assumption) ?r8g3_
  case y8g3_ => (intro w hSw; (try dsimp only at hSw); go_simp; try with_reducible rfl)
  change wpAnyH _ _ _ _ _ _ _ (Act.put _ (some 23) _) _; simp only [Act.put, List.setIfInBounds_toArray, List.set_cons_zero, List.set_cons_succ]
  refine wpAnyH_take (i := 9) (v := ?v9g3_) rfl (by kernel_rfl) (by kernel_rfl) (by kernel_rfl) (fun _ _ _ h => h) (Or.inl ⟨by rfl, ?y9g3_⟩) (by assumption) ?r9g3_
  case y9g3_ => (intro w hSw; (try dsimp only at hSw); go_simp; try with_reducible rfl)
  change wpAnyH _ _ _ _ _ _ _ (Act.put _ (some 24) _) _; simp only [Act.put, List.setIfInBounds_toArray, List.set_cons_zero, List.set_cons_succ]
  refine wpAnyH_ready (rs := [7]) (by kernel_rfl) (by simp) ?_
  refine AllReadyH.cons rfl (fun K hK => ?_) AllReadyH.nil
  go_simp
  refine (HN.out [] _ _ (by omega) (by omega) HD.out).mono ?_
  rintro R w2 ⟨rfl, h2⟩
  have H2 := Lib.hid h2
  clear h2
  dsimp only
  refine hK.out _ _ ?_ (fun hHeld => ?_)
  · exact HKS.out _ H2.out.below
  clear hK K
  try simp only [Act.put, List.setIfInBounds_toArray, List.set_cons_zero, List.set_cons_succ]
  refine wpAnyH_ready (rs := [10]) (by kernel_rfl) (by simp) ?_
  refine AllReadyH.cons rfl (fun K hK => ?_) AllReadyH.nil
  go_simp
  refine (HN.out [] _ _ (by omega) (by omega) H2.out).mono ?_
  rintro R w3 ⟨rfl, h3⟩
  have H3 := Lib.hid h3
  clear h3
  dsimp only
  refine hK.out _ _ ?_ (fun hHeld => ?_)
  · exact HKS.out _ H3.out.below
  clear hK K
  try simp only [Act.put, List.setIfInBounds_toArray, List.set_cons_zero, List.set_cons_succ]
  refine wpAnyH_ready (rs := [11]) (by kernel_rfl) (by simp) ?_
  refine AllReadyH.cons rfl (fun K hK => ?_) AllReadyH.nil
  go_simp
  refine hK.out _ _ ?_ (fun hHeld => ?_)
  · exact HKS.out _ (H3.out.below.alloc H3.out.below.size _)
  clear hK K
  try simp only [Act.put, List.setIfInBounds_toArray, List.set_cons_zero, List.set_cons_succ]
  refine wpAnyH_ready (rs := [12]) (by kernel_rfl) (by simp) ?_
  refine AllReadyH.cons rfl (fun K hK => ?_) AllReadyH.nil
  go_simp
  refine (HL3.out [] _ _ _ _ H3.out (by rw [List.length_nil]; omega)).mono ?_
  rintro R w4 ⟨rfl, h4⟩
  have H4 := Lib.hid h4
  clear h4
  dsimp only
  refine hK.out _ _ ?_ (fun hHeld => ?_)
  · exact HKS.out _ H4.out.below
  clear hK K
  try simp only [Act.put, List.setIfInBounds_toArray, List.set_cons_zero, List.set_cons_succ]
  refine wpAnyH_done (by kernel_rfl) ?_ _
  refine NoPanic.normal ?_
  have h4 := H4.out
  rw [show ([] ++ lineL [(⟨#[112, 97, 116, 104, 115]⟩ : ByteArray).data.toList, (printOf ↑vs.length 0).data.toList, (printOf step 0).data.toList] : List UInt8) = doneL 3 step vs 0 from HD0.out.symm] at h4
  have H5 := Lib.hid h4
  clear h4 H4 HD HD0 hHeld H2 H3 HKS HW0 hkz hp1 hp2
  go_wp2_with fail
  go_loopg [30] vs.length (fun gf vi wr => ∃ i : Nat, vi = .int .i64 i ∧ i + gf = vs.length ∧ WSt w wr w.heap.size (doneL 3 step vs i))
  case atStart => exact ⟨0, rfl, by omega, H5.out⟩
  case round =>
    clear H5
    obtain ⟨i, rfl, hi, hst⟩ := hrel
    have hlen := done_len (k := 3) (step := step) HV.out i (by omega)
    have HST := Lib.hid hst
    clear hst
    cases gk with
    | zero =>
      obtain rfl : i = vs.length := by omega
      have hfin : textL 3 step vs = doneL 3 step vs vs.length := textL_done _ _ _ (by decide)
      have hsb := Tryd.Builder_String_any w.heap.size w.heap.size (doneL 3 step vs vs.length) wr HST.out.bld HST.out.below.size
      have HFIN := Lib.hid hfin; have HSB := Lib.hid hsb
      clear hfin hsb hlen
      go_wp2_with fail
      refine HSB.out.mono ?_
      rintro e w3 ⟨rfl, hb3⟩
      have HB3 := Lib.hid (HST.out.below.trans hb3)
      clear hb3
      go_wp2
      go_ret
      exact ⟨by unfold textB; rw [HFIN.out]; rfl, HB3.out⟩
    | succ gf =>
      have hil : i < vs.length := by omega
      have hiI : (i : Int) < (vs.length : Int) := by omega
      obtain ⟨ad, u, rfl, hu, hc⟩ := (HR.out.below HST.out.below).at_ (k := i) hil
      obtain ⟨x, rfl⟩ := i64_of hu
      have hgx := getD_of hu
      have hxv := val_at HV.out hil
      rw [hgx] at hxv
      have hds := doneL_succ 3 step vs i
      rw [hgx] at hds
      have hp1 := printOf_sz (i : Int); have hp2 := printOf_sz x
      have HDS := Lib.hid hds
      clear hgx hds hu
      unfold topI at hxv
      by_cases hx3 : x = 4611686018427387904
      · subst hx3
        go_wp2_with fail
        refine (HN.out _ _ _ (by omega) (by omega) HST.out).mono ?_
        rintro e w2 ⟨rfl, h2⟩
        have H2 := Lib.hid h2
        clear h2
        have hdz : (⟨#[45]⟩ : ByteArray).size = 1 := rfl
        go_wp2_with fail
        refine (HL2.out _ _ ⟨#[45]⟩ _ H2.out (by omega)).mono ?_
        rintro e w5 ⟨rfl, h5⟩
        rw [show doneL 3 step vs i ++ lineL [(printOf ↑i 0).data.toList, (⟨#[45]⟩ : ByteArray).data.toList] = doneL 3 step vs (i + 1) from (by rw [HDS.out]; unfold rowW; rw [if_neg (by decide), if_pos ⟨rfl, rfl⟩]; rfl)] at h5
        have H5 := Lib.hid h5
        clear h5
        go_wp2
        go_roundg gf
        case measure => omega
        case rel => exact ⟨i + 1, by go_num, by omega, H5.out⟩
      · have hx3b : (x == 4611686018427387904) = false := by simpa using hx3
        have HX3 := Lib.hid hx3
        clear hx3
        go_wp2_with fail
        refine (HN.out _ _ _ (by omega) (by omega) HST.out).mono ?_
        rintro e w2 ⟨rfl, h2⟩
        have H2 := Lib.hid h2
        clear h2
        go_wp2_with fail
        refine (HN.out _ _ _ (by omega) (by omega) H2.out).mono ?_
        rintro e w3 ⟨rfl, h3⟩
        have H3 := Lib.hid h3
        clear h3
        go_wp2_with fail
        refine (HL2.out _ _ _ _ H3.out (by omega)).mono ?_
        rintro e w5 ⟨rfl, h5⟩
        rw [show doneL 3 step vs i ++ lineL [(printOf ↑i 0).data.toList, (printOf x 0).data.toList] = doneL 3 step vs (i + 1) from (by rw [HDS.out]; unfold rowW; rw [if_neg (by decide), if_neg (fun e => HX3.out e.2)]; rfl)] at h5
        have H5 := Lib.hid h5
        clear h5
        go_wp2
        go_roundg gf
        case measure => omega
        case rel => exact ⟨i + 1, by go_num, by omega, H5.out⟩
theorem write_any (w : World) (hG : Gl w) (k step : Int) (A : Option Addr) (c : Nat) (vs : List Int) (hr : Rd w 1 A vs.length (vs.map (Value.int .i64))) (hR : Rep k step vs) :
    Calls Tryd.prog 17 #[.int .u8 k, .int .i64 step, .slice A vs.length c] w fun e w' => e = .returned (.string (textB k step vs)) ∧ Below w.heap.size w w' := by
  rcases hR.k with rfl | rfl | rfl
  · exact write_1 w hG step A c vs hr hR
  · exact write_2 w hG step A c vs hr hR
  · exact write_3 w hG step A c vs hr hR
end Go.Proofs.YtggegefeagkhkaaDoor
