/- The row of ReportBest and its card: the law holds for every input. -/
import Derived.Test.YtggegefeagkhkaaDoorLawRpS
import Derived.Test.YtggegefeagkhkaaDoorOpenRp
import Derived.Test.YtggegefeagkhkaaDoorCards
import Derived.Test.YtggegefeagkhkaaDoorTie
import Derived.WalkKit
import Derived.ProofKit
import Derived.OpenShut
import Derived.Deep.DeepHandedRow
import Derived.Lib.LaidTab
import Derived.WalkArith
namespace Go.Proofs.YtggegefeagkhkaaDoor.reportBestCard
open Go.ChangeShapes Go.WideShapes Go.ChangeAt Go.RowKit
open Go.ChangeMaps (open_string shut_string)

theorem own : ownKnob Tryd.prog.godebug = none := by kernel_rfl
theorem laidOut : laidOutB Tryd.prog = true := by kernel_rfl
theorem gT : Tryd.prog.globalNamed "internal/strconv.uint64pow10" = some 3 := by kernel_rfl
theorem gTt : (Tryd.prog.globals[3]?).map (·.type) = some 121 := by kernel_rfl
theorem cellsT : Tryd.prog.cellsOf 121 = 20 := by kernel_rfl
theorem cellsE : Tryd.prog.cellsOf 82 = 1 := by kernel_rfl
theorem gF : Tryd.prog.globalNamed "treadwheel/words.firsts" = some 1 := by kernel_rfl
theorem gFt : (Tryd.prog.globals[1]?).map (·.type) = some 80 := by kernel_rfl
theorem cellsF : Tryd.prog.cellsOf 80 = 3 := by kernel_rfl
theorem cellsI32 : Tryd.prog.cellsOf 21 = 1 := by kernel_rfl
theorem gK : Tryd.prog.globalNamed "treadwheel/report.kinds" = some 0 := by kernel_rfl
theorem gKt : (Tryd.prog.globals[0]?).map (·.type) = some 70 := by kernel_rfl
theorem cellsK : Tryd.prog.cellsOf 70 = 4 := by kernel_rfl
theorem cellsSt : Tryd.prog.cellsOf 9 = 1 := by kernel_rfl
theorem gl {W : World} (h : laidMetH Tryd.prog Rows.reportBestRow.laid W) (hs : W.ShapedOpen Tryd.prog) : Gl W := by
  have h2 := laidMet_tail (laidMet_tail h)
  have h4 := laidMet_tail (laidMet_tail h2)
  have h5 := laidMet_tail h4
  have hT : Tb W.heap.size W := Lib.tabBelow_of_tabIs (Lib.tabIs_of_head gT gTt Tryd.underlying121 Tryd.underlying82 cellsE cellsT h2)
  have hF : Lib.TabIs Tryd.prog W "treadwheel/words.firsts" .i32 [48, 1632, 65296] := Lib.tabIs_of_head gF gFt Tryd.underlying80 Tryd.underlying21 cellsI32 cellsF h4
  have hK := strs_of_head (zs := [[], [114, 97, 110, 107], [108, 97, 98, 101, 108], [112, 97, 116, 104, 115]]) gK gKt Tryd.underlying70 Tryd.underlying9 cellsSt cellsK h5
  refine ⟨⟨hF.cell gF 0 (by decide), hF.cell gF 1 (by decide), hF.cell gF 2 (by decide)⟩, hT, fun i x hi => ?_, ?_⟩
  · match i, hi with
    | 0, hi => injection hi with hi; subst hi; exact hK 0 _ rfl
    | 1, hi => injection hi with hi; subst hi; exact hK 1 _ rfl
    | 2, hi => injection hi with hi; subst hi; exact hK 2 _ rfl
    | 3, hi => injection hi with hi; subst hi; exact hK 3 _ rfl
  · exact cell_of_shapedOpen_int (g := 2) (t := 3) (zero := #[.int .i64 0]) hs (of_decide_eq_true (by kernel_rfl)) (by kernel_rfl) rfl (by kernel_rfl) (by kernel_rfl) Tryd.underlying3
theorem params_ok : ∀ t ∈ Tryd.f6.params.toList, Tryd.prog.readableRec t = true ∧ t < Tryd.prog.types.size := by
  have h : (Tryd.f6.params.toList.all fun t => Tryd.prog.readableRec t && decide (t < Tryd.prog.types.size)) = true := by kernel_rfl
  intro t ht
  have := List.all_eq_true.1 h t ht
  simpa using this
set_option maxRecDepth 100000 in
theorem contract (H : Type) (enc : TypeId × Value → H) (W : World) (base : Nat) (args : Array Value) (ds gs : List (DataW H)) (before : List MemPlace)
    (hval : ∀ (j : Nat) t v, Tryd.f6.params[j]? = some t → args[j]? = some v → Value.okWide Tryd.prog W .any base t v)
    (hW : DataW.Whole enc Tryd.prog Tryd.f6.params.toList Rows.reportBestSpec.vars false W args.toList ds gs before) (hL : laidMetH Tryd.prog Rows.reportBestRow.laid W) (hS : W.ShapedOpen Tryd.prog) :
    Calls Tryd.prog 6 args W fun e W' => ∃ v, e = .returned v ∧ Rows.reportBestSpec.post enc Tryd.prog Tryd.f6 false true false false W args v W' := by
  have hW' := hW
  obtain ⟨p, q, hA0, hV, rfl, hfz, hnd⟩ := hW
  have hA : DataW.TrodAll enc Tryd.prog W 0 (fun _ => true) true Tryd.f6.params.toList args.toList ds p := hA0
  have hA1 := hA
  rw [Tryd.params6] at hA hval
  obtain ⟨v0, vs0, d0, ds0, p0, q0, hargs, rfl, rfl, h0, r0⟩ := trodAll_cons hA
  obtain ⟨v1, vs1, d1, ds1, p1, q1, rfl, rfl, rfl, h1, r1⟩ := trodAll_cons r0
  obtain ⟨rfl, rfl, rfl⟩ := trodAll_nil r1
  obtain rfl : args = #[v0, v1] := by cases args; simp_all
  obtain ⟨rfl, rfl⟩ := trodVars_none hV
  obtain ⟨A0, l0, c0, rfl, r_0, ml0⟩ := open_nums (hval 0 24 v0 rfl rfl) h0
  obtain ⟨n1, rfl, rfl, rfl, w1⟩ := open_int Tryd.underlying3 (hval 1 3 v1 rfl rfl) h1
  have b1 := bounds_i64 w1
  clear hA0
  simp only [List.append_nil] at hW' hA1
  refine (lawBest_any W (gl hL hS) A0 c0 l0 n1 r_0 ml0).mono fun e W' ⟨he, hg⟩ => ?_
  subst he
  exact ⟨_, rfl, law_post laidOut rfl hW' hA1 params_ok (by kernel_rfl) Tryd.underlying4 rfl hg⟩
noncomputable def laidWorld (os : Os) : World :=
  { World.holding Tryd.prog os ⟨#[], #[], []⟩ with heap := (((((((World.holding Tryd.prog os ⟨#[], #[], []⟩).heap.modify 6 (layObj Rows.laid_math_bits_deBruijn32tab)).modify 7 (layObj Rows.laid_math_bits_deBruijn64tab)).modify 3 (layObj Rows.laid_internal_strconv_uint64pow10)).modify 5 (layObj Rows.laid_unicode_utf8_acceptRanges)).modify 1 (layObj Rows.laid_treadwheel_words_firsts)).modify 0 (layObj Rows.laid_treadwheel_report_kinds)).modify 4 (layObj Rows.laid_unicode_utf8_first) }
theorem laid_met (os : Os) : laidMet Tryd.prog Rows.reportBestRow.laid ((laidWorld os).forCall (fun _ _ => 0) ⟨#[], #[.slice none 0 0, .int .i64 0], []⟩).memory :=
  laidMet_of_run' 8 (by kernel_rfl) (by kernel_rfl)
theorem reads (os : Os) {H : Type} (enc : TypeId × Value → H) : ∃ places, DataW.whole enc Tryd.prog ((laidWorld os).forCall (fun _ _ => 0) ⟨#[], #[.slice none 0 0, .int .i64 0], []⟩).memory Tryd.f6.params.toList Rows.reportBestSpec.vars false (#[.slice none 0 0, .int .i64 0] : Array Value).toList 8 = some ([.nil, .lit (.int .i64 0)], [], places) :=
  ⟨[], by kernel_rfl⟩

set_option maxRecDepth 100000 in
theorem lifted (os : Os) (started : os.Started) (H : Type) (enc : TypeId × Value → H) (F : Stop.Interp) :
    ReturnsInHanded {} Tryd.checked os 6 .any ((OpenSpec.ofChange Rows.reportBestSpec).preRow enc Tryd.prog Tryd.f6 Rows.reportBestRow.domain false Rows.reportBestRow.laid) (((OpenSpec.ofChange Rows.reportBestSpec).at F).post enc Tryd.prog Tryd.f6 false true false false) := by
  obtain ⟨places, hx⟩ := reads os enc
  refine returnsInHanded_of_row (C := Tryd.checked) (s := OpenSpec.ofChange Rows.reportBestSpec) own started (by kernel_rfl) Tryd.func6
    (witness_row_at (enc := enc) (C := Tryd.checked) false (laidWorld os) #[.slice none 0 0, .int .i64 0] rfl (by kernel_rfl) (by kernel_rfl) (by kernel_rfl)
      (OpenSpec.preRow_of_cond 8 hx (by kernel_rfl) (fun k hk => by cases hk) (by kernel_rfl) (laid_met os))) ?_
  intro W base args ds gs before hval hW _ _ _ hL hS _
  exact contract H enc W base args ds gs before hval hW hL hS

theorem said : Rows.ReportBestSaid :=
  OpenClaim.holds_of_cond 6 Tryd.f6 rfl rfl rfl rfl rfl rfl rfl ⟨rfl, rfl, rfl, rfl, rfl⟩ rfl rfl rfl rfl rfl (by kernel_rfl) Tryd.func6 (by kernel_rfl)
    (of_decide_eq_true (by kernel_rfl)) (by unfold Func.isWrapper; first | (rw [if_pos (by decide +kernel)]; kernel_rfl) | (rw [if_neg (by decide +kernel)]; exact ⟨rfl, rfl⟩))
    (fun os started H enc _ F => by rw [OpenClaim.pre_eq_preRow]; exact lifted os started H enc F)

theorem plain (f : FuncId) (fn : Func) (hf : Tryd.pinned.checked.prog.funcNamed "treadwheel/treadwheellaw27.ReportBest" = some f) (hfn : Tryd.pinned.checked.prog.funcs[f]? = some fn) :
    true = Tryd.pinned.checked.prog.looks [] ∧ ∀ (j : Nat) t, fn.params[j]? = some t → Tryd.pinned.checked.prog.wantsStandIn t = false := by
  obtain rfl : f = 6 := Option.some.inj ((show Tryd.prog.funcNamed "treadwheel/treadwheellaw27.ReportBest" = some 6 by kernel_rfl).symm.trans hf) |>.symm
  obtain rfl : fn = Tryd.f6 := (Option.some.inj (Tryd.func6.symm.trans hfn)).symm
  refine ⟨by kernel_rfl, fun j t ht => ?_⟩
  rw [Tryd.params6] at ht
  have e0 : Tryd.prog.wantsStandIn 24 = false := by kernel_rfl
  have e1 : Tryd.prog.wantsStandIn 3 = false := by kernel_rfl
  have hm := Array.mem_of_getElem? ht
  have hm2 : t = 24 ∨ t = 3 := by simpa using hm
  rcases hm2 with rfl | rfl
  · exact e0
  · exact e1

/-- The tied card of ReportBest. -/
theorem card : Rows.ReportBestCardSaid :=
  Claim7.holds_tied_plain_at .later [] _ _ _ _ said (fun _ h => by cases h) (by kernel_rfl) (fun _ h => by cases h) reportBest_row_tie rfl ⟨rfl, rfl⟩ (by kernel_rfl) rfl plain (by kernel_rfl)
end Go.Proofs.YtggegefeagkhkaaDoor.reportBestCard
