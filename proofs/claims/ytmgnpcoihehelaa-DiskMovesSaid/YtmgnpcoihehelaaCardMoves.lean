/- The row of DiskMoves: the law holds for every input. -/
import Derived.Test.YtmgnpcoihehelaaLawMoves
import Derived.Test.YtmgnpcoihehelaaCardRoom
import Derived.Test.YtmgnpcoihehelaaOpenRow
import Derived.Deep.DeepHandedRow
import Derived.Lib.LaidTab
import Derived.WalkArith
namespace Go.Proofs.Ytmgnpcoihehelaa
open Go.RowKit Go.WideShapes Go.ChangeShapes

theorem cells2 : Try.prog.cellsOf 43 = 2 := by kernel_rfl
theorem cells2p : 0 < Try.prog.cellsOf 43 := Nat.lt_of_lt_of_eq (Nat.zero_lt_succ 1) cells2.symm
theorem cells1 : Try.prog.cellsOf 5 = 1 := by kernel_rfl
set_option maxRecDepth 100000 in
theorem open_pairs {H : Type} {enc : TypeId × Value → H} {W : World} {base : Nat} {v : Value} {d : DataW H} {ps : List MemPlace} (hv : Value.okWide Try.prog W .any base 42 v) (h : DataW.Trod enc Try.prog W 0 (fun _ => true) true 42 v d ps) :
    ∃ (A : Option Addr) (ms : List (Nat × Nat)) (c : Nat), v = .slice A ms.length c ∧ Pairs W A ms := by
  obtain ⟨A, len, c, rfl, _, _, hr⟩ := open_row Try.underlying42 cells2p hv h
  rcases hr with rfl | ⟨b, o, rfl, hb, hx⟩
  · exact ⟨A, [], c, rfl, fun h => absurd h (by simp)⟩
  · have each : ∀ i, i < len → ∃ m : Nat × Nat, m.1 ≤ 255 ∧ m.2 ≤ 255 ∧ W.cell? ⟨b, o + i * 2, none⟩ = some (.int .u8 m.1) ∧ W.cell? ⟨b, o + i * 2 + 1, none⟩ = some (.int .u8 m.2) := by
      intro i hi
      obtain ⟨cs, m, y, hl, hc, ht⟩ := hx i hi
      obtain ⟨xs, k, _, _, _, hxl, hf⟩ := DataW.trod_array Try.underlying43 ht
      rw [cells2] at hl hc
      rw [cells1] at hf
      match cs, hl with
      | [a0, a1], _ =>
        have g0 := hf 0 (by omega)
        have g1 := hf 1 (by omega)
        simp only [Nat.zero_mul, List.drop_zero, Nat.one_mul, List.drop_succ_cons, List.take_succ_cons, List.take_zero] at g0 g1
        have e0 : ∃ y, xs[0]? = some y := ⟨_, List.getElem?_eq_getElem (by omega)⟩
        have e1 : ∃ y, xs[1]? = some y := ⟨_, List.getElem?_eq_getElem (by omega)⟩
        obtain ⟨y0, e0⟩ := e0
        obtain ⟨y1, e1⟩ := e1
        rw [e0] at g0; rw [e1] at g1
        obtain ⟨n0, h0, _, w0⟩ := DataW.trod_int Try.underlying5 g0
        obtain ⟨n1, h1, _, w1⟩ := DataW.trod_int Try.underlying5 g1
        injection h0 with h0 _
        injection h1 with h1 _
        subst h0 h1
        have b0 := bounds_u8 w0
        have b1 := bounds_u8 w1
        have c0 := hc 0 (by omega)
        have c1 := hc 1 (by omega)
        refine ⟨(n0.toNat, n1.toNat), by show n0.toNat ≤ 255; omega, by show n1.toNat ≤ 255; omega, ?_, ?_⟩
        · rw [Int.toNat_of_nonneg b0.1]; exact c0
        · rw [Int.toNat_of_nonneg b1.1]; exact c1
    obtain ⟨ms, hl, hm⟩ := list_of_each each
    subst hl
    exact ⟨_, ms, c, rfl, fun _ => ⟨b, o, rfl, hb, fun j m hj => hm j m hj⟩⟩
set_option maxRecDepth 100000 in
set_option maxHeartbeats 4000000 in
theorem lawMoves_any (w : World) (A A2 : Option Addr) (c c2 : Nat) (xs : List (Value × List UInt8)) (ms : List (Nat × Nat)) (h2 : Pairs w A2 ms)
    (h : 0 < xs.length → ∃ ad, A = some ad ∧ ad.block < w.heap.size ∧ ∀ j x, xs[j]? = some x → w.cell? (ad.add j) = some x.1) (hy : ∀ x ∈ xs, ∃ A' c', x.1 = .slice A' x.2.length c' ∧ x.2.length ≤ c' ∧ BytesAt w A' x.2) :
    Calls Try.prog 5 #[.slice A xs.length c, .slice A2 ms.length c2] w fun e w' => e = .returned (.bool true) ∧ Below w.heap.size w w' := by
  by_cases hl : 1 ≤ xs.length ∧ xs.length ≤ 12 ∧ ms.length ≤ 30
  · obtain ⟨l1, l2, l3⟩ := hl
    have := moves_main w A A2 c c2 (xs.map fun x => (x.1, ⟨x.2.toArray⟩)) ms (rows2_of h hy) h2 (by rw [List.length_map]; exact l1) (by rw [List.length_map]; exact l2) l3
    rw [List.length_map] at this
    exact this
  · clear h hy h2
    by_cases l1 : (xs.length : Int) < 1
    · clear hl
      go_enter Try.func5, Try.ntmps5
      go_wp2_with fail
      refine (works_any _).mono ?_
      rintro e w1 ⟨rfl, hb⟩
      have HB := Lib.hid hb
      clear hb
      go_wp2
      go_ret
      exact ⟨rfl, HB.out⟩
    · by_cases l2 : (12 : Int) < (xs.length : Int)
      · clear hl
        go_enter Try.func5, Try.ntmps5
        go_wp2_with fail
        refine (works_any _).mono ?_
        rintro e w1 ⟨rfl, hb⟩
        have HB := Lib.hid hb
        clear hb
        go_wp2
        go_ret
        exact ⟨rfl, HB.out⟩
      · have l3 : (30 : Int) < (ms.length : Int) := by omega
        clear hl
        go_enter Try.func5, Try.ntmps5
        go_wp2_with fail
        refine (works_any _).mono ?_
        rintro e w1 ⟨rfl, hb⟩
        have HB := Lib.hid hb
        clear hb
        go_wp2
        go_ret
        exact ⟨rfl, HB.out⟩
end Go.Proofs.Ytmgnpcoihehelaa
namespace Go.Proofs.Ytmgnpcoihehelaa.diskMovesRow
open Go.ChangeShapes Go.WideShapes Go.ChangeAt Go.RowKit
theorem own : ownKnob Try.prog.godebug = none := by kernel_rfl
theorem laidOut : laidOutB Try.prog = true := by kernel_rfl
theorem params_ok : ∀ t ∈ Try.f5.params.toList, Try.prog.readableRec t = true ∧ t < Try.prog.types.size := by
  have h : (Try.f5.params.toList.all fun t => Try.prog.readableRec t && decide (t < Try.prog.types.size)) = true := by kernel_rfl
  intro t ht
  have := List.all_eq_true.1 h t ht
  simpa using this
theorem cellsU : Try.prog.cellsOf 5 = 1 := by kernel_rfl
theorem cellsB : Try.prog.cellsOf 22 = 1 := by kernel_rfl
set_option maxRecDepth 100000 in
theorem contract (H : Type) (enc : TypeId × Value → H) (W : World) (base : Nat) (args : Array Value) (ds gs : List (DataW H)) (before : List MemPlace)
    (hval : ∀ (j : Nat) t v, Try.f5.params[j]? = some t → args[j]? = some v → Value.okWide Try.prog W .any base t v)
    (hW : DataW.Whole enc Try.prog Try.f5.params.toList Rows.diskMovesSpec.vars false W args.toList ds gs before) :
    Calls Try.prog 5 args W fun e W' => ∃ v, e = .returned v ∧ Rows.diskMovesSpec.post enc Try.prog Try.f5 false true false false W args v W' := by
  have hW' := hW
  obtain ⟨p, q, hA0, hV, rfl, hfz, hnd⟩ := hW
  have hA : DataW.TrodAll enc Try.prog W 0 (fun _ => true) true Try.f5.params.toList args.toList ds p := hA0
  have hA1 := hA
  rw [Try.params5] at hA hval
  obtain ⟨v0, vs0, d0, ds0, p0, q0, hargs, rfl, rfl, h0, r0⟩ := trodAll_cons hA
  obtain ⟨v1, vs1, d1, ds1, p1, q1, rfl, rfl, rfl, h1, r1⟩ := trodAll_cons r0
  obtain ⟨rfl, rfl, rfl⟩ := trodAll_nil r1
  obtain rfl : args = #[v0, v1] := by cases args; simp_all
  obtain ⟨rfl, rfl⟩ := trodVars_none hV
  obtain ⟨A0, l0, c0, rfl, k0, m0, x0, y0⟩ := open_btrs Try.underlying36 Try.underlying22 Try.underlying5 cellsB cellsU (hval 0 36 v0 rfl rfl) h0
  obtain ⟨A1, l1, c1, rfl, m1⟩ := open_pairs (hval 1 42 v1 rfl rfl) h1
  clear hA0
  simp only [List.append_nil] at hW' hA1
  refine (lawMoves_any W _ _ _ _ _ _ m1 x0 y0).mono fun e W' ⟨he, hg⟩ => ?_
  subst he
  exact ⟨_, rfl, law_post laidOut rfl hW' hA1 params_ok (by kernel_rfl) Try.underlying4 rfl hg⟩
noncomputable def laidWorld (os : Os) : World := World.holding Try.prog os ⟨#[], #[], []⟩
theorem laid_met (os : Os) : laidMet Try.prog Rows.diskMovesRow.laid ((laidWorld os).forCall (fun _ _ => 0) ⟨#[], #[.slice none 0 0, .slice none 0 0], []⟩).memory :=
  laidMet_of_run' 8 (by kernel_rfl) (by kernel_rfl)
theorem reads (os : Os) {H : Type} (enc : TypeId × Value → H) : ∃ places, DataW.whole enc Try.prog ((laidWorld os).forCall (fun _ _ => 0) ⟨#[], #[.slice none 0 0, .slice none 0 0], []⟩).memory Try.f5.params.toList Rows.diskMovesSpec.vars false (#[.slice none 0 0, .slice none 0 0] : Array Value).toList 8 = some ([.nil, .nil], [], places) :=
  ⟨[], by kernel_rfl⟩
set_option maxRecDepth 100000 in
theorem lifted (os : Os) (started : os.Started) (H : Type) (enc : TypeId × Value → H) (F : Stop.Interp) :
    ReturnsInHanded {} Try.checked os 5 .any ((OpenSpec.ofChange Rows.diskMovesSpec).preRow enc Try.prog Try.f5 Rows.diskMovesRow.domain false Rows.diskMovesRow.laid) (((OpenSpec.ofChange Rows.diskMovesSpec).at F).post enc Try.prog Try.f5 false true false false) := by
  obtain ⟨places, hx⟩ := reads os enc
  refine returnsInHanded_of_row (C := Try.checked) (s := OpenSpec.ofChange Rows.diskMovesSpec) own started (by kernel_rfl) Try.func5
    (witness_row_at (enc := enc) (C := Try.checked) false (laidWorld os) #[.slice none 0 0, .slice none 0 0] rfl (by kernel_rfl) (by kernel_rfl) (by kernel_rfl)
      (OpenSpec.preRow_of_cond 8 hx (by kernel_rfl) (fun k hk => by cases hk) (by kernel_rfl) (laid_met os))) ?_
  intro W base args ds gs before hval hW _ _ _ hL _ _
  exact contract H enc W base args ds gs before hval hW
/-- DiskMoves: the law holds for every input. -/
theorem said : Rows.DiskMovesSaid :=
  OpenClaim.holds_of_cond 5 Try.f5 rfl rfl rfl rfl rfl rfl rfl ⟨rfl, rfl, rfl, rfl, rfl⟩ rfl rfl rfl rfl rfl (by kernel_rfl) Try.func5 (by kernel_rfl)
    (of_decide_eq_true (by kernel_rfl)) (by unfold Func.isWrapper; first | (rw [if_pos (by decide +kernel)]; kernel_rfl) | (rw [if_neg (by decide +kernel)]; exact ⟨rfl, rfl⟩))
    (fun os started H enc _ F => by rw [OpenClaim.pre_eq_preRow]; exact lifted os started H enc F)
end Go.Proofs.Ytmgnpcoihehelaa.diskMovesRow
