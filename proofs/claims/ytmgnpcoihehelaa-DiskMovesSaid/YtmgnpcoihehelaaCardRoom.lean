/- The row of DiskRoom: the law holds for every input. -/
import Derived.Test.YtmgnpcoihehelaaLawRoom
import Derived.Test.YtmgnpcoihehelaaArgs2
import Derived.Deep.DeepHandedRow
import Derived.Lib.LaidTab
import Derived.WalkArith
namespace Go.Proofs.Ytmgnpcoihehelaa
open Go.RowKit

theorem btr_at {W : World} {A : Option Addr} {l : List UInt8} {c : Nat} (hc : l.length ≤ c) (h : BytesAt W A l) : BtR W (.slice A l.length c) ⟨l.toArray⟩ := by
  have hs : (⟨l.toArray⟩ : ByteArray).size = l.length := by simp [ByteArray.size]
  refine ⟨A, c, by rw [hs], by rw [hs]; exact hc, by rw [ucells_length, Nat.mul_one], fun h0 => ?_⟩
  rw [hs] at h0
  obtain ⟨ad, hA, hb, hx⟩ := h h0
  refine ⟨ad, hA, hb, fun j u hu => ?_⟩
  unfold ucells at hu
  rw [List.getElem?_map, Option.map_eq_some_iff] at hu
  obtain ⟨b, hb1, rfl⟩ := hu
  have hj := (List.getElem?_eq_some_iff.1 hb1).1
  have hj' : j < l.length := by simpa using hj
  rw [hx j hj']
  have : l[j] = b := by
    have h1 := (List.getElem?_eq_some_iff.1 hb1).2
    simpa using h1
  rw [this]
theorem rows2_of {W : World} {A : Option Addr} {xs : List (Value × List UInt8)} (h : 0 < xs.length → ∃ ad, A = some ad ∧ ad.block < W.heap.size ∧ ∀ j x, xs[j]? = some x → W.cell? (ad.add j) = some x.1)
    (hy : ∀ x ∈ xs, ∃ A' c', x.1 = .slice A' x.2.length c' ∧ x.2.length ≤ c' ∧ BytesAt W A' x.2) : Rows2 W A (xs.map fun x => (x.1, ⟨x.2.toArray⟩)) := by
  refine ⟨⟨by simp, fun h0 => ?_⟩, fun x hx => ?_⟩
  · rw [List.length_map] at h0
    obtain ⟨ad, hA, hb, hc⟩ := h h0
    refine ⟨ad, hA, hb, fun j u hu => ?_⟩
    rw [List.map_map, List.getElem?_map, Option.map_eq_some_iff] at hu
    obtain ⟨x, hx, rfl⟩ := hu
    exact hc j x hx
  · obtain ⟨x0, hx0, rfl⟩ := List.mem_map.1 hx
    obtain ⟨A', c', h1, h2, h3⟩ := hy x0 hx0
    show BtR W x0.1 _
    rw [h1]
    exact btr_at h2 h3
set_option maxRecDepth 100000 in
set_option maxHeartbeats 4000000 in
theorem lawRoom_any (w : World) (q : Int) (A : Option Addr) (c : Nat) (xs : List (Value × List UInt8)) (cut : Int) (hq : 0 ≤ q ∧ q ≤ 65535)
    (h : 0 < xs.length → ∃ ad, A = some ad ∧ ad.block < w.heap.size ∧ ∀ j x, xs[j]? = some x → w.cell? (ad.add j) = some x.1) (hy : ∀ x ∈ xs, ∃ A' c', x.1 = .slice A' x.2.length c' ∧ x.2.length ≤ c' ∧ BytesAt w A' x.2) :
    Calls Try.prog 4 #[.int .u16 q, .slice A xs.length c, .int .i64 cut] w fun e w' => e = .returned (.bool true) ∧ Below w.heap.size w w' := by
  obtain ⟨n, rfl⟩ : ∃ n : Nat, q = n := ⟨q.toNat, by omega⟩
  by_cases hl : xs.length ≤ 40
  · have := room_main w n A c (xs.map fun x => (x.1, ⟨x.2.toArray⟩)) cut (rows2_of h hy) (by omega) (by rw [List.length_map]; exact hl)
    rw [List.length_map] at this
    exact this
  · have h1 : (40 : Int) < (xs.length : Int) := by omega
    clear h hy hl
    go_enter Try.func4, Try.ntmps4
    go_wp2_with fail
    refine (works_any _).mono ?_
    rintro e w1 ⟨rfl, hb⟩
    have HB := Lib.hid hb
    clear hb
    go_wp2
    go_ret
    exact ⟨rfl, HB.out⟩
end Go.Proofs.Ytmgnpcoihehelaa
namespace Go.Proofs.Ytmgnpcoihehelaa.diskRoomRow
open Go.ChangeShapes Go.WideShapes Go.ChangeAt Go.RowKit
theorem own : ownKnob Try.prog.godebug = none := by kernel_rfl
theorem laidOut : laidOutB Try.prog = true := by kernel_rfl
theorem params_ok : ∀ t ∈ Try.f4.params.toList, Try.prog.readableRec t = true ∧ t < Try.prog.types.size := by
  have h : (Try.f4.params.toList.all fun t => Try.prog.readableRec t && decide (t < Try.prog.types.size)) = true := by kernel_rfl
  intro t ht
  have := List.all_eq_true.1 h t ht
  simpa using this
theorem cellsU : Try.prog.cellsOf 5 = 1 := by kernel_rfl
theorem cellsB : Try.prog.cellsOf 22 = 1 := by kernel_rfl
set_option maxRecDepth 100000 in
theorem contract (H : Type) (enc : TypeId × Value → H) (W : World) (base : Nat) (args : Array Value) (ds gs : List (DataW H)) (before : List MemPlace)
    (hval : ∀ (j : Nat) t v, Try.f4.params[j]? = some t → args[j]? = some v → Value.okWide Try.prog W .any base t v)
    (hW : DataW.Whole enc Try.prog Try.f4.params.toList Rows.diskRoomSpec.vars false W args.toList ds gs before) :
    Calls Try.prog 4 args W fun e W' => ∃ v, e = .returned v ∧ Rows.diskRoomSpec.post enc Try.prog Try.f4 false true false false W args v W' := by
  have hW' := hW
  obtain ⟨p, q, hA0, hV, rfl, hfz, hnd⟩ := hW
  have hA : DataW.TrodAll enc Try.prog W 0 (fun _ => true) true Try.f4.params.toList args.toList ds p := hA0
  have hA1 := hA
  rw [Try.params4] at hA hval
  obtain ⟨v0, vs0, d0, ds0, p0, q0, hargs, rfl, rfl, h0, r0⟩ := trodAll_cons hA
  obtain ⟨v1, vs1, d1, ds1, p1, q1, rfl, rfl, rfl, h1, r1⟩ := trodAll_cons r0
  obtain ⟨v2, vs2, d2, ds2, p2, q2, rfl, rfl, rfl, h2, r2⟩ := trodAll_cons r1
  obtain ⟨rfl, rfl, rfl⟩ := trodAll_nil r2
  obtain rfl : args = #[v0, v1, v2] := by cases args; simp_all
  obtain ⟨rfl, rfl⟩ := trodVars_none hV
  obtain ⟨n0, rfl, rfl, rfl, w0⟩ := open_int Try.underlying35 (hval 0 35 v0 rfl rfl) h0
  have b0 := bounds_u16 w0
  obtain ⟨A1, l1, c1, rfl, k1, m1, x1, y1⟩ := open_btrs Try.underlying36 Try.underlying22 Try.underlying5 cellsB cellsU (hval 1 36 v1 rfl rfl) h1
  obtain ⟨n2, rfl, rfl, rfl, w2⟩ := open_int Try.underlying3 (hval 2 3 v2 rfl rfl) h2
  have b2 := bounds_i64 w2
  clear hA0
  simp only [List.append_nil] at hW' hA1
  refine (lawRoom_any W n0 _ _ _ n2 b0 x1 y1).mono fun e W' ⟨he, hg⟩ => ?_
  subst he
  exact ⟨_, rfl, law_post laidOut rfl hW' hA1 params_ok (by kernel_rfl) Try.underlying4 rfl hg⟩
noncomputable def laidWorld (os : Os) : World := World.holding Try.prog os ⟨#[], #[], []⟩
theorem laid_met (os : Os) : laidMet Try.prog Rows.diskRoomRow.laid ((laidWorld os).forCall (fun _ _ => 0) ⟨#[], #[.int .u16 0, .slice none 0 0, .int .i64 0], []⟩).memory :=
  laidMet_of_run' 8 (by kernel_rfl) (by kernel_rfl)
theorem reads (os : Os) {H : Type} (enc : TypeId × Value → H) : ∃ places, DataW.whole enc Try.prog ((laidWorld os).forCall (fun _ _ => 0) ⟨#[], #[.int .u16 0, .slice none 0 0, .int .i64 0], []⟩).memory Try.f4.params.toList Rows.diskRoomSpec.vars false (#[.int .u16 0, .slice none 0 0, .int .i64 0] : Array Value).toList 8 = some ([.lit (.int .u16 0), .nil, .lit (.int .i64 0)], [], places) :=
  ⟨[], by kernel_rfl⟩
set_option maxRecDepth 100000 in
theorem lifted (os : Os) (started : os.Started) (H : Type) (enc : TypeId × Value → H) (F : Stop.Interp) :
    ReturnsInHanded {} Try.checked os 4 .any ((OpenSpec.ofChange Rows.diskRoomSpec).preRow enc Try.prog Try.f4 Rows.diskRoomRow.domain false Rows.diskRoomRow.laid) (((OpenSpec.ofChange Rows.diskRoomSpec).at F).post enc Try.prog Try.f4 false true false false) := by
  obtain ⟨places, hx⟩ := reads os enc
  refine returnsInHanded_of_row (C := Try.checked) (s := OpenSpec.ofChange Rows.diskRoomSpec) own started (by kernel_rfl) Try.func4
    (witness_row_at (enc := enc) (C := Try.checked) false (laidWorld os) #[.int .u16 0, .slice none 0 0, .int .i64 0] rfl (by kernel_rfl) (by kernel_rfl) (by kernel_rfl)
      (OpenSpec.preRow_of_cond 8 hx (by kernel_rfl) (fun k hk => by cases hk) (by kernel_rfl) (laid_met os))) ?_
  intro W base args ds gs before hval hW _ _ _ hL _ _
  exact contract H enc W base args ds gs before hval hW
/-- DiskRoom: the law holds for every input. -/
theorem said : Rows.DiskRoomSaid :=
  OpenClaim.holds_of_cond 4 Try.f4 rfl rfl rfl rfl rfl rfl rfl ⟨rfl, rfl, rfl, rfl, rfl⟩ rfl rfl rfl rfl rfl (by kernel_rfl) Try.func4 (by kernel_rfl)
    (of_decide_eq_true (by kernel_rfl)) (by unfold Func.isWrapper; first | (rw [if_pos (by decide +kernel)]; kernel_rfl) | (rw [if_neg (by decide +kernel)]; exact ⟨rfl, rfl⟩))
    (fun os started H enc _ F => by rw [OpenClaim.pre_eq_preRow]; exact lifted os started H enc F)
end Go.Proofs.Ytmgnpcoihehelaa.diskRoomRow
