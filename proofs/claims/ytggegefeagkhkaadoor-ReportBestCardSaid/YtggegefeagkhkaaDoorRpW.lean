/- The chapter's examples hold. -/
import Derived.Test.YtggegefeagkhkaaDoorPk42
namespace Go.Proofs.YtggegefeagkhkaaDoor
open Go.RowKit

theorem ex1 : prT 1 2 [1073741824] = ⟨#[114, 97, 110, 107, 32, 49, 32, 50, 10, 48, 32, 49, 48, 55, 51, 55, 52, 49, 56, 50, 52, 32, 48, 46, 50, 53, 48, 48, 48, 48, 48, 48, 48, 10]⟩ := by
  have hm : mayR 1 2 [1073741824] = true := by decide
  have hf : fixText 1073741824 = ⟨#[48, 46, 50, 53, 48, 48, 48, 48, 48, 48, 48]⟩ := by
    unfold fixText
    rw [dec_small _ (by decide)]
    rfl
  unfold prT
  rw [if_pos hm]
  unfold textB textL docW rowsW rowW headW tailW
  simp only [List.length_cons, List.length_nil, Nat.zero_add, List.range_succ, List.range_zero, List.nil_append, List.map_cons, List.map_nil, List.getD_cons_zero, if_pos]
  rw [show (1073741824 : Int).toNat = 1073741824 from rfl, hf]
  rfl
theorem ex2 : prT 2 1 [0, 0] = ⟨#[108, 97, 98, 101, 108, 32, 50, 32, 49, 10, 48, 32, 48, 10, 49, 32, 48, 10, 112, 97, 114, 116, 115, 32, 49, 10]⟩ := by
  have hm : mayR 2 1 [0, 0] = true := by decide
  unfold prT
  rw [if_pos hm]
  rfl
theorem ex3 : prT 3 3 [0, 4611686018427387904] = ⟨#[112, 97, 116, 104, 115, 32, 50, 32, 51, 10, 48, 32, 48, 10, 49, 32, 45, 10]⟩ := by
  have hm : mayR 3 3 [0, 4611686018427387904] = true := by decide
  unfold prT
  rw [if_pos hm]
  rfl
theorem ex3m : mayR 3 3 [0, 4611686018427387904] = true := by decide
theorem exB : IsBest [5, 9, 5] [1, 0, 2] := by
  refine ⟨by decide, ?_⟩
  unfold lt
  decide
theorem rd_ints (w : World) (l : List Int) (t : TypeId) : Rd (w.alloc (.cells (l.map (Value.int .i64)).toArray t)) 1 (some ⟨w.heap.size, 0, none⟩) l.length (l.map (Value.int .i64)) :=
  ⟨by simp, fun _ => ⟨_, rfl, by simp, fun j u hu => cells_new w _ t _ rfl j u hu⟩⟩
theorem pr_at (w : World) (hG : Gl w) (k step : Int) (vs : List Int) (T : ByteArray) (hk : 0 ≤ k ∧ k ≤ 255) (hm : mayR k step vs = true) (hT : prT k step vs = T) (hl : vs.length ≤ 1000000) :
    Calls Tryd.prog 8 #[.agg #[.int .u8 k, .int .i64 0, .int .i64 0, .int .i64 0, .int .i64 0], .agg #[.int .i64 step, .slice (some ⟨w.heap.size, 0, none⟩) vs.length vs.length, .slice none 0 0, .slice none 0 0, .int .i64 0, .int .i64 0]] (w.alloc (.cells (vs.map (Value.int .i64)).toArray 2)) fun e w' => e = .returned (.tuple #[.string T, .int .i64 0]) ∧ Below w.heap.size w w' := by
  have hb := (Below.refl w.heap.size w).alloc (Nat.le_refl _) (.cells (vs.map (Value.int .i64)).toArray 2)
  refine (pPrint_any _ (hG.below hb) k step (some ⟨w.heap.size, 0, none⟩) vs.length vs (.int .i64 0) (.int .i64 0) (.int .i64 0) (.int .i64 0) (.slice none 0 0) (.slice none 0 0) (.int .i64 0) (.int .i64 0) hk (rd_ints w vs _) hl).mono ?_
  rintro e w' ⟨he, hb'⟩
  refine ⟨?_, hb.trans (hb'.mono hb.size)⟩
  rw [he, hT]
  unfold prE
  rw [hm]
  rfl
theorem rd_at (w : World) (hG : Gl w) (k step : Int) (vs : List Int) (T : ByteArray) (hR : IsRep k step vs T) :
    Calls Tryd.prog 10 #[.string T] w fun e w' => Below w.heap.size w w' ∧ ∃ A c, e = .returned (.tuple #[.int .u8 k, .int .i64 step, .slice A vs.length c, .int .i64 0]) ∧ Rd w' 1 A vs.length (vs.map (Value.int .i64)) := by
  refine (pRead_any w hG T).mono ?_
  rintro e w' ⟨hb, h⟩
  refine ⟨hb, ?_⟩
  rcases h with ⟨k', st', vs', A, c, h1, h2, he, hr⟩ | ⟨h1, _⟩
  · obtain ⟨rfl, rfl, rfl⟩ := isRep_inj h1 hR
    exact ⟨A, c, he, hr⟩
  · exfalso
    by_cases hs : T.size ≤ 262144
    · exact h1 k step vs hs hR
    · have h9 := rep_of hR.1
      have h8 := done_len (k := k) (step := step) h9.vals vs.length (Nat.le_refl _)
      have h7 : T.size = (textL k step vs).length := by rw [← hR.2]; unfold textB; rw [size_ba]
      have h6 : (textL k step vs).length ≤ (doneL k step vs vs.length).length + 200 := by
        by_cases hk2 : k = 2
        · subst hk2
          rw [textL_two, List.length_append, lineL_len]
          have := prL_len (((marks vs).getD 0 : Nat) : Int)
          simp only [joinB, List.length_append, List.length_cons, wParts, List.length_nil]
          omega
        · rw [textL_done _ _ _ hk2]; omega
      have := h9.n
      omega
theorem rd_cell {w : World} {A : Option Addr} {x y : Int} (h : Rd w 1 A 2 [Value.int .i64 x, Value.int .i64 y]) : ∃ ad, A = some ad ∧ w.cell? (ad.add 1) = some (.int .i64 y) := by
  obtain ⟨ad, u, rfl, hu, hc⟩ := h.at_ (k := 1) (by omega)
  injection hu with hu
  subst hu
  exact ⟨ad, rfl, hc⟩
theorem best_ex (w : World) :
    Calls Tryd.prog 13 #[.slice (some ⟨w.heap.size, 0, none⟩) 3 3, .int .i64 2] (w.alloc (.cells #[.int .i64 5, .int .i64 9, .int .i64 5] 2)) fun e w' => Below w.heap.size w w' ∧ ∃ A c, e = .returned (.slice A 2 c) ∧ Rd w' 1 A 2 [.int .i64 1, .int .i64 0] := by
  have hb := (Below.refl w.heap.size w).alloc (Nat.le_refl _) (.cells #[.int .i64 5, .int .i64 9, .int .i64 5] 2)
  refine (best_any _ [5, 9, 5] (some ⟨w.heap.size, 0, none⟩) 3 2 (rd_ints w [5, 9, 5] _) (stable_small 3 (by decide)) (by decide)).mono ?_
  rintro e w' ⟨hb', s, A, c, hs, he, hr⟩
  refine ⟨hb.trans (hb'.mono hb.size), A, c, he, ?_⟩
  have := isBest_eq hs exB
  subst this
  exact hr
set_option maxRecDepth 100000 in
set_option maxHeartbeats 8000000 in
theorem works_any (w : World) (hG : Gl w) : Calls Tryd.prog 7 #[] w fun e w' => e = .returned (.bool true) ∧ Below w.heap.size w w' := by
  have HP1 := Lib.hid (pr_at w hG 1 2 [1073741824] _ (by decide) (by decide) ex1 (by decide))
  have HP2 := Lib.hid (fun (W : World) (hW : Below w.heap.size w W) => pr_at W (hG.below hW) 2 1 [0, 0] _ (by decide) (by decide) ex2 (by decide))
  have HP3 := Lib.hid (fun (W : World) (hW : Below w.heap.size w W) => pr_at W (hG.below hW) 3 3 [0, 4611686018427387904] _ (by decide) ex3m ex3 (by decide))
  have HRD := Lib.hid (fun (W : World) (hW : Below w.heap.size w W) => rd_at W (hG.below hW) 3 3 [0, 4611686018427387904] ⟨#[112, 97, 116, 104, 115, 32, 50, 32, 51, 10, 48, 32, 48, 10, 49, 32, 45, 10]⟩ ⟨ex3m, by rw [← ex3]; unfold prT; rw [if_pos ex3m]⟩)
  have HBE := Lib.hid best_ex
  have hba : ∀ b : ByteArray, (b.toList == b.toList) = true := fun b => by simp
  clear hG
  go_enter Tryd.func7, Tryd.ntmps7
  go_wp2_with fail
  refine HP1.out.mono ?_
  rintro e w1 ⟨rfl, hb1⟩
  have HB1 := Lib.hid hb1
  clear hb1
  go_wp2_with fail
  refine (HP2.out _ HB1.out).mono ?_
  rintro e w2 ⟨rfl, hb2⟩
  have HB2 := Lib.hid (HB1.out.trans (hb2.mono HB1.out.size))
  clear hb2
  go_wp2_with fail
  refine (HP3.out _ HB2.out).mono ?_
  rintro e w3 ⟨rfl, hb3⟩
  have HB3 := Lib.hid (HB2.out.trans (hb3.mono HB2.out.size))
  clear hb3
  go_wp2_with fail
  refine (HRD.out _ HB3.out).mono ?_
  rintro e w4 ⟨hb4, A, c, rfl, hr⟩
  have HB4 := Lib.hid (HB3.out.trans (hb4.mono HB3.out.size))
  obtain ⟨ad, rfl, hc⟩ := rd_cell hr
  have hc2 := hc
  simp [Addr.add] at hc2
  clear hb4 hr
  simp only [List.length_cons, List.length_nil, Nat.zero_add, Nat.reduceAdd]
  go_wp2_with fail
  refine (HBE.out _).mono ?_
  rintro e w5 ⟨hb5, A5, c5, rfl, hr5⟩
  have hB5 := HB4.out.trans (hb5.mono HB4.out.size)
  have hB6 := hB5.alloc hB5.size (.cells #[.int .i64 1, .int .i64 0] 3)
  have HSM := Lib.hid (sameI_any _ A5 (some ⟨w5.heap.size, 0, none⟩) c5 2 [1, 0] [1, 0] (hr5.alloc (.cells #[.int .i64 1, .int .i64 0] 3)) (rd_ints w5 [1, 0] 3) (by decide))
  have HB6 := Lib.hid hB6
  clear hb5 hr5 hB5 hB6
  go_wp2_with fail
  refine HSM.out.mono ?_
  rintro e w6 ⟨rfl, hb6⟩
  have HB7 := Lib.hid (HB6.out.trans (hb6.mono HB6.out.size))
  clear hb6
  go_wp2
  go_ret
  exact ⟨rfl, HB7.out⟩
end Go.Proofs.YtggegefeagkhkaaDoor
