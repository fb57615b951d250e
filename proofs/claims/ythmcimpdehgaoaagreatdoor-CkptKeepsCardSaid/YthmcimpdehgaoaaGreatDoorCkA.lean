/- A store of checkpoints: there, clear, Open, name. -/
import Derived.Test.YthmcimpdehgaoaaGreatDoorPk8
import Derived.Test.YthmcimpdehgaoaaGreatDoorPk10
namespace Go.Proofs.YthmcimpdehgaoaaGreatDoor
open Go.RowKit Go.Maps

/-- a store at its place -/
def CkSt (w : World) (gs p : Nat) : Prop := Blk w gs 70 #[.pointer (some ⟨p, 0, none⟩)]
theorem CkSt.out [Forb] {w w1 : World} {B p gs : Nat} {v1 v : Value} {D1 : DiskD} (h : CkSt w gs p) (o : Out B w w1 p v D1 v1) : CkSt w1 gs p := o.keep_blk h (by decide) (by decide)
theorem CkSt.below {w w1 : World} {p gs : Nat} (h : CkSt w gs p) (hb : Below w.heap.size w w1) : CkSt w1 gs p := Blk.below h hb (Blk.lt h)
section
variable [Forb] (w : World) (B p gs : Nat) (v : Value) (D : DiskD) (h : DiskIs w B p v D) (hB : B ≤ w.heap.size) (hs : CkSt w gs p)
include h hs
set_option maxHeartbeats 2000000 in
theorem cthere_any (hf : Fit D) (t : ByteArray) : Calls Tryz.prog 81 #[.pointer (some ⟨gs, 0, none⟩), .string t] w fun e w' => e = .returned (.bool (decide ((D.read t).1 = 0))) ∧ Below w.heap.size w w' := by
  have c0 := Blk.cell hs 0
  simp only [List.getElem?_toArray, List.getElem?_cons_zero] at c0
  have HR := Lib.hid (d_read (h := h) hf (name := t) (E := (D.read t).1) (b := (D.read t).2) rfl)
  obtain ⟨E, hE⟩ : ∃ E, (D.read t).1 = E := ⟨_, rfl⟩
  rw [hE] at HR ⊢
  clear h hs hE
  go_enter Tryz.func81, Tryz.ntmps81
  go_wp2_with fail
  refine HR.out.mono ?_
  rintro e w1 ⟨bv, rfl, hbt, hb⟩
  have HB := Lib.hid hb
  obtain ⟨Ab, cb, rfl, -, -⟩ := hbt
  clear hb HR
  go_wp2
  go_ret
  exact ⟨by show Ending.returned (.bool (E == 0)) = _; rw [show (E == 0) = decide (E = 0) from by cases hd : decide (E = 0) <;> simp_all], HB.out⟩
include hB
set_option maxHeartbeats 2000000 in
theorem cclear_any (hf : Fit D) : Calls Tryz.prog 36 #[.pointer (some ⟨gs, 0, none⟩)] w fun e w' => e = .returned (.int .i64 (clearC D).1) ∧ ∃ v1, Out B w w' p v (clearC D).2 v1 := by
  have HT := Lib.hid (cthere_any w B p gs v D h hs hf tmpC)
  have HO := Lib.hid (fun w1 hb => Out.of_below (w1 := w1) h hB hb)
  have HS := Lib.hid hs; have HF := Lib.hid hf
  have tq : tmpC = ⟨#[99, 107, 46, 116, 109, 112]⟩ := rfl
  by_cases hr : (D.read tmpC).1 = 0
  · have hcl : clearC D = D.step 3 tmpC tmpC 0 true := by unfold clearC; rw [if_neg (by simp [hr])]
    rw [hr] at HT
    rw [hcl]
    clear h hs hr hcl hf
    rw [tq] at HT ⊢
    clear tq
    go_enter Tryz.func36, Tryz.ntmps36
    go_wp2_with fail
    refine HT.out.mono ?_
    rintro e w1 ⟨rfl, hb⟩
    have ho := HO.out w1 hb
    have c0 := Blk.cell (HS.out.below hb) 0
    simp only [List.getElem?_toArray, List.getElem?_cons_zero] at c0
    have HC := Lib.hid (d_remove ho.is (Nat.le_trans hB ho.below.size) HF.out (name := ⟨#[99, 107, 46, 116, 109, 112]⟩) (E := (D.step 3 ⟨#[99, 107, 46, 116, 109, 112]⟩ ⟨#[99, 107, 46, 116, 109, 112]⟩ 0 true).1) (D' := (D.step 3 ⟨#[99, 107, 46, 116, 109, 112]⟩ ⟨#[99, 107, 46, 116, 109, 112]⟩ 0 true).2) rfl)
    have HO1 := Lib.hid ho
    clear ho hb HO HT HS HF
    simp only [decide_true]
    go_wp2_with fail
    refine HC.out.mono ?_
    rintro e w2 ⟨rfl, v2, o2⟩
    have HO2 := Lib.hid (HO1.out.trans o2)
    clear o2 HC HO1
    go_wp2
    go_ret
    exact ⟨rfl, v2, HO2.out⟩
  · have hcl : clearC D = (0, D) := by unfold clearC; rw [if_pos hr]
    have hd : decide ((D.read tmpC).1 = 0) = false := decide_eq_false hr
    rw [hd] at HT
    rw [hcl]
    clear h hs hr hcl hf hd
    rw [tq] at HT
    clear tq
    go_enter Tryz.func36, Tryz.ntmps36
    go_wp2_with fail
    refine HT.out.mono ?_
    rintro e w1 ⟨rfl, hb⟩
    have HO1 := Lib.hid (HO.out w1 hb)
    clear hb HO HT HS HF
    go_wp2
    go_ret
    exact ⟨rfl, v, HO1.out⟩
end
theorem copen_nil (w : World) : Calls Tryz.prog 11 #[.pointer none] w fun e w' => e = .returned (.tuple #[.pointer none, .int .i64 1]) ∧ w' = w := by
  go_enter Tryz.func11, Tryz.ntmps11
  go_wp2
  go_ret2
  exact ⟨rfl, rfl⟩
/-- what an opening leaves -/
def COpenP [Forb] (B : Nat) (w : World) (p : Nat) (v : Value) (D : DiskD) (e : Ending) (w' : World) : Prop :=
  (∃ v1, Out B w w' p v (openC D).2 v1) ∧ (((openC D).1 ≠ 0 ∧ e = .returned (.tuple #[.pointer none, .int .i64 (openC D).1])) ∨
    ((openC D).1 = 0 ∧ ∃ gs, e = .returned (.tuple #[.pointer (some ⟨gs, 0, none⟩), .int .i64 0]) ∧ w.heap.size ≤ gs ∧ CkSt w' gs p))
set_option maxHeartbeats 2000000 in
theorem copen_any [Forb] (w : World) (B p : Nat) (v : Value) (D : DiskD) (h : DiskIs w B p v D) (hB : B ≤ w.heap.size) (hf : Fit D) :
    Calls Tryz.prog 11 #[.pointer (some ⟨p, 0, none⟩)] w (COpenP B w p v D) := by
  have HO := Lib.hid (off_any w B p v D h)
  have hb1 := (Below.refl w.heap.size w).alloc (Nat.le_refl _) (.cells #[.pointer (some ⟨p, 0, none⟩)] 70)
  have ho1 := Out.of_below h hB hb1
  have hst : CkSt (w.alloc (.cells #[.pointer (some ⟨p, 0, none⟩)] 70)) w.heap.size p := Blk.new w _ _
  cases hoff : D.off with
  | true =>
    have hcl : openC D = (160, D) := by unfold openC; rw [if_pos hoff]
    have HFIN := Lib.hid (show COpenP B w p v D (.returned (.tuple #[.pointer none, .int .i64 160])) w from ⟨⟨v, by rw [hcl]; exact Out.of_below h hB (Below.refl _ _)⟩, .inl ⟨by rw [hcl]; show (160 : Int) ≠ 0; decide, by rw [hcl]⟩⟩)
    rw [hoff] at HO
    clear h hb1 ho1 hst hcl hoff
    go_enter Tryz.func11, Tryz.ntmps11
    go_wp2_with fail
    refine HO.out.mono ?_
    rintro e w1 ⟨rfl, rfl⟩
    go_wp2
    go_ret2
    exact HFIN.out
  | false =>
    have hcl : openC D = clearC D := by unfold openC; rw [if_neg (by simp [hoff])]
    rw [hoff] at HO
    have HC := Lib.hid (cclear_any (w.alloc (.cells #[.pointer (some ⟨p, 0, none⟩)] 70)) B p w.heap.size v D ho1.is (Nat.le_trans hB hb1.size) hst hf)
    obtain ⟨E, hE⟩ : ∃ E, (clearC D).1 = E := ⟨_, rfl⟩
    have HFIN := Lib.hid (fun (w2 : World) (v2 : Value) (o2 : Out B (w.alloc (.cells #[.pointer (some ⟨p, 0, none⟩)] 70)) w2 p v (clearC D).2 v2) =>
      show (E ≠ 0 → COpenP B w p v D (.returned (.tuple #[.pointer none, .int .i64 E])) w2) ∧ (E = 0 → COpenP B w p v D (.returned (.tuple #[.pointer (some ⟨w.heap.size, 0, none⟩), .int .i64 0])) w2) from
      ⟨fun h0 => ⟨⟨v2, by rw [hcl]; exact ho1.trans o2⟩, .inl ⟨by rw [hcl, hE]; exact h0, by rw [hcl, hE]⟩⟩, fun h0 => ⟨⟨v2, by rw [hcl]; exact ho1.trans o2⟩, .inr ⟨by rw [hcl, hE]; exact h0, w.heap.size, rfl, Nat.le_refl _, hst.out o2⟩⟩⟩)
    rw [hE] at HC
    clear h hb1 ho1 hst hcl hoff hE
    go_enter Tryz.func11, Tryz.ntmps11
    go_wp2_with fail
    refine HO.out.mono ?_
    rintro e w1 ⟨rfl, rfl⟩
    go_wp2_with fail
    refine HC.out.mono ?_
    rintro e w2 ⟨rfl, v2, o2⟩
    have HF2 := Lib.hid (HFIN.out w2 v2 o2)
    clear o2 HC HO HFIN
    by_cases h0 : E = 0
    · have HG := Lib.hid (HF2.out.2 h0)
      have hb : (E != 0) = false := by simp [h0]
      clear h0 HF2
      go_wp2
      go_ret2
      exact HG.out
    · have HG := Lib.hid (HF2.out.1 h0)
      have hb : (E != 0) = true := by simp [h0]
      clear h0 HF2
      go_wp2
      go_ret2
      exact HG.out
theorem cname_any (w : World) (hT : Tb w.heap.size w) (n : Nat) (hn : n ≤ 4294967296) :
    Calls Tryz.prog 43 #[.int .i64 n] w fun e w' => e = .returned (.string (nameC n)) ∧ Below w.heap.size w w' := by
  have HC := Lib.hid (Tryz.strconv_Itoa (n : Int) (by omega) (by omega) w (Lib.TabBelow.here hT))
  have hsz := (nameC_size hn).2
  rw [Lib.itoa_nonneg] at HC
  unfold nameC at hsz
  rw [ByteArray.size_append] at hsz
  have h3 : (⟨#[99, 107, 46]⟩ : ByteArray).size = 3 := rfl
  rw [h3] at hsz
  have HN : Hid (nameC n = ⟨#[99, 107, 46]⟩ ++ ⟨(Lib.decDigits n).toArray⟩) := Lib.hid rfl
  obtain ⟨s, hs⟩ : ∃ s : ByteArray, ⟨(Lib.decDigits n).toArray⟩ = s := ⟨_, rfl⟩
  rw [hs] at hsz HC HN
  clear hs h3 hT
  go_enter Tryz.func43, Tryz.ntmps43
  go_wp2_with fail
  refine HC.out.mono ?_
  rintro e w1 ⟨rfl, k, os, hw⟩
  have HB := Lib.hid (show Below w.heap.size w w1 by rw [hw]; exact Lib.below_grow _ w (Nat.le_refl _) k os)
  clear hw HC
  go_wp2
  go_ret
  exact ⟨by rw [HN.out]; rfl, HB.out⟩
end Go.Proofs.YthmcimpdehgaoaaGreatDoor
