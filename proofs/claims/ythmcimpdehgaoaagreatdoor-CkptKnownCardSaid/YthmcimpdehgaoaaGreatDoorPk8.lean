/- A store of checkpoints: there, clear, Open, name. fields.width of bytes, words and longs. A range over a function whose iterator keeps its state in cells of its own, and whose body never leaves: after the guide's laws of the kind own. slices.Backward of bytes: the iterator, whose body writes the row. -/
import Derived.Test.YthmcimpdehgaoaaGreatDoorPk7
import Derived.Test.YthmcimpdehgaoaaGreatDoorMem
import Derived.Test.YthmcimpdehgaoaaGreatDoorRows
import Derived.WalkKit
import Derived.WalkLawsBesides
import Derived.WalkSpells
import Derived.BigQuiet
import Derived.Deep.QuietTactic
import Derived.Deep.LoopGhost
import Derived.Deep.RegionHeld3
import Derived.Outline
import Derived.IntWalk
import Derived.Lib.Hide
import Derived.RangeFuncNested
import Derived.RangeFuncBound
import Derived.RangeFuncCalls
import Derived.RangeFuncLeaves
import Derived.Shelf.Abstract
import Derived.Shelf.RegionOpen
import Derived.OwnWalkIn
import Derived.TacticsInMore
import Derived.LoopNIn
import Derived.LoopIn
namespace Go.Proofs.YthmcimpdehgaoaaGreatDoor
open Go.RowKit Go.Maps

/-- a store at its place -/
def CkSt (w : World) (gs p : Nat) : Prop := Blk w gs 70 #[.pointer (some ⟨p, 0, none⟩)]
theorem CkSt.out [Forb] {w w1 : World} {B p gs : Nat} {v1 v : Value} {D1 : DiskD} (h : CkSt w gs p) (o : Out B w w1 p v D1 v1) : CkSt w1 gs p := o.keep_blk h (by decide) (by decide)
theorem CkSt.below {w w1 : World} {p gs : Nat} (h : CkSt w gs p) (hb : Below w.heap.size w w1) : CkSt w1 gs p := Blk.below h hb (Blk.lt h)
section
variable [Forb] (w : World) (B p gs : Nat) (v : Value) (D : DiskD) (h : DiskIs w B p v D) (hB : B ≤ w.heap.size) (hs : CkSt w gs p)
include h hs
set_option maxHeartbeats 2000000 in
theorem cthere_any (hf : Fit D) (t : ByteArray) : Calls Tryz.prog 81 #[.pointer (some ⟨gs, 0, none⟩), .string t] w fun e w' => e = .returned (.bool (decide ((D.read t).1 = 0))) ∧ Below w.heap.size w w' := by
  have c0 := Blk.cell hs 0
  simp only [List.getElem?_toArray, List.getElem?_cons_zero] at c0
  have HR := Lib.hid (d_read (h := h) hf (name := t) (E := (D.read t).1) (b := (D.read t).2) rfl)
  obtain ⟨E, hE⟩ : ∃ E, (D.read t).1 = E := ⟨_, rfl⟩
  rw [hE] at HR ⊢
  clear h hs hE
  go_enter Tryz.func81, Tryz.ntmps81
  go_wp2_with fail
  refine HR.out.mono ?_
  rintro e w1 ⟨bv, rfl, hbt, hb⟩
  have HB := Lib.hid hb
  obtain ⟨Ab, cb, rfl, -, -⟩ := hbt
  clear hb HR
  go_wp2
  go_ret
  exact ⟨by show Ending.returned (.bool (E == 0)) = _; rw [show (E == 0) = decide (E = 0) from by cases hd : decide (E = 0) <;> simp_all], HB.out⟩
include hB
set_option maxHeartbeats 2000000 in
theorem cclear_any (hf : Fit D) : Calls Tryz.prog 36 #[.pointer (some ⟨gs, 0, none⟩)] w fun e w' => e = .returned (.int .i64 (clearC D).1) ∧ ∃ v1, Out B w w' p v (clearC D).2 v1 := by
  have HT := Lib.hid (cthere_any w B p gs v D h hs hf tmpC)
  have HO := Lib.hid (fun w1 hb => Out.of_below (w1 := w1) h hB hb)
  have HS := Lib.hid hs; have HF := Lib.hid hf
  have tq : tmpC = ⟨#[99, 107, 46, 116, 109, 112]⟩ := rfl
  by_cases hr : (D.read tmpC).1 = 0
  · have hcl : clearC D = D.step 3 tmpC tmpC 0 true := by unfold clearC; rw [if_neg (by simp [hr])]
    rw [hr] at HT
    rw [hcl]
    clear h hs hr hcl hf
    rw [tq] at HT ⊢
    clear tq
    go_enter Tryz.func36, Tryz.ntmps36
    go_wp2_with fail
    refine HT.out.mono ?_
    rintro e w1 ⟨rfl, hb⟩
    have ho := HO.out w1 hb
    have c0 := Blk.cell (HS.out.below hb) 0
    simp only [List.getElem?_toArray, List.getElem?_cons_zero] at c0
    have HC := Lib.hid (d_remove ho.is (Nat.le_trans hB ho.below.size) HF.out (name := ⟨#[99, 107, 46, 116, 109, 112]⟩) (E := (D.step 3 ⟨#[99, 107, 46, 116, 109, 112]⟩ ⟨#[99, 107, 46, 116, 109, 112]⟩ 0 true).1) (D' := (D.step 3 ⟨#[99, 107, 46, 116, 109, 112]⟩ ⟨#[99, 107, 46, 116, 109, 112]⟩ 0 true).2) rfl)
    have HO1 := Lib.hid ho
    clear ho hb HO HT HS HF
    simp only [decide_true]
    go_wp2_with fail
    refine HC.out.mono ?_
    rintro e w2 ⟨rfl, v2, o2⟩
    have HO2 := Lib.hid (HO1.out.trans o2)
    clear o2 HC HO1
    go_wp2
    go_ret
    exact ⟨rfl, v2, HO2.out⟩
  · have hcl : clearC D = (0, D) := by unfold clearC; rw [if_pos hr]
    have hd : decide ((D.read tmpC).1 = 0) = false := decide_eq_false hr
    rw [hd] at HT
    rw [hcl]
    clear h hs hr hcl hf hd
    rw [tq] at HT
    clear tq
    go_enter Tryz.func36, Tryz.ntmps36
    go_wp2_with fail
    refine HT.out.mono ?_
    rintro e w1 ⟨rfl, hb⟩
    have HO1 := Lib.hid (HO.out w1 hb)
    clear hb HO HT HS HF
    go_wp2
    go_ret
    exact ⟨rfl, v, HO1.out⟩
end
theorem copen_nil (w : World) : Calls Tryz.prog 11 #[.pointer none] w fun e w' => e = .returned (.tuple #[.pointer none, .int .i64 1]) ∧ w' = w := by
  go_enter Tryz.func11, Tryz.ntmps11
  go_wp2
  go_ret2
  exact ⟨rfl, rfl⟩
/-- what an opening leaves -/
def COpenP [Forb] (B : Nat) (w : World) (p : Nat) (v : Value) (D : DiskD) (e : Ending) (w' : World) : Prop :=
  (∃ v1, Out B w w' p v (openC D).2 v1) ∧ (((openC D).1 ≠ 0 ∧ e = .returned (.tuple #[.pointer none, .int .i64 (openC D).1])) ∨
    ((openC D).1 = 0 ∧ ∃ gs, e = .returned (.tuple #[.pointer (some ⟨gs, 0, none⟩), .int .i64 0]) ∧ w.heap.size ≤ gs ∧ CkSt w' gs p))
set_option maxHeartbeats 2000000 in
theorem copen_any [Forb] (w : World) (B p : Nat) (v : Value) (D : DiskD) (h : DiskIs w B p v D) (hB : B ≤ w.heap.size) (hf : Fit D) :
    Calls Tryz.prog 11 #[.pointer (some ⟨p, 0, none⟩)] w (COpenP B w p v D) := by
  have HO := Lib.hid (off_any w B p v D h)
  have hb1 := (Below.refl w.heap.size w).alloc (Nat.le_refl _) (.cells #[.pointer (some ⟨p, 0, none⟩)] 70)
  have ho1 := Out.of_below h hB hb1
  have hst : CkSt (w.alloc (.cells #[.pointer (some ⟨p, 0, none⟩)] 70)) w.heap.size p := Blk.new w _ _
  cases hoff : D.off with
  | true =>
    have hcl : openC D = (160, D) := by unfold openC; rw [if_pos hoff]
    have HFIN := Lib.hid (show COpenP B w p v D (.returned (.tuple #[.pointer none, .int .i64 160])) w from ⟨⟨v, by rw [hcl]; exact Out.of_below h hB (Below.refl _ _)⟩, .inl ⟨by rw [hcl]; show (160 : Int) ≠ 0; decide, by rw [hcl]⟩⟩)
    rw [hoff] at HO
    clear h hb1 ho1 hst hcl hoff
    go_enter Tryz.func11, Tryz.ntmps11
    go_wp2_with fail
    refine HO.out.mono ?_
    rintro e w1 ⟨rfl, rfl⟩
    go_wp2
    go_ret2
    exact HFIN.out
  | false =>
    have hcl : openC D = clearC D := by unfold openC; rw [if_neg (by simp [hoff])]
    rw [hoff] at HO
    have HC := Lib.hid (cclear_any (w.alloc (.cells #[.pointer (some ⟨p, 0, none⟩)] 70)) B p w.heap.size v D ho1.is (Nat.le_trans hB hb1.size) hst hf)
    obtain ⟨E, hE⟩ : ∃ E, (clearC D).1 = E := ⟨_, rfl⟩
    have HFIN := Lib.hid (fun (w2 : World) (v2 : Value) (o2 : Out B (w.alloc (.cells #[.pointer (some ⟨p, 0, none⟩)] 70)) w2 p v (clearC D).2 v2) =>
      show (E ≠ 0 → COpenP B w p v D (.returned (.tuple #[.pointer none, .int .i64 E])) w2) ∧ (E = 0 → COpenP B w p v D (.returned (.tuple #[.pointer (some ⟨w.heap.size, 0, none⟩), .int .i64 0])) w2) from
      ⟨fun h0 => ⟨⟨v2, by rw [hcl]; exact ho1.trans o2⟩, .inl ⟨by rw [hcl, hE]; exact h0, by rw [hcl, hE]⟩⟩, fun h0 => ⟨⟨v2, by rw [hcl]; exact ho1.trans o2⟩, .inr ⟨by rw [hcl, hE]; exact h0, w.heap.size, rfl, Nat.le_refl _, hst.out o2⟩⟩⟩)
    rw [hE] at HC
    clear h hb1 ho1 hst hcl hoff hE
    go_enter Tryz.func11, Tryz.ntmps11
    go_wp2_with fail
    refine HO.out.mono ?_
    rintro e w1 ⟨rfl, rfl⟩
    go_wp2_with fail
    refine HC.out.mono ?_
    rintro e w2 ⟨rfl, v2, o2⟩
    have HF2 := Lib.hid (HFIN.out w2 v2 o2)
    clear o2 HC HO HFIN
    by_cases h0 : E = 0
    · have HG := Lib.hid (HF2.out.2 h0)
      have hb : (E != 0) = false := by simp [h0]
      clear h0 HF2
      go_wp2
      go_ret2
      exact HG.out
    · have HG := Lib.hid (HF2.out.1 h0)
      have hb : (E != 0) = true := by simp [h0]
      clear h0 HF2
      go_wp2
      go_ret2
      exact HG.out
theorem cname_any (w : World) (hT : Tb w.heap.size w) (n : Nat) (hn : n ≤ 4294967296) :
    Calls Tryz.prog 43 #[.int .i64 n] w fun e w' => e = .returned (.string (nameC n)) ∧ Below w.heap.size w w' := by
  have HC := Lib.hid (Tryz.strconv_Itoa (n : Int) (by omega) (by omega) w (Lib.TabBelow.here hT))
  have hsz := (nameC_size hn).2
  rw [Lib.itoa_nonneg] at HC
  unfold nameC at hsz
  rw [ByteArray.size_append] at hsz
  have h3 : (⟨#[99, 107, 46]⟩ : ByteArray).size = 3 := rfl
  rw [h3] at hsz
  have HN : Hid (nameC n = ⟨#[99, 107, 46]⟩ ++ ⟨(Lib.decDigits n).toArray⟩) := Lib.hid rfl
  obtain ⟨s, hs⟩ : ∃ s : ByteArray, ⟨(Lib.decDigits n).toArray⟩ = s := ⟨_, rfl⟩
  rw [hs] at hsz HC HN
  clear hs h3 hT
  go_enter Tryz.func43, Tryz.ntmps43
  go_wp2_with fail
  refine HC.out.mono ?_
  rintro e w1 ⟨rfl, k, os, hw⟩
  have HB := Lib.hid (show Below w.heap.size w w1 by rw [hw]; exact Lib.below_grow _ w (Nat.le_refl _) k os)
  clear hw HC
  go_wp2
  go_ret
  exact ⟨by rw [HN.out]; rfl, HB.out⟩
end Go.Proofs.YthmcimpdehgaoaaGreatDoor
namespace Go.Proofs.YthmcimpdehgaoaaGreatDoor
open Go.RowKit

set_option maxRecDepth 100000 in
set_option maxHeartbeats 4000000 in
theorem width_u8 (w : World) : Calls Tryz.prog 125 #[] w fun e w' => e = .returned (.int .i64 1) ∧ w' = w := by
  go_enter Tryz.func125, Tryz.ntmps125
  go_wp2
  go_loopg [1, 2] 1 (fun gf a b wr => (gf = 1 ∧ a = .int .i64 0 ∧ b = .int .u8 255 ∨ gf = 0 ∧ a = .int .i64 1 ∧ b = .int .u8 0) ∧ wr = w)
  case atStart => exact ⟨.inl ⟨rfl, rfl, rfl⟩, rfl⟩
  case round =>
    obtain ⟨h, rfl⟩ := hrel
    rcases h with ⟨rfl, rfl, rfl⟩ | ⟨rfl, rfl, rfl⟩
    · go_wp2
      go_roundg 0
      case measure => omega
      case rel => exact ⟨.inr (⟨rfl, rfl, rfl⟩), rfl⟩
    · go_wp2
      go_ret
      exact ⟨rfl, rfl⟩
set_option maxRecDepth 100000 in
set_option maxHeartbeats 4000000 in
theorem width_u32 (w : World) : Calls Tryz.prog 127 #[] w fun e w' => e = .returned (.int .i64 4) ∧ w' = w := by
  go_enter Tryz.func127, Tryz.ntmps127
  go_wp2
  go_loopg [1, 2] 4 (fun gf a b wr => (gf = 4 ∧ a = .int .i64 0 ∧ b = .int .u32 4294967295 ∨ gf = 3 ∧ a = .int .i64 1 ∧ b = .int .u32 16777215 ∨ gf = 2 ∧ a = .int .i64 2 ∧ b = .int .u32 65535 ∨ gf = 1 ∧ a = .int .i64 3 ∧ b = .int .u32 255 ∨ gf = 0 ∧ a = .int .i64 4 ∧ b = .int .u32 0) ∧ wr = w)
  case atStart => exact ⟨.inl ⟨rfl, rfl, rfl⟩, rfl⟩
  case round =>
    obtain ⟨h, rfl⟩ := hrel
    rcases h with ⟨rfl, rfl, rfl⟩ | ⟨rfl, rfl, rfl⟩ | ⟨rfl, rfl, rfl⟩ | ⟨rfl, rfl, rfl⟩ | ⟨rfl, rfl, rfl⟩
    · go_wp2
      go_roundg 3
      case measure => omega
      case rel => exact ⟨.inr (.inl ⟨rfl, rfl, rfl⟩), rfl⟩
    · go_wp2
      go_roundg 2
      case measure => omega
      case rel => exact ⟨.inr (.inr (.inl ⟨rfl, rfl, rfl⟩)), rfl⟩
    · go_wp2
      go_roundg 1
      case measure => omega
      case rel => exact ⟨.inr (.inr (.inr (.inl ⟨rfl, rfl, rfl⟩))), rfl⟩
    · go_wp2
      go_roundg 0
      case measure => omega
      case rel => exact ⟨.inr (.inr (.inr (.inr (⟨rfl, rfl, rfl⟩)))), rfl⟩
    · go_wp2
      go_ret
      exact ⟨rfl, rfl⟩
set_option maxRecDepth 100000 in
set_option maxHeartbeats 4000000 in
theorem width_u64 (w : World) : Calls Tryz.prog 126 #[] w fun e w' => e = .returned (.int .i64 8) ∧ w' = w := by
  go_enter Tryz.func126, Tryz.ntmps126
  go_wp2
  go_loopg [1, 2] 8 (fun gf a b wr => (gf = 8 ∧ a = .int .i64 0 ∧ b = .int .u64 18446744073709551615 ∨ gf = 7 ∧ a = .int .i64 1 ∧ b = .int .u64 72057594037927935 ∨ gf = 6 ∧ a = .int .i64 2 ∧ b = .int .u64 281474976710655 ∨ gf = 5 ∧ a = .int .i64 3 ∧ b = .int .u64 1099511627775 ∨ gf = 4 ∧ a = .int .i64 4 ∧ b = .int .u64 4294967295 ∨ gf = 3 ∧ a = .int .i64 5 ∧ b = .int .u64 16777215 ∨ gf = 2 ∧ a = .int .i64 6 ∧ b = .int .u64 65535 ∨ gf = 1 ∧ a = .int .i64 7 ∧ b = .int .u64 255 ∨ gf = 0 ∧ a = .int .i64 8 ∧ b = .int .u64 0) ∧ wr = w)
  case atStart => exact ⟨.inl ⟨rfl, rfl, rfl⟩, rfl⟩
  case round =>
    obtain ⟨h, rfl⟩ := hrel
    rcases h with ⟨rfl, rfl, rfl⟩ | ⟨rfl, rfl, rfl⟩ | ⟨rfl, rfl, rfl⟩ | ⟨rfl, rfl, rfl⟩ | ⟨rfl, rfl, rfl⟩ | ⟨rfl, rfl, rfl⟩ | ⟨rfl, rfl, rfl⟩ | ⟨rfl, rfl, rfl⟩ | ⟨rfl, rfl, rfl⟩
    · go_wp2
      go_roundg 7
      case measure => omega
      case rel => exact ⟨.inr (.inl ⟨rfl, rfl, rfl⟩), rfl⟩
    · go_wp2
      go_roundg 6
      case measure => omega
      case rel => exact ⟨.inr (.inr (.inl ⟨rfl, rfl, rfl⟩)), rfl⟩
    · go_wp2
      go_roundg 5
      case measure => omega
      case rel => exact ⟨.inr (.inr (.inr (.inl ⟨rfl, rfl, rfl⟩))), rfl⟩
    · go_wp2
      go_roundg 4
      case measure => omega
      case rel => exact ⟨.inr (.inr (.inr (.inr (.inl ⟨rfl, rfl, rfl⟩)))), rfl⟩
    · go_wp2
      go_roundg 3
      case measure => omega
      case rel => exact ⟨.inr (.inr (.inr (.inr (.inr (.inl ⟨rfl, rfl, rfl⟩))))), rfl⟩
    · go_wp2
      go_roundg 2
      case measure => omega
      case rel => exact ⟨.inr (.inr (.inr (.inr (.inr (.inr (.inl ⟨rfl, rfl, rfl⟩)))))), rfl⟩
    · go_wp2
      go_roundg 1
      case measure => omega
      case rel => exact ⟨.inr (.inr (.inr (.inr (.inr (.inr (.inr (.inl ⟨rfl, rfl, rfl⟩))))))), rfl⟩
    · go_wp2
      go_roundg 0
      case measure => omega
      case rel => exact ⟨.inr (.inr (.inr (.inr (.inr (.inr (.inr (.inr (⟨rfl, rfl, rfl⟩)))))))), rfl⟩
    · go_wp2
      go_ret
      exact ⟨rfl, rfl⟩
end Go.Proofs.YthmcimpdehgaoaaGreatDoor
namespace Go.Proofs.YthmcimpdehgaoaaGreatDoor
open Go.RowKit
variable {F : Fence} {n : Nat} {P : Program}

/-- how the body of a round ends: off its end; whatever is no cells and lies from B on lies as it lay -/
def stPost {α : Type} (B : Nat) (Kp : World → World → Prop) (I : List α → World → Prop) (xs : List α) (W : World) : Exit → Act → World → Prop
  | .normal, _, W' => KeepsFrom B W W' ∧ Kp W W' ∧ I xs W'
  | _, _, _ => False

/-- 'St W W'': a step that the iterator makes on its own cells. -/
theorem wpIn_rangeFunc_st {α : Type} {g : Operand} {ps : Array Tmp} {assign body : Code} {Q : Exit → Act → World → Prop} {a : Act} {w : World}
    (hro : F.round = none) (h1 : F.depth.isSome = true → 1 ≤ n) {gf : Nat} {lb : Array Value} (hg : a.eval g = .func (.func gf) #[] lb) (hFg : F.fn gf) (eg : ∀ args w, (callFunc gf args).run P w = .ok (.enter gf args) w)
    {encs : α → Array Value} (hps : ∀ x, (encs x).size = ps.size) {Kp St : World → World → Prop} {S : List α → Prop} {N : Nat} {Ok : α → Prop}
    (hseq : ∀ (l : Nat) (J : List α → World → Prop) (W : World), Below w.heap.size w W → (∀ pre X Y, J pre X → St X Y → J pre Y) →
      (∀ pre x W1, J pre W1 → pre.length < N → Ok x → YieldAt F (n - 1 - 1) P l (encs x) W1 fun e W' => e = .returned (.bool true) ∧ J (pre ++ [x]) W' ∧ Kp W1 W') → J [] W →
      CallsIn F (n - 1) P gf (#[.func (.yield l) #[] #[]] ++ lb) W fun e W' => (∃ v, e = .returned v) ∧ ∃ xs, S xs ∧ J xs W')
    (hKt : ∀ {A B C : World}, Kp A B → Kp B C → Kp A C) (hKb : ∀ (W : World) (l : Nat) (o o' : Obj), w.heap.size ≤ l → W.heap[l]? = some o → o.isCells = false → o.isWalk = false → Kp W (W.putObj l o'))
    (hSt : ∀ (W W' : World) (k : Nat) (o : Obj), St W W' → W.heap[k]? = some o → o.isCells = false → W'.heap[k]? = some o)
    (I : List α → World → Prop) (hI : OwnFrom w.heap.size I) (hIS : ∀ pre X Y, I pre X → St X Y → I pre Y) (h0 : I [] w) (a₁ : α → Act)
    (hassign : ∀ (l : Nat) (x : α) (W : World) (K : Act → World → Prop), K (a₁ x) W →
      assign.wpIn (F.inRound l) (n - 1 - 1) P (Exit.then K (fun _ _ _ => False)) { tmps := (ps.zip (encs x)).foldl (fun t (p, v) => t.setIfInBounds p v) a.tmps, defers := [] } W)
    (hbody : ∀ (l : Nat) (pre : List α) (x : α) (W : World), I pre W → pre.length < N → Ok x → body.wpIn (F.inRound l) (n - 1 - 1) P (stPost w.heap.size Kp I (pre ++ [x]) W) (a₁ x) W)
    (hdone : ∀ (D : Nat) (xs : List α) (W : World), w.heap.size ≤ D → S xs → I xs W → W.heap[D]? = some (.deferred (some [])) → Q .normal { a with defers := { target := .collected D, args := #[] } :: a.defers } W) :
    (Code.rangeFunc g ps assign body).wpIn F n P Q a w := by
  refine wpIn_rangeFunc ?_
  intro fn hfn
  rw [hro]
  obtain ⟨rec, hrec⟩ : ∃ rec : LoopState → Option Code → Loop, rec = fun st pe => { state := st, pending := pe, fn, tmps := a.tmps, params := ps, assign, body, defers := w.heap.size } := ⟨_, rfl⟩
  obtain ⟨W1, hW1⟩ : ∃ W1, (w.alloc (.deferred (some []))).alloc (.loop (rec .ready none)) = W1 := ⟨_, rfl⟩
  have hL1 : W1.heap[w.heap.size + 1]? = some (.loop (rec .ready none)) := by
    rw [← hW1]; have := World.alloc_heap_new (w.alloc (.deferred (some []))) (.loop (rec .ready none)); rwa [World.size_alloc] at this
  have hK1 : W1.heap[w.heap.size]? = some (.deferred (some [])) := by
    rw [← hW1]; exact (Below.heap_alloc _ _ _ (by simp)).trans (World.alloc_heap_new w _)
  have hI1 : I [] W1 := by rw [← hW1]; exact hI.alloc _ (hI.alloc _ h0)
  have hb1 : Below w.heap.size w W1 := by
    rw [← hW1]; exact (((Below.refl _ w).alloc (Nat.le_refl _) _).alloc (by simp) _)
  refine ⟨w.heap.size + 1, [{ target := .collected w.heap.size, args := #[] }], W1, { target := .fn (.func gf) lb, args := #[.func (.yield (w.heap.size + 1)) #[] #[]] }, W1, gf,
    #[.func (.yield (w.heap.size + 1)) #[] #[]] ++ lb, W1, ?_, ?_, ?_, ?_, h1, ?_⟩
  · rw [← hW1, hrec]; exact run_enterLoop_outer _ _ _ _ _
  · simp only [resolve, hg]
    simp [go_sem]
  · intro f' hf'; simp [Target.leads] at hf'; subst hf'; exact hFg
  · simp [invoke, go_sem, eg]
  · refine (hseq (w.heap.size + 1)
      (fun pre W => I pre W ∧ W.heap[w.heap.size + 1]? = some (.loop (rec .ready none)) ∧ W.heap[w.heap.size]? = some (.deferred (some [])))
      W1 hb1
      (fun pre X Y hs hst => ⟨hIS pre X Y hs.1 hst, hSt X Y _ _ hst hs.2.1 rfl, hSt X Y _ _ hst hs.2.2 rfl⟩)
      ?_ ⟨hI1, hL1, hK1⟩).mono ?_
    · rintro pre x W ⟨hi, hl, hk⟩ hlen hok
      have hlt : w.heap.size + 1 < W.heap.size := (Array.getElem?_eq_some_iff.1 hl).1
      have hy := run_yield (P := P) (args := encs x) hl (by rw [hrec]; exact hps x)
      rw [hrec] at hy
      refine ⟨fn, _, assign, body, hy, roundIn_of_wpIn hfn (hassign _ x W _ ⟨_, run_beginRound hl (by rw [hrec]), ?_⟩)⟩
      have hl2 : (W.putObj (w.heap.size + 1) (.loop { rec .ready none with state := .busy })).heap[w.heap.size + 1]? = some (.loop { rec .ready none with state := .busy }) := World.putObj_heap_same hlt
      have hk2 : (W.putObj (w.heap.size + 1) (.loop { rec .ready none with state := .busy })).heap[w.heap.size]? = some (.deferred (some [])) := (World.putObj_heap_other (by omega)).trans hk
      have hw2 : Kp W (W.putObj (w.heap.size + 1) (.loop { rec .ready none with state := .busy })) := hKb _ _ _ _ (by omega) hl rfl rfl
      refine wpIn_mono (hbody _ pre x _ (hI.putObj _ hi (by omega) hl rfl) hlen hok) ?_
      rintro e a3 W3 hp
      cases e with
      | normal =>
        obtain ⟨hk3, hkp3, hi3⟩ := hp
        have hl3 := hk3.same _ _ (by omega) hl2 rfl
        have hr := run_endRound (P := P) none hl3
        rw [hrec] at hr hl3
        exact ⟨_, _, hr, rfl, ⟨hI.putObj _ hi3 (by omega) hl3 rfl, by rw [hrec]; exact World.putObj_heap_same (Array.getElem?_eq_some_iff.1 hl3).1, (World.putObj_heap_other (by omega)).trans (hk3.same _ _ (Nat.le_refl _) hk2 rfl)⟩, hKt (hKt hw2 hkp3) (hKb _ _ _ _ (by omega) hl3 rfl rfl)⟩
      | ret => exact hp.elim
      | exit id => exact hp.elim
      | goto t => exact hp.elim
      | panic ch => exact hp.elim
      | outgrown => exact hp.elim
    · rintro e W2 ⟨⟨v, rfl⟩, xs, hS, hi, hl, hk⟩
      exact ⟨none, _, by have := run_endLoop (P := P) hl (by rw [hrec]; simp); rw [hrec] at this; exact this, hdone _ xs _ (Nat.le_refl _) hS (hI.putObj _ hi (by omega) hl rfl) ((World.putObj_heap_other (by omega)).trans hk)⟩
end Go.Proofs.YthmcimpdehgaoaaGreatDoor
namespace Go.Proofs.YthmcimpdehgaoaaGreatDoor
open Go.RowKit Go.Shelf
attribute [local go_sem] Oper.semAt_some

theorem backward_any (A : Option Addr) (n c : Nat) (w : World) :
    Calls Tryz.prog 139 #[.slice A n c] w fun e w' => e = .returned (.func (.func 160) #[] #[.pointer (some ⟨w.heap.size, 0, none⟩)]) ∧ w' = w.alloc (.cells #[.slice A n c] 33) := by
  go_enter Tryz.func139, Tryz.ntmps139
  go_wp2
  go_ret
  exact ⟨rfl, rfl⟩
/-- a row of bytes of a length, and its slice in a box -/
def RowOk (gb g n : Nat) (X : World) : Prop :=
  Blk X gb 33 #[.slice (some ⟨g, 0, none⟩) n n] ∧ ∃ cs : Array Value, Blk X g 5 cs ∧ ∀ i, i < n → ∃ v : Int, cs[i]? = some (.int .u8 v)
set_option maxRecDepth 100000 in
set_option maxHeartbeats 2000000 in
theorem back_in (l gb g n : Nat) (hn : n ≤ 1000000000) (J : List (Nat × Int) → World → Prop)
    (hY : ∀ pre (x : Nat × Int) X, J pre X → RowOk gb g n X → pre.length < n → x.1 < n → YieldAt Fence.wide 3 Tryz.prog l #[.int .i64 x.1, .int .u8 x.2] X fun e X' =>
      e = .returned (.bool true) ∧ J (pre ++ [x]) X' ∧ RowOk gb g n X')
    (X : World) (h : RowOk gb g n X) (h0 : J [] X) :
    CallsIn Fence.wide 4 Tryz.prog 160 #[.func (.yield l) #[] #[], .pointer (some ⟨gb, 0, none⟩)] X fun e X' => (∃ v, e = .returned v) ∧ ∃ xs : List (Nat × Int), xs.map (·.1) = (List.range n).reverse ∧ J xs X' := by
  refine callsIn_of_wp Tryz.func160 rfl trivial ?_ rfl
  simp only [Tryz.ntmps160, List.size_toArray, List.length_cons, List.length_nil, Nat.reduceAdd, Nat.reduceSub, Array.replicate_succ, Array.replicate_zero, List.push_toArray, List.append_toArray, List.nil_append, List.cons_append]
  have g0 := h.1.cell 0
  simp only [List.getElem?_toArray, List.getElem?_cons_zero] at g0
  gi_wp2
  gi_loopw [3] (fun v wr => ∃ (pre : List (Nat × Int)) (k : Nat), v = .int .i64 ((k : Int) - 1) ∧ k + pre.length = n ∧ pre.map (·.1) = (List.range' k (n - k)).reverse ∧ J pre wr ∧ RowOk gb g n wr)
    (fun v _ => match v with | .int _ i => (i + 1).toNat | _ => 0)
  case atStart => exact ⟨[], n, by go_num, by simp, by simp, h0, h⟩
  case round =>
    clear g0
    obtain ⟨pre, k, rfl, hk, hm, hJ, hR⟩ := hrel
    have g0 := hR.1.cell 0
    simp only [List.getElem?_toArray, List.getElem?_cons_zero] at g0
    cases k with
    | zero =>
      gi_wp2
      go_end0
      refine ⟨⟨_, rfl⟩, pre, ?_, hJ⟩
      rw [hm]; simp [List.range_eq_range']
    | succ k =>
      obtain ⟨cs, hcs, hc⟩ := hR.2
      obtain ⟨v, hv⟩ := hc k (by omega)
      have gk := hcs.cell k
      rw [hv] at gk
      have hk1 : ((k + 1 : Nat) : Int) - 1 = (k : Int) := by omega
      rw [hk1]
      have hkn : (k : Int) < (n : Int) := by omega
      obtain ⟨fn, tmps, assign, body, hy, hRd⟩ := hY pre (k, v) wr hJ hR (by omega) (by show k < n; omega)
      have HR := Lib.hid hRd
      clear hRd
      gi_wp2
      refine HR.out.mono ?_
      rintro e W3 ⟨rfl, hJ3, hR3⟩
      clear HR g0 gk
      gi_wp2
      go_roundw
      case rel =>
        refine ⟨pre ++ [(k, v)], k, by go_num, by rw [List.length_append]; simp; omega, ?_, hJ3, hR3⟩
        rw [List.map_append, hm, show n - k = (n - (k + 1)) + 1 by omega, List.range'_succ, List.reverse_cons]
        rfl
      case measure => simp
end Go.Proofs.YthmcimpdehgaoaaGreatDoor
