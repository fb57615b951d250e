/- The reference's check of bytes: Sum. A range over a function whose iterator keeps its state in cells of its own, and whose body never leaves: after the guide's laws of the kind own. slices.Backward of bytes: the iterator, whose body writes the row. -/
import Derived.Test.YtlcgkcafelpglaaGreatDoorRfB
import Derived.Laws.BitsAllLaws
import Derived.Test.YtlcgkcafelpglaaGreatDoorRows
import Derived.RangeFuncNested
import Derived.RangeFuncBound
import Derived.RangeFuncCalls
import Derived.RangeFuncLeaves
import Derived.Test.YtlcgkcafelpglaaGreatDoorPk20
import Derived.Shelf.Abstract
import Derived.Shelf.RegionOpen
import Derived.OwnWalkIn
import Derived.TacticsInMore
import Derived.LoopNIn
import Derived.LoopIn
namespace Go.Proofs.YtlcgkcafelpglaaGreatDoor
open Go.RowKit

/-- a row of bits by a rule -/
def bitsV (n : Nat) (p : Nat → Bool) : Array Value := ((List.range n).map fun j => Value.bool (p j)).toArray
theorem bitsV_size (n : Nat) (p : Nat → Bool) : (bitsV n p).size = n := by simp [bitsV]
theorem bitsV_at {n : Nat} {p : Nat → Bool} {j : Nat} (hj : j < n) : (bitsV n p)[j]? = some (.bool (p j)) := by
  unfold bitsV
  rw [List.getElem?_toArray, List.getElem?_map, List.getElem?_range hj]; rfl
theorem bitsV_congr {n : Nat} {p q : Nat → Bool} (h : ∀ j, j < n → p j = q j) : bitsV n p = bitsV n q := by
  unfold bitsV
  congr 1
  exact List.map_congr_left fun j hj => by rw [h j (List.mem_range.1 hj)]
theorem bitsV_set {n : Nat} {p : Nat → Bool} {m : Nat} (b : Bool) (q : Nat → Bool) (h : ∀ j, j < n → q j = if j = m then b else p j) : (bitsV n p).setIfInBounds m (.bool b) = bitsV n q := by
  apply Array.ext
  · simp [bitsV]
  · intro i h1 h2
    have hi : i < n := by rw [bitsV_size] at h2; exact h2
    rw [Array.getElem_setIfInBounds (by rw [bitsV_size]; exact hi)]
    simp only [bitsV, List.getElem_toArray, List.getElem_map, List.getElem_range]
    rw [h i hi]
    by_cases hm : m = i
    · subst hm; simp
    · rw [if_neg hm, if_neg (fun e => hm e.symm)]
/-- the bits of so many -/
def fillP (l : List UInt8) (m j : Nat) : Bool := if j < m then bitM l j else false
def invP (l : List UInt8) (k j : Nat) : Bool := if j < k then !bitM l j else bitM l j
theorem bitM_at {l : List UInt8} {i k : Nat} (hi : i < l.length) (hk : k < 8) : bitM l (8 * i + k) = (l[i].toNat).testBit k := by
  unfold bitM
  rw [if_pos (by omega), show (8 * i + k) / 8 = i by omega, show (8 * i + k) % 8 = k by omega, List.getD_eq_getElem?_getD, List.getElem?_eq_getElem hi]
  rfl
theorem bitM_far {l : List UInt8} {j : Nat} (h : 8 * l.length ≤ j) : bitM l j = false := by unfold bitM; rw [if_neg (by omega)]
theorem bit_test (b k : Nat) (hb : b < 256) : (bits .and .u8 ((b : Int) / 2 ^ k) 1 == 1) = b.testBit k := by
  have h0 : (b : Int) / 2 ^ k = ((b / 2 ^ k : Nat) : Int) := by simp
  rw [h0]
  have h1 : b / 2 ^ k ≤ b := Nat.div_le_self _ _
  have := u8_and_nat (b / 2 ^ k) 1 (by omega) (by decide)
  rw [nat_mask1] at this
  rw [show (1 : Int) = ((1 : Nat) : Int) from rfl, this, Nat.testBit_eq_decide_div_mod_eq]
  rcases Nat.mod_two_eq_zero_or_one (b / 2 ^ k) with h | h <;> rw [h] <;> rfl
set_option maxRecDepth 100000 in
set_option maxHeartbeats 8000000 in
theorem rfSum_any (w : World) (v : Value) (s : ByteArray) (h : BtR w v s) (hs : s.size ≤ 1000) :
    Calls Tryz.prog 61 #[v] w fun e w' => e = .returned (.int .u32 (crcN s)) ∧ Below w.heap.size w w' := by
  obtain ⟨A, c, rfl, hc, -⟩ := id h
  obtain ⟨i0, hi0, hz0, hz1, hz2⟩ := parts infoBo
  obtain ⟨N, hN⟩ : ∃ N, 8 * s.size + 32 = N := ⟨_, rfl⟩
  have hNI : 8 * (s.size : Int) + 32 = (N : Int) := by omega
  obtain ⟨l, hl⟩ : ∃ l, s.data.toList = l := ⟨_, rfl⟩
  have hll : l.length = s.size := by rw [← hl]; rfl
  obtain ⟨Z, hZ⟩ : ∃ Z, (List.replicate N (Value.bool false)).toArray = Z := ⟨_, rfl⟩
  have hmk : ∀ X : World, (Instr.makeSlice 126 (.int .i64 N) (.int .i64 N)).run Tryz.prog X = .ok (.slice (some ⟨X.heap.size, 0, none⟩) N N) (X.alloc (.cells Z 4)) := by
    rw [← hZ]
    exact fun X => run_make_one (P := Tryz.prog) 126 4 i0 (.bool false) Tryz.underlying126 hi0 hz0 rfl hz1 N (by rw [hz2]; omega) (by omega) X
  have hZ0 : Z = bitsV N (fillP l 0) := by
    rw [← hZ]
    unfold bitsV
    congr 1
    apply List.ext_getElem
    · simp
    · intro i h1 h2; simp [fillP]
  have hK0 : Blk (w.alloc (.cells Z 4)) w.heap.size 4 (bitsV N (fillP l 0)) := by rw [← hZ0]; exact Blk.new w _ _
  have hB0 := (Below.refl w.heap.size w).alloc (Nat.le_refl _) (.cells Z 4)
  have HK0 := Lib.hid hK0; have HB0 := Lib.hid hB0; have HH := Lib.hid h; have HLL := Lib.hid hll; have HL := Lib.hid hl
  have hN2 : N ≤ 8032 := by omega
  have hNs : s.size * 8 + 32 = N := by omega
  clear hK0 hB0 hZ hi0 hz0 hz1 hz2 hZ0 h hll hl hN
  have HNS := Lib.hid hNs
  clear hNs
  go_enter Tryz.func61, Tryz.ntmps61
  go_wp2
  go_loopg [4] s.size (fun gf a wr => ∃ i : Nat, a = .int .i64 i ∧ i + gf = s.size ∧ Blk wr w.heap.size 4 (bitsV N (fillP l (8 * i))) ∧ Below w.heap.size w wr)
  case atStart => exact ⟨0, rfl, by omega, HK0.out, HB0.out⟩
  case round =>
  clear HK0 HB0 hmk
  obtain ⟨i, rfl, hi, hK, hB⟩ := hrel
  cases gk with
  | zero =>
    obtain rfl : i = s.size := by omega
    have hK2 : Blk wr w.heap.size 4 (bitsV N (invP l 0)) := by
      rw [← bitsV_congr (p := fillP l (8 * s.size)) (fun j _ => ?_)]; exact hK
      unfold fillP invP
      by_cases hj : j < 8 * s.size
      · rw [if_pos hj, if_neg (by omega)]
      · rw [if_neg hj, if_neg (by omega), bitM_far (by rw [HLL.out]; omega)]
    have HK := Lib.hid hK2; have HB := Lib.hid hB
    clear hK hK2 hB
    go_wp2
    go_loopg [6] 32 (fun gf a wr => ∃ k : Nat, a = .int .i64 k ∧ k + gf = 32 ∧ Blk wr w.heap.size 4 (bitsV N (invP l k)) ∧ Below w.heap.size w wr)
    case atStart => exact ⟨0, rfl, rfl, HK.out, HB.out⟩
    case round =>
    clear HK HB
    obtain ⟨k, rfl, hk, hK, hB⟩ := hrel
    cases gk with
    | zero =>
      obtain rfl : k = 32 := by omega
      have hrow : bitsV N (invP l 32) = ((rowOf l).map Value.bool).toArray := by
        unfold bitsV rowOf invP
        rw [List.map_map, HLL.out, show 8 * s.size + 32 = N by have := HNS.out; omega]
        rfl
      have hrl : (rowOf l).length = N := by unfold rowOf; rw [List.length_map, List.length_range, HLL.out]; have := HNS.out; omega
      rw [hrow] at hK
      have hR : Rs boolC 1 wr (some ⟨w.heap.size, 0, none⟩) (rowOf l) := by
        refine ⟨rcs_length boolC_len _, fun _ => ⟨w.heap.size, 0, rfl, hK.lt, fun j u hu => ?_⟩⟩
        rw [rcs_bool] at hu
        rw [hK.cell, List.getElem?_toArray, Nat.zero_add, hu]
      have hcall := rest_any wr (some ⟨w.heap.size, 0, none⟩) N (rowOf l) hR (by rw [hrl]; have := HNS.out; omega) (by omega)
      rw [hrl] at hcall
      have hlaw := crc_law s
      rw [HL.out] at hlaw
      have hlt : restN (rowOf l) < 4294967296 := by
        have e : restN (rowOf l) = crcN s ^^^ 4294967295 := by rw [← hlaw, Nat.xor_assoc, Nat.xor_self, Nat.xor_zero]
        rw [e]; exact Nat.xor_lt_two_pow (n := 32) (crcN_lt s) (by decide)
      have hx := u32_xor_nat (restN (rowOf l)) 4294967295 hlt (by decide)
      rw [hlaw] at hx
      have HC := Lib.hid hcall; have HB := Lib.hid hB; have HX := Lib.hid hx
      clear hcall hK hR hrow hrl hB hlaw hlt hx
      go_wp2_with fail
      refine HC.out.mono ?_
      rintro e w2 ⟨rfl, hb⟩
      have HB2 := Lib.hid (HB.out.trans (hb.mono HB.out.size))
      clear hb HB HC
      go_wp2
      go_ret
      exact ⟨congrArg (fun z => Ending.returned (.int .u32 z)) HX.out, HB2.out⟩
    | succ gf =>
      have hkI : (k : Int) < 32 := by omega
      have hkN : k < N := by have := HNS.out; omega
      have hkNI : (k : Int) < (N : Int) := by omega
      have ck := hK.cell k; have fk := hK.frozen k
      rw [bitsV_at hkN] at ck
      have hp : invP l k k = bitM l k := by unfold invP; rw [if_neg (by omega)]
      rw [hp] at ck
      have hK2 := hK.set_ k (.bool (!bitM l k))
      rw [bitsV_set (!bitM l k) (invP l (k + 1)) (fun j _ => by
        unfold invP
        by_cases hj : j = k
        · subst hj; rw [if_pos (by omega), if_pos rfl]
        · rw [if_neg hj]
          by_cases hj2 : j < k
          · rw [if_pos (by omega), if_pos hj2]
          · rw [if_neg (by omega), if_neg hj2])] at hK2
      have hB2 := hB.setCell (p := ⟨w.heap.size, k, none⟩) (Nat.le_refl _) (.bool (!bitM l k))
      obtain ⟨u, hu⟩ : ∃ u, bitM l k = u := ⟨_, rfl⟩
      rw [hu] at ck hK2 hB2
      have HK2 := Lib.hid hK2; have HB2 := Lib.hid hB2
      clear hK hK2 hB hB2 hp hu hkN
      go_wp2
      go_roundg gf
      case measure => omega
      case rel => exact ⟨k + 1, by go_num, by omega, HK2.out, HB2.out⟩
  | succ gf =>
    have hiN : i < s.size := by omega
    have hiI : (i : Int) < (s.size : Int) := by omega
    have HK := Lib.hid hK; have HB := Lib.hid hB
    clear hK hB
    go_wp2
    go_loopg [5] 8 (fun gf a wr => ∃ k : Nat, a = .int .i64 k ∧ k + gf = 8 ∧ Blk wr w.heap.size 4 (bitsV N (fillP l (8 * i + k))) ∧ Below w.heap.size w wr)
    case atStart => exact ⟨0, rfl, rfl, HK.out, HB.out⟩
    case round =>
    clear HK HB
    obtain ⟨k, rfl, hk, hK, hB⟩ := hrel
    cases gk with
    | zero =>
      obtain rfl : k = 8 := by omega
      have HK := Lib.hid hK; have HB := Lib.hid hB
      clear hK hB
      go_wp2
      go_roundg gf
      case measure => omega
      case rel => exact ⟨i + 1, by go_num, by omega, HK.out, HB.out⟩
    | succ gf' =>
      have hkI : (k : Int) < 8 := by omega
      have hkN : 8 * i + k < N := by have := HNS.out; omega
      have hkNI : 8 * (i : Int) + (k : Int) < (N : Int) := by omega
      obtain ⟨m, hm⟩ : ∃ m, 8 * i + k = m := ⟨_, rfl⟩
      have hmI : 8 * (i : Int) + (k : Int) = (m : Int) := by omega
      have hil : i < l.length := by rw [HLL.out]; exact hiN
      have hbm := bitM_at hil (show k < 8 by omega)
      rw [hm] at hbm hK hkN
      obtain ⟨ad, rfl, cb⟩ := (HH.out.below hB).cell (k := i) hiN
      have hg : s.get! i = l[i] := by
        have h2 : i < s.data.size := hiN
        simp only [ByteArray.get!, getElem!_pos, h2]
        simp [← HL.out]
      rw [hg] at cb
      have ck := hK.cell m; have fk := hK.frozen m
      rw [bitsV_at hkN] at ck
      obtain ⟨b, hb⟩ : ∃ b : UInt8, l[i] = b := ⟨_, rfl⟩
      rw [hb] at cb hbm
      have hbt := bit_test b.toNat k b.toNat_lt
      have hK2 := hK.set_ m (.bool (b.toNat.testBit k))
      rw [bitsV_set (b.toNat.testBit k) (fillP l (m + 1)) (fun j _ => by
        unfold fillP
        by_cases hj : j = m
        · subst hj; rw [if_pos (by omega), if_pos rfl, hbm]
        · rw [if_neg hj]
          by_cases hj2 : j < m
          · rw [if_pos (by omega), if_pos hj2]
          · rw [if_neg (by omega), if_neg hj2])] at hK2
      have hB2 := hB.setCell (p := ⟨w.heap.size, m, none⟩) (Nat.le_refl _) (.bool (b.toNat.testBit k))
      have hmS : m + 1 = 8 * i + (k + 1) := by omega
      rw [hmS] at hK2
      have HK2 := Lib.hid hK2; have HB2 := Lib.hid hB2
      have hb8 := b.toNat_lt
      clear hK hK2 hB hB2 hbm hm hb hg hil hmS
      go_wp2
      go_roundg gf'
      case measure => omega
      case rel => exact ⟨k + 1, by go_num, by omega, HK2.out, HB2.out⟩
end Go.Proofs.YtlcgkcafelpglaaGreatDoor
namespace Go.Proofs.YtlcgkcafelpglaaGreatDoor
open Go.RowKit
variable {F : Fence} {n : Nat} {P : Program}

/-- how the body of a round ends: off its end; whatever is no cells and lies from B on lies as it lay -/
def stPost {α : Type} (B : Nat) (Kp : World → World → Prop) (I : List α → World → Prop) (xs : List α) (W : World) : Exit → Act → World → Prop
  | .normal, _, W' => KeepsFrom B W W' ∧ Kp W W' ∧ I xs W'
  | _, _, _ => False

/-- 'St W W'': a step that the iterator makes on its own cells. -/
theorem wpIn_rangeFunc_st {α : Type} {g : Operand} {ps : Array Tmp} {assign body : Code} {Q : Exit → Act → World → Prop} {a : Act} {w : World}
    (hro : F.round = none) (h1 : F.depth.isSome = true → 1 ≤ n) {gf : Nat} {lb : Array Value} (hg : a.eval g = .func (.func gf) #[] lb) (hFg : F.fn gf) (eg : ∀ args w, (callFunc gf args).run P w = .ok (.enter gf args) w)
    {encs : α → Array Value} (hps : ∀ x, (encs x).size = ps.size) {Kp St : World → World → Prop} {S : List α → Prop} {N : Nat} {Ok : α → Prop}
    (hseq : ∀ (l : Nat) (J : List α → World → Prop) (W : World), Below w.heap.size w W → (∀ pre X Y, J pre X → St X Y → J pre Y) →
      (∀ pre x W1, J pre W1 → pre.length < N → Ok x → YieldAt F (n - 1 - 1) P l (encs x) W1 fun e W' => e = .returned (.bool true) ∧ J (pre ++ [x]) W' ∧ Kp W1 W') → J [] W →
      CallsIn F (n - 1) P gf (#[.func (.yield l) #[] #[]] ++ lb) W fun e W' => (∃ v, e = .returned v) ∧ ∃ xs, S xs ∧ J xs W')
    (hKt : ∀ {A B C : World}, Kp A B → Kp B C → Kp A C) (hKb : ∀ (W : World) (l : Nat) (o o' : Obj), w.heap.size ≤ l → W.heap[l]? = some o → o.isCells = false → o.isWalk = false → Kp W (W.putObj l o'))
    (hSt : ∀ (W W' : World) (k : Nat) (o : Obj), St W W' → W.heap[k]? = some o → o.isCells = false → W'.heap[k]? = some o)
    (I : List α → World → Prop) (hI : OwnFrom w.heap.size I) (hIS : ∀ pre X Y, I pre X → St X Y → I pre Y) (h0 : I [] w) (a₁ : α → Act)
    (hassign : ∀ (l : Nat) (x : α) (W : World) (K : Act → World → Prop), K (a₁ x) W →
      assign.wpIn (F.inRound l) (n - 1 - 1) P (Exit.then K (fun _ _ _ => False)) { tmps := (ps.zip (encs x)).foldl (fun t (p, v) => t.setIfInBounds p v) a.tmps, defers := [] } W)
    (hbody : ∀ (l : Nat) (pre : List α) (x : α) (W : World), I pre W → pre.length < N → Ok x → body.wpIn (F.inRound l) (n - 1 - 1) P (stPost w.heap.size Kp I (pre ++ [x]) W) (a₁ x) W)
    (hdone : ∀ (D : Nat) (xs : List α) (W : World), w.heap.size ≤ D → S xs → I xs W → W.heap[D]? = some (.deferred (some [])) → Q .normal { a with defers := { target := .collected D, args := #[] } :: a.defers } W) :
    (Code.rangeFunc g ps assign body).wpIn F n P Q a w := by
  refine wpIn_rangeFunc ?_
  intro fn hfn
  rw [hro]
  obtain ⟨rec, hrec⟩ : ∃ rec : LoopState → Option Code → Loop, rec = fun st pe => { state := st, pending := pe, fn, tmps := a.tmps, params := ps, assign, body, defers := w.heap.size } := ⟨_, rfl⟩
  obtain ⟨W1, hW1⟩ : ∃ W1, (w.alloc (.deferred (some []))).alloc (.loop (rec .ready none)) = W1 := ⟨_, rfl⟩
  have hL1 : W1.heap[w.heap.size + 1]? = some (.loop (rec .ready none)) := by
    rw [← hW1]; have := World.alloc_heap_new (w.alloc (.deferred (some []))) (.loop (rec .ready none)); rwa [World.size_alloc] at this
  have hK1 : W1.heap[w.heap.size]? = some (.deferred (some [])) := by
    rw [← hW1]; exact (Below.heap_alloc _ _ _ (by simp)).trans (World.alloc_heap_new w _)
  have hI1 : I [] W1 := by rw [← hW1]; exact hI.alloc _ (hI.alloc _ h0)
  have hb1 : Below w.heap.size w W1 := by
    rw [← hW1]; exact (((Below.refl _ w).alloc (Nat.le_refl _) _).alloc (by simp) _)
  refine ⟨w.heap.size + 1, [{ target := .collected w.heap.size, args := #[] }], W1, { target := .fn (.func gf) lb, args := #[.func (.yield (w.heap.size + 1)) #[] #[]] }, W1, gf,
    #[.func (.yield (w.heap.size + 1)) #[] #[]] ++ lb, W1, ?_, ?_, ?_, ?_, h1, ?_⟩
  · rw [← hW1, hrec]; exact run_enterLoop_outer _ _ _ _ _
  · simp only [resolve, hg]
    simp [go_sem]
  · intro f' hf'; simp [Target.leads] at hf'; subst hf'; exact hFg
  · simp [invoke, go_sem, eg]
  · refine (hseq (w.heap.size + 1)
      (fun pre W => I pre W ∧ W.heap[w.heap.size + 1]? = some (.loop (rec .ready none)) ∧ W.heap[w.heap.size]? = some (.deferred (some [])))
      W1 hb1
      (fun pre X Y hs hst => ⟨hIS pre X Y hs.1 hst, hSt X Y _ _ hst hs.2.1 rfl, hSt X Y _ _ hst hs.2.2 rfl⟩)
      ?_ ⟨hI1, hL1, hK1⟩).mono ?_
    · rintro pre x W ⟨hi, hl, hk⟩ hlen hok
      have hlt : w.heap.size + 1 < W.heap.size := (Array.getElem?_eq_some_iff.1 hl).1
      have hy := run_yield (P := P) (args := encs x) hl (by rw [hrec]; exact hps x)
      rw [hrec] at hy
      refine ⟨fn, _, assign, body, hy, roundIn_of_wpIn hfn (hassign _ x W _ ⟨_, run_beginRound hl (by rw [hrec]), ?_⟩)⟩
      have hl2 : (W.putObj (w.heap.size + 1) (.loop { rec .ready none with state := .busy })).heap[w.heap.size + 1]? = some (.loop { rec .ready none with state := .busy }) := World.putObj_heap_same hlt
      have hk2 : (W.putObj (w.heap.size + 1) (.loop { rec .ready none with state := .busy })).heap[w.heap.size]? = some (.deferred (some [])) := (World.putObj_heap_other (by omega)).trans hk
      have hw2 : Kp W (W.putObj (w.heap.size + 1) (.loop { rec .ready none with state := .busy })) := hKb _ _ _ _ (by omega) hl rfl rfl
      refine wpIn_mono (hbody _ pre x _ (hI.putObj _ hi (by omega) hl rfl) hlen hok) ?_
      rintro e a3 W3 hp
      cases e with
      | normal =>
        obtain ⟨hk3, hkp3, hi3⟩ := hp
        have hl3 := hk3.same _ _ (by omega) hl2 rfl
        have hr := run_endRound (P := P) none hl3
        rw [hrec] at hr hl3
        exact ⟨_, _, hr, rfl, ⟨hI.putObj _ hi3 (by omega) hl3 rfl, by rw [hrec]; exact World.putObj_heap_same (Array.getElem?_eq_some_iff.1 hl3).1, (World.putObj_heap_other (by omega)).trans (hk3.same _ _ (Nat.le_refl _) hk2 rfl)⟩, hKt (hKt hw2 hkp3) (hKb _ _ _ _ (by omega) hl3 rfl rfl)⟩
      | ret => exact hp.elim
      | exit id => exact hp.elim
      | goto t => exact hp.elim
      | panic ch => exact hp.elim
      | outgrown => exact hp.elim
    · rintro e W2 ⟨⟨v, rfl⟩, xs, hS, hi, hl, hk⟩
      exact ⟨none, _, by have := run_endLoop (P := P) hl (by rw [hrec]; simp); rw [hrec] at this; exact this, hdone _ xs _ (Nat.le_refl _) hS (hI.putObj _ hi (by omega) hl rfl) ((World.putObj_heap_other (by omega)).trans hk)⟩
end Go.Proofs.YtlcgkcafelpglaaGreatDoor
namespace Go.Proofs.YtlcgkcafelpglaaGreatDoor
open Go.RowKit Go.Shelf
attribute [local go_sem] Oper.semAt_some

theorem backward_any (A : Option Addr) (n c : Nat) (w : World) :
    Calls Tryz.prog 119 #[.slice A n c] w fun e w' => e = .returned (.func (.func 129) #[] #[.pointer (some ⟨w.heap.size, 0, none⟩)]) ∧ w' = w.alloc (.cells #[.slice A n c] 39) := by
  go_enter Tryz.func119, Tryz.ntmps119
  go_wp2
  go_ret
  exact ⟨rfl, rfl⟩
/-- a row of bytes of a length, and its slice in a box -/
def RowOk (gb g n : Nat) (X : World) : Prop :=
  Blk X gb 39 #[.slice (some ⟨g, 0, none⟩) n n] ∧ ∃ cs : Array Value, Blk X g 5 cs ∧ ∀ i, i < n → ∃ v : Int, cs[i]? = some (.int .u8 v)
set_option maxRecDepth 100000 in
set_option maxHeartbeats 2000000 in
theorem back_in (l gb g n : Nat) (hn : n ≤ 1000000000) (J : List (Nat × Int) → World → Prop)
    (hY : ∀ pre (x : Nat × Int) X, J pre X → RowOk gb g n X → pre.length < n → x.1 < n → YieldAt Fence.wide 3 Tryz.prog l #[.int .i64 x.1, .int .u8 x.2] X fun e X' =>
      e = .returned (.bool true) ∧ J (pre ++ [x]) X' ∧ RowOk gb g n X')
    (X : World) (h : RowOk gb g n X) (h0 : J [] X) :
    CallsIn Fence.wide 4 Tryz.prog 129 #[.func (.yield l) #[] #[], .pointer (some ⟨gb, 0, none⟩)] X fun e X' => (∃ v, e = .returned v) ∧ ∃ xs : List (Nat × Int), xs.map (·.1) = (List.range n).reverse ∧ J xs X' := by
  refine callsIn_of_wp Tryz.func129 rfl trivial ?_ rfl
  simp only [Tryz.ntmps129, List.size_toArray, List.length_cons, List.length_nil, Nat.reduceAdd, Nat.reduceSub, Array.replicate_succ, Array.replicate_zero, List.push_toArray, List.append_toArray, List.nil_append, List.cons_append]
  have g0 := h.1.cell 0
  simp only [List.getElem?_toArray, List.getElem?_cons_zero] at g0
  gi_wp2
  gi_loopw [3] (fun v wr => ∃ (pre : List (Nat × Int)) (k : Nat), v = .int .i64 ((k : Int) - 1) ∧ k + pre.length = n ∧ pre.map (·.1) = (List.range' k (n - k)).reverse ∧ J pre wr ∧ RowOk gb g n wr)
    (fun v _ => match v with | .int _ i => (i + 1).toNat | _ => 0)
  case atStart => exact ⟨[], n, by go_num, by simp, by simp, h0, h⟩
  case round =>
    clear g0
    obtain ⟨pre, k, rfl, hk, hm, hJ, hR⟩ := hrel
    have g0 := hR.1.cell 0
    simp only [List.getElem?_toArray, List.getElem?_cons_zero] at g0
    cases k with
    | zero =>
      gi_wp2
      go_end0
      refine ⟨⟨_, rfl⟩, pre, ?_, hJ⟩
      rw [hm]; simp [List.range_eq_range']
    | succ k =>
      obtain ⟨cs, hcs, hc⟩ := hR.2
      obtain ⟨v, hv⟩ := hc k (by omega)
      have gk := hcs.cell k
      rw [hv] at gk
      have hk1 : ((k + 1 : Nat) : Int) - 1 = (k : Int) := by omega
      rw [hk1]
      have hkn : (k : Int) < (n : Int) := by omega
      obtain ⟨fn, tmps, assign, body, hy, hRd⟩ := hY pre (k, v) wr hJ hR (by omega) (by show k < n; omega)
      have HR := Lib.hid hRd
      clear hRd
      gi_wp2
      refine HR.out.mono ?_
      rintro e W3 ⟨rfl, hJ3, hR3⟩
      clear HR g0 gk
      gi_wp2
      go_roundw
      case rel =>
        refine ⟨pre ++ [(k, v)], k, by go_num, by rw [List.length_append]; simp; omega, ?_, hJ3, hR3⟩
        rw [List.map_append, hm, show n - k = (n - (k + 1)) + 1 by omega, List.range'_succ, List.reverse_cons]
        rfl
      case measure => simp
end Go.Proofs.YtlcgkcafelpglaaGreatDoor
