/- A range over a function whose iterator keeps its state in cells of its own, and whose body never leaves: after the guide's laws of the kind own. slices.Backward of bytes: the iterator, whose body writes the row. -/
import Derived.Test.YthmcimpdehgaoaaGreatDoorRows
import Derived.RangeFuncNested
import Derived.RangeFuncBound
import Derived.RangeFuncCalls
import Derived.RangeFuncLeaves
import Derived.Test.YthmcimpdehgaoaaGreatDoorMaA
import Derived.Shelf.Abstract
import Derived.Shelf.RegionOpen
import Derived.OwnWalkIn
import Derived.TacticsInMore
import Derived.LoopNIn
import Derived.LoopIn
namespace Go.Proofs.YthmcimpdehgaoaaGreatDoor
open Go.RowKit
variable {F : Fence} {n : Nat} {P : Program}

/-- how the body of a round ends: off its end; whatever is no cells and lies from B on lies as it lay -/
def stPost {α : Type} (B : Nat) (Kp : World → World → Prop) (I : List α → World → Prop) (xs : List α) (W : World) : Exit → Act → World → Prop
  | .normal, _, W' => KeepsFrom B W W' ∧ Kp W W' ∧ I xs W'
  | _, _, _ => False

/-- 'St W W'': a step that the iterator makes on its own cells. -/
theorem wpIn_rangeFunc_st {α : Type} {g : Operand} {ps : Array Tmp} {assign body : Code} {Q : Exit → Act → World → Prop} {a : Act} {w : World}
    (hro : F.round = none) (h1 : F.depth.isSome = true → 1 ≤ n) {gf : Nat} {lb : Array Value} (hg : a.eval g = .func (.func gf) #[] lb) (hFg : F.fn gf) (eg : ∀ args w, (callFunc gf args).run P w = .ok (.enter gf args) w)
    {encs : α → Array Value} (hps : ∀ x, (encs x).size = ps.size) {Kp St : World → World → Prop} {S : List α → Prop} {N : Nat} {Ok : α → Prop}
    (hseq : ∀ (l : Nat) (J : List α → World → Prop) (W : World), Below w.heap.size w W → (∀ pre X Y, J pre X → St X Y → J pre Y) →
      (∀ pre x W1, J pre W1 → pre.length < N → Ok x → YieldAt F (n - 1 - 1) P l (encs x) W1 fun e W' => e = .returned (.bool true) ∧ J (pre ++ [x]) W' ∧ Kp W1 W') → J [] W →
      CallsIn F (n - 1) P gf (#[.func (.yield l) #[] #[]] ++ lb) W fun e W' => (∃ v, e = .returned v) ∧ ∃ xs, S xs ∧ J xs W')
    (hKt : ∀ {A B C : World}, Kp A B → Kp B C → Kp A C) (hKb : ∀ (W : World) (l : Nat) (o o' : Obj), w.heap.size ≤ l → W.heap[l]? = some o → o.isCells = false → o.isWalk = false → Kp W (W.putObj l o'))
    (hSt : ∀ (W W' : World) (k : Nat) (o : Obj), St W W' → W.heap[k]? = some o → o.isCells = false → W'.heap[k]? = some o)
    (I : List α → World → Prop) (hI : OwnFrom w.heap.size I) (hIS : ∀ pre X Y, I pre X → St X Y → I pre Y) (h0 : I [] w) (a₁ : α → Act)
    (hassign : ∀ (l : Nat) (x : α) (W : World) (K : Act → World → Prop), K (a₁ x) W →
      assign.wpIn (F.inRound l) (n - 1 - 1) P (Exit.then K (fun _ _ _ => False)) { tmps := (ps.zip (encs x)).foldl (fun t (p, v) => t.setIfInBounds p v) a.tmps, defers := [] } W)
    (hbody : ∀ (l : Nat) (pre : List α) (x : α) (W : World), I pre W → pre.length < N → Ok x → body.wpIn (F.inRound l) (n - 1 - 1) P (stPost w.heap.size Kp I (pre ++ [x]) W) (a₁ x) W)
    (hdone : ∀ (D : Nat) (xs : List α) (W : World), w.heap.size ≤ D → S xs → I xs W → W.heap[D]? = some (.deferred (some [])) → Q .normal { a with defers := { target := .collected D, args := #[] } :: a.defers } W) :
    (Code.rangeFunc g ps assign body).wpIn F n P Q a w := by
  refine wpIn_rangeFunc ?_
  intro fn hfn
  rw [hro]
  obtain ⟨rec, hrec⟩ : ∃ rec : LoopState → Option Code → Loop, rec = fun st pe => { state := st, pending := pe, fn, tmps := a.tmps, params := ps, assign, body, defers := w.heap.size } := ⟨_, rfl⟩
  obtain ⟨W1, hW1⟩ : ∃ W1, (w.alloc (.deferred (some []))).alloc (.loop (rec .ready none)) = W1 := ⟨_, rfl⟩
  have hL1 : W1.heap[w.heap.size + 1]? = some (.loop (rec .ready none)) := by
    rw [← hW1]; have := World.alloc_heap_new (w.alloc (.deferred (some []))) (.loop (rec .ready none)); rwa [World.size_alloc] at this
  have hK1 : W1.heap[w.heap.size]? = some (.deferred (some [])) := by
    rw [← hW1]; exact (Below.heap_alloc _ _ _ (by simp)).trans (World.alloc_heap_new w _)
  have hI1 : I [] W1 := by rw [← hW1]; exact hI.alloc _ (hI.alloc _ h0)
  have hb1 : Below w.heap.size w W1 := by
    rw [← hW1]; exact (((Below.refl _ w).alloc (Nat.le_refl _) _).alloc (by simp) _)
  refine ⟨w.heap.size + 1, [{ target := .collected w.heap.size, args := #[] }], W1, { target := .fn (.func gf) lb, args := #[.func (.yield (w.heap.size + 1)) #[] #[]] }, W1, gf,
    #[.func (.yield (w.heap.size + 1)) #[] #[]] ++ lb, W1, ?_, ?_, ?_, ?_, h1, ?_⟩
  · rw [← hW1, hrec]; exact run_enterLoop_outer _ _ _ _ _
  · simp only [resolve, hg]
    simp [go_sem]
  · intro f' hf'; simp [Target.leads] at hf'; subst hf'; exact hFg
  · simp [invoke, go_sem, eg]
  · refine (hseq (w.heap.size + 1)
      (fun pre W => I pre W ∧ W.heap[w.heap.size + 1]? = some (.loop (rec .ready none)) ∧ W.heap[w.heap.size]? = some (.deferred (some [])))
      W1 hb1
      (fun pre X Y hs hst => ⟨hIS pre X Y hs.1 hst, hSt X Y _ _ hst hs.2.1 rfl, hSt X Y _ _ hst hs.2.2 rfl⟩)
      ?_ ⟨hI1, hL1, hK1⟩).mono ?_
    · rintro pre x W ⟨hi, hl, hk⟩ hlen hok
      have hlt : w.heap.size + 1 < W.heap.size := (Array.getElem?_eq_some_iff.1 hl).1
      have hy := run_yield (P := P) (args := encs x) hl (by rw [hrec]; exact hps x)
      rw [hrec] at hy
      refine ⟨fn, _, assign, body, hy, roundIn_of_wpIn hfn (hassign _ x W _ ⟨_, run_beginRound hl (by rw [hrec]), ?_⟩)⟩
      have hl2 : (W.putObj (w.heap.size + 1) (.loop { rec .ready none with state := .busy })).heap[w.heap.size + 1]? = some (.loop { rec .ready none with state := .busy }) := World.putObj_heap_same hlt
      have hk2 : (W.putObj (w.heap.size + 1) (.loop { rec .ready none with state := .busy })).heap[w.heap.size]? = some (.deferred (some [])) := (World.putObj_heap_other (by omega)).trans hk
      have hw2 : Kp W (W.putObj (w.heap.size + 1) (.loop { rec .ready none with state := .busy })) := hKb _ _ _ _ (by omega) hl rfl rfl
      refine wpIn_mono (hbody _ pre x _ (hI.putObj _ hi (by omega) hl rfl) hlen hok) ?_
      rintro e a3 W3 hp
      cases e with
      | normal =>
        obtain ⟨hk3, hkp3, hi3⟩ := hp
        have hl3 := hk3.same _ _ (by omega) hl2 rfl
        have hr := run_endRound (P := P) none hl3
        rw [hrec] at hr hl3
        exact ⟨_, _, hr, rfl, ⟨hI.putObj _ hi3 (by omega) hl3 rfl, by rw [hrec]; exact World.putObj_heap_same (Array.getElem?_eq_some_iff.1 hl3).1, (World.putObj_heap_other (by omega)).trans (hk3.same _ _ (Nat.le_refl _) hk2 rfl)⟩, hKt (hKt hw2 hkp3) (hKb _ _ _ _ (by omega) hl3 rfl rfl)⟩
      | ret => exact hp.elim
      | exit id => exact hp.elim
      | goto t => exact hp.elim
      | panic ch => exact hp.elim
      | outgrown => exact hp.elim
    · rintro e W2 ⟨⟨v, rfl⟩, xs, hS, hi, hl, hk⟩
      exact ⟨none, _, by have := run_endLoop (P := P) hl (by rw [hrec]; simp); rw [hrec] at this; exact this, hdone _ xs _ (Nat.le_refl _) hS (hI.putObj _ hi (by omega) hl rfl) ((World.putObj_heap_other (by omega)).trans hk)⟩
end Go.Proofs.YthmcimpdehgaoaaGreatDoor
namespace Go.Proofs.YthmcimpdehgaoaaGreatDoor
open Go.RowKit Go.Shelf
attribute [local go_sem] Oper.semAt_some

theorem backward_any (A : Option Addr) (n c : Nat) (w : World) :
    Calls Tryz.prog 139 #[.slice A n c] w fun e w' => e = .returned (.func (.func 160) #[] #[.pointer (some ⟨w.heap.size, 0, none⟩)]) ∧ w' = w.alloc (.cells #[.slice A n c] 33) := by
  go_enter Tryz.func139, Tryz.ntmps139
  go_wp2
  go_ret
  exact ⟨rfl, rfl⟩
/-- a row of bytes of a length, and its slice in a box -/
def RowOk (gb g n : Nat) (X : World) : Prop :=
  Blk X gb 33 #[.slice (some ⟨g, 0, none⟩) n n] ∧ ∃ cs : Array Value, Blk X g 5 cs ∧ ∀ i, i < n → ∃ v : Int, cs[i]? = some (.int .u8 v)
set_option maxRecDepth 100000 in
set_option maxHeartbeats 2000000 in
theorem back_in (l gb g n : Nat) (hn : n ≤ 1000000000) (J : List (Nat × Int) → World → Prop)
    (hY : ∀ pre (x : Nat × Int) X, J pre X → RowOk gb g n X → pre.length < n → x.1 < n → YieldAt Fence.wide 3 Tryz.prog l #[.int .i64 x.1, .int .u8 x.2] X fun e X' =>
      e = .returned (.bool true) ∧ J (pre ++ [x]) X' ∧ RowOk gb g n X')
    (X : World) (h : RowOk gb g n X) (h0 : J [] X) :
    CallsIn Fence.wide 4 Tryz.prog 160 #[.func (.yield l) #[] #[], .pointer (some ⟨gb, 0, none⟩)] X fun e X' => (∃ v, e = .returned v) ∧ ∃ xs : List (Nat × Int), xs.map (·.1) = (List.range n).reverse ∧ J xs X' := by
  refine callsIn_of_wp Tryz.func160 rfl trivial ?_ rfl
  simp only [Tryz.ntmps160, List.size_toArray, List.length_cons, List.length_nil, Nat.reduceAdd, Nat.reduceSub, Array.replicate_succ, Array.replicate_zero, List.push_toArray, List.append_toArray, List.nil_append, List.cons_append]
  have g0 := h.1.cell 0
  simp only [List.getElem?_toArray, List.getElem?_cons_zero] at g0
  gi_wp2
  gi_loopw [3] (fun v wr => ∃ (pre : List (Nat × Int)) (k : Nat), v = .int .i64 ((k : Int) - 1) ∧ k + pre.length = n ∧ pre.map (·.1) = (List.range' k (n - k)).reverse ∧ J pre wr ∧ RowOk gb g n wr)
    (fun v _ => match v with | .int _ i => (i + 1).toNat | _ => 0)
  case atStart => exact ⟨[], n, by go_num, by simp, by simp, h0, h⟩
  case round =>
    clear g0
    obtain ⟨pre, k, rfl, hk, hm, hJ, hR⟩ := hrel
    have g0 := hR.1.cell 0
    simp only [List.getElem?_toArray, List.getElem?_cons_zero] at g0
    cases k with
    | zero =>
      gi_wp2
      go_end0
      refine ⟨⟨_, rfl⟩, pre, ?_, hJ⟩
      rw [hm]; simp [List.range_eq_range']
    | succ k =>
      obtain ⟨cs, hcs, hc⟩ := hR.2
      obtain ⟨v, hv⟩ := hc k (by omega)
      have gk := hcs.cell k
      rw [hv] at gk
      have hk1 : ((k + 1 : Nat) : Int) - 1 = (k : Int) := by omega
      rw [hk1]
      have hkn : (k : Int) < (n : Int) := by omega
      obtain ⟨fn, tmps, assign, body, hy, hRd⟩ := hY pre (k, v) wr hJ hR (by omega) (by show k < n; omega)
      have HR := Lib.hid hRd
      clear hRd
      gi_wp2
      refine HR.out.mono ?_
      rintro e W3 ⟨rfl, hJ3, hR3⟩
      clear HR g0 gk
      gi_wp2
      go_roundw
      case rel =>
        refine ⟨pre ++ [(k, v)], k, by go_num, by rw [List.length_append]; simp; omega, ?_, hJ3, hR3⟩
        rw [List.map_append, hm, show n - k = (n - (k + 1)) + 1 by omega, List.range'_succ, List.reverse_cons]
        rfl
      case measure => simp
end Go.Proofs.YthmcimpdehgaoaaGreatDoor
