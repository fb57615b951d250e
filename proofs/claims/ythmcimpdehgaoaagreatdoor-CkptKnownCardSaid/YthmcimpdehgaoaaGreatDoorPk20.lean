/- A range over a method value (first arguments bound), whose body never leaves: after the guide's laws of the kind own. A store of checkpoints: right, the iterator over the steps whose files are right. A store of checkpoints: Steps (slices.Collect over right). -/
import Derived.Test.YthmcimpdehgaoaaGreatDoorPk8
import Derived.RangeFuncNested
import Derived.RangeFuncBound
import Derived.RangeFuncCalls
import Derived.RangeFuncLeaves
import Derived.Test.YthmcimpdehgaoaaGreatDoorCkG
import Derived.Test.YthmcimpdehgaoaaGreatDoorPk19
import Derived.Shelf.RegionOpen
import Derived.WalkKit
import Derived.OwnWalkIn
import Derived.TacticsInMore
import Derived.LoopNIn
import Derived.LoopIn
import Derived.Outline
namespace Go.Proofs.YthmcimpdehgaoaaGreatDoor
open Go.RowKit
variable {F : Fence} {n : Nat} {P : Program}

/-- 'St W W'': a step that the iterator makes on its own cells. -/
theorem wpIn_rangeFunc_b {α : Type} {g : Operand} {ps : Array Tmp} {assign body : Code} {Q : Exit → Act → World → Prop} {a : Act} {w : World}
    (hro : F.round = none) (h1 : F.depth.isSome = true → 1 ≤ n) {gf : Nat} {ba lb : Array Value} (hg : a.eval g = .func (.func gf) ba lb) (hFg : F.fn gf) (eg : ∀ args w, (callFunc gf args).run P w = .ok (.enter gf args) w)
    {encs : α → Array Value} (hps : ∀ x, (encs x).size = ps.size) {Kp St : World → World → Prop} {S : List α → Prop} {N : Nat} {Ok : α → Prop}
    (hseq : ∀ (l : Nat) (J : List α → World → Prop) (W : World), Below w.heap.size w W → (∀ pre X Y, J pre X → St X Y → J pre Y) →
      (∀ pre x W1, J pre W1 → pre.length < N → Ok x → YieldAt F (n - 1 - 1) P l (encs x) W1 fun e W' => e = .returned (.bool true) ∧ J (pre ++ [x]) W' ∧ Kp W1 W') → J [] W →
      CallsIn F (n - 1) P gf ((ba ++ #[.func (.yield l) #[] #[]]) ++ lb) W fun e W' => (∃ v, e = .returned v) ∧ ∃ xs, S xs ∧ J xs W')
    (hKt : ∀ {A B C : World}, Kp A B → Kp B C → Kp A C) (hKb : ∀ (W : World) (l : Nat) (o o' : Obj), w.heap.size ≤ l → W.heap[l]? = some o → o.isCells = false → o.isWalk = false → Kp W (W.putObj l o'))
    (hSt : ∀ (W W' : World) (k : Nat) (o : Obj), St W W' → W.heap[k]? = some o → o.isCells = false → W'.heap[k]? = some o)
    (I : List α → World → Prop) (hI : OwnFrom w.heap.size I) (hIS : ∀ pre X Y, I pre X → St X Y → I pre Y) (h0 : I [] w) (a₁ : α → Act)
    (hassign : ∀ (l : Nat) (x : α) (W : World) (K : Act → World → Prop), K (a₁ x) W →
      assign.wpIn (F.inRound l) (n - 1 - 1) P (Exit.then K (fun _ _ _ => False)) { tmps := (ps.zip (encs x)).foldl (fun t (p, v) => t.setIfInBounds p v) a.tmps, defers := [] } W)
    (hbody : ∀ (l : Nat) (pre : List α) (x : α) (W : World), I pre W → pre.length < N → Ok x → body.wpIn (F.inRound l) (n - 1 - 1) P (stPost w.heap.size Kp I (pre ++ [x]) W) (a₁ x) W)
    (hdone : ∀ (D : Nat) (xs : List α) (W : World), w.heap.size ≤ D → S xs → I xs W → W.heap[D]? = some (.deferred (some [])) → Q .normal { a with defers := { target := .collected D, args := #[] } :: a.defers } W) :
    (Code.rangeFunc g ps assign body).wpIn F n P Q a w := by
  refine wpIn_rangeFunc ?_
  intro fn hfn
  rw [hro]
  obtain ⟨rec, hrec⟩ : ∃ rec : LoopState → Option Code → Loop, rec = fun st pe => { state := st, pending := pe, fn, tmps := a.tmps, params := ps, assign, body, defers := w.heap.size } := ⟨_, rfl⟩
  obtain ⟨W1, hW1⟩ : ∃ W1, (w.alloc (.deferred (some []))).alloc (.loop (rec .ready none)) = W1 := ⟨_, rfl⟩
  have hL1 : W1.heap[w.heap.size + 1]? = some (.loop (rec .ready none)) := by
    rw [← hW1]; have := World.alloc_heap_new (w.alloc (.deferred (some []))) (.loop (rec .ready none)); rwa [World.size_alloc] at this
  have hK1 : W1.heap[w.heap.size]? = some (.deferred (some [])) := by
    rw [← hW1]; exact (Below.heap_alloc _ _ _ (by simp)).trans (World.alloc_heap_new w _)
  have hI1 : I [] W1 := by rw [← hW1]; exact hI.alloc _ (hI.alloc _ h0)
  have hb1 : Below w.heap.size w W1 := by
    rw [← hW1]; exact (((Below.refl _ w).alloc (Nat.le_refl _) _).alloc (by simp) _)
  refine ⟨w.heap.size + 1, [{ target := .collected w.heap.size, args := #[] }], W1, { target := .fn (.func gf) lb, args := ba ++ #[.func (.yield (w.heap.size + 1)) #[] #[]] }, W1, gf,
    (ba ++ #[.func (.yield (w.heap.size + 1)) #[] #[]]) ++ lb, W1, ?_, ?_, ?_, ?_, h1, ?_⟩
  · rw [← hW1, hrec]; exact run_enterLoop_outer _ _ _ _ _
  · simp only [resolve, hg]
    simp [go_sem]
  · intro f' hf'; simp [Target.leads] at hf'; subst hf'; exact hFg
  · simp [invoke, go_sem, eg]
  · refine (hseq (w.heap.size + 1)
      (fun pre W => I pre W ∧ W.heap[w.heap.size + 1]? = some (.loop (rec .ready none)) ∧ W.heap[w.heap.size]? = some (.deferred (some [])))
      W1 hb1
      (fun pre X Y hs hst => ⟨hIS pre X Y hs.1 hst, hSt X Y _ _ hst hs.2.1 rfl, hSt X Y _ _ hst hs.2.2 rfl⟩)
      ?_ ⟨hI1, hL1, hK1⟩).mono ?_
    · rintro pre x W ⟨hi, hl, hk⟩ hlen hok
      have hlt : w.heap.size + 1 < W.heap.size := (Array.getElem?_eq_some_iff.1 hl).1
      have hy := run_yield (P := P) (args := encs x) hl (by rw [hrec]; exact hps x)
      rw [hrec] at hy
      refine ⟨fn, _, assign, body, hy, roundIn_of_wpIn hfn (hassign _ x W _ ⟨_, run_beginRound hl (by rw [hrec]), ?_⟩)⟩
      have hl2 : (W.putObj (w.heap.size + 1) (.loop { rec .ready none with state := .busy })).heap[w.heap.size + 1]? = some (.loop { rec .ready none with state := .busy }) := World.putObj_heap_same hlt
      have hk2 : (W.putObj (w.heap.size + 1) (.loop { rec .ready none with state := .busy })).heap[w.heap.size]? = some (.deferred (some [])) := (World.putObj_heap_other (by omega)).trans hk
      have hw2 : Kp W (W.putObj (w.heap.size + 1) (.loop { rec .ready none with state := .busy })) := hKb _ _ _ _ (by omega) hl rfl rfl
      refine wpIn_mono (hbody _ pre x _ (hI.putObj _ hi (by omega) hl rfl) hlen hok) ?_
      rintro e a3 W3 hp
      cases e with
      | normal =>
        obtain ⟨hk3, hkp3, hi3⟩ := hp
        have hl3 := hk3.same _ _ (by omega) hl2 rfl
        have hr := run_endRound (P := P) none hl3
        rw [hrec] at hr hl3
        exact ⟨_, _, hr, rfl, ⟨hI.putObj _ hi3 (by omega) hl3 rfl, by rw [hrec]; exact World.putObj_heap_same (Array.getElem?_eq_some_iff.1 hl3).1, (World.putObj_heap_other (by omega)).trans (hk3.same _ _ (Nat.le_refl _) hk2 rfl)⟩, hKt (hKt hw2 hkp3) (hKb _ _ _ _ (by omega) hl3 rfl rfl)⟩
      | ret => exact hp.elim
      | exit id => exact hp.elim
      | goto t => exact hp.elim
      | panic ch => exact hp.elim
      | outgrown => exact hp.elim
    · rintro e W2 ⟨⟨v, rfl⟩, xs, hS, hi, hl, hk⟩
      exact ⟨none, _, by have := run_endLoop (P := P) hl (by rw [hrec]; simp); rw [hrec] at this; exact this, hdone _ xs _ (Nat.le_refl _) hS (hI.putObj _ hi (by omega) hl rfl) ((World.putObj_heap_other (by omega)).trans hk)⟩
end Go.Proofs.YthmcimpdehgaoaaGreatDoor
namespace Go.Proofs.YthmcimpdehgaoaaGreatDoor
open Go.RowKit Go.Shelf Go.Maps
attribute [local go_sem] Oper.semAt_some

/-- the block that a box's slice owns -/
def OwnBx (A : World) (Bs k : Nat) : Prop := ∃ v, A.cell? ⟨Bs, 0, none⟩ = some v ∧ v.ownBlock = some k
/-- what a round of the loop over the iterator keeps -/
structure KpR (B0 Bs : Nat) (Ex : Nat → Prop) (A B : World) : Prop where
  below : Below B0 A B
  cells : ∀ (k : Nat) cs t fz, A.heap[k]? = some (.cells cs t fz) → ¬ Ex k → ¬ OwnBx A Bs k → B.heap[k]? = A.heap[k]?
  own : ∀ k, OwnBx B Bs k → OwnBx A Bs k ∨ A.heap.size ≤ k
section
variable {B0 Bs : Nat} {Ex : Nat → Prop} {A B C : World}
theorem KpR.trans (h : KpR B0 Bs Ex A B) (k : KpR B0 Bs Ex B C) : KpR B0 Bs Ex A C := by
  refine ⟨h.below.trans k.below, fun j cs t fz hj h1 h2 => ?_, fun j hj => ?_⟩
  · have e := h.cells j cs t fz hj h1 h2
    have hlt : j < A.heap.size := (Array.getElem?_eq_some_iff.1 hj).1
    refine (k.cells j cs t fz (e.trans hj) h1 fun ho => ?_).trans e
    rcases h.own j ho with ho | ho
    · exact h2 ho
    · omega
  · rcases k.own j hj with hj | hj
    · exact h.own j hj
    · exact .inr (Nat.le_trans h.below.size hj)
theorem KpR.putObj {l : Nat} {o o' : Obj} (hB : B0 ≤ l) (hBs : Bs ≠ l) (ho : A.heap[l]? = some o) (hc : o.isCells = false) : KpR B0 Bs Ex A (A.putObj l o') := by
  refine ⟨(Below.refl B0 A).grown (grownBy_putObj' A l o') (by have := (Array.getElem?_eq_some_iff.1 ho).1; omega) (fun k e => by cases e; exact hB), fun k cs t fz hk _ _ => World.putObj_heap_other fun e => ?_, fun k hk => ?_⟩
  · subst e
    rw [ho] at hk
    injection hk with hk
    subst hk
    cases hc
  · obtain ⟨v, hv, ho2⟩ := hk
    refine .inl ⟨v, ?_, ho2⟩
    rw [← hv]
    exact (World.cell?_of_block (World.putObj_heap_other hBs)).symm
end
/-- the row of steps, which the iterator has made -/
def RowI (B1 : Nat) (w : World) (A : Option Addr) (l : List Nat) (g : Nat) (cur : Array Value) : Prop :=
  l ≠ [] → A = some ⟨g, 0, none⟩ ∧ Blk w g 3 cur ∧ B1 ≤ g ∧ ∀ (k n : Nat), l[k]? = some n → cur[k]? = some (Value.int .i64 (n : Int))
theorem RowI.of_own {w : World} {b c : Nat} {A : Option Addr} {l : List Nat} (h : w.ownsRow b 3 1 (.slice A l.length c) l.length (intsN l)) : ∃ g cur, RowI b w A l g cur := by
  rcases h.2 with ⟨hv, h0⟩ | ⟨g, cap, cur, hv, hg, hb, hn, hcap, hsz, ht⟩
  · exact ⟨0, #[], fun hl => absurd (List.eq_nil_of_length_eq_zero h0) hl⟩
  · simp only [Value.slice.injEq] at hv
    obtain ⟨rfl, -, rfl⟩ := hv
    refine ⟨g, cur, fun _ => ⟨rfl, hb, hg, fun k n hk => ?_⟩⟩
    have hlt : k < l.length := (List.getElem?_eq_some_iff.1 hk).1
    have h1 : (cur.toList.take (l.length * 1))[k]? = (intsN l)[k]? := by rw [ht]
    rw [Nat.mul_one, List.getElem?_take_of_lt hlt, Array.getElem?_toList] at h1
    rw [h1]
    unfold intsN
    rw [List.getElem?_map, hk]; rfl
theorem RowI.at_ {B1 : Nat} {w : World} {A : Option Addr} {l : List Nat} {g : Nat} {cur : Array Value} (h : RowI B1 w A l g cur) {k n : Nat} (hk : l[k]? = some n) : A = some ⟨g, 0, none⟩ ∧ w.cell? ⟨g, k, none⟩ = some (Value.int .i64 (n : Int)) := by
  obtain ⟨h1, h2, -, h3⟩ := h (fun e => by rw [e] at hk; cases hk)
  exact ⟨h1, (h2.cell k).trans (h3 k n hk)⟩
theorem RowI.keep {B1 : Nat} {w w' : World} {A : Option Addr} {l : List Nat} {g : Nat} {cur : Array Value} (h : RowI B1 w A l g cur) (hk : l ≠ [] → w'.heap[g]? = w.heap[g]?) : RowI B1 w' A l g cur := fun hl => by
  obtain ⟨h1, h2, h3, h4⟩ := h hl
  exact ⟨h1, (hk hl).trans h2, h3, h4⟩
/-- what the iterator's loop keeps: i steps are looked at -/
structure RiS (w W wr : World) (Bs : Nat) (J : List Nat → World → Prop) (A : Option Addr) (l : List Nat) (ok : Nat → Bool) (g : Nat) (cur : Array Value) (i : Nat) : Prop where
  le : i ≤ l.length
  j : J ((l.take i).filter ok) wr
  row : RowI W.heap.size wr A l g cur
  below : Below w.heap.size w wr
  sz : W.heap.size ≤ wr.heap.size
  own : l ≠ [] → ¬ OwnBx wr Bs g
section
variable {w W wr w2 : World} {Bs : Nat} {Ex : Nat → Prop} {J : List Nat → World → Prop} {A : Option Addr} {l : List Nat} {ok : Nat → Bool} {g : Nat} {cur : Array Value} {i : Nat}
theorem OwnBx.below {k : Nat} (hBs : Bs < wr.heap.size) (hb : Below wr.heap.size wr w2) (h : OwnBx w2 Bs k) : OwnBx wr Bs k := by
  obtain ⟨v, hv, ho⟩ := h
  exact ⟨v, (hb.cell (p := ⟨Bs, 0, none⟩) hBs).symm.trans hv, ho⟩
theorem RiS.below_ (a : RiS w W wr Bs J A l ok g cur i) (hw : w.heap.size ≤ W.heap.size) (hBs : Bs < W.heap.size) (hJ : ∀ pre X Y, J pre X → Below X.heap.size X Y → J pre Y) (hb : Below wr.heap.size wr w2) : RiS w W w2 Bs J A l ok g cur i :=
  ⟨a.le, hJ _ _ _ a.j hb, a.row.keep fun hl => hb.block g (Blk.lt (a.row hl).2.1), a.below.trans (hb.mono (Nat.le_trans hw a.sz)), Nat.le_trans a.sz hb.size, fun hl ho => a.own hl (ho.below (Nat.lt_of_lt_of_le hBs a.sz) hb)⟩
theorem RiS.skip (a : RiS w W wr Bs J A l ok g cur i) {n : Nat} (hn : l[i]? = some n) (ho : ok n = false) : RiS w W wr Bs J A l ok g cur (i + 1) := by
  have hlt := (List.getElem?_eq_some_iff.1 hn).1
  refine ⟨hlt, ?_, a.row, a.below, a.sz, a.own⟩
  rw [List.take_add_one, hn, Option.toList_some, List.filter_append]
  simpa [ho] using a.j
theorem RiS.take (a : RiS w W wr Bs J A l ok g cur i) {n : Nat} (hn : l[i]? = some n) (ho : ok n = true) (hEx : ∀ k, Ex k → k < W.heap.size) (hj : J ((l.take i).filter ok ++ [n]) w2) (hk : KpR w.heap.size Bs Ex wr w2) : RiS w W w2 Bs J A l ok g cur (i + 1) := by
  have hlt := (List.getElem?_eq_some_iff.1 hn).1
  have hne : l ≠ [] := fun e => by rw [e] at hn; cases hn
  obtain ⟨-, hb, hg, -⟩ := a.row hne
  have hcell := hk.cells g cur _ _ hb (fun e => by have := hEx g e; omega) (a.own hne)
  refine ⟨hlt, ?_, a.row.keep fun _ => hcell, a.below.trans hk.below, Nat.le_trans a.sz hk.below.size, fun hl ho2 => ?_⟩
  · rw [List.take_add_one, hn, Option.toList_some, List.filter_append]
    simpa [ho] using hj
  · rcases hk.own g ho2 with h1 | h1
    · exact a.own hl h1
    · have := hb.lt; omega
end
def ixOf (n : Nat) : Value → Nat
  | .int _ i => n - i.toNat
  | _ => 0
set_option maxRecDepth 100000 in
set_option maxHeartbeats 4000000 in
theorem right_in (w : World) (B p gs : Nat) (v : Value) (D : DiskD) (h : DiskIs w B p v D) (hs : CkSt w gs p) (hf : Fit D) (hnm : ∀ f ∈ D.files, f.name.size ≤ 1000) (hT : Tb w.heap.size w) (hV : Ev w.heap.size w)
    (Bs : Nat) (Ex : Nat → Prop) (l : Nat) (J : List Nat → World → Prop) (hJ : ∀ pre X Y, J pre X → Below X.heap.size X Y → J pre Y)
    (hY : ∀ pre (x : Nat) W1, J pre W1 → pre.length < (allC D).length → YieldAt Fence.wide 3 Tryz.prog l #[.int .i64 (x : Int)] W1 fun e W' => e = .returned (.bool true) ∧ J (pre ++ [x]) W' ∧ KpR w.heap.size Bs Ex W1 W')
    (W : World) (hb : Below w.heap.size w W) (hBs : Bs < W.heap.size) (hEx : ∀ k, Ex k → k < W.heap.size) (hO : ∀ k, OwnBx W Bs k → k < W.heap.size) (h0 : J [] W) :
    CallsIn Fence.wide 4 Tryz.prog 47 #[.pointer (some ⟨gs, 0, none⟩), .func (.yield l) #[] #[]] W fun e W' => (∃ v, e = .returned v) ∧ J (stepsC D) W' := by
  have HA := Lib.hid (call_loop W B p gs v D (h.below hb (Nat.le_refl _)) (hs.below hb) hf hnm (hT.at_ hb) (hV.at_ hb))
  have HRD := Lib.hid (fun (w1 : World) (hb1 : Below w.heap.size w w1) (n : Nat) => cread_any w1 B p gs v D (h.below hb1 (Nat.le_refl _)) (hs.below hb1) hf (n : Int) (hT.at_ hb1))
  have HST := Lib.hid (show stepsC D = (allC D).filter (fun n : Nat => decide ((readC D (n : Int)).1 = 0)) from rfl)
  obtain ⟨ok, hok⟩ : ∃ ok : Nat → Bool, (fun n : Nat => decide ((readC D (n : Int)).1 = 0)) = ok := ⟨_, rfl⟩
  have hokn : ∀ n : Nat, ok n = decide ((readC D (n : Int)).1 = 0) := fun n => by rw [← hok]
  rw [hok] at HST
  obtain ⟨L, hL⟩ : ∃ L, allC D = L := ⟨_, rfl⟩
  have hLl : L.length ≤ 100000000 := by
    rw [← hL]
    unfold allC
    rw [List.length_mergeSort]
    unfold stepsOf
    exact Nat.le_trans (List.length_filterMap_le _ _) (by rw [List.length_map]; exact hf.len)
  rw [hL] at HA HST hY
  have HY := Lib.hid hY; have HB := Lib.hid hb; have HOK := Lib.hid hokn; have HO := Lib.hid hO; have H0 := Lib.hid h0
  clear h hs hf hnm hT hV hL hok hokn hY hb hO h0
  refine callsIn_of_wp Tryz.func47 rfl trivial ?_ rfl
  simp only [Tryz.ntmps47, List.size_toArray, List.length_cons, List.length_nil, Nat.reduceAdd, Nat.reduceSub, Array.replicate_succ, Array.replicate_zero, List.push_toArray, List.append_toArray, List.nil_append, List.cons_append]
  gi_wp2_with (refine ⟨trivial, ?_⟩; gi_at_call 44; refine (callsIn_wide.2 (HA.out)).mono ?_; rintro e w1 ⟨A, c, rfl, ho, hb1⟩)
  obtain ⟨g, cur, hrow⟩ := RowI.of_own ho
  have hri : RiS w W w1 Bs J A L ok g cur 0 := ⟨Nat.zero_le _, hJ _ _ _ (by simpa using H0.out) hb1, hrow, HB.out.trans (hb1.mono HB.out.size), hb1.size, fun hl ho2 => by
    have := HO.out g (ho2.below hBs hb1)
    have := (hrow hl).2.2.1
    omega⟩
  have HRI := Lib.hid hri; have hwW := HB.out.size
  clear ho hb1 hrow hri HA H0 HO
  gi_wp2
  gi_loopw [13] (fun vi wr => ∃ i : Nat, vi = .int .i64 i ∧ RiS w W wr Bs J A L ok g cur i) (fun vi _ => ixOf L.length vi)
  case atStart => exact ⟨0, rfl, HRI.out⟩
  case round =>
    clear HRI
    obtain ⟨i, rfl, hri⟩ := hrel
    by_cases hiL : i < L.length
    case neg =>
      have hiI : ¬ (i : Int) < (L.length : Int) := by omega
      have hile := hri.le
      have hfin := hri.j
      rw [show i = L.length by omega, List.take_length, ← HST.out] at hfin
      have HF := Lib.hid hfin
      clear hri hfin
      gi_wp2
      go_end0
      exact ⟨⟨_, rfl⟩, HF.out⟩
    case pos =>
      have hiI : (i : Int) < (L.length : Int) := by omega
      obtain ⟨n, hn0⟩ : ∃ n, L[i]? = some n := ⟨L[i], List.getElem?_eq_getElem hiL⟩
      obtain ⟨rfl, hcx⟩ := hri.row.at_ hn0
      have HR := Lib.hid (HRD.out wr hri.below n)
      have HRI := Lib.hid hri
      have HK := Lib.hid (HOK.out n)
      obtain ⟨q, hq⟩ : ∃ q, readC D (n : Int) = q := ⟨_, rfl⟩
      rw [hq] at HR HK
      obtain ⟨E, bb⟩ := q
      clear hri hq
      gi_wp2_with fail
      refine ⟨trivial, ?_⟩
      refine (callsIn_wide.2 (HR.out)).mono ?_
      rintro e w2 ⟨bv, rfl, ho2, hb2⟩
      have HR2 := Lib.hid (HRI.out.below_ hwW hBs hJ hb2)
      obtain ⟨Ab, cb, rfl⟩ := own_shape ho2
      clear ho2 hb2 hcx HR HRI
      by_cases hE : E = 0
      case neg =>
        have hEb : (E == 0) = false := by simpa using hE
        have hk : ok n = false := by rw [HK.out]; exact decide_eq_false hE
        have HR3 := Lib.hid (HR2.out.skip hn0 hk)
        clear hE hk
        gi_wp2
        refine ⟨fun _ _ => trivial, ?_⟩
        gi_wp2
        go_roundw
        case rel => exact ⟨i + 1, by go_num, HR3.out⟩
        case measure => unfold ixOf; simp; omega
      case pos =>
        have hEb : (E == 0) = true := by simpa using hE
        have hk : ok n = true := by rw [HK.out]; exact decide_eq_true hE
        have hlen : ((L.take i).filter ok).length < L.length := Nat.lt_of_le_of_lt (List.length_filter_le _ _) (by rw [List.length_take]; omega)
        obtain ⟨fn, tmps, assign, body, hy, hR⟩ := HY.out _ n w2 HR2.out.j hlen
        have HRR := Lib.hid hR
        clear hR hE hlen
        gi_wp2
        refine HRR.out.mono ?_
        rintro e W3 ⟨rfl, hJ3, hk3⟩
        have HR3 := Lib.hid (HR2.out.take hn0 hk hEx hJ3 hk3)
        clear hJ3 hk3 HRR
        gi_wp2
        go_roundw
        case rel => exact ⟨i + 1, by go_num, HR3.out⟩
        case measure => unfold ixOf; simp; omega
end Go.Proofs.YthmcimpdehgaoaaGreatDoor
namespace Go.Proofs.YthmcimpdehgaoaaGreatDoor
open Go.RowKit Go.Shelf Go.Maps
attribute [local go_sem] Oper.semAt_some

/-- what going over the steps does, whoever is yielded to -/
def IterC (w : World) (pa : Option Addr) (L : List Nat) (N : Nat) : Prop :=
  ∀ (Bs : Nat) (Ex : Nat → Prop) (l : Nat) (J : List Nat → World → Prop), (∀ pre X Y, J pre X → Below X.heap.size X Y → J pre Y) →
    (∀ pre (x : Nat) W1, J pre W1 → pre.length < N → YieldAt Fence.wide 3 Tryz.prog l #[.int .i64 (x : Int)] W1 fun e W' => e = .returned (.bool true) ∧ J (pre ++ [x]) W' ∧ KpR w.heap.size Bs Ex W1 W') →
    ∀ W : World, Below w.heap.size w W → Bs < W.heap.size → (∀ k, Ex k → k < W.heap.size) → (∀ k, OwnBx W Bs k → k < W.heap.size) → J [] W →
    CallsIn Fence.wide 4 Tryz.prog 47 #[.pointer pa, .func (.yield l) #[] #[]] W fun e W' => (∃ v, e = .returned v) ∧ J L W'
theorem iter_any (w : World) (B p gs : Nat) (v : Value) (D : DiskD) (h : DiskIs w B p v D) (hs : CkSt w gs p) (hf : Fit D) (hnm : ∀ f ∈ D.files, f.name.size ≤ 1000) (hT : Tb w.heap.size w) (hV : Ev w.heap.size w) : IterC w (some ⟨gs, 0, none⟩) (stepsC D) (allC D).length :=
  fun Bs Ex l J hJ hY W hb hBs hEx hO h0 => right_in w B p gs v D h hs hf hnm hT hV Bs Ex l J hJ hY W hb hBs hEx hO h0
theorem all_lim {D : DiskD} (hf : Fit D) : (allC D).length ≤ 100000000 := by
  unfold allC
  rw [List.length_mergeSort]
  unfold stepsOf
  exact Nat.le_trans (List.length_filterMap_le _ _) (by rw [List.length_map]; exact hf.len)
set_option maxHeartbeats 1000000 in
theorem right_nil (w : World) (l : Nat) : CallsIn Fence.wide 4 Tryz.prog 47 #[.pointer none, .func (.yield l) #[] #[]] w fun e w' => (∃ v, e = .returned v) ∧ w' = w := by
  refine callsIn_of_wp Tryz.func47 rfl trivial ?_ rfl
  simp only [Tryz.ntmps47, List.size_toArray, List.length_cons, List.length_nil, Nat.reduceAdd, Nat.reduceSub, Array.replicate_succ, Array.replicate_zero, List.push_toArray, List.append_toArray, List.nil_append, List.cons_append]
  gi_wp2
  refine bodyPost_ret (results_none rfl _ _ _) rfl ?_
  exact ⟨⟨_, rfl⟩, rfl⟩
theorem iter_nil (w : World) : IterC w none [] 0 := fun _ _ l J _ _ W _ _ _ _ h0 => (right_nil W l).mono fun _ _ ⟨h1, h2⟩ => ⟨h1, by rw [h2]; exact h0⟩
/-- append of one element inside a fence -/
theorem wpListIn_app {F : Fence} {m : Nat} {P : Program} {ops : Array Oper} {rest : List Oper} {o : Oper} {a : Act} {Q : Exit → Act → World → Prop} (W w0 : World) (hgd : o.guard = none) (s x : Operand) (t : TypeId)
    (ho : o.op = .call { callee := .builtin .append, args := #[s, x], argTypes := #[t, t] })
    (base : Nat) (e : TypeId) (i : TypeInfo) (z : Value) (size bytes : Nat) (ht : P.underlying t = some (.slice e)) (hi : P.info? e = some i) (hz : i.zero = some z)
    (hsize : i.size = size) (hby : i.bytes = bytes) (hzs : z.cells.size = size) (hsz : 0 < size) (hb128 : bytes ≤ 128)
    (v : Value) (n : Nat) (xs : List Value) (hs : a.eval s = v) (hown : Hid (w0.ownsRow base e size v n xs))
    (cs : List Value) (hW : W = w0.alloc (.cells cs.toArray e)) (hcs : cs.length = size) (h1 : cs.all Value.oneCell' = true) (g : Nat) (hg : w0.heap.size = g) (hx : a.eval x = .slice (some ⟨g, 0, none⟩) 1 1)
    (hn : n ≤ 1000000000000) (hbase : base ≤ w0.heap.size)
    (h : ∀ v' w', Hid (w'.ownsRow base e size v' (n + 1) (xs ++ cs)) → Hid ((w0.alloc (.cells cs.toArray e)).grownBy w' v.ownBlock) → (v'.ownBlock = v.ownBlock ∨ v'.ownBlock = some (w0.heap.size + 1)) → wpListIn F m P ops Q rest (a.put o.dst v') w') :
    wpListIn F m P ops Q (o :: rest) a W := by
  subst hW
  have hO := World.ownsRow.alloc hown.out (.cells cs.toArray e)
  have hbb : (n + 1) * bytes ≤ 140737488355328 := by
    have : (n + 1) * bytes ≤ 1000000000001 * 128 := Nat.mul_le_mul (by omega) hb128
    omega
  refine wpListIn_plain hgd fun K hK' => ?_
  obtain ⟨v', w', hrun, r1, r2, -, r3⟩ := run_append_own_at (P := P) _ base t o.type e i z size bytes ht hi hz hsize hby hzs hsz v n xs hO ⟨g, 0, none⟩ 1 1 cs (by omega) (cells_new w0 cs e g hg) (fun u hu => List.all_eq_true.1 h1 u hu)
    (by unfold maxLen; omega) hbb (by simp; omega)
  have hK := hK' _ _ (h v' w' r1 r2 (by simpa using r3))
  unfold Oper.wpIn
  refine ⟨?_, ?_⟩
  · simp [Oper.about, ho, resolve, Target.leads, Sem.run_pure]
  · rw [Oper.semAt_plain F _ _ (by rw [ho]; intro c hc'; cases hc')]
    simp [execOp, ho, resolve, invoke, builtin, hs, hx, hrun, Result.andThen]
    exact hK
/-- what holds between two rounds: the steps so far -/
def AiS (w : World) (pre : List Nat) (W : World) : Prop :=
  (∃ v, Blk W w.heap.size 34 #[v] ∧ W.ownsRow (w.heap.size + 1) 3 1 v pre.length (intsN pre)) ∧ Below w.heap.size w W ∧ w.heap.size + 1 ≤ W.heap.size
theorem AiS.step {w : World} {pre : List Nat} {X Y : World} (h : AiS w pre X) (hb : Below X.heap.size X Y) : AiS w pre Y := by
  obtain ⟨⟨v, h1, h2⟩, h3, h4⟩ := h
  exact ⟨⟨v, h1.below hb h1.lt, ownC_below h2 hb⟩, h3.trans (hb.mono (by omega)), Nat.le_trans h4 hb.size⟩
theorem AiS.own {w : World} : OwnFrom (w.heap.size + 1) (AiS w) := by
  rintro pre W W' row ⟨⟨u, hb, ho⟩, hB, hz⟩ hg hr
  have h1 : some w.heap.size ≠ row := fun e => by have := (hr _ e.symm).1; omega
  refine ⟨⟨u, hb.grown hg h1, ho.kept hg ?_⟩, hB.grown hg hB.size (fun k e => by have := (hr k e).1; omega), Nat.le_trans hz hg.size⟩
  rcases ho.2 with ⟨rfl, _⟩ | ⟨g, cap, cur, rfl, hg1, hh, _⟩
  · exact .inl rfl
  · refine .inr fun e => ?_
    obtain ⟨_, o, ho', hc⟩ := hr g e.symm
    rw [hh] at ho'
    cases ho'
    cases hc
theorem ai_round {w W w3 : World} {pre : List Nat} {x : Nat} {v v3 : Value} (hb : Blk W w.heap.size 34 #[v]) (ho : W.ownsRow (w.heap.size + 1) 3 1 v pre.length (intsN pre))
    (hB : Below w.heap.size w W) (hz : w.heap.size + 1 ≤ W.heap.size)
    (HO3 : Hid (w3.ownsRow (w.heap.size + 1) 3 1 v3 (pre.length + 1) (intsN pre ++ [.int .i64 (x : Int)])))
    (HG3 : Hid ((W.alloc (.cells [Value.int .i64 (x : Int)].toArray 3)).grownBy w3 v.ownBlock)) :
    Blk w3 w.heap.size 34 #[v] ∧ KeepsOthers W (w3.setCell ⟨w.heap.size, 0, none⟩ v3) ∧ (∀ k cs t fz, W.heap[k]? = some (.cells cs t fz) → k ≠ w.heap.size → v.ownBlock ≠ some k → (w3.setCell ⟨w.heap.size, 0, none⟩ v3).heap[k]? = W.heap[k]?) ∧
      Below w.heap.size W (w3.setCell ⟨w.heap.size, 0, none⟩ v3) ∧ AiS w (pre ++ [x]) (w3.setCell ⟨w.heap.size, 0, none⟩ v3) := by
  have hO3 := HO3.out
  have hG3 := HG3.out
  have hlt := fun k hk => (ho.lt k hk).1
  have hsz3 : W.heap.size + 1 ≤ w3.heap.size := by have := hG3.size; simpa using this
  have hb3 : Blk w3 w.heap.size 34 #[v] := (hb.alloc _).grown hG3 (fun e => by have := hlt _ e.symm; omega)
  have hbw : Below w.heap.size W (w3.setCell ⟨w.heap.size, 0, none⟩ v3) :=
    ((((Below.refl w.heap.size W).alloc (show w.heap.size ≤ W.heap.size by omega) _).grown hG3 (by simp; omega) (fun k hk => by have := hlt k hk; omega))).setCell (p := ⟨w.heap.size, 0, none⟩) (Nat.le_refl _) _
  refine ⟨hb3, ?_, fun k cs t fz hk h1 h2 => ?_, hbw, ⟨⟨v3, hb3.set_ 0 v3, ?_⟩, hB.trans hbw, ?_⟩⟩
  · refine ((KeepsOthers.alloc W _).trans (KeepsOthers.of_grownBy hG3 ?_)).trans (KeepsOthers.setCell _ _ _)
    intro j o hj hw
    rcases ho.2 with ⟨rfl, _⟩ | ⟨g, cap, cur, rfl, hg1, hh, _⟩
    · cases hj
    · simp only [Value.ownBlock, Option.some.injEq] at hj
      subst hj
      rw [Below.heap_alloc W _ g (Array.getElem?_eq_some_iff.1 hh).1] at hw
      rw [hh] at hw
      cases hw
      rfl
  · have hlk := (Array.getElem?_eq_some_iff.1 hk).1
    exact (Below.heap_setCell _ _ _ _ (by show k ≠ w.heap.size; exact h1)).trans ((hG3.block k (by simp; omega) (fun e => h2 e.symm)).trans (Below.heap_alloc W _ k hlk))
  · rw [List.length_append, intsN_snoc]
    exact ownsRow_setCell_below hO3 (a := ⟨w.heap.size, 0, none⟩) (by show w.heap.size < w.heap.size + 1; omega) _
  · simp; omega
set_option maxRecDepth 100000 in
set_option maxHeartbeats 4000000 in
theorem appendSeq_it (w : World) (pa : Option Addr) (L : List Nat) (N : Nat) (hit : IterC w pa L N) (hN : N ≤ 100000000) :
    Calls Tryz.prog 91 #[.slice none 0 0, .func (.func 47) #[.pointer pa] #[]] w fun e w' => ∃ v', e = .returned v' ∧ w'.ownsRow w.heap.size 3 1 v' L.length (intsN L) ∧ Below w.heap.size w w' := by
  refine (callsIn_wide (n := 5)).1 ?_
  refine callsIn_of_wp_marks Tryz.func91 rfl trivial ?_ rfl
  simp only [Tryz.ntmps91, List.size_toArray, List.length_cons, List.length_nil, Nat.reduceAdd, Nat.reduceSub, Array.replicate_succ, Array.replicate_zero, List.push_toArray, List.append_toArray, List.nil_append, List.cons_append]
  obtain ⟨i0, hi, hz0, hz1, hz2⟩ := parts infoInt
  gi_wp2
  have hsz2 : (w.alloc (.cells #[.slice none 0 0] 34)).heap.size = w.heap.size + 1 := by simp
  have hbx := Blk.new w 34 #[.slice none 0 0]
  obtain ⟨W2, hW2⟩ : ∃ W2, w.alloc (.cells #[.slice none 0 0] 34) = W2 := ⟨_, rfl⟩
  have hAI0 : AiS w [] W2 := by
    rw [← hW2]
    exact ⟨⟨_, Blk.new w 34 #[.slice none 0 0], World.ownsRow_nil _ _ _ _⟩, (Below.refl _ _).alloc (Nat.le_refl _) _, by simp⟩
  rw [hW2] at hsz2 hbx ⊢
  clear hW2
  refine wpIn_rangeFunc_b (α := Nat) (F := Fence.wide) (n := 5) rfl (fun h => by cases h) (gf := 47) (ba := #[.pointer pa]) (lb := #[]) rfl trivial (enters_of Tryz.func47 (by kernel_rfl) rfl)
    (encs := fun x => #[.int .i64 (x : Int)]) (fun _ => rfl) (Kp := KpR w.heap.size w.heap.size fun k => k = w.heap.size)
    (St := fun X Y => Below X.heap.size X Y) (S := fun xs => xs = L) (N := N) (Ok := fun _ => True) ?seq (fun h k => h.trans k) ?kb ?st (AiS w) (by rw [hsz2]; exact AiS.own) (fun _ _ _ h hs => h.step hs) hAI0
    (fun x => { tmps := #[.slice none 0 0, .func (.func 47) #[.pointer pa] #[], .pointer (some ⟨w.heap.size, 0, none⟩), undef, .slice none 0 0, .int .i64 (x : Int), .func (.func 47) #[.pointer pa] #[], .int .i64 (x : Int), undef, undef, undef, undef, undef], defers := [] }) ?assign ?body ?done
  case seq =>
    intro l J W hb hJ hY h0
    have hbw : Below w.heap.size w W := hAI0.2.1.trans (hb.mono (by omega))
    refine (hit w.heap.size (fun k => k = w.heap.size) l J hJ (fun pre x W1 hj hl => hY pre x W1 hj hl trivial) W hbw (by have := hb.size; omega) (fun k e => by have := hb.size; omega) ?_ h0).mono ?_
    · rintro k ⟨u, hu, ho⟩
      have hc := (hbx.below hb (by omega)).cell 0
      rw [hu] at hc
      simp at hc
      subst hc
      cases ho
    · rintro e W' ⟨hv, hj⟩
      exact ⟨hv, _, rfl, hj⟩
  case kb =>
    intro W l o o' hl ho hc _
    exact KpR.putObj (by omega) (by omega) ho hc
  case st =>
    intro W W' k o hst hk _
    exact (hst.block k (Array.getElem?_eq_some_iff.1 hk).1).trans hk
  case assign =>
    intro l x W K hK
    gi_wp2
    exact hK
  case body =>
    rintro l pre x W ⟨⟨u, hb, ho⟩, hB, hz⟩ hlen -
    have cv := hb.cell 0
    have fv := hb.frozen 0
    simp only [List.getElem?_toArray, List.getElem?_cons_zero] at cv
    have hzlt : w.heap.size < W.heap.size := by omega
    have hlenI : pre.length ≤ 1000000000000 := by omega
    have HR := Lib.hid fun (w3 : World) (v3 : Value) HO3 HG3 => ai_round (w3 := w3) (v3 := v3) (x := x) hb ho hB hz HO3 HG3
    have HOw := Lib.hid ho; have HBk := Lib.hid hb
    clear hb ho hB
    gi_wp2_with (gi_at_builtin; refine wpListIn_app _ W rfl (.tmp 8) (.tmp 10) 34 rfl (w.heap.size + 1) 3 i0 (.int .i64 0) 1 8 Tryz.underlying34 hi hz0 hz1 hz2 rfl (by decide) (by decide) _ _ _ rfl HOw [.int .i64 (x : Int)] rfl rfl rfl _ rfl rfl hlenI hz ?_; intro v3 w3 HO3 HG3 hs3; have hb3 := (HR.out w3 v3 HO3 HG3).1; have d0 := hb3.cell 0; have d1 := hb3.frozen 0; simp only [List.getElem?_toArray, List.getElem?_cons_zero] at d0; obtain ⟨A3, c3, rfl⟩ := own_shape HO3.out)
    obtain ⟨_, r1, r2, r3, r4⟩ := HR.out w3 _ HO3 HG3
    refine ⟨r1.from _, ⟨r3, fun k cs t fz hk h1 h2 => r2 k cs t fz hk h1 fun e => h2 ⟨u, cv, e⟩, fun k hk => ?_⟩, r4⟩
    obtain ⟨u2, hu2, ho2⟩ := hk
    rw [World.cell?_setCell_same' _ _ _ (by rw [d0]; rfl)] at hu2
    injection hu2 with hu2
    subst hu2
    rcases hs3 with h3 | h3
    · exact .inl ⟨u, cv, h3.symm.trans ho2⟩
    · rw [h3] at ho2
      injection ho2 with ho2
      exact .inr (by omega)
  case done =>
    rintro D0 xs W hD rfl ⟨⟨u, hb, ho⟩, hB, hz⟩ hK
    have cv := hb.cell 0
    have fv := hb.frozen 0
    simp only [List.getElem?_toArray, List.getElem?_cons_zero] at cv
    obtain ⟨A, c, rfl⟩ := own_shape ho
    have hD2 : D0 < W.heap.size := (Array.getElem?_eq_some_iff.1 hK).1
    gi_wp2
    refine ⟨by simp, .inl ⟨_, _, rfl, run_takeDeferred hK, ?_⟩⟩
    refine ⟨_, results_tmp rfl _ _ _, _, rfl, ?_, ?_⟩
    · exact own_mono (ownsRow_putObj ho (.deferred none) hK rfl) (by omega)
    · exact hB.grown (grownBy_putObj' W D0 _) hB.size (fun k e => by cases e; omega)
set_option maxHeartbeats 1000000 in
theorem collect_it (w : World) (pa : Option Addr) (L : List Nat) (N : Nat) (hit : IterC w pa L N) (hN : N ≤ 100000000) :
    Calls Tryz.prog 46 #[.func (.func 47) #[.pointer pa] #[]] w fun e w' => ∃ v', e = .returned v' ∧ w'.ownsRow w.heap.size 3 1 v' L.length (intsN L) ∧ Below w.heap.size w w' := by
  have HA := Lib.hid (appendSeq_it w pa L N hit hN)
  clear hit hN
  go_enter Tryz.func46, Tryz.ntmps46
  go_wp2_with fail
  refine HA.out.mono ?_
  rintro e w1 ⟨v1, rfl, ho, hb⟩
  have HO := Lib.hid ho; have HB := Lib.hid hb
  obtain ⟨A, c, rfl⟩ := own_shape ho
  clear ho hb HA
  go_wp2
  go_ret
  exact ⟨_, rfl, HO.out, HB.out⟩
set_option maxHeartbeats 1000000 in
theorem csteps_it (w : World) (pa : Option Addr) (L : List Nat) (N : Nat) (hit : IterC w pa L N) (hN : N ≤ 100000000) :
    Calls Tryz.prog 14 #[.pointer pa] w fun e w' => ∃ v', e = .returned v' ∧ w'.ownsRow w.heap.size 3 1 v' L.length (intsN L) ∧ Below w.heap.size w w' := by
  have HA := Lib.hid (collect_it w pa L N hit hN)
  clear hit hN
  have hmf : ∀ (fn : Fn) (first cap : Array Value) (w : World), (Instr.makeFunc fn first cap).run Tryz.prog w = .ok (.func fn first cap) w := fun _ _ _ _ => rfl
  go_enter Tryz.func14, Tryz.ntmps14
  go_wp2_with fail
  refine HA.out.mono ?_
  rintro e w1 ⟨v1, rfl, ho, hb⟩
  have HO := Lib.hid ho; have HB := Lib.hid hb
  obtain ⟨A, c, rfl⟩ := own_shape ho
  clear ho hb HA
  go_wp2
  go_ret
  exact ⟨_, rfl, HO.out, HB.out⟩
theorem csteps_any (w : World) (B p gs : Nat) (v : Value) (D : DiskD) (h : DiskIs w B p v D) (hs : CkSt w gs p) (hf : Fit D) (hnm : ∀ f ∈ D.files, f.name.size ≤ 1000) (hT : Tb w.heap.size w) (hV : Ev w.heap.size w) :
    Calls Tryz.prog 14 #[.pointer (some ⟨gs, 0, none⟩)] w fun e w' => ∃ v', e = .returned v' ∧ w'.ownsRow w.heap.size 3 1 v' (stepsC D).length (intsN (stepsC D)) ∧ Below w.heap.size w w' :=
  csteps_it w _ _ _ (iter_any w B p gs v D h hs hf hnm hT hV) (all_lim hf)
theorem csteps_nil (w : World) : Calls Tryz.prog 14 #[.pointer none] w fun e w' => ∃ v', e = .returned v' ∧ w'.ownsRow w.heap.size 3 1 v' 0 [] ∧ Below w.heap.size w w' :=
  csteps_it w none [] 0 (iter_nil w) (by decide)
end Go.Proofs.YthmcimpdehgaoaaGreatDoor
