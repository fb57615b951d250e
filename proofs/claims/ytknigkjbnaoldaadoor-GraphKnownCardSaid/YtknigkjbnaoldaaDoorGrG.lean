/- The program's reader of graphs: its map of what was seen; a number; an edge more. -/
import Derived.Test.YtknigkjbnaoldaaDoorGrE
import Derived.Test.YtknigkjbnaoldaaDoorGrC
import Derived.Test.YtknigkjbnaoldaaDoorRec2
import Derived.Test.YtknigkjbnaoldaaDoorWordsV
import Derived.Test.YtknigkjbnaoldaaDoorNumL
import Derived.Maps.OwnSet
import Derived.Maps.OwnOps
import Derived.DeepKeys4
import Derived.Deep.Cut
namespace Go.Proofs.YtknigkjbnaoldaaDoor
open Go.RowKit Go.Maps

theorem laidOutP : laidOutB Tryd.prog = true := by kernel_rfl
theorem rowP : (104 : TypeId) < Tryd.prog.types.size := of_decide_eq_true (by kernel_rfl)
theorem wideP : (match Tryd.prog.underlying 104 with | some (.array _ _) | some (.struct _) => true | _ => false) = true := by kernel_rfl
set_option maxRecDepth 100000 in
theorem lawP : Keyed Tryd.prog 104 := Keyed.of_law (deep_law_laid laidOutP (m := 2) (by omega) rowP (by kernel_rfl) wideP)
/-- a pair, as a key -/
def pairK (x y : Int) : Lit := .string (keyBytes [.int .i64 x, .int .i64 y])
theorem sizeP : ∃ m, Tryd.prog.types.size + 1 = m + 1 + 1 := by
  have h : 0 < Tryd.prog.types.size := Nat.lt_of_le_of_lt (Nat.zero_le _) rowP
  generalize Tryd.prog.types.size = q at h
  exact ⟨q - 1, by omega⟩
theorem cellsP : Tryd.prog.cellsOf 104 = 2 := by kernel_rfl
theorem cellsIp : Tryd.prog.cellsOf 3 = 1 := by kernel_rfl
theorem key_pair {x y : Int} (hx : (Lit.int .i64 x).wf = true) (hy : (Lit.int .i64 y).wf = true) : keyOf Tryd.prog 104 (.agg #[.int .i64 x, .int .i64 y]) = some (pairK x y) := by
  obtain ⟨m, hm⟩ := sizeP
  have hk : Tryd.prog.keyType 104 = true := by kernel_rfl
  unfold keyOf
  rw [Tryd.underlying104]
  simp only [hk, Bool.true_and]
  have hf : (Value.agg #[.int .i64 x, .int .i64 y]).formed Tryd.prog 104 = true := by simp [Value.formed, Tryd.underlying104, cellsP]
  rw [if_pos hf, hm]
  have hi : ∀ z : Int, (Lit.int .i64 z).wf = true → Tryd.prog.keyLits (m + 1) 3 [.int .i64 z] = some [.int .i64 z] := fun z hz => by
    unfold Program.keyLits
    rw [Tryd.underlying3]
    simp [hz]
  have hl : Tryd.prog.keyLits (m + 1 + 1) 104 (Value.agg #[.int .i64 x, .int .i64 y]).cells.toList = some [.int .i64 x, .int .i64 y] := by
    show Tryd.prog.keyLits (m + 1 + 1) 104 [.int .i64 x, .int .i64 y] = _
    unfold Program.keyLits
    rw [Tryd.underlying104]
    simp [cellsP, cellsIp, hi x hx, hi y hy]
  rw [hl]
  rfl
theorem pairK_inj {x y x' y' : Int} (hx : (Lit.int .i64 x).wf = true) (hy : (Lit.int .i64 y).wf = true) (hx' : (Lit.int .i64 x').wf = true) (hy' : (Lit.int .i64 y').wf = true) (h : pairK x y = pairK x' y') : x = x' ∧ y = y' := by
  have h1 := lawP.inj (key_pair hx hy) (by rw [h]; exact key_pair hx' hy')
  simp at h1
  exact h1
/-- how an element reads -/
def boolE : Value → Option (DataW Unit × List MemPlace)
  | .bool b => some (.lit (.bool b), [])
  | _ => none
theorem boolE_inv {v : Value} {z : DataW Unit × List MemPlace} (h : boolE v = some z) : ∃ b, v = .bool b ∧ z = (.lit (.bool b), []) := by
  unfold boolE at h
  split at h
  · rename_i b
    injection h with h
    exact ⟨b, rfl, h.symm⟩
  · cases h
theorem zeroB (w : World) : (zeroValue 4).run Tryd.prog w = .ok (.bool false) w := by kernel_rfl
def hasP (l : List Edg) (x y : Int) : Bool := l.any fun e => decide (x = e.1 ∧ y = e.2.1)
theorem hasP_same (l : List Edg) (e : Edg) : hasP l e.1 e.2.1 = l.any (sameE e) := rfl
/-- the map of what was seen, at some edges -/
def SeenIs (w : World) (b : Nat) (l : List Edg) : Prop :=
  ∃ D, w.ownsMap Tryd.prog 104 boolE b l.length D ∧ ∀ x y : Int, (Lit.int .i64 x).wf = true → (Lit.int .i64 y).wf = true → Maps.has D (pairK x y) = hasP l x y ∧ (hasP l x y = true → ∀ z, D.atKey (pairK x y) z = .lit (.bool true))
theorem SeenIs.made (w : World) : SeenIs (w.alloc (.map #[] 0)) w.heap.size [] := ⟨.map [], World.ownsMap_made _ _ _ _, fun x y _ _ => ⟨rfl, fun h => by cases h⟩⟩
theorem SeenIs.kept {w w' : World} {b : Nat} {l : List Edg} (h : SeenIs w b l) (hk : w'.heap[b]? = w.heap[b]?) : SeenIs w' b l := by
  obtain ⟨D, ⟨es, clock, hb, F, hs, hD⟩, h2⟩ := h
  exact ⟨D, ⟨es, clock, hk.trans hb, F, hs, hD⟩, h2⟩
theorem SeenIs.lt {w : World} {b : Nat} {l : List Edg} (h : SeenIs w b l) : b < w.heap.size := by
  obtain ⟨D, h1, _⟩ := h
  exact h1.lt
theorem SeenIs.no_cells {w : World} {b : Nat} {l : List Edg} (h : SeenIs w b l) {g : Nat} {cs : Array Value} {t : TypeId} {fz : Nat × Nat} (hg : w.heap[g]? = some (.cells cs t fz)) : b ≠ g := by
  rintro rfl
  obtain ⟨D, ⟨es, clock, hb, _⟩, _⟩ := h
  rw [hb] at hg
  cases hg
set_option maxRecDepth 100000 in
theorem SeenIs.look {w : World} {b : Nat} {l : List Edg} (h : SeenIs w b l) {x y : Int} (hx : (Lit.int .i64 x).wf = true) (hy : (Lit.int .i64 y).wf = true) :
    (Instr.lookup 47 (.map (some b)) (.agg #[.int .i64 x, .int .i64 y]) false).run Tryd.prog w = .ok (.bool (hasP l x y)) w := by
  obtain ⟨D, hD, hA⟩ := h
  obtain ⟨hh, ha⟩ := hA x y hx hy
  obtain ⟨v, ps, hrun, hv⟩ := hD.lookup lawP (t := 47) Tryd.underlying47 (zeroB w) (z := .bool false) (zd := .lit (.bool false)) (zp := []) rfl (key_pair hx hy)
  obtain ⟨vb, rfl, hz⟩ := boolE_inv hv
  simp only [Prod.mk.injEq] at hz
  have hz := hz.1
  rw [hrun]
  cases hm : hasP l x y with
  | true =>
    rw [ha hm] at hz
    injection hz with hz
    injection hz with hz
    rw [← hz]
  | false =>
    rw [hm] at hh
    rw [Maps.atKey_of_not_has hh] at hz
    injection hz with hz
    injection hz with hz
    rw [← hz]
set_option maxRecDepth 100000 in
theorem SeenIs.put {w : World} {b : Nat} {l : List Edg} (h : SeenIs w b l) (hl : l.length ≤ 1000000000) (e : Edg) (hx : (Lit.int .i64 e.1).wf = true) (hy : (Lit.int .i64 e.2.1).wf = true) :
    ∃ w', (Instr.mapUpdate 47 (.map (some b)) (.agg #[.int .i64 e.1, .int .i64 e.2.1]) (.bool true)).run Tryd.prog w = .ok () w' ∧ SeenIs w' b (l ++ [e]) ∧ w.grownBy w' (some b) := by
  obtain ⟨D, hD, hA⟩ := h
  obtain ⟨w', hrun, ho, hg⟩ := hD.update lawP (t := 47) Tryd.underlying47 (by unfold maxLen; omega) (key_pair hx hy) (val := .bool true) (d := .lit (.bool true)) (ps := []) rfl
  refine ⟨w', hrun, ⟨_, by rw [List.length_append]; exact ho, fun x y hx' hy' => ?_⟩, hg⟩
  have hs : hasP (l ++ [e]) x y = (hasP l x y || decide (x = e.1 ∧ y = e.2.1)) := by unfold hasP; rw [List.any_append]; simp
  rw [hs]
  by_cases hxy : x = e.1 ∧ y = e.2.1
  · obtain ⟨rfl, rfl⟩ := hxy
    refine ⟨by rw [Maps.has_put_same (k := pairK e.1 e.2.1) hD.isMap trivial _]; simp, fun _ z => ?_⟩
    rw [Maps.atKey_put_same (k := pairK e.1 e.2.1) hD.isMap trivial]
  · have hne : pairK x y ≠ pairK e.1 e.2.1 := fun h => hxy (pairK_inj hx' hy' hx hy h)
    obtain ⟨h3, h4⟩ := hA x y hx' hy'
    have hd : decide (x = e.1 ∧ y = e.2.1) = false := by simp only [decide_eq_false_iff_not]; exact hxy
    rw [hd, Bool.or_false]
    refine ⟨by rw [Maps.has_put_other hne]; exact h3, fun ht z => ?_⟩
    rw [Maps.atKey_put_other hne]
    exact h4 ht z
/-- the reader: its graph (vertices; a row of the call's own), what was seen -/
structure RdrIs (w : World) (B r mb : Nat) (n : Int) (v : Value) (l : List Edg) : Prop where
  blk : Blk w r 49 #[.int .i64 n, v, .map (some mb)]
  own : w.ownsRow B 35 3 v l.length (rcs edgC l)
  seen : SeenIs w mb l
  r : B ≤ r
  mb : B ≤ mb
/-- blocks but the reader's, its map's and its row's stay -/
structure Stay (r mb : Nat) (o : Option Nat) (w w' : World) : Prop where
  os : w'.os = w.os
  tape : w'.tape = w.tape
  output : w'.output = w.output
  size : w.heap.size ≤ w'.heap.size
  block : ∀ k, k < w.heap.size → k ≠ r → k ≠ mb → some k ≠ o → w'.heap[k]? = w.heap[k]?
section
variable {w w' : World} {B r mb : Nat} {n : Int} {v : Value} {l : List Edg}
theorem RdrIs.ne (h : RdrIs w B r mb n v l) : mb ≠ r := h.seen.no_cells h.blk
theorem RdrIs.own_r (h : RdrIs w B r mb n v l) : v.ownBlock ≠ some r := own_blk_ne h.own h.blk (by decide)
theorem RdrIs.own_mb (h : RdrIs w B r mb n v l) : v.ownBlock ≠ some mb := by
  intro e
  rcases h.own.2 with ⟨rfl, _⟩ | ⟨g, cap, cur, rfl, _, hg, _⟩
  · cases e
  · simp only [Value.ownBlock, Option.some.injEq] at e
    exact h.seen.no_cells hg e.symm
theorem RdrIs.below (h : RdrIs w B r mb n v l) (hb : Below w.heap.size w w') : RdrIs w' B r mb n v l :=
  ⟨h.blk.below hb h.blk.lt, own_below h.own hb, h.seen.kept (hb.block _ h.seen.lt), h.r, h.mb⟩
theorem Stay.of_below {o : Option Nat} (hb : Below w.heap.size w w') : Stay r mb o w w' := ⟨hb.os, hb.tape, hb.output, hb.size, fun k hk _ _ _ => hb.block k hk⟩
theorem Stay.blk {o : Option Nat} (h : Stay r mb o w w') {g : Nat} {t : TypeId} {cs : Array Value} (hg : Blk w g t cs) (h1 : g ≠ r) (h2 : g ≠ mb) (h3 : some g ≠ o) : Blk w' g t cs := (h.block g hg.lt h1 h2 h3).trans hg
theorem Stay.trans {o o' : Option Nat} {w2 : World} (h : Stay r mb o w w') (h' : Stay r mb o' w' w2) (ho : o' = o ∨ ∃ g, o' = some g ∧ w.heap.size ≤ g) : Stay r mb o w w2 := by
  refine ⟨h'.os.trans h.os, h'.tape.trans h.tape, h'.output.trans h.output, Nat.le_trans h.size h'.size, fun k hk h1 h2 h3 => (h'.block k (Nat.lt_of_lt_of_le hk h.size) h1 h2 ?_).trans (h.block k hk h1 h2 h3)⟩
  rcases ho with rfl | ⟨g, rfl, hg⟩
  · exact h3
  · intro e; injection e with e; omega
end
/-- the number of a word -/
def numW (s : ByteArray) : Int × Int := numP (runes s)
set_option maxHeartbeats 2000000 in
theorem number_b (s : ByteArray) (k : Int) (w : World) (hs : s.size ≤ 4294967296) (hF : Firsts w) :
    Calls Tryd.prog 55 #[.string s, .int .i64 k] w fun e w' => e = .returned (.int .i64 (numB numW s k)) ∧ Below w.heap.size w w' := by
  obtain ⟨a, b, hab⟩ : ∃ a b, numP (runes s) = (a, b) := ⟨_, _, rfl⟩
  have hc := number_at s a b w hs hF hab
  have hn : numB numW s k = if b ≠ 0 ∨ k ≤ a then -1 else a := by unfold numB numW; rw [hab]
  rw [hn]
  have HC := Lib.hid hc
  clear hc hn hab
  by_cases hb : b = 0
  · subst hb
    by_cases hk : k ≤ a
    · rw [if_pos (.inr hk)]
      go_enter Tryd.func55, Tryd.ntmps55
      go_wp2_with fail
      refine HC.out.mono ?_
      rintro e w' ⟨rfl, hb⟩
      go_wp2
      go_ret
      exact ⟨rfl, hb⟩
    · rw [if_neg (by rintro (h | h); exact h rfl; exact hk h)]
      go_enter Tryd.func55, Tryd.ntmps55
      go_wp2_with fail
      refine HC.out.mono ?_
      rintro e w' ⟨rfl, hb⟩
      go_wp2
      go_ret
      exact ⟨rfl, hb⟩
  · rw [if_pos (.inl hb)]
    have hb1 : (b != 0) = true := by simp [hb]
    clear hb
    go_enter Tryd.func55, Tryd.ntmps55
    go_wp2_with fail
    refine HC.out.mono ?_
    rintro e w' ⟨rfl, hb⟩
    go_wp2
    go_ret
    exact ⟨rfl, hb⟩
end Go.Proofs.YtknigkjbnaoldaaDoor
