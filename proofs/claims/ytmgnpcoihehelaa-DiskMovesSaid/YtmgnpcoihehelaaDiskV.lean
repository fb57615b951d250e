/- The disk's On: what stays, in plain words. -/
import Derived.Test.YtmgnpcoihehelaaDiskU
namespace Go.Proofs.Ytmgnpcoihehelaa
open Go.RowKit

/-- how many of a file's bytes stay -/
def keptN (f : FileD) (k : Option Int) : Nat := match k with
  | none => f.safe.toNat
  | some k => f.safe.toNat + (k % ((f.b.size - f.safe.toNat : Nat) + 1 : Int)).toNat
def keptL (f : FileD) (k : Option Int) : List FileD := if 0 < keptN f k ∨ f.safe ≠ -1 then [⟨f.name, f.b.extract 0 (keptN f k), keptN f k⟩] else []
def onGo : List FileD → List Int → List FileD
  | [], _ => []
  | f :: l, ks => keptL f ks.head? ++ onGo l ks.tail
theorem onGo_take : ∀ (L : List FileD) (ks : List Int) (i : Nat) (f : FileD), L[i]? = some f → onGo (L.take (i + 1)) ks = onGo (L.take i) ks ++ keptL f ks[i]? := by
  intro L
  induction L with
  | nil => intro ks i f h; simp at h
  | cons g L ih =>
    intro ks i f h
    cases i with
    | zero =>
      simp at h
      subst h
      simp [onGo, List.head?_eq_getElem?]
    | succ i =>
      simp only [List.getElem?_cons_succ] at h
      rw [List.take_succ_cons, List.take_succ_cons, onGo, onGo, ih ks.tail i f h, List.append_assoc, List.getElem?_tail]
theorem tmod_bounds (k m : Int) (hm : 0 < m) : -m < k.tmod m ∧ k.tmod m < m := by
  constructor
  · have := Int.lt_tmod_of_pos k hm; omega
  · exact Int.tmod_lt_of_pos k hm
theorem tmod_round (k m : Int) (hm : 0 < m) : (k.tmod m + m) % m = k % m := by
  rw [Int.add_emod_right, Int.tmod_eq_emod]
  split
  · simp
  · have : ((m.natAbs : Nat) : Int) = m := by omega
    rw [this, Int.sub_emod_right, Int.emod_emod_of_dvd _ (Int.dvd_refl m)]
/-- what a file's safe count may be -/
def SafeOk (f : FileD) : Prop := -1 ≤ f.safe ∧ f.safe ≤ f.b.size
theorem keptN_le (f : FileD) (h : SafeOk f) (k : Option Int) : keptN f k ≤ f.b.size := by
  obtain ⟨h1, h2⟩ := h
  unfold keptN
  cases k with
  | none => dsimp only; omega
  | some k =>
    dsimp only
    have h3 : 0 ≤ k % ((f.b.size - f.safe.toNat : Nat) + 1 : Int) := Int.emod_nonneg _ (by omega)
    have h4 : k % ((f.b.size - f.safe.toNat : Nat) + 1 : Int) < ((f.b.size - f.safe.toNat : Nat) + 1 : Int) := Int.emod_lt_of_pos _ (by omega)
    omega
theorem keptL_yes {f : FileD} {k : Option Int} {N : Nat} (h : keptN f k = N) (hK : (decide (0 < N) || (f.safe != -1)) = true) : keptL f k = [⟨f.name, f.b.extract 0 N, N⟩] := by
  unfold keptL
  rw [h, if_pos (by simpa using hK)]
theorem keptL_no {f : FileD} {k : Option Int} {N : Nat} (h : keptN f k = N) (hK : (decide (0 < N) || (f.safe != -1)) = false) : keptL f k = [] := by
  unfold keptL
  rw [h, if_neg (by simpa using hK)]
/-- the round of On at a file: what the loop holds -/
def OnRel (w : World) (p : Nat) (D : DiskD) (keep : List Int) (i : Nat) (wr : World) : Prop :=
  Moved w wr p none ∧ ∃ v' rows', Blk wr p 56 #[v', .int .i64 D.quota, .int .i64 D.steps, .int .i64 (-1), .bool false] ∧ rows'.map (·.1) = onGo (D.files.take i) keep ∧ RowD wr w.heap.size v' rows' ∧ rows'.length ≤ i
theorem RowD.below {w w' : World} {base : Nat} {v : Value} {rows : List (FileD × Value)} (h : RowD w base v rows) (hb : Below w.heap.size w w') : RowD w' base v rows :=
  h.keep (fun g hg => hb.block g (h.1.lt g hg).2) (fun blk _ _ hh => hb.block blk (Array.getElem?_eq_some_iff.1 hh).1)
theorem on_skip {w wr wA : World} {p i : Nat} {D : DiskD} {keep : List Int} {f : FileD} (h : OnRel w p D keep i wr) (hfi : D.files[i]? = some f) (hk : keptL f keep[i]? = []) (hb : Below wr.heap.size wr wA) : OnRel w p D keep (i + 1) wA := by
  obtain ⟨hm, v', rows', h1, h2, h3, h4⟩ := h
  refine ⟨hm.trans (Moved.of_below hb p none) (.inl rfl), v', rows', h1.below hb h1.lt, ?_, h3.below hb, by omega⟩
  rw [onGo_take D.files keep i f hfi, hk, List.append_nil, h2]
theorem on_add {w wr wX w5 : World} {p i : Nat} {D : DiskD} {keep : List Int} {f : FileD} {y : FileD × Value} {v1 v5 : Value} {rows1 : List (FileD × Value)} (hp : p < w.heap.size) (hm : Moved w wr p none) (hb1 : Blk wr p 56 #[v1, .int .i64 D.quota, .int .i64 D.steps, .int .i64 (-1), .bool false])
    (hr1 : rows1.map (·.1) = onGo (D.files.take i) keep) (hR1 : RowD wr w.heap.size v1 rows1) (hlen : rows1.length ≤ i) (hfi : D.files[i]? = some f) (hy1 : keptL f keep[i]? = [y.1]) (hX : Below wr.heap.size wr wX) (hyb : Bt wX y.2 y.1.b)
    (hg : wX.grownBy w5 v1.ownBlock) (ho : w5.ownsRow w.heap.size 61 3 v5 (rows1.length + 1) (rcells rows1 ++ fcells y)) : OnRel w p D keep (i + 1) (w5.setCell ⟨p, 0, none⟩ v5) := by
  have hge : ∀ k, v1.ownBlock = some k → w.heap.size ≤ k := fun k hk => (hR1.1.lt k hk).1
  have hne : ∀ k, v1.ownBlock = some k → k ≠ p := fun k hk => by have := hge k hk; omega
  have hb5 : Blk w5 p 56 #[v1, .int .i64 D.quota, .int .i64 D.steps, .int .i64 (-1), .bool false] :=
    (hg.block p (Nat.lt_of_lt_of_le hb1.lt hX.size) (fun e => hne p e.symm rfl)).trans ((hX.block p hb1.lt).trans hb1)
  have hm5 : Moved w w5 p none := ⟨hg.os.trans (hX.os.trans hm.os), hg.tape.trans (hX.tape.trans hm.tape), hg.output.trans (hX.output.trans hm.output), Nat.le_trans hm.size (Nat.le_trans hX.size hg.size), fun k hk hkp _ =>
    (hg.block k (Nat.lt_of_lt_of_le hk (Nat.le_trans hm.size hX.size)) (fun e => by have := hge k e.symm; omega)).trans ((hX.block k (Nat.lt_of_lt_of_le hk hm.size)).trans (hm.block k hk hkp (by simp)))⟩
  have hRX := hR1.below hX
  have hR5 : RowD w5 w.heap.size v5 (rows1 ++ [y]) := by
    have hbt : ∀ x ∈ rows1 ++ [y], Bt wX x.2 x.1.b := by
      intro x hx
      rcases List.mem_append.1 hx with hx | hx
      · exact hRX.2 x hx
      · simp at hx; subst hx; exact hyb
    refine ⟨?_, fun x hx => (hbt x hx).keep fun blk cs fz hh => hg.block blk (Array.getElem?_eq_some_iff.1 hh).1 (fun e => own_type hRX.1 (by decide) blk e.symm cs fz hh)⟩
    rw [rcells_append, List.length_append]
    have e : rcells [y] = fcells y := by simp [rcells]
    rw [e]; exact ho
  refine ⟨hm5.trans (Moved.set_ w5 p 0 none v5) (.inl rfl), v5, rows1 ++ [y], hb5.set_ 0 v5, ?_, hR5.set_ hb5 (by decide) (by decide) v5, by simp; omega⟩
  rw [onGo_take D.files keep i f hfi, hy1, List.map_append, hr1]; rfl
def DiskD.on (D : DiskD) (keep : List Int) : DiskD :=
  if D.off = true then { D with left := -1, off := false, files := onGo D.files keep } else { D with left := -1 }
end Go.Proofs.Ytmgnpcoihehelaa
