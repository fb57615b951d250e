/- The disk's table of steps. slices.Insert of a file behind the last one. copy at elements of k cells. slices.Insert of a file amid the row, where there is room: in place. slices.Insert of a file amid the row, where there is no room: a new row. slices.Insert of one file, anywhere in the row. The disk's steps: moves. -/
import Derived.Test.YthmcimpdehgaoaaGreatDoorDk1
import Derived.Laws.IdiomCopy
import Derived.Lib.Overlaps
import Derived.Laws.Externs
import Derived.Shelf.Spec.SlicesInsert
import Derived.IntWalk
import Derived.Lib.AppendZerosOnto
import Derived.Deep.RegionHeld3
import Derived.Deep.DrawnRows
namespace Go.Proofs.YthmcimpdehgaoaaGreatDoor
open Go.RowKit

/-- which function a step is -/
def stepFn (k : Int) : Nat := if k = 3 then 136 else if k = 2 then 135 else 134
set_option maxRecDepth 100000 in
theorem does_any (w : World) (d : Value) (k : Int) (h : k = 0 ∨ k = 1 ∨ k = 2 ∨ k = 3) :
    Calls Tryz.prog 109 #[d, .int .i64 k] w fun e w' => e = .returned (.func (.func (stepFn k)) #[] #[]) ∧ w' = w := by
  have i0 : ∀ w, (Instr.index 166 (.agg #[.func (.func 134) #[] #[], .func (.func 134) #[] #[], .func (.func 135) #[] #[], .func (.func 136) #[] #[]]) (.int .i64 0)).run Tryz.prog w = .ok (.func (.func 134) #[] #[]) w := fun _ => by kernel_rfl
  have i1 : ∀ w, (Instr.index 166 (.agg #[.func (.func 134) #[] #[], .func (.func 134) #[] #[], .func (.func 135) #[] #[], .func (.func 136) #[] #[]]) (.int .i64 1)).run Tryz.prog w = .ok (.func (.func 134) #[] #[]) w := fun _ => by kernel_rfl
  have i2 : ∀ w, (Instr.index 166 (.agg #[.func (.func 134) #[] #[], .func (.func 134) #[] #[], .func (.func 135) #[] #[], .func (.func 136) #[] #[]]) (.int .i64 2)).run Tryz.prog w = .ok (.func (.func 135) #[] #[]) w := fun _ => by kernel_rfl
  have i3 : ∀ w, (Instr.index 166 (.agg #[.func (.func 134) #[] #[], .func (.func 134) #[] #[], .func (.func 135) #[] #[], .func (.func 136) #[] #[]]) (.int .i64 3)).run Tryz.prog w = .ok (.func (.func 136) #[] #[]) w := fun _ => by kernel_rfl
  rcases h with rfl | rfl | rfl | rfl
  · go_enter Tryz.func109, Tryz.ntmps109
    go_wp2
    go_ret
    exact ⟨rfl, rfl⟩
  · go_enter Tryz.func109, Tryz.ntmps109
    go_wp2
    go_ret
    exact ⟨rfl, rfl⟩
  · go_enter Tryz.func109, Tryz.ntmps109
    go_wp2
    go_ret
    exact ⟨rfl, rfl⟩
  · go_enter Tryz.func109, Tryz.ntmps109
    go_wp2
    go_ret
    exact ⟨rfl, rfl⟩
end Go.Proofs.YthmcimpdehgaoaaGreatDoor
namespace Go.Proofs.YthmcimpdehgaoaaGreatDoor
open Go.RowKit

theorem Moved.of_grown {w w' : World} {g : Option Nat} (h : w.grownBy w' g) (p : Nat) : Moved w w' p g := ⟨h.os, h.tape, h.output, h.size, fun i hi _ hg => h.block i hi hg⟩
set_option maxRecDepth 100000 in
set_option maxHeartbeats 4000000 in
theorem insert_end [Forb] (w : World) (base : Nat) (v : Value) (rows : List (FileD × Value)) (y : FileD × Value) (a : Addr) (c : Nat) (h : RowD w base v rows) (hl : rows.length ≤ 1000000000) (hbase : base ≤ w.heap.size)
    (hy : Rd w 3 (some a) 1 (fcells y)) (hyb : Bt w y.2 y.1.b) (hyo : OkV y.2) :
    Calls Tryz.prog 66 #[v, .int .i64 rows.length, .slice (some a) 1 c] w fun e w' => ∃ v', e = .returned v' ∧ RowD w' base v' (rows ++ [y]) ∧ w.grownBy w' v.ownBlock ∧ (v'.ownBlock = v.ownBlock ∨ v'.ownBlock = some w.heap.size) := by
  obtain ⟨i0, hi, hz0, hz1, hz2⟩ := parts infoF
  obtain ⟨A, cc, rfl⟩ := own_shape h.1
  have hsh := h.1.2
  have hone : ∀ u ∈ fcells y, u.oneCell' = true := by
    obtain ⟨A', c', he, _⟩ := hyb
    intro u hu
    simp only [fcells, List.mem_cons, List.not_mem_nil, or_false] at hu
    rcases hu with rfl | rfl | rfl
    · rfl
    · rw [he]; rfl
    · rfl
  have hcap : rows.length ≤ cc := by
    rcases hsh with ⟨hv, h0⟩ | ⟨g, cap, cur, hv, _, _, hc, _⟩
    · omega
    · simp only [Value.slice.injEq] at hv; omega
  have hcapI : (rows.length : Int) ≤ (cc : Int) := by omega
  have H := Lib.hid h; have HO := Lib.hid h.1; have HR := Lib.hid hy; have H1 := Lib.hid hone; have HY := Lib.hid hyb
  clear h hsh hy hone hyb
  go_enter Tryz.func66, Tryz.ntmps66
  go_wp2_with (at_builtin; refine wpList_append_any _ rfl (.tmp 23) (.tmp 24) 66 rfl base 90 i0 (.agg #[.string ⟨#[]⟩, .slice none 0 0, .int .i64 0]) 3 48 Tryz.underlying66 hi hz0 hz1 hz2 rfl (by decide) _ _ _ rfl HO.out _ _ _ _ (fcells y) rfl HR.out H1.out (by unfold maxLen; omega) (by omega) hbase ?_; intro v3 w3 h2 h3 h4; have HO3 := Lib.hid h2; have HG3 := Lib.hid h3; have HB3 := Lib.hid h4; clear h2 h3 h4)
  all_goals
    go_ret
    have hg : w.grownBy w3 (Value.slice A rows.length cc).ownBlock := HG3.out
    have hb : v3.ownBlock = (Value.slice A rows.length cc).ownBlock ∨ v3.ownBlock = some w.heap.size := HB3.out
    have hR : RowD w3 base v3 (rows ++ [y]) := by
      have ho : ∀ x ∈ rows ++ [y], Bt w x.2 x.1.b := by
        intro x hx
        rcases List.mem_append.1 hx with hx | hx
        · exact (H.out.2 x hx).1
        · simp at hx; subst hx; exact HY.out
      have hoo : ∀ x ∈ rows ++ [y], OkV x.2 := by
        intro x hx
        rcases List.mem_append.1 hx with hx | hx
        · exact (H.out.2 x hx).2
        · simp at hx; subst hx; exact hyo
      refine ⟨?_, fun x hx => ⟨(ho x hx).keep fun blk cs fz hh => hg.block blk (Array.getElem?_eq_some_iff.1 hh).1 (fun e => own_type H.out.1 (by decide) blk e.symm cs fz hh), hoo x hx⟩⟩
      rw [rcells_append, List.length_append]
      have := HO3.out
      have e : rcells [y] = fcells y := by simp [rcells]
      rw [e]; exact this
    first
      | exact ⟨v3, rfl, hR, hg, hb⟩
      | (have hcc : cc = rows.length := by assumption
         rw [hcc] at hg hb; exact ⟨v3, rfl, hR, hg, hb⟩)
end Go.Proofs.YthmcimpdehgaoaaGreatDoor
namespace Go.Proofs.YthmcimpdehgaoaaGreatDoor
open Go.RowKit

/-- 'copy(d, s)' at elements of k cells, one row: the cells are laid in order. -/
theorem run_copy_k {P : Program} (w : World) (dT sT ty elem : TypeId) (k b o dLen dCap : Nat) (a : Addr) (sLen sCap : Nat) (cs : List Value)
    (hu : P.underlying dT = some (.slice elem)) (hs : (P.info? elem).map (·.size) = some k) (hl : cs.length = Nat.min sLen dLen * k)
    (hcs : ∀ j v, cs[j]? = some v → w.cell? (a.add j) = some v)
    (hc : ∀ j, j < cs.length → (w.cell? ⟨b, o + j, none⟩).isSome = true) (hf : ∀ j, j < cs.length → w.frozen? ⟨b, o + j, none⟩ = false) (h1 : ∀ v ∈ cs, v.oneCell' = true) :
    (Builtin.copy_ #[dT, sT] ty #[.slice (some ⟨b, o, none⟩) dLen dCap, .slice (some a) sLen sCap]).run P w = .ok (goInt (Nat.min sLen dLen)) (w.setCells b o cs) := by
  cases hi : P.info? elem with
  | none => rw [hi] at hs; cases hs
  | some i =>
    rw [hi] at hs
    have hz : i.size = k := by simpa using hs
    have hst := run_storeCells_cells (P := P) b o cs 0 w (by simpa using hc) (by simpa using hf) h1
    simp only [Nat.add_zero] at hst
    have hld := run_loadCells_list (P := P) w a cs hcs
    obtain ⟨m, hm⟩ : ∃ m, Nat.min sLen dLen = m := ⟨_, rfl⟩
    rw [hm] at hl ⊢
    simp [Builtin.copy_, run_underlying hu, Builtin.lenOf, Builtin.firstCells, sizeOf, typeInfo, hi, hz, hm, ← hl, hld, hst]
end Go.Proofs.YthmcimpdehgaoaaGreatDoor
namespace Go.Proofs.YthmcimpdehgaoaaGreatDoor
open Go.RowKit

set_option maxRecDepth 100000 in
set_option maxHeartbeats 4000000 in
theorem insert_shift [Forb] (w : World) (base g cap : Nat) (rows : List (FileD × Value)) (i : Nat) (y : FileD × Value) (vb : Nat) (c : Nat) (h : RowD w base (.slice (some ⟨g, 0, none⟩) rows.length cap) rows) (hi : i < rows.length) (hroom : rows.length + 1 ≤ cap)
    (hvb : Blk w vb 90 (fcells y).toArray) (hne : vb ≠ g) (hyb : Bt w y.2 y.1.b) :
    Calls Tryz.prog 66 #[.slice (some ⟨g, 0, none⟩) rows.length cap, .int .i64 i, .slice (some ⟨vb, 0, none⟩) 1 c] w fun e w' =>
      e = .returned (.slice (some ⟨g, 0, none⟩) (rows.length + 1) cap) ∧ w' = (w.drew.setCells g ((i + 1) * 3) (rcells (rows.drop i))).setCells g (i * 3) (fcells y) := by
  obtain ⟨cur, hblk, hcs, htk, hmax⟩ : ∃ cur, Blk w g 90 cur ∧ cur.size = cap * 3 ∧ cur.toList.take (rows.length * 3) = rcells rows ∧ cap ≤ maxLen := by
    rcases h.1.2 with ⟨hv, _⟩ | ⟨g', cap', cur, hv, _, hh, _, hmx, hcs, htk⟩
    · cases hv
    · simp only [Value.slice.injEq, Option.some.injEq, Addr.mk.injEq, and_true, true_and] at hv
      obtain ⟨rfl, rfl⟩ := hv
      exact ⟨cur, hh, hcs, htk, hmx⟩
  have hsv : w.shape? vb = some (90, 3) := by unfold World.shape?; rw [hvb]; rfl
  have hsg : w.shape? g = some (90, cap * 3) := by unfold World.shape?; rw [hblk]; simp [hcs]
  have hov : ∀ lb cb, (callFunc 106 #[.slice (some ⟨vb, 0, none⟩) 1 c, .slice (some ⟨g, (i + 1) * 3, none⟩) lb cb]).run Tryz.prog w = .ok (.value (.bool false)) w := fun lb cb => by
    rw [run_callFunc_extern Tryz.func106 (by kernel_rfl) (by kernel_rfl) (by kernel_rfl) (e := Extern.SlicesOverlaps.overlaps #[66, 66] #[4]) (by kernel_rfl),
      Lib.run_overlaps_apart w 66 4 90 Tryz.underlying66 3 Tryz.sizeOf90 ⟨vb, 0, none⟩ ⟨g, (i + 1) * 3, none⟩ 1 c lb cb hne 90 90 3 (cap * 3) hsv hsg (by omega) (hvb.frozen 0) (hvb.frozen 3)]
    rfl
  have hdl : (rcells (rows.drop i)).length = (rows.length - i) * 3 := by rw [rcells_length, List.length_drop]
  have hone := rcells_one h
  have honey : ∀ u ∈ fcells y, u.oneCell' = true := by
    obtain ⟨A', c', he, _⟩ := hyb
    intro u hu
    simp only [fcells, List.mem_cons, List.not_mem_nil, or_false] at hu
    rcases hu with rfl | rfl | rfl
    · rfl
    · rw [he]; rfl
    · rfl
  have hsz : (Tryz.prog.info? 90).map (·.size) = some 3 := by
    obtain ⟨i0, hi0, _, h1, _⟩ := parts infoF
    rw [hi0]; simp [h1]
  have hsp : ∀ k, k < cap * 3 → (w.cell? ⟨g, k, none⟩).isSome = true := by
    intro k hk
    rw [hblk.cell k, Array.getElem?_eq_getElem (by omega)]; rfl
  have hcp1 : ∀ ty dc sc, (Builtin.copy_ #[66, 66] ty #[.slice (some ⟨g, (i + 1) * 3, none⟩) (rows.length - i) dc, .slice (some ⟨g, i * 3, none⟩) (rows.length + 1 - i) sc]).run Tryz.prog w.drew = .ok (goInt (Nat.min (rows.length + 1 - i) (rows.length - i))) (w.drew.setCells g ((i + 1) * 3) (rcells (rows.drop i))) := fun ty dc sc =>
    run_copy_k w.drew _ _ ty 90 3 g ((i + 1) * 3) (rows.length - i) dc ⟨g, i * 3, none⟩ (rows.length + 1 - i) sc (rcells (rows.drop i)) Tryz.underlying66 hsz (by rw [hdl]; congr 1; simp only [Nat.min_def]; split <;> omega)
      (fun j v hj => by
        have h1 : (rcells rows)[i * 3 + j]? = some v := by rw [← rcells_drop rows i (by omega), List.getElem?_drop] at hj; exact hj
        have h2 : w.cell? ⟨g, i * 3 + j, none⟩ = some v := by
          rw [← htk, List.getElem?_take] at h1
          split at h1
          · rw [hblk.cell, ← h1, Array.getElem?_toList]
          · cases h1
        unfold Addr.add
        split
        · rename_i h0; subst h0; exact h2
        · exact h2)
      (fun j hj => hsp _ (by rw [hdl] at hj; omega)) (fun j hj => hblk.frozen _) (fun v hv => hone v (by rw [← rcells_drop rows i (by omega)] at hv; exact List.mem_of_mem_drop hv))
  obtain ⟨W1, hW1⟩ : ∃ W1, W1 = w.drew.setCells g ((i + 1) * 3) (rcells (rows.drop i)) := ⟨_, rfl⟩
  have hb1 : Blk W1 g 90 (layS cur ((i + 1) * 3) (rcells (rows.drop i))) := by rw [hW1]; exact hblk.drew.setCells _ _
  have hm1 := Moved.setCells g (rcells (rows.drop i)) ((i + 1) * 3) w.drew
  rw [← hW1] at hm1
  have hv1 : Blk W1 vb 90 (fcells y).toArray := (hm1.block vb hvb.lt hne (by simp)).trans hvb
  have hcp2 : ∀ ty dc, (Builtin.copy_ #[66, 66] ty #[.slice (some ⟨g, i * 3, none⟩) (rows.length + 1 - i) dc, .slice (some ⟨vb, 0, none⟩) 1 c]).run Tryz.prog W1 = .ok (goInt (Nat.min 1 (rows.length + 1 - i))) (W1.setCells g (i * 3) (fcells y)) := fun ty dc =>
    run_copy_k W1 _ _ ty 90 3 g (i * 3) (rows.length + 1 - i) dc ⟨vb, 0, none⟩ 1 c (fcells y) Tryz.underlying66 hsz (by rw [show Nat.min 1 (rows.length + 1 - i) = 1 by simp only [Nat.min_def]; split <;> omega]; rfl)
      (fun j v hj => by
        have h2 : W1.cell? ⟨vb, j, none⟩ = some v := by rw [hv1.cell, List.getElem?_toArray]; exact hj
        unfold Addr.add
        split
        · rename_i h0; subst h0; exact h2
        · rw [Nat.zero_add]; exact h2)
      (fun j hj => by
        have hj3 : j < 3 := hj
        rw [hb1.cell, Array.getElem?_eq_getElem (by rw [layS_size, hcs]; omega)]; rfl) (fun j hj => hb1.frozen _) honey
  rw [← hW1] at hcp1 ⊢
  have hmax' : cap ≤ 9223372036854775807 := by unfold maxLen at hmax; omega
  have hmI : (cap : Int) ≤ 9223372036854775807 := by omega
  have HOV := Lib.hid hov; have HC1 := Lib.hid hcp1; have HC2 := Lib.hid hcp2; have HW1 := Lib.hid hW1
  have h0I : (0 : Int) ≤ (i : Int) + 1 := by omega
  have hz2 : ¬ ((i : Int) = (rows.length : Int)) := by omega
  have hb2 : ¬ (cap = i + 1) := by omega
  have hb4 : ¬ (cap = i) := by omega
  have hi1 : i + 1 ≤ rows.length + 1 := by omega
  have hiL : (i : Int) + 1 ≤ (rows.length : Int) + 1 := by omega
  have hb3 : (i : Int) ≤ (rows.length : Int) + 1 := by omega
  have htn : ((i : Int) + 1).toNat = i + 1 := by omega
  have htn2 : ((rows.length : Int) + 1).toNat = rows.length + 1 := by omega
  clear hov hcp1 hcp2 hW1 hb1 hv1 hm1 hone honey hsp hdl hsv hsg htk hcs hblk hvb hyb h hsz
  go_enter Tryz.func66, Tryz.ntmps66
  go_wp2_with (simp only [HOV.out])
  have hwr : IntKind.i64.wrap ((i : Int) + 1) = (i : Int) + 1 := IntWalk.i64_in _ (by omega)
  go_region_law (refine Go.Proofs.step_copy_runI rfl (.tmp 73) (.tmp 76) 66 66 rfl (.slice (some ⟨g, (i + 1) * 3, none⟩) (rows.length - i) (cap - (i + 1))) (.slice (some ⟨g, i * 3, none⟩) (rows.length + 1 - i) (cap - i)) (by simp [Act.eval, Act.put]) (by simp [Act.eval, Act.put]) (HC1.out _ _ _) ?_)
  go_wp2_with (with_reducible refine Go.Proofs.wpList_copy_runI _ rfl (.tmp 80) (.tmp 81) 66 66 rfl (.slice (some ⟨g, i * 3, none⟩) (rows.length + 1 - i) (cap - i)) (.slice (some ⟨vb, 0, none⟩) 1 c) rfl rfl (HC2.out _ _) ?_)
  go_ret
  exact ⟨rfl, rfl⟩
end Go.Proofs.YthmcimpdehgaoaaGreatDoor
namespace Go.Proofs.YthmcimpdehgaoaaGreatDoor
open Go.RowKit

theorem zero_size (z : Array Value) (n : Nat) : (Builtin.zeroCells z n).size = n * z.size := by simp [Builtin.zeroCells]
set_option maxRecDepth 100000 in
set_option maxHeartbeats 4000000 in
theorem insert_grow [Forb] (w : World) (base g cap : Nat) (rows : List (FileD × Value)) (i : Nat) (y : FileD × Value) (vb : Nat) (c : Nat) (h : RowD w base (.slice (some ⟨g, 0, none⟩) rows.length cap) rows) (hi : i < rows.length) (hroom : cap < rows.length + 1) (hl : rows.length ≤ 1000000000)
    (hvb : Blk w vb 90 (fcells y).toArray) (hyb : Bt w y.2 y.1.b) :
    Calls Tryz.prog 66 #[.slice (some ⟨g, 0, none⟩) rows.length cap, .int .i64 i, .slice (some ⟨vb, 0, none⟩) 1 c] w fun e w' =>
      ∃ nc zs, e = .returned (.slice (some ⟨w.heap.size, 0, none⟩) (rows.length + 1) nc) ∧ rows.length + 1 ≤ nc ∧ nc ≤ maxLen ∧ zs.size = (nc - i) * 3 ∧
        w' = ((w.drew.alloc (.cells ((rcells (rows.take i)).toArray ++ zs) 90)).setCells w.heap.size (i * 3) (fcells y)).drew.setCells w.heap.size ((i + 1) * 3) (rcells (rows.drop i)) := by
  obtain ⟨i0, hi0, hz0, hz1, hz2⟩ := parts infoF
  obtain ⟨cur, hblk, hcs, htk, hmax⟩ : ∃ cur, Blk w g 90 cur ∧ cur.size = cap * 3 ∧ cur.toList.take (rows.length * 3) = rcells rows ∧ cap ≤ maxLen := by
    rcases h.1.2 with ⟨hv, _⟩ | ⟨g', cap', cur, hv, _, hh, _, hmx, hcs, htk⟩
    · cases hv
    · simp only [Value.slice.injEq, Option.some.injEq, Addr.mk.injEq, and_true, true_and] at hv
      obtain ⟨rfl, rfl⟩ := hv
      exact ⟨cur, hh, hcs, htk, hmx⟩
  have hcapn : rows.length ≤ cap := by
    rcases h.1.2 with ⟨hv, _⟩ | ⟨g', cap', cur, hv, _, hh, hc, _⟩
    · cases hv
    · simp only [Value.slice.injEq] at hv
      omega
  have hdl : (rcells (rows.drop i)).length = (rows.length - i) * 3 := by rw [rcells_length, List.length_drop]
  have htl : (rcells (rows.take i)).length = i * 3 := by rw [rcells_length, List.length_take]; congr 1; omega
  have hone := rcells_one h
  have honey : ∀ u ∈ fcells y, u.oneCell' = true := by
    obtain ⟨A', c', he, _⟩ := hyb
    intro u hu
    simp only [fcells, List.mem_cons, List.not_mem_nil, or_false] at hu
    rcases hu with rfl | rfl | rfl
    · rfl
    · rw [he]; rfl
    · rfl
  have hsz : (Tryz.prog.info? 90).map (·.size) = some 3 := by rw [hi0]; simp [hz1]
  have hall : ∀ j v, (rcells rows)[j]? = some v → w.cell? ⟨g, j, none⟩ = some v := by
    intro j v h1
    rw [← htk, List.getElem?_take] at h1
    split at h1
    · rw [hblk.cell, ← h1, Array.getElem?_toList]
    · cases h1
  have hold : (Builtin.firstCells i0.size i (.slice (some ⟨g, 0, none⟩) i cap)).run Tryz.prog w.drew = .ok (rcells (rows.take i)).toArray w.drew :=
    run_firstCells_some w.drew _ i ⟨g, 0, none⟩ i cap (rcells (rows.take i)) (by rw [htl, hz1]) (fun j v hj => by
      have h1 : (rcells rows)[j]? = some v := by
        rw [← rcells_take rows i (by omega), List.getElem?_take] at hj
        split at hj
        · exact hj
        · cases hj
      have h2 := hall j v h1
      unfold Addr.add
      split
      · rename_i h0; subst h0; exact h2
      · rw [Nat.zero_add]; exact h2)
  have hadd : i + (rows.length + 1 - i) = rows.length + 1 := by omega
  have hrun := fun ty => Lib.run_append_grow_zeros (P := Tryz.prog) w 66 3 ty 90 i0 (.agg #[.string ⟨#[]⟩, .slice none 0 0, .int .i64 0]) .i64 .i64 Tryz.underlying66 Tryz.underlying3 hi0 hz0
    (some ⟨g, 0, none⟩) i cap (rcells (rows.take i)) hold (rows.length + 1 - i) (by omega) (by rw [hz1]; omega) (by omega) (by omega) (by rw [hz2]; omega) (by rw [hz2]; exact growslice_fits (by omega) (by omega))
  rw [hadd] at hrun
  have hcast : ((rows.length + 1 - i : Nat) : Int) = (rows.length : Int) + 1 - (i : Int) := by omega
  rw [hcast] at hrun
  obtain ⟨nc, hnc⟩ : ∃ nc, grownCap w (rows.length + 1) cap 90 = nc := ⟨_, rfl⟩
  have hnc1 := grownCap_ge w (rows.length + 1) cap 90
  have hnc2 := grownCap_le_maxLen w (rows.length + 1) cap 90 (by unfold maxLen; omega)
  rw [hnc] at hrun hnc1 hnc2
  obtain ⟨zs, hzs⟩ : ∃ zs, Builtin.zeroCells (Value.agg #[.string ⟨#[]⟩, .slice none 0 0, .int .i64 0]).cells (rows.length + 1 - i) ++ Builtin.zeroCells (Value.agg #[.string ⟨#[]⟩, .slice none 0 0, .int .i64 0]).cells (nc - (rows.length + 1)) = zs := ⟨_, rfl⟩
  have hzl : zs.size = (nc - i) * 3 := by
    rw [← hzs]
    have : (Value.agg #[.string ⟨#[]⟩, .slice none 0 0, .int .i64 0]).cells.size = 3 := rfl
    simp only [Array.size_append, zero_size, this]
    omega
  simp only [Array.append_assoc, hzs] at hrun
  obtain ⟨W1, hW1⟩ : ∃ W1, W1 = w.drew.alloc (.cells ((rcells (rows.take i)).toArray ++ zs) 90) := ⟨_, rfl⟩
  have hb1 : Blk W1 w.heap.size 90 ((rcells (rows.take i)).toArray ++ zs) := by rw [hW1]; exact Blk.new w.drew _ _
  have hs1 : ((rcells (rows.take i)).toArray ++ zs).size = nc * 3 := by rw [Array.size_append, hzl, List.size_toArray, htl]; omega
  have hvW1 : Blk W1 vb 90 (fcells y).toArray := by rw [hW1]; exact hvb.drew.alloc _
  have hgW1 : Blk W1 g 90 cur := by rw [hW1]; exact hblk.drew.alloc _
  have hgl := hblk.lt
  have hvl := hvb.lt
  have hcp1 : ∀ ty dc, (Builtin.copy_ #[66, 66] ty #[.slice (some ⟨w.heap.size, i * 3, none⟩) (rows.length + 1 - i) dc, .slice (some ⟨vb, 0, none⟩) 1 c]).run Tryz.prog W1 = .ok (goInt (Nat.min 1 (rows.length + 1 - i))) (W1.setCells w.heap.size (i * 3) (fcells y)) := fun ty dc =>
    run_copy_k W1 _ _ ty 90 3 w.heap.size (i * 3) (rows.length + 1 - i) dc ⟨vb, 0, none⟩ 1 c (fcells y) Tryz.underlying66 hsz (by rw [show Nat.min 1 (rows.length + 1 - i) = 1 by simp only [Nat.min_def]; split <;> omega]; rfl)
      (fun j v hj => by
        have h2 : W1.cell? ⟨vb, j, none⟩ = some v := by rw [hvW1.cell, List.getElem?_toArray]; exact hj
        unfold Addr.add
        split
        · rename_i h0; subst h0; exact h2
        · rw [Nat.zero_add]; exact h2)
      (fun j hj => by
        have hj3 : j < 3 := hj
        rw [hb1.cell, Array.getElem?_eq_getElem (by rw [hs1]; omega)]; rfl) (fun j hj => hb1.frozen _) honey
  obtain ⟨W2, hW2⟩ : ∃ W2, W2 = W1.setCells w.heap.size (i * 3) (fcells y) := ⟨_, rfl⟩
  have hb2 : Blk W2 w.heap.size 90 (layS ((rcells (rows.take i)).toArray ++ zs) (i * 3) (fcells y)) := by rw [hW2]; exact hb1.setCells _ _
  have hm2 := Moved.setCells w.heap.size (fcells y) (i * 3) W1
  rw [← hW2] at hm2
  have hgW2 : Blk W2 g 90 cur := (hm2.block g hgW1.lt (by omega) (by simp)).trans hgW1
  have hcp2 : ∀ ty dc sc, (Builtin.copy_ #[66, 66] ty #[.slice (some ⟨w.heap.size, (i + 1) * 3, none⟩) (rows.length - i) dc, .slice (some ⟨g, i * 3, none⟩) (rows.length - i) sc]).run Tryz.prog W2.drew = .ok (goInt (Nat.min (rows.length - i) (rows.length - i))) (W2.drew.setCells w.heap.size ((i + 1) * 3) (rcells (rows.drop i))) := fun ty dc sc =>
    run_copy_k W2.drew _ _ ty 90 3 w.heap.size ((i + 1) * 3) (rows.length - i) dc ⟨g, i * 3, none⟩ (rows.length - i) sc (rcells (rows.drop i)) Tryz.underlying66 hsz (by rw [hdl]; simp)
      (fun j v hj => by
        have h1 : (rcells rows)[i * 3 + j]? = some v := by rw [← rcells_drop rows i (by omega), List.getElem?_drop] at hj; exact hj
        have h2 : W2.cell? ⟨g, i * 3 + j, none⟩ = some v := by
          rw [hgW2.cell, ← hblk.cell]; exact hall _ v h1
        unfold Addr.add
        split
        · rename_i h0; subst h0; exact h2
        · exact h2)
      (fun j hj => by
        rw [hdl] at hj
        have := hb2.drew.cell ((i + 1) * 3 + j)
        rw [this, Array.getElem?_eq_getElem (by rw [layS_size, hs1]; omega)]; rfl) (fun j hj => hb2.drew.frozen _) (fun v hv => hone v (by rw [← rcells_drop rows i (by omega)] at hv; exact List.mem_of_mem_drop hv))
  have HW1 := Lib.hid hW1; have HW2 := Lib.hid hW2
  rw [← hW1] at hrun
  rw [← hW2] at hcp1
  have hcapI : (cap : Int) < (rows.length : Int) + 1 := by omega
  have hcapI2 : (rows.length : Int) ≤ (cap : Int) := by omega
  have HRUN := Lib.hid hrun; have HC1 := Lib.hid hcp1; have HC2 := Lib.hid hcp2
  have h0I : (0 : Int) ≤ (i : Int) + 1 := by omega
  have hz2' : ¬ ((i : Int) = (rows.length : Int)) := by omega
  have hq1 : ¬ (nc = i + 1) := by omega
  have hq2 : ¬ (nc = i) := by omega
  have hq3 : ¬ (cap = i) := by omega
  have hi1 : i + 1 ≤ rows.length + 1 := by omega
  have hiI : (i : Int) ≤ (rows.length : Int) := by omega
  have hiN : i ≤ rows.length := by omega
  have hiL : (i : Int) + 1 ≤ (rows.length : Int) + 1 := by omega
  have hi3 : (i : Int) ≤ (rows.length : Int) + 1 := by omega
  have hncI : (rows.length : Int) + 1 ≤ (nc : Int) := by omega
  have htn : ((i : Int) + 1).toNat = i + 1 := by omega
  have htn2 : ((rows.length : Int) + 1).toNat = rows.length + 1 := by omega
  have HZL := Lib.hid hzl; have HNC2 := Lib.hid hnc2
  clear hrun hcp1 hcp2 hW1 hW2 hb1 hb2 hm2 hgW1 hgW2 hvW1 hone honey hall hold hdl htl htk hcs hblk hvb hyb h hsz hnc hzs hzl hs1 hi0 hz0 hz1 hz2 hadd hcast hnc2 hmax
  go_enter Tryz.func66, Tryz.ntmps66
  go_wp2_with (first | (at_builtin; refine Lib.wpList_append_run _ rfl (.tmp 34) (.tmp 39) 66 3 rfl (.slice (some ⟨g, 0, none⟩) i cap) (.int .i64 ((rows.length : Int) + 1 - (i : Int))) rfl rfl _ _ (HRUN.out _) ?_) | (with_reducible refine Go.Proofs.wpList_copy_runI _ rfl (.tmp 43) (.tmp 44) 66 66 rfl (.slice (some ⟨w.heap.size, i * 3, none⟩) (rows.length + 1 - i) (nc - i)) (.slice (some ⟨vb, 0, none⟩) 1 c) rfl rfl (HC1.out _ _) ?_))
  have hwr : IntKind.i64.wrap ((i : Int) + 1) = (i : Int) + 1 := IntWalk.i64_in _ (by omega)
  go_region_law (refine Go.Proofs.step_copy_runI rfl (.tmp 50) (.tmp 53) 66 66 rfl (.slice (some ⟨w.heap.size, (i + 1) * 3, none⟩) (rows.length - i) (nc - (i + 1))) (.slice (some ⟨g, i * 3, none⟩) (rows.length - i) (cap - i)) (by simp [Act.eval, Act.put]) (by simp [Act.eval, Act.put]) (HC2.out _ _ _) ?_)
  go_wp2
  go_ret
  exact ⟨nc, zs, rfl, hnc1, HNC2.out, HZL.out, by rw [HW2.out, HW1.out]⟩
end Go.Proofs.YthmcimpdehgaoaaGreatDoor
namespace Go.Proofs.YthmcimpdehgaoaaGreatDoor
open Go.RowKit

theorem Moved.grown_ {w w' : World} {g : Nat} (h : Moved w w' g none) : w.grownBy w' (some g) := ⟨h.os, h.tape, h.output, h.size, fun i hi hne => h.block i hi (fun e => hne (by rw [e])) (by simp)⟩
theorem rcells_mid (rows : List (FileD × Value)) (i : Nat) (y : FileD × Value) : rcells (rows.take i ++ y :: rows.drop i) = rcells (rows.take i) ++ fcells y ++ rcells (rows.drop i) := by
  simp [rcells]
theorem lay_shift (cur : Array Value) (cap i n : Nat) (T D fy : List Value) (hc : cur.size = cap * 3) (hT : cur.toList.take (i * 3) = T) (hTl : T.length = i * 3) (hD : D.length = (n - i) * 3) (hf : fy.length = 3) (hi : i < n) (hr : n + 1 ≤ cap) :
    (layS (layS cur ((i + 1) * 3) D) (i * 3) fy).size = cap * 3 ∧ (layS (layS cur ((i + 1) * 3) D) (i * 3) fy).toList.take ((n + 1) * 3) = T ++ fy ++ D := by
  have hs : (layS cur ((i + 1) * 3) D).size = cap * 3 := by rw [layS_size, hc]
  have hcl : cur.toList.length = cap * 3 := by rw [Array.length_toList, hc]
  refine ⟨by rw [layS_size, hs], ?_⟩
  rw [layS_list _ _ _ (by rw [hs, hf]; omega), layS_list _ _ _ (by rw [hc, hD]; omega)]
  have h1 : (cur.toList.take ((i + 1) * 3) ++ D ++ cur.toList.drop ((i + 1) * 3 + D.length)).take (i * 3) = T := by
    rw [List.append_assoc, List.take_append_of_le_length (by rw [List.length_take, hcl]; omega), List.take_take, ← hT]
    congr 1; omega
  have h2 : (cur.toList.take ((i + 1) * 3) ++ D ++ cur.toList.drop ((i + 1) * 3 + D.length)).drop (i * 3 + fy.length) = D ++ cur.toList.drop ((i + 1) * 3 + D.length) := by
    rw [List.append_assoc]
    have : i * 3 + fy.length = (cur.toList.take ((i + 1) * 3)).length := by rw [List.length_take, hcl, hf]; omega
    rw [this, List.drop_left]
  rw [h1, h2, ← List.append_assoc]
  have h3 : (n + 1) * 3 = (T ++ fy ++ D).length := by rw [List.length_append, List.length_append, hTl, hf, hD]; omega
  rw [h3, List.take_left]
theorem lay_grow (cap i n : Nat) (T D fy : List Value) (zs : Array Value) (hz : zs.size = (cap - i) * 3) (hTl : T.length = i * 3) (hD : D.length = (n - i) * 3) (hf : fy.length = 3) (hi : i < n) (hr : n + 1 ≤ cap) :
    (layS (layS (T.toArray ++ zs) (i * 3) fy) ((i + 1) * 3) D).size = cap * 3 ∧ (layS (layS (T.toArray ++ zs) (i * 3) fy) ((i + 1) * 3) D).toList.take ((n + 1) * 3) = T ++ fy ++ D := by
  have hs0 : (T.toArray ++ zs).size = cap * 3 := by rw [Array.size_append, List.size_toArray, hTl, hz]; omega
  have hs : (layS (T.toArray ++ zs) (i * 3) fy).size = cap * 3 := by rw [layS_size, hs0]
  refine ⟨by rw [layS_size, hs], ?_⟩
  rw [layS_list _ _ _ (by rw [hs, hD]; omega), layS_list _ _ _ (by rw [hs0, hf]; omega)]
  have h0 : (T.toArray ++ zs).toList = T ++ zs.toList := by simp
  have h1 : (T.toArray ++ zs).toList.take (i * 3) = T := by rw [h0, ← hTl, List.take_left]
  rw [h1]
  have h2 : (T ++ fy ++ (T.toArray ++ zs).toList.drop (i * 3 + fy.length)).take ((i + 1) * 3) = T ++ fy := by
    have : (i + 1) * 3 = (T ++ fy).length := by rw [List.length_append, hTl, hf]; omega
    rw [this, List.take_left]
  rw [h2]
  have h3 : (n + 1) * 3 = (T ++ fy ++ D).length := by rw [List.length_append, List.length_append, hTl, hf, hD]; omega
  rw [h3, List.take_left]
theorem insert_any [Forb] (w : World) (base : Nat) (v : Value) (rows : List (FileD × Value)) (i : Nat) (y : FileD × Value) (vb c : Nat) (h : RowD w base v rows) (hi : i ≤ rows.length) (hl : rows.length ≤ 1000000000) (hbase : base ≤ w.heap.size)
    (hvb : Blk w vb 90 (fcells y).toArray) (hne : v.ownBlock ≠ some vb) (hyb : Bt w y.2 y.1.b) (hyo : OkV y.2) :
    Calls Tryz.prog 66 #[v, .int .i64 i, .slice (some ⟨vb, 0, none⟩) 1 c] w fun e w' =>
      ∃ v', e = .returned v' ∧ RowD w' base v' (rows.take i ++ y :: rows.drop i) ∧ w.grownBy w' v.ownBlock ∧ (v'.ownBlock = v.ownBlock ∨ v'.ownBlock = some w.heap.size) := by
  have hbts : ∀ x ∈ rows.take i ++ y :: rows.drop i, Bt w x.2 x.1.b := by
    intro x hx
    rcases List.mem_append.1 hx with hx | hx
    · exact (h.2 x (List.mem_of_mem_take hx)).1
    · rcases List.mem_cons.1 hx with rfl | hx
      · exact hyb
      · exact (h.2 x (List.mem_of_mem_drop hx)).1
  have hoks : ∀ x ∈ rows.take i ++ y :: rows.drop i, OkV x.2 := by
    intro x hx
    rcases List.mem_append.1 hx with hx | hx
    · exact (h.2 x (List.mem_of_mem_take hx)).2
    · rcases List.mem_cons.1 hx with rfl | hx
      · exact hyo
      · exact (h.2 x (List.mem_of_mem_drop hx)).2
  rcases Nat.eq_or_lt_of_le hi with rfl | hi
  · have hrd : Rd w 3 (some ⟨vb, 0, none⟩) 1 (fcells y) := by
      refine ⟨rfl, fun _ => ⟨_, rfl, hvb.lt, fun j u hj => ?_⟩⟩
      have h2 : w.cell? ⟨vb, j, none⟩ = some u := by rw [hvb.cell, List.getElem?_toArray]; exact hj
      unfold Addr.add
      split
      · rename_i h0; subst h0; exact h2
      · rw [Nat.zero_add]; exact h2
    have := insert_end w base v rows y ⟨vb, 0, none⟩ c h hl hbase hrd hyb hyo
    rw [List.take_length, List.drop_length]
    exact this
  · have hdl : (rcells (rows.drop i)).length = (rows.length - i) * 3 := by rw [rcells_length, List.length_drop]
    have htl : (rcells (rows.take i)).length = i * 3 := by rw [rcells_length, List.length_take]; congr 1; omega
    have hnl : (rows.take i ++ y :: rows.drop i).length = rows.length + 1 := by
      rw [List.length_append, List.length_cons, List.length_take, List.length_drop]; omega
    rcases h.1.2 with ⟨hv, h0⟩ | ⟨g, cap, cur, rfl, hg, hh, hcap, hmx, hcs, htk⟩
    · omega
    · have hblk : Blk w g 90 cur := hh
      have hvg : vb ≠ g := fun e => hne (by subst e; rfl)
      have hT : cur.toList.take (i * 3) = rcells (rows.take i) := by
        rw [← rcells_take rows i (by omega), ← htk, List.take_take]
        congr 1; omega
      have hpre : ∀ w' g', w.grownBy w' g' → (∀ k, g' = some k → k = g) → ∀ x ∈ rows.take i ++ y :: rows.drop i, Bt w' x.2 x.1.b := fun w' g' hgr hk x hx =>
        (hbts x hx).keep fun blk cs fz hb => hgr.block blk (Array.getElem?_eq_some_iff.1 hb).1 (fun e => by
          have := hk blk e.symm
          subst this
          exact blk_type hh hb (by decide))
      by_cases hroom : rows.length + 1 ≤ cap
      · refine (insert_shift w base g cap rows i y vb c h hi hroom hvb hvg hyb).mono ?_
        rintro e w' ⟨rfl, rfl⟩
        have hgr : w.grownBy ((w.drew.setCells g ((i + 1) * 3) (rcells (rows.drop i))).setCells g (i * 3) (fcells y)) (some g) := by
          have h0 : Moved w w.drew g none := ⟨rfl, rfl, rfl, Nat.le_refl _, fun _ _ _ _ => rfl⟩
          exact ((h0.trans (Moved.setCells g _ _ _) (.inl rfl)).trans (Moved.setCells g _ _ _) (.inl rfl)).grown_
        obtain ⟨h1, h2⟩ := lay_shift cur cap i rows.length _ _ (fcells y) hcs hT htl hdl rfl hi hroom
        refine ⟨_, rfl, ⟨⟨by rw [rcells_length], .inr ⟨g, cap, _, by rw [hnl], hg, (hblk.drew.setCells _ _).setCells _ _, by omega, hmx, h1, by rw [hnl, rcells_mid]; exact h2⟩⟩, fun x hx => ⟨hpre _ _ hgr (fun k hk => by injection hk with hk; exact hk.symm) x hx, hoks x hx⟩⟩, hgr, .inl rfl⟩
      · refine (insert_grow w base g cap rows i y vb c h hi (by omega) hl hvb hyb).mono ?_
        rintro e w' ⟨nc, zs, rfl, hn1, hn2, hzl, rfl⟩
        have hgr : w.grownBy (((w.drew.alloc (.cells ((rcells (rows.take i)).toArray ++ zs) 90)).setCells w.heap.size (i * 3) (fcells y)).drew.setCells w.heap.size ((i + 1) * 3) (rcells (rows.drop i))) (some g) := by
          have h0 : Below w.heap.size w (w.drew.alloc (.cells ((rcells (rows.take i)).toArray ++ zs) 90)) := ((Below.refl w.heap.size w).drew).alloc (Nat.le_refl _) _
          have h1 := (Moved.of_below h0 w.heap.size none).trans (Moved.setCells w.heap.size (fcells y) (i * 3) _) (.inl rfl)
          have h2 : Moved _ ((w.drew.alloc (.cells ((rcells (rows.take i)).toArray ++ zs) 90)).setCells w.heap.size (i * 3) (fcells y)).drew w.heap.size none := ⟨h1.os, h1.tape, h1.output, h1.size, h1.block⟩
          have h3 := h2.trans (Moved.setCells w.heap.size (rcells (rows.drop i)) ((i + 1) * 3) _) (.inl rfl)
          exact ⟨h3.os, h3.tape, h3.output, h3.size, fun k hk _ => h3.block k hk (by omega) (by simp)⟩
        obtain ⟨h1, h2⟩ := lay_grow nc i rows.length _ _ (fcells y) zs hzl htl hdl rfl hi hn1
        have hb0 : Blk (w.drew.alloc (.cells ((rcells (rows.take i)).toArray ++ zs) 90)) w.heap.size 90 ((rcells (rows.take i)).toArray ++ zs) := Blk.new w.drew _ _
        refine ⟨_, rfl, ⟨⟨by rw [rcells_length], .inr ⟨w.heap.size, nc, _, by rw [hnl], hbase, (hb0.setCells _ _).drew.setCells _ _, by omega, hn2, h1, by rw [hnl, rcells_mid]; exact h2⟩⟩, fun x hx => ⟨hpre _ _ hgr (fun k hk => by injection hk with hk; exact hk.symm) x hx, hoks x hx⟩⟩, hgr, .inr rfl⟩
end Go.Proofs.YthmcimpdehgaoaaGreatDoor
namespace Go.Proofs.YthmcimpdehgaoaaGreatDoor
open Go.RowKit

/-- a file's place in a row is taken: as it stands there, or put in -/
def putL (l : List FileD) (k : Nat) (there : Bool) (f : FileD) : List FileD := if there = true then l.set k f else l.take k ++ f :: l.drop k
theorem findN_lt (l : List ByteArray) (t : ByteArray) (h : (findN l t).2 = true) : (findN l t).1 < l.length := by
  have h1 : decide (bsGo l t l.length 0 l.length < l.length) = true := by
    unfold findN at h; simp only [Bool.and_eq_true] at h; exact h.1
  exact of_decide_eq_true h1
theorem bsGo_le (l : List ByteArray) (t : ByteArray) : ∀ (f i j : Nat), i ≤ j → bsGo l t f i j ≤ j := by
  intro f
  induction f with
  | zero => intro i j h; exact h
  | succ f ih =>
    intro i j h
    rw [bsGo]
    split
    · split
      · exact ih _ _ (by omega)
      · exact Nat.le_trans (ih _ _ (by omega)) (by omega)
    · exact h
theorem findN_le (l : List ByteArray) (t : ByteArray) : (findN l t).1 ≤ l.length := bsGo_le l t _ _ _ (Nat.zero_le _)
theorem rcells_set3 (l : List (FileD × Value)) (i : Nat) (x y : FileD × Value) (h : l[i]? = some x) : (((rcells l).set (i * 3) (.string y.1.name)).set (i * 3 + 1) y.2).set (i * 3 + 2) (.int .i64 y.1.safe) = rcells (l.set i y) := by
  have hlt := (List.getElem?_eq_some_iff.1 h).1
  obtain ⟨h1, h2⟩ := rcells_split l i x h
  obtain ⟨h3, h4⟩ := rcells_split (l.set i y) i y (by rw [List.getElem?_set_self hlt])
  rw [h1, h3, List.take_set_of_le (Nat.le_refl i), List.drop_set_of_lt (by omega)]
  rw [List.set_append_right _ _ (by omega), h2, List.set_append_right _ _ (by omega), h2, List.set_append_right _ _ (by omega), h2, show i * 3 - i * 3 = 0 by omega, show i * 3 + 1 - i * 3 = 1 by omega, show i * 3 + 2 - i * 3 = 2 by omega]
  simp [fcells]
/-- a file is written whole -/
theorem RowD.put [Forb] {w : World} {base g cap : Nat} {rows : List (FileD × Value)} (h : RowD w base (.slice (some ⟨g, 0, none⟩) rows.length cap) rows) {i : Nat} {x y : FileD × Value} (hx : rows[i]? = some x) (hy : Bt w y.2 y.1.b) (hyo : OkV y.2) :
    RowD (((w.setCell ⟨g, i * 3, none⟩ (.string y.1.name)).setCell ⟨g, i * 3 + 1, none⟩ y.2).setCell ⟨g, i * 3 + 2, none⟩ (.int .i64 y.1.safe)) base (.slice (some ⟨g, 0, none⟩) rows.length cap) (rows.set i y) ∧
      Moved w (((w.setCell ⟨g, i * 3, none⟩ (.string y.1.name)).setCell ⟨g, i * 3 + 1, none⟩ y.2).setCell ⟨g, i * 3 + 2, none⟩ (.int .i64 y.1.safe)) g none := by
  have hm : Moved w (((w.setCell ⟨g, i * 3, none⟩ (.string y.1.name)).setCell ⟨g, i * 3 + 1, none⟩ y.2).setCell ⟨g, i * 3 + 2, none⟩ (.int .i64 y.1.safe)) g none := ((Moved.set_ w g (i * 3) none _).trans (Moved.set_ _ g (i * 3 + 1) none y.2) (.inl rfl)).trans (Moved.set_ _ g (i * 3 + 2) none _) (.inl rfl)
  rcases h.1.2 with ⟨hv, _⟩ | ⟨g', cap', cur, hv, hb1, hh, hcap, hmax, hcs, htk⟩
  · cases hv
  · simp only [Value.slice.injEq, Option.some.injEq, Addr.mk.injEq, and_true, true_and] at hv
    obtain ⟨rfl, rfl⟩ := hv
    have hblk : Blk w g 90 cur := hh
    have hk := ((hblk.set_ (i * 3) (.string y.1.name)).set_ (i * 3 + 1) y.2).set_ (i * 3 + 2) (.int .i64 y.1.safe)
    have hu : ∀ cs fz, w.heap[g]? ≠ some (Obj.cells cs 5 fz) := fun cs fz e => blk_type hblk e (by decide)
    refine ⟨⟨⟨by rw [rcells_length], .inr ⟨g, cap, _, by rw [List.length_set], hb1, hk, by rw [List.length_set]; exact hcap, hmax, by simpa using hcs, ?_⟩⟩, fun z hz => ?_⟩, hm⟩
    · rw [List.length_set, ← rcells_set3 rows i x y hx, ← htk]
      have hlt := (List.getElem?_eq_some_iff.1 hx).1
      simp only [Array.toList_setIfInBounds]
      rw [List.take_set, List.take_set, List.take_set]
    · rcases List.mem_or_eq_of_mem_set hz with hz | rfl
      · exact ⟨(h.2 z hz).1.moved hm hu (fun n hn => by cases hn), (h.2 z hz).2⟩
      · exact ⟨hy.moved hm hu (fun n hn => by cases hn), hyo⟩
theorem Moved.drew_ {w w' : World} {p : Nat} {g : Option Nat} (h : Moved w w' p g) : Moved w w'.drew p g := ⟨h.os, h.tape, h.output, h.size, h.block⟩
theorem own_shape' {w : World} {b : Nat} {e : TypeId} {size : Nat} {v : Value} {n : Nat} {xs : List Value} (h : w.ownsRow b e size v n xs) : ∃ A m c, v = .slice A m c :=
  let ⟨A, c, h⟩ := own_shape h
  ⟨A, n, c, h⟩
attribute [local go_sem ↓] Go.wp_at_zero Go.wp_at_succ
set_option maxRecDepth 100000 in
set_option maxHeartbeats 8000000 in
theorem moves_any [Forb] (w : World) (base p : Nat) (v : Value) (D : DiskD) (i n : Nat) (to : ByteArray) (f : FileD) (h : DiskIs w base p v D) (hi : D.files[i]? = some f) (hl : D.files.length ≤ 100000000) (hbase : base ≤ w.heap.size) :
    Calls Tryz.prog 135 #[.pointer (some ⟨p, 0, none⟩), .int .i64 i, .int .i64 n, .string to] w fun e w' => ∃ v', e = .returned (.tuple #[]) ∧
      DiskIs w' base p v' { D with files := putL (D.files.take i ++ D.files.drop (i + 1)) (findN ((D.files.take i ++ D.files.drop (i + 1)).map (·.name)) to).1 (findN ((D.files.take i ++ D.files.drop (i + 1)).map (·.name)) to).2 ⟨to, f.b, n⟩ } ∧
      Moved w w' p v.ownBlock ∧ (v'.ownBlock = v.ownBlock ∨ ∃ k, v'.ownBlock = some k ∧ w.heap.size ≤ k) := by
  obtain ⟨rows, hr, hR⟩ := h.row
  have hrl : rows.length = D.files.length := by rw [← hr, List.length_map]
  have hilt := (List.getElem?_eq_some_iff.1 hi).1
  obtain ⟨g, cap, x, A, c, hv, hx, hx2, hg, c1, c2, c3⟩ := hR.at_ (i := i) (by omega) (Below.refl _ _)
  subst hv
  have hxf : x.1 = f := by
    have : D.files[i]? = some x.1 := by rw [← hr, List.getElem?_map, hx]; rfl
    rw [hi] at this; injection this with this; exact this.symm
  have c0 := h.blk.cell 0
  simp only [List.getElem?_toArray, List.getElem?_cons_zero] at c0
  obtain ⟨hbx, hox⟩ := hR.2 x (List.mem_of_getElem? hx)
  rw [hx2, hxf] at hbx
  rw [hx2, hxf] at hox
  rw [hxf] at c1 c2 c3
  have HOX := Lib.hid hox
  clear hox
  have hB2 := (Below.refl w.heap.size w).alloc (Nat.le_refl _) (.cells #[.string to, .slice A f.b.size c, .int .i64 n] 90)
  have hD2 := h.below hB2 (Nat.le_refl _)
  have hC := drops_any _ base p _ D i n to hD2 hilt (by omega)
  have hbx2 := hbx.below hB2
  have hnb := Blk.new w 90 #[.string to, .slice A f.b.size c, .int .i64 n]
  have hown := h.own g rfl
  have hpl := h.blk.lt
  have hiI : (i : Int) < (rows.length : Int) := by omega
  have hir : i < rows.length := by omega
  have HC := Lib.hid hC; have HB2 := Lib.hid hB2; have HX2 := Lib.hid hbx2; have HN := Lib.hid hnb; have HD2 := Lib.hid hD2
  have HR2 := Lib.hid (own_type (World.ownsRow.alloc hR.1 (.cells #[.string to, .slice A f.b.size c, .int .i64 n] 90)) (t := 5) (by decide))
  clear hC hB2 hbx2 hbx hnb hD2 hR hr h hx hx2 hxf hi hrl
  obtain ⟨L, hL⟩ : ∃ L, D.files.take i ++ D.files.drop (i + 1) = L := ⟨_, rfl⟩
  have hLl : L.length ≤ 100000000 := by rw [← hL, List.length_append, List.length_take, List.length_drop]; omega
  rw [hL] at HC ⊢
  obtain ⟨k, hk⟩ : ∃ k, (findN (L.map (·.name)) to).1 = k := ⟨_, rfl⟩
  obtain ⟨th, hth⟩ : ∃ th, (findN (L.map (·.name)) to).2 = th := ⟨_, rfl⟩
  have hkl : k ≤ L.length := by have := findN_le (L.map (·.name)) to; rw [hk, List.length_map] at this; exact this
  have hkt : th = true → k < L.length := fun h => by have := findN_lt (L.map (·.name)) to (hth.trans h); rw [hk, List.length_map] at this; exact this
  rw [hk, hth]
  have HKT := Lib.hid hkt; have HK := Lib.hid hk; have HTH := Lib.hid hth
  have hsz2 : (w.alloc (.cells #[.string to, .slice A f.b.size c, .int .i64 n] 90)).heap.size = w.heap.size + 1 := by simp
  have HSZ2 := Lib.hid hsz2
  clear hL hk hth hkt hsz2
  go_enter Tryz.func135, Tryz.ntmps135
  go_wp2_with fail
  refine HC.out.mono ?_
  rintro e w3 ⟨v1, rfl, hD3, hm3, ho3⟩
  have hsz3 := hm3.size
  rw [HSZ2.out] at hsz3
  have hN3 : Blk w3 w.heap.size 90 #[.string to, .slice A f.b.size c, .int .i64 n] := (hm3.block w.heap.size (by simp) (by omega) (by simp [Value.ownBlock]; omega)).trans HN.out
  have hX3 := HX2.out.moved hm3 HD2.out.noU HR2.out
  have hF := find_any w3 base p v1 _ hD3 to (by show L.length ≤ _; omega)
  have hF2 : findN (L.map (·.name)) to = (k, th) := Prod.ext HK.out HTH.out
  dsimp only at hF
  rw [hF2] at hF
  have HF := Lib.hid hF; have HN3 := Lib.hid hN3; have HX3 := Lib.hid hX3; have HD3 := Lib.hid hD3; have HM3 := Lib.hid hm3; have HO3 := Lib.hid ho3
  clear hF hF2 hN3 hX3 hD3 hm3 ho3
  go_wp2_with fail
  refine HF.out.mono ?_
  rintro e w4 ⟨rfl, hb4⟩
  have hD4 := HD3.out.below hb4 (Nat.le_refl _)
  have hN4 := HN3.out.below hb4 (by omega)
  have hX4 := HX3.out.below hb4
  have hsz4 := hb4.size
  have d0 := hD4.blk.cell 0
  simp only [List.getElem?_toArray, List.getElem?_cons_zero] at d0
  have n0 := hN4.cell 0; have n1 := hN4.cell 1; have n2 := hN4.cell 2
  simp only [List.getElem?_toArray, List.getElem?_cons_zero, List.getElem?_cons_succ] at n0 n1 n2
  obtain ⟨rows4, hr4, hR4⟩ := hD4.row
  have hl4 : rows4.length = L.length := by have := congrArg List.length hr4; simpa using this
  have HL4 := Lib.hid hl4
  have hkr4 : k ≤ rows4.length := by omega
  have hlr4 : rows4.length ≤ 100000000 := by omega
  clear hl4
  cases th with
  | true =>
    have hk4 := HKT.out rfl
    have hl4 := HL4.out
    obtain ⟨g4, cap4, x4, A4, cc4, hv4, hx4, hx42, hg4, e1, e2, e3⟩ := hR4.at_ (i := k) (by omega) (Below.refl _ _)
    subst hv4
    have hgg : g4 = g := by
      have := HO3.out
      simpa [Value.ownBlock] using this
    have hgp : g4 ≠ p := fun e => hown.2.2 (hgg.symm.trans e)
    have hgw : g4 ≠ w.heap.size := by rw [hgg]; omega
    have hgp' := hgp.symm; have hgw' := hgw.symm
    have HGG := Lib.hid hgg
    clear hgg
    have hput := hR4.put (y := (⟨to, f.b, n⟩, .slice A f.b.size c)) hx4 hX4 HOX.out
    have hfin := hD4.row_put rfl hput.2 hput.1
    obtain ⟨cur, hgb⟩ : ∃ cur, Blk w4 g4 90 cur := by
      rcases hR4.1.2 with ⟨hv, _⟩ | ⟨g', cap', cur, hv, _, hh, _⟩
      · cases hv
      · simp only [Value.slice.injEq, Option.some.injEq, Addr.mk.injEq, and_true, true_and] at hv
        obtain ⟨rfl, rfl⟩ := hv
        exact ⟨cur, hh⟩
    have f0 := hgb.frozen (k * 3); have f1 := hgb.frozen (k * 3 + 1); have f2 := hgb.frozen (k * 3 + 2)
    have hkI : (k : Int) < (rows4.length : Int) := by omega
    have hkr : k < rows4.length := by omega
    have HFin := Lib.hid hfin; have HX4 := Lib.hid hx4; have HR4 := Lib.hid hr4; have HB4 := Lib.hid hb4
    clear hl4 hput hfin hgb hx4 hx42 hR4 hr4 hD4 hN4 hX4 hb4
    go_wp2_with fail
    go_region_held3 (fun w' => w'.cell? ⟨p, 0, none⟩ = some (.slice (some ⟨g4, 0, none⟩) rows4.length cap4) ∧ w'.cell? ⟨w.heap.size, 0, none⟩ = some (.string to) ∧ w'.cell? ⟨w.heap.size, 1, none⟩ = some (.slice A f.b.size c) ∧ w'.cell? ⟨w.heap.size, 2, none⟩ = some (.int .i64 n)) (go_keep) (fail)
    go_wp2
    refine bodyPost_ret (results_none rfl _ _ _) rfl ?_
    have hm : Moved w w4 p (some g) := ((Moved.of_below HB2.out p (some g)).trans HM3.out (.inl rfl)).trans (Moved.of_below HB4.out p (some g)) (.inl rfl)
    have hfs : (rows4.set k ((⟨to, f.b, n⟩ : FileD), Value.slice A f.b.size c)).map (·.1) = putL L k true ⟨to, f.b, n⟩ := by
      rw [List.map_set, HR4.out, putL, if_pos rfl]
    have hD := HFin.out.1
    rw [hfs] at hD
    refine ⟨_, rfl, hD, ?_, .inl HO3.out⟩
    exact (hm.trans HFin.out.2 (.inl (by show some g4 = some g; rw [HGG.out]))).drew_
  | false =>
    obtain ⟨A1, cc1, rfl⟩ := own_shape hR4.1
    have hbA := (Below.refl w4.heap.size w4).alloc (Nat.le_refl _) (.cells #[.string to, .slice A f.b.size c, .int .i64 n] 90)
    have hRA : RowD (w4.alloc (.cells #[.string to, .slice A f.b.size c, .int .i64 n] 90)).drew base (.slice A1 rows4.length cc1) rows4 := hR4.keep (fun g' hg' => hbA.block g' (hD4.own g' hg').2.1) (fun blk cs fz hh => hbA.block blk (Array.getElem?_eq_some_iff.1 hh).1)
    have hXA : Bt (w4.alloc (.cells #[.string to, .slice A f.b.size c, .int .i64 n] 90)).drew (.slice A f.b.size c) f.b := hX4.below hbA.drew
    have hown4 : ∀ g', (Value.slice A1 rows4.length cc1).ownBlock = some g' → g' = g := fun g' hg' => by
      have := HO3.out
      rw [hg'] at this
      simpa [Value.ownBlock] using this
    have hI := insert_any _ base _ rows4 k (⟨to, f.b, n⟩, .slice A f.b.size c) w4.heap.size 1 hRA (by omega) (by omega) (by simp; omega) (Blk.new w4 90 #[.string to, .slice A f.b.size c, .int .i64 n]) (fun e => by have := hown4 _ e; omega) hXA HOX.out
    have hp4 : p < w4.heap.size := by omega
    have hwp : w.heap.size ≠ p := by omega
    have hwp' : p ≠ w.heap.size := by omega
    have fp := hD4.blk.frozen 0
    have hq : ∀ w5 : World, (w4.alloc (.cells #[.string to, .slice A f.b.size c, .int .i64 n] 90)).drew.grownBy w5 (Value.slice A1 rows4.length cc1).ownBlock → w5.heap[p]? = w4.heap[p]? := fun w5 hg5 =>
      (hg5.block p (by simp; omega) (fun e => hown.2.2 (hown4 p e.symm).symm)).trans (hbA.block p hp4)
    have hblk4 := hD4.blk
    have hq' : ∀ w5 : World, (w4.alloc (.cells #[.string to, .slice A f.b.size c, .int .i64 n] 90)).drew.grownBy w5 (Value.slice A1 rows4.length cc1).ownBlock → w5.cell? ⟨p, 0, none⟩ = some (.slice A1 rows4.length cc1) ∧ w5.frozen? ⟨p, 0, none⟩ = false := fun w5 hg5 => by
      have hb5 : Blk w5 p 68 _ := (hq w5 hg5).trans hblk4
      exact ⟨hb5.cell 0, hb5.frozen 0⟩
    have HQ := Lib.hid hq; have HQ' := Lib.hid hq'
    clear hq hq' hblk4
    have HI := Lib.hid hI; have HBA := Lib.hid hbA; have HOW := Lib.hid hown4; have HD4 := Lib.hid hD4; have HB4 := Lib.hid hb4; have HR4 := Lib.hid hr4
    clear hI hbA hRA hXA hown4 hD4 hN4 hX4 hb4 hR4 hr4
    go_wp2_with fail
    go_region_with (first | (go_at_call 66; (with_reducible refine HI.out.mono ?_); rintro e w5 ⟨v5, rfl, hR5, hg5, hb5⟩; obtain ⟨A5, n5, c5, rfl⟩ := own_shape' hR5.1; obtain ⟨q1, q2⟩ := HQ'.out w5 hg5; have HR5 := Lib.hid hR5; have HG5 := Lib.hid hg5; have HO5 := Lib.hid hb5; clear hR5 hg5 hb5))
    all_goals
      go_end0
      have hmA : Moved w4 w5 p (Value.slice A1 rows4.length cc1).ownBlock := (Moved.of_below HBA.out p (Value.slice A1 rows4.length cc1).ownBlock).drew_.trans (Moved.of_grown HG5.out p) (.inl rfl)
      have hfin := HD4.out.row_set hmA (HQ.out w5 HG5.out) HR5.out
      have hfs : (rows4.take k ++ ((⟨to, f.b, n⟩ : FileD), Value.slice A f.b.size c) :: rows4.drop k).map (·.1) = putL L k false ⟨to, f.b, n⟩ := by
        rw [List.map_append, List.map_cons, List.map_take, List.map_drop, HR4.out, putL, if_neg (by simp)]
      rw [hfs] at hfin
      have hm : Moved w w4 p (some g) := ((Moved.of_below HB2.out p (some g)).trans HM3.out (.inl rfl)).trans (Moved.of_below HB4.out p (some g)) (.inl rfl)
      refine ⟨_, rfl, hfin.1, ?_, ?_⟩
      · exact hm.trans hfin.2 (.inl (HO3.out.trans rfl))
      · rcases HO5.out with h5 | h5
        · exact .inl (h5.trans HO3.out)
        · exact .inr ⟨_, h5, by simp; omega⟩
end Go.Proofs.YthmcimpdehgaoaaGreatDoor
