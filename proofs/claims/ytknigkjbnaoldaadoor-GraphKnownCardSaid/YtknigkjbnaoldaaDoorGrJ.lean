/- A line in whatever words; the sort of edges. -/
import Derived.Test.YtknigkjbnaoldaaDoorGrI
import Derived.Test.YtknigkjbnaoldaaDoorGrD
import Derived.Test.YtknigkjbnaoldaaDoorRecSort
import Derived.Test.YtknigkjbnaoldaaDoorSort
import Derived.Shelf.SlSortCmp.WholeK
import Derived.Shelf.SlSortCmp.NoneTotal
namespace Go.Proofs.YtknigkjbnaoldaaDoor
open Go.RowKit Go.Maps Go.Sort Go.Lib

/-- the reader's line: what it answers -/
theorem line_any (w : World) (B r mb : Nat) (n : Int) (v : Value) (l : List Edg) (h : RdrIs w B r mb n v l) (Aw : Option Addr) (cw Bw : Nat) (ws : List ByteArray) (hw : w.ownsRow Bw 9 1 (.slice Aw ws.length cw) ws.length (ws.map Value.string)) (hs : ∀ s ∈ ws, s.size ≤ 4294967296) (hF : Firsts w) (hn : n ≤ 512) (hl : l.length ≤ 8192) :
    Calls Tryd.prog 30 #[.pointer (some ⟨r, 0, none⟩), .slice Aw ws.length cw] w (LineP w B r mb v (lineP numW (n, l) ws)) := by
  by_cases hn0 : n = 0
  · match ws, hw, hs with
    | [x, y], hw, hs =>
      by_cases hx : x = wVertices
      · subst hx
        have e : lineP numW (n, l) [wVertices, y] = if 0 < numB numW y 513 then some (numB numW y 513, l) else none := by unfold lineP; rw [if_pos hn0]; simp
        rw [e]
        exact line_v2 w B r mb n v l h Aw cw y (Sl.of_own hw) (hs y (by simp)) hF hn0
      · have e : lineP numW (n, l) [x, y] = none := by unfold lineP; rw [if_pos hn0]; simp [hx]
        rw [e]
        exact line_v1 w B r mb n v l h Aw cw x y (Sl.of_own hw) hx hn0
    | [], hw, hs =>
      have e : lineP numW (n, l) [] = none := by unfold lineP; rw [if_pos hn0]
      rw [e]
      exact line_v0 w B r mb n v l h Aw cw 0 (by decide) hn0
    | [x], hw, hs =>
      have e : lineP numW (n, l) [x] = none := by unfold lineP; rw [if_pos hn0]
      rw [e]
      exact line_v0 w B r mb n v l h Aw cw 1 (by decide) hn0
    | x :: y :: z :: ws, hw, hs =>
      have e : lineP numW (n, l) (x :: y :: z :: ws) = none := by unfold lineP; rw [if_pos hn0]
      rw [e]
      exact line_v0 w B r mb n v l h Aw cw _ (by simp) hn0
  · match ws, hw, hs with
    | [x, y, z], hw, hs =>
      by_cases hx : x = wEdge
      · subst hx
        have e : lineP numW (n, l) [wEdge, y, z] = edgeP n l false (numB numW y 512, numB numW z 512, 1) := by unfold lineP; rw [if_neg hn0]; simp; rfl
        rw [e]
        exact line_edge3 w B r mb n v l h Aw cw y z Bw hw (hs y (by simp)) (hs z (by simp)) hF hn0 hn hl
      · by_cases hx2 : x = wBoth
        · subst hx2
          have e : lineP numW (n, l) [wBoth, y, z] = edgeP n l true (numB numW y 512, numB numW z 512, 1) := by unfold lineP; rw [if_neg hn0]; simp
          rw [e]
          exact line_both3 w B r mb n v l h Aw cw y z Bw hw (hs y (by simp)) (hs z (by simp)) hF hn0 hn hl
        · have e : lineP numW (n, l) [x, y, z] = none := by unfold lineP; rw [if_neg hn0]; simp [hx, hx2]
          rw [e]
          exact line_word3 w B r mb n v l h Aw cw x y z (Sl.of_own hw) hx hx2 hn0
    | [x, y, z, u], hw, hs =>
      by_cases hx : x = wEdge
      · subst hx
        have e : lineP numW (n, l) [wEdge, y, z, u] = edgeP n l false (numB numW y 512, numB numW z 512, numB numW u 2147483648) := by unfold lineP; rw [if_neg hn0]; simp; rfl
        rw [e]
        exact line_edge4 w B r mb n v l h Aw cw y z u (hs u (by simp)) Bw hw (hs y (by simp)) (hs z (by simp)) hF hn0 hn hl
      · by_cases hx2 : x = wBoth
        · subst hx2
          have e : lineP numW (n, l) [wBoth, y, z, u] = edgeP n l true (numB numW y 512, numB numW z 512, numB numW u 2147483648) := by unfold lineP; rw [if_neg hn0]; simp
          rw [e]
          exact line_both4 w B r mb n v l h Aw cw y z u (hs u (by simp)) Bw hw (hs y (by simp)) (hs z (by simp)) hF hn0 hn hl
        · have e : lineP numW (n, l) [x, y, z, u] = none := by unfold lineP; rw [if_neg hn0]; simp [hx, hx2]
          rw [e]
          exact line_word4 w B r mb n v l h Aw cw x y z u (Sl.of_own hw) hx hx2 hn0
    | [], hw, hs =>
      have e : lineP numW (n, l) [] = none := by unfold lineP; rw [if_neg hn0]
      rw [e]
      exact line_short w B r mb n v l h Aw cw 0 (by decide) hn0
    | [x], hw, hs =>
      have e : lineP numW (n, l) [x] = none := by unfold lineP; rw [if_neg hn0]
      rw [e]
      exact line_short w B r mb n v l h Aw cw 1 (by decide) hn0
    | [x, y], hw, hs =>
      have e : lineP numW (n, l) [x, y] = none := by unfold lineP; rw [if_neg hn0]
      rw [e]
      exact line_short w B r mb n v l h Aw cw 2 (by decide) hn0
    | x :: y :: z :: u :: t :: ws, hw, hs =>
      have e : lineP numW (n, l) (x :: y :: z :: u :: t :: ws) = none := by unfold lineP; rw [if_neg hn0]
      rw [e]
      exact line_long w B r mb n v l h Aw cw _ (by simp) hn0
theorem ltE (x y : Edg) : ltOf cmpE x y = aheadE x y := by
  rw [cmpE_ahead]; rfl
theorem swoE : SWO (ltOf cmpE) where
  irrefl x := by rw [ltE]; unfold aheadE; simp
  trans x y z h1 h2 := by rw [ltE] at *; exact ahead_trans h1 h2
  ntrans x y z h1 h2 := by
    rw [ltE] at *
    unfold aheadE at *
    simp at *
    omega
theorem aggE (w : World) : (isAgg 35).run Tryd.prog w = .ok true w := by kernel_rfl
theorem sizeE (w : World) : (Go.sizeOf 35).run Tryd.prog w = .ok 3 w := by kernel_rfl
theorem perm_list {α : Type} [Inhabited α] {l : List α} {d : Array α} (h : PermIn 0 l.length l.toArray d) : d.size = l.length ∧ d.toList.Perm l := by
  obtain ⟨h1, _, h2⟩ := h
  have h1' : d.size = l.length := by simpa using h1
  refine ⟨h1', ?_⟩
  have e1 : d.extract 0 l.length = d := by rw [← h1']; simp
  have e2 : l.toArray.extract 0 l.length = l.toArray := by simp
  rw [e1, e2] at h2
  exact h2
theorem sorted_edges {l : List Edg} {d : Array Edg} (hn : l.Pairwise fun a b => sameE a b = false) (hp : PermIn 0 l.length l.toArray d) (hs : SortedIn (ltOf cmpE) 0 l.length d) : SortedE d.toList := by
  obtain ⟨h1, h2⟩ := perm_list hp
  have hd : d.toList.Pairwise fun a b => sameE a b = false := h2.symm.pairwise hn (fun {a b} h => by unfold sameE at *; simp at *; omega)
  unfold SortedE
  rw [List.pairwise_iff_getElem] at hd ⊢
  intro i j hi hj hij
  have h3 := hd i j hi hj hij
  have h4 := hs i j (Nat.zero_le _) hij (by simp at hj; omega)
  rw [ltE] at h4
  simp at hi hj
  rw [getElem!_pos d j hj, getElem!_pos d i hi] at h4
  simp at h3 ⊢
  cases ha : aheadE d[i] d[j] with
  | true => rfl
  | false => rw [ahead_tri _ _ ha h4] at h3; cases h3
theorem cloE_any (x y : Edg) (W : World) : Calls Tryd.prog 32 #[.agg #[.int .i64 x.1, .int .i64 x.2.1, .int .i64 x.2.2], .agg #[.int .i64 y.1, .int .i64 y.2.1, .int .i64 y.2.2]] W fun e w' => e = .returned (.int .i64 (cmpE x y)) ∧ ∃ q os', w' = grow (W.drewN q) os' := by
  refine (order_any x y W).mono ?_
  rintro e w' ⟨he, q, rfl⟩
  refine ⟨he, q, ?_⟩
  rw [alloc_eq_grow, alloc_eq_grow, alloc_eq_grow, grow_grow]
  exact ⟨_, by rw [show ∀ (a : World) o1, (grow a o1).drewN q = grow (a.drewN q) o1 from fun _ _ => rfl, grow_grow]⟩
/-- the sort of edges -/
theorem sortEdg_any (w : World) (base : Nat) (A : Option Addr) (cap : Nat) (l : List Edg) (h : w.ownsRow base 35 3 (.slice A l.length cap) l.length (rcs edgC l)) (hl : l.length ≤ 1000000000) (hn : l.Pairwise fun a b => sameE a b = false) :
    Calls Tryd.prog 31 #[.slice A l.length cap, .func (.func 32) #[] #[]] w fun e w' => e = .returned (.tuple #[]) ∧ ∃ m : List Edg, m.length = l.length ∧ SortedE m ∧ (∀ p, p ∈ m ↔ p ∈ l) ∧ w'.ownsRow base 35 3 (.slice A l.length cap) l.length (rcs edgC m) ∧ w.grownBy w' (Value.slice A l.length cap).ownBlock := by
  rcases Nat.eq_zero_or_pos l.length with h0 | h0
  · have hl0 : l = [] := List.eq_nil_of_length_eq_zero h0
    subst hl0
    refine (AnyF.slices_SortFunc_none Tryd.sortEdg A cap _ w).mono ?_
    rintro e w' ⟨rfl, rfl⟩
    exact ⟨rfl, [], rfl, List.Pairwise.nil, by simp, h, World.grownBy.refl _ _⟩
  · obtain ⟨g, cap', hv, _⟩ := h.form h0
    have hA : A = some ⟨g, 0, none⟩ := by injection hv
    subst hA
    have eg : ∀ args w, (callFunc 32 args).run Tryd.prog w = .ok (.enter 32 args) w := enters_of Tryd.func32 (by kernel_rfl) rfl
    obtain ⟨hH, hg⟩ := holdsK_of_own edgC_len h
    have hcon := AnyQ.slices_SortFunc Tryd.sortEdg 3 aggE sizeE edgC edgC_len (fun x v hv => by simp [edgC] at hv; rcases hv with rfl | rfl | rfl <;> rfl) cmpE swoE 32 #[] g 0 cap l.toArray w eg (fun m os dk hs x y => cloE_any x y _) hH hg (by simp; omega)
    change Calls Tryd.prog 31 _ _ _ at hcon
    rw [show (l.toArray).size = l.length by simp] at hcon
    refine hcon.mono ?_
    rintro e w' ⟨rfl, d, n, os, hp, hs, rfl⟩
    obtain ⟨h1, h2⟩ := perm_list hp
    have h3 := ownsRow_sortedK (n := n) (os := os) edgC_len h1 h
    have e1 : d.toList.length = l.length := by simpa using h1
    rw [e1] at h3
    exact ⟨rfl, d.toList, e1, sorted_edges hn hp hs, fun p => h2.mem_iff, h3, grownBy_sortedK d⟩
end Go.Proofs.YtknigkjbnaoldaaDoor
