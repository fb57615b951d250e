/- Walk of the reference's Chars. -/
import Derived.Test.YtggegefeagkhkaaDoorWordsS
import Derived.Test.YtggegefeagkhkaaDoorRows
import Derived.Test.YtggegefeagkhkaaDoorMem
import Derived.WalkKit
import Derived.WalkLawsBesides
import Derived.WalkSpells
import Derived.BigQuiet
import Derived.Deep.QuietTactic
import Derived.Outline
import Derived.Lib.Hide
import Derived.Lib.OthersKept
import Derived.Deep.DeepMust
import Derived.Shelf.Strings.FieldsFuncAny
namespace Go.Proofs.YtggegefeagkhkaaDoor
open Go.RowKit

theorem info106 : (Tryd.prog.info? 106).map (fun i => (i.zero, i.size, i.bytes)) = some (some (.agg #[.int .i32 0, .int .i64 0, .bool false]), 3, 24) := by kernel_rfl

theorem cell_three_new (w : World) (x y z : Value) (t : TypeId) (g : Nat) (hg : w.heap.size = g) : ∀ j u, [x, y, z][j]? = some u → (w.alloc (.cells #[x, y, z] t)).cell? ((⟨g, 0, none⟩ : Addr).add j) = some u := by
  subst hg
  intro j u hj
  match j, hj with
  | 0, hj => simp at hj; subst hj; simp [Addr.add]
  | 1, hj => simp at hj; subst hj; simp [Addr.add]
  | 2, hj => simp at hj; subst hj; simp [Addr.add]
  | (j + 3), hj => simp at hj

theorem Blk.iterAt {w : World} {g : Nat} {t : TypeId} {cs : Array Value} (h : Blk w g t cs) {k : Nat} (hk : g ≠ k) (s : ByteArray) (pos : Nat) : Blk (w.iterAt k s pos) g t cs :=
  (Lib.iterAt_other w k g s pos hk).trans h

/-- what has been gathered when the next character begins at pos: the characters done, the last one still open -/
def ChRel (s : ByteArray) (gf pos : Nat) (dn : List (Nat × Nat)) (fr r : Nat) : Prop :=
  (pos = 0 ∧ dn = [] ∧ fr = 0 ∧ r = 0 ∧ chs s = chsFrom s gf pos) ∨ (fr < pos ∧ chs s = dn ++ (r, pos - fr) :: chsFrom s gf pos)

theorem chRel_step {s : ByteArray} {gf pos fr r R W : Nat} {dn : List (Nat × Nat)} (h : ChRel s (gf + 1) pos dn fr r) (hp : pos < s.size) (hW : 1 ≤ W) (hRW : Utf8.decode s pos = (R, W)) :
    ChRel s gf (pos + W) (if pos = 0 then [] else dn ++ [(r, pos - fr)]) pos R := by
  unfold ChRel at h ⊢
  refine .inr ⟨by omega, ?_⟩
  rcases h with ⟨rfl, rfl, rfl, rfl, h⟩ | ⟨h0, h⟩
  · rw [h, chsFrom, if_pos hp, hRW]; simp
  · rw [h, chsFrom, if_pos hp, hRW, if_neg (by omega)]; simp

theorem Blk.set3 {w : World} {g : Nat} {t : TypeId} {a b c x y z : Value} (h : Blk w g t #[a, b, c]) :
    Blk (((w.setCell ⟨g, 0, none⟩ x).setCell ⟨g, 1, none⟩ y).setCell ⟨g, 2, none⟩ z) g t #[x, y, z] := by
  simpa using ((h.set_ 0 x).set_ 1 y).set_ 2 z
theorem heap_set3 {w : World} {g k : Nat} {x y z : Value} (hk : k ≠ g) : (((w.setCell ⟨g, 0, none⟩ x).setCell ⟨g, 1, none⟩ y).setCell ⟨g, 2, none⟩ z).heap[k]? = w.heap[k]? := by
  rw [Below.heap_setCell _ _ _ _ hk, Below.heap_setCell _ _ _ _ hk, Below.heap_setCell _ _ _ _ hk]
theorem own_set3 {w : World} {base : Nat} {e : TypeId} {size : Nat} {v : Value} {n : Nat} {xs : List Value} (h : w.ownsRow base e size v n xs) {g : Nat} (hg : g < base) (x y z : Value) :
    (((w.setCell ⟨g, 0, none⟩ x).setCell ⟨g, 1, none⟩ y).setCell ⟨g, 2, none⟩ z).ownsRow base e size v n xs :=
  ownsRow_setCell_below (ownsRow_setCell_below (ownsRow_setCell_below h (a := ⟨g, 0, none⟩) hg x) (a := ⟨g, 1, none⟩) hg y) (a := ⟨g, 2, none⟩) hg z
theorem below_set3 {B : Nat} {a w : World} (h : Below B a w) {g : Nat} (hg : B ≤ g) (x y z : Value) : Below B a (((w.setCell ⟨g, 0, none⟩ x).setCell ⟨g, 1, none⟩ y).setCell ⟨g, 2, none⟩ z) :=
  ((h.setCell (p := ⟨g, 0, none⟩) hg x).setCell (p := ⟨g, 1, none⟩) hg y).setCell (p := ⟨g, 2, none⟩) hg z

theorem ch_app {w W w1 : World} {B : Nat} {t e : TypeId} {size n : Nat} {v : Value} {xs : List Value} {cs : Array Value} {it o : Obj} (hown : W.ownsRow (B + 2) e size v n xs) (hblk : Blk W B t cs) (hit : W.heap[B + 1]? = some it) (hB : Below B w W)
    (hz : B + 2 ≤ W.heap.size) (hg : (W.alloc o).grownBy w1 v.ownBlock) : Blk w1 B t cs ∧ w1.heap[B + 1]? = some it ∧ Below B w w1 := by
  have hlt := fun k hk => (hown.lt k hk).1
  refine ⟨(hblk.alloc o).grown hg (fun e => by have := hlt B e.symm; omega), ?_, (hB.alloc (by omega) o).grown hg (by simp; omega) (fun k hk => by have := hlt k hk; omega)⟩
  have h1 : (W.alloc o).heap[B + 1]? = some it := (Below.heap_alloc W o _ (by omega)).trans hit
  exact (hg.block (B + 1) (by simp; omega) (fun e => by have := hlt _ e.symm; omega)).trans h1

theorem set_three {α : Type} (A : List α) (a b c x y z : α) (R : List α) (n : Nat) (hn : A.length = n) : (((A ++ a :: b :: c :: R).set n x).set (n + 1) y).set (n + 2) z = A ++ x :: y :: z :: R := by
  subst hn
  simp
theorem cells_step (l : List (Nat × Nat)) (i : Nat) (r n : Nat) (h : l[i]? = some (r, n)) :
    (((cellsB (l.take i) ++ cells0 (l.drop i)).set (i * 3) (.int .i32 r)).set (i * 3 + 1) (.int .i64 n)).set (i * 3 + 2) (.bool (isBroken (r, n))) = cellsB (l.take (i + 1)) ++ cells0 (l.drop (i + 1)) := by
  obtain ⟨hlt, hx⟩ := List.getElem?_eq_some_iff.1 h
  have h1 : l.drop i = (r, n) :: l.drop (i + 1) := by rw [List.drop_eq_getElem_cons hlt, hx]
  have h2 : l.take (i + 1) = l.take i ++ [(r, n)] := by rw [List.take_add_one, h]; rfl
  rw [h1, h2]
  have h3 : cells0 ((r, n) :: l.drop (i + 1)) = .int .i32 r :: .int .i64 n :: .bool false :: cells0 (l.drop (i + 1)) := by simp [cells0, cell0]
  have h4 : cellsB (l.take i ++ [(r, n)]) = cellsB (l.take i) ++ [.int .i32 r, .int .i64 n, .bool (isBroken (r, n))] := by simp [cellsB, cellB]
  rw [h3, h4, set_three _ _ _ _ _ _ _ _ _ (by rw [cellsB_length, List.length_take]; omega)]
  simp
theorem cells_at (l : List (Nat × Nat)) (i : Nat) (r n : Nat) (h : l[i]? = some (r, n)) :
    (cellsB (l.take i) ++ cells0 (l.drop i))[i * 3]? = some (.int .i32 r) ∧ (cellsB (l.take i) ++ cells0 (l.drop i))[i * 3 + 1]? = some (.int .i64 n) ∧ (cellsB (l.take i) ++ cells0 (l.drop i))[i * 3 + 2]? = some (.bool false) := by
  obtain ⟨hlt, hx⟩ := List.getElem?_eq_some_iff.1 h
  have h1 : l.drop i = (r, n) :: l.drop (i + 1) := by rw [List.drop_eq_getElem_cons hlt, hx]
  have h3 : cells0 ((r, n) :: l.drop (i + 1)) = .int .i32 r :: .int .i64 n :: .bool false :: cells0 (l.drop (i + 1)) := by simp [cells0, cell0]
  have hl : (cellsB (l.take i)).length = i * 3 := by rw [cellsB_length, List.length_take]; omega
  rw [h1, h3]
  refine ⟨?_, ?_, ?_⟩ <;> rw [List.getElem?_append_right (by omega), hl]
  · simp
  · rw [show i * 3 + 1 - i * 3 = 1 by omega]; rfl
  · rw [show i * 3 + 2 - i * 3 = 2 by omega]; rfl

theorem own_store3 {w : World} {B : Nat} {e : TypeId} {g n cap a : Nat} {xs : List Value} (h : w.ownsRow B e 3 (.slice (some ⟨g, 0, none⟩) n cap) n xs) (x y z : Value) (o : Obj) :
    ((((w.setCell ⟨g, a, none⟩ x).setCell ⟨g, a + 1, none⟩ y).setCell ⟨g, a + 2, none⟩ z).alloc o).ownsRow B e 3 (.slice (some ⟨g, 0, none⟩) n cap) n (((xs.set a x).set (a + 1) y).set (a + 2) z) :=
  ((((h.stored a x).1).stored (a + 1) y).1.stored (a + 2) z).1.alloc o
theorem below_store3 {B : Nat} {a w : World} (h : Below B a w) {g : Nat} (hg : B ≤ g) (hz : B ≤ w.heap.size) (i : Nat) (x y z : Value) (o : Obj) :
    Below B a ((((w.setCell ⟨g, i, none⟩ x).setCell ⟨g, i + 1, none⟩ y).setCell ⟨g, i + 2, none⟩ z).alloc o) :=
  (((h.setCell (p := ⟨g, i, none⟩) hg x).setCell (p := ⟨g, i + 1, none⟩) hg y).setCell (p := ⟨g, i + 2, none⟩) hg z).alloc (by simpa using hz) o

theorem cellsB_at (l : List (Nat × Nat)) (i : Nat) (r n : Nat) (h : l[i]? = some (r, n)) : (cellsB l)[i * 3]? = some (.int .i32 r) := by
  have hlt := (List.getElem?_eq_some_iff.1 h).1
  have h1 : l = l.take (i + 1) ++ l.drop (i + 1) := (List.take_append_drop _ _).symm
  have h2 : l.take (i + 1) = l.take i ++ [(r, n)] := by rw [List.take_add_one, h]; rfl
  have hl : (cellsB (l.take i)).length = i * 3 := by rw [cellsB_length, List.length_take]; omega
  have h3 : cellsB l = cellsB (l.take i) ++ (.int .i32 r :: .int .i64 n :: .bool (isBroken (r, n)) :: cellsB (l.drop (i + 1))) := by
    conv => lhs; rw [h1, h2]
    simp [cellsB, cellB]
  rw [h3, List.getElem?_append_right (by omega), hl]
  simp
set_option maxRecDepth 100000 in
set_option maxHeartbeats 4000000 in
theorem chars_any (s : ByteArray) (w : World) (hs : s.size ≤ 4294967296) :
    Calls Tryd.prog 73 #[.string s] w fun e w' => ∃ v, e = .returned v ∧ w'.ownsRow w.heap.size 106 3 v (chs s).length (cellsB (chs s)) ∧ Below w.heap.size w w' := by
  obtain ⟨i0, hi, hz0, hz1, hz2⟩ := info_parts info106
  go_enter Tryd.func73, Tryd.ntmps73
  go_wp2
  go_loopg [3, 4] s.size (fun gf v4 v5 wr => ∃ (pos fr r : Nat) (dn : List (Nat × Nat)), v5 = .int .i64 fr ∧ ChRel s gf pos dn fr r ∧ pos ≤ s.size ∧ s.size ≤ pos + gf ∧ r ≤ 1114111 ∧ fr ≤ pos ∧ dn.length ≤ pos ∧
      wr.ownsRow (w.heap.size + 2) 106 3 v4 dn.length (cells0 dn) ∧ Blk wr w.heap.size 106 #[.int .i32 r, .int .i64 0, .bool false] ∧ wr.heap[w.heap.size + 1]? = some (.stringIter s pos) ∧ Below w.heap.size w wr)
  case atStart =>
    refine ⟨0, 0, 0, [], rfl, .inl ⟨rfl, rfl, rfl, rfl, rfl⟩, by omega, by omega, by omega, by omega, by simp, World.ownsRow_nil _ _ _ _, ?_, ?_, ?_⟩
    · exact (Blk.new w 106 _).alloc _
    · have := World.iter_heap (w.alloc (.cells #[.int .i32 0, .int .i64 0, .bool false] 106)) s 0
      rwa [World.size_alloc] at this
    · exact ((Below.refl _ _).alloc (Nat.le_refl _) _).alloc (by simp) _
  case round =>
    obtain ⟨pos, fr, r, dn, rfl, hch, hps, hfu, hr, hfr, hdl, hown, hblk, hit, hB⟩ := hrel
    by_cases hlt : pos < s.size
    · obtain ⟨g', rfl⟩ : ∃ g', gk = g' + 1 := ⟨gk - 1, by omega⟩
      have hnx : ∀ ty, (Instr.next (.pointer (some ⟨w.heap.size + 1, 0, none⟩)) true ty).run Tryd.prog wr = _ := fun ty => Lib.run_next_any_at wr (w.heap.size + 1) s pos ty hit hlt
      have hwd := Lib.width_pos s pos
      have hwn := dec_fits s pos hlt
      have hrl := Lib.rune_le s pos
      obtain ⟨R, hR⟩ : ∃ R, (Utf8.decode s pos).1 = R := ⟨_, rfl⟩
      obtain ⟨K, hK⟩ : ∃ K, (Utf8.decode s pos).2 = K := ⟨_, rfl⟩
      have hstep := chRel_step hch hlt (W := K) (R := R) (by omega) (by rw [← hR, ← hK])
      rw [hR, hK] at hnx
      rw [hK] at hwd hwn
      rw [hR] at hrl
      have hit2 := Lib.iterAt_heap wr (w.heap.size + 1) s pos (pos + K) hit
      have hB2 := Lib.below_iterAt hB (k := w.heap.size + 1) (by omega) s (pos + K)
      have hown2 := own_iterAt hown hit (pos + K)
      have hblk2 := hblk.iterAt (k := w.heap.size + 1) (by omega) s (pos + K)
      have hsz : w.heap.size + 2 ≤ wr.heap.size := by have := (Array.getElem?_eq_some_iff.1 hit).1; omega
      have hsz2 : w.heap.size + 2 ≤ (wr.iterAt (w.heap.size + 1) s (pos + K)).heap.size := by rw [Lib.iterAt_size]; exact hsz
      obtain ⟨W, hWd⟩ : ∃ W, wr.iterAt (w.heap.size + 1) s (pos + K) = W := ⟨_, rfl⟩
      rw [hWd] at hnx hit2 hB2 hown2 hblk2 hsz2
      have HS := Lib.hid hstep
      clear hown hit hB hblk hR hK hWd hch hstep hsz
      have c0 := hblk2.cell 0; have c1 := hblk2.cell 1; have c2 := hblk2.cell 2
      have f0 := hblk2.frozen 0; have f1 := hblk2.frozen 1; have f2 := hblk2.frozen 2
      simp only [List.getElem?_toArray, List.getElem?_cons_zero, List.getElem?_cons_succ] at c0 c1 c2
      have HO := Lib.hid hown2; have HBk := Lib.hid hblk2; have HI2 := Lib.hid hit2; have HB2 := Lib.hid hB2
      clear hown2 hblk2 hit2 hB2
      by_cases hp0 : pos = 0
      · subst hp0
        go_wp2
        go_roundg g'
        case measure => omega
        case rel =>
          have hs' := HS.out
          simp only [if_true] at hs'
          have hdn : dn = [] := List.eq_nil_of_length_eq_zero (by omega)
          subst hdn
          refine ⟨0 + K, 0, R, [], rfl, hs', by omega, by omega, by omega, by omega, by simp, own_set3 HO.out (by omega) _ _ _, HBk.out.set3, (heap_set3 (by omega)).trans HI2.out, below_set3 HB2.out (Nat.le_refl _) _ _ _⟩
      · have hpp : 0 < pos := by omega
        have hbnd : (dn.length + 1) * 24 ≤ 140737488355328 := by omega
        have hown1 := ownsRow_setCell_below HO.out (a := ⟨w.heap.size, 1, none⟩) (by show w.heap.size < w.heap.size + 2; omega) (.int .i64 ((pos : Int) - fr))
        have hblk1 : Blk (W.setCell ⟨w.heap.size, 1, none⟩ (.int .i64 ((pos : Int) - fr))) w.heap.size 106 #[.int .i32 r, .int .i64 ((pos : Int) - fr), .bool false] := by simpa using HBk.out.set_ 1 (.int .i64 ((pos : Int) - fr))
        have hit1 : (W.setCell ⟨w.heap.size, 1, none⟩ (.int .i64 ((pos : Int) - fr))).heap[w.heap.size + 1]? = some (.stringIter s (pos + K)) := (Below.heap_setCell _ _ _ _ (by show w.heap.size + 1 ≠ w.heap.size; omega)).trans HI2.out
        have hB1 : Below w.heap.size w (W.setCell ⟨w.heap.size, 1, none⟩ (.int .i64 ((pos : Int) - fr))) := HB2.out.setCell (p := ⟨w.heap.size, 1, none⟩) (Nat.le_refl _) _
        have hz1' : w.heap.size + 2 ≤ (W.setCell ⟨w.heap.size, 1, none⟩ (.int .i64 ((pos : Int) - fr))).heap.size := by simp; omega
        have HApp := Lib.hid fun (w1 : World) (o : Obj) hg => ch_app (w1 := w1) (o := o) hown1 hblk1 hit1 hB1 hz1' hg
        have HO1 := Lib.hid (hown1.alloc (.cells #[.int .i32 r, .int .i64 ((pos : Int) - fr), .bool false] 106))
        clear hown1 hblk1 hit1 hB1 hz1'
        go_wp2_with (at_builtin; go_must (refine wpList_append_own _ rfl (.tmp 23) (.tmp 25) 102 rfl (w.heap.size + 2) 106 i0 (.agg #[.int .i32 0, .int .i64 0, .bool false]) 3 24 Tryd.underlying102 hi hz0 hz1 hz2 rfl (by decide) _ _ _ rfl HO1.out ⟨W.heap.size, 0, none⟩ 1 1 [.int .i32 r, .int .i64 ((pos : Int) - fr), .bool false] rfl rfl (cell_three_new _ _ _ _ _ _ (by simp)) (by intro u hu; simp at hu; rcases hu with rfl | rfl | rfl <;> rfl) (by unfold maxLen; omega) (by omega) (by simp; omega) ?_; intro v3 w3 hown3 hgrow3 _; obtain ⟨hb3, hi3, hB3⟩ := HApp.out _ _ hgrow3; have d0 := hb3.cell 0; have d1 := hb3.cell 1; have d2 := hb3.cell 2; have g0 := hb3.frozen 0; have g1 := hb3.frozen 1; have g2 := hb3.frozen 2; simp only [List.getElem?_toArray, List.getElem?_cons_zero, List.getElem?_cons_succ] at d0 d1 d2; have HO3 := Lib.hid hown3; have HB3 := Lib.hid hb3; have HI3 := Lib.hid hi3; have HBB3 := Lib.hid hB3; clear hown3 hgrow3 hb3 hi3 hB3))
        go_roundg g'
        case measure => omega
        case rel =>
          have hs' := HS.out
          rw [if_neg hp0] at hs'
          refine ⟨pos + K, pos, R, dn ++ [(r, pos - fr)], rfl, hs', by omega, by omega, by omega, by omega, by simp; omega, ?_, HB3.out.set3, (heap_set3 (by omega)).trans HI3.out, below_set3 HBB3.out (Nat.le_refl _) _ _ _⟩
          rw [cells0_snoc, List.length_append, Int.ofNat_sub hfr]
          exact own_set3 HO3.out (by omega) _ _ _
    · obtain rfl : pos = s.size := by omega
      have hnx : ∀ ty, (Instr.next (.pointer (some ⟨w.heap.size + 1, 0, none⟩)) true ty).run Tryd.prog wr = _ := fun ty => Lib.run_next_end_at wr (w.heap.size + 1) s s.size ty hit hlt
      have hsz : w.heap.size + 2 ≤ wr.heap.size := by have := (Array.getElem?_eq_some_iff.1 hit).1; omega
      go_upto_if 32 with fail
      go_cut [3] (fun v wx => wx.ownsRow w.heap.size 106 3 v (chs s).length (cells0 (chs s)) ∧ Below w.heap.size w wx)
      case first =>
        by_cases hs0 : s.size = 0
        · have hch' : chs s = [] := List.eq_nil_of_length_eq_zero (by have := chs_length s; omega)
          have hdn : dn = [] := List.eq_nil_of_length_eq_zero (by omega)
          subst hdn
          have HC := Lib.hid hch'
          have HO := Lib.hid hown; have HB := Lib.hid hB
          clear hch hch' hown hB
          go_wp2_with fail
          go_meet
          exact ⟨by rw [HC.out]; exact own_mono HO.out (by omega), HB.out⟩
        · have hpp : 0 < s.size := by omega
          have hch' : chs s = dn ++ [(r, s.size - fr)] := by
            rcases hch with ⟨h, _⟩ | ⟨_, h⟩
            · omega
            · rw [h, chsFrom_end _ _ _ hlt]
          have hown1 := ownsRow_setCell_below hown (a := ⟨w.heap.size, 1, none⟩) (by show w.heap.size < w.heap.size + 2; omega) (.int .i64 ((s.size : Int) - fr))
          have hblk1 : Blk (wr.setCell ⟨w.heap.size, 1, none⟩ (.int .i64 ((s.size : Int) - fr))) w.heap.size 106 #[.int .i32 r, .int .i64 ((s.size : Int) - fr), .bool false] := by simpa using hblk.set_ 1 (.int .i64 ((s.size : Int) - fr))
          have hit1 : (wr.setCell ⟨w.heap.size, 1, none⟩ (.int .i64 ((s.size : Int) - fr))).heap[w.heap.size + 1]? = some (.stringIter s s.size) := (Below.heap_setCell _ _ _ _ (by show w.heap.size + 1 ≠ w.heap.size; omega)).trans hit
          have hB1 : Below w.heap.size w (wr.setCell ⟨w.heap.size, 1, none⟩ (.int .i64 ((s.size : Int) - fr))) := hB.setCell (p := ⟨w.heap.size, 1, none⟩) (Nat.le_refl _) _
          have hz1' : w.heap.size + 2 ≤ (wr.setCell ⟨w.heap.size, 1, none⟩ (.int .i64 ((s.size : Int) - fr))).heap.size := by simp; omega
          have HApp := Lib.hid fun (w1 : World) (o : Obj) hg => ch_app (w1 := w1) (o := o) hown1 hblk1 hit1 hB1 hz1' hg
          have HO1 := Lib.hid (hown1.alloc (.cells #[.int .i32 r, .int .i64 ((s.size : Int) - fr), .bool false] 106))
          have c0 := hblk.cell 0; have c1 := hblk.cell 1; have c2 := hblk.cell 2
          have f0 := hblk.frozen 0; have f1 := hblk.frozen 1; have f2 := hblk.frozen 2
          simp only [List.getElem?_toArray, List.getElem?_cons_zero, List.getElem?_cons_succ] at c0 c1 c2
          have HC := Lib.hid hch'
          clear hown1 hblk1 hit1 hB1 hz1' hch hch' hown hB hblk hit
          go_wp2_with (at_builtin; go_must (refine wpList_append_own _ rfl (.tmp 38) (.tmp 40) 102 rfl (w.heap.size + 2) 106 i0 (.agg #[.int .i32 0, .int .i64 0, .bool false]) 3 24 Tryd.underlying102 hi hz0 hz1 hz2 rfl (by decide) _ _ _ rfl HO1.out ⟨wr.heap.size, 0, none⟩ 1 1 [.int .i32 r, .int .i64 ((s.size : Int) - fr), .bool false] rfl rfl (cell_three_new _ _ _ _ _ _ (by simp)) (by intro u hu; simp at hu; rcases hu with rfl | rfl | rfl <;> rfl) (by unfold maxLen; omega) (by omega) (by simp; omega) ?_; intro v3 w3 hown3 hgrow3 _; obtain ⟨hb3, hi3, hB3⟩ := HApp.out _ _ hgrow3; have HO3 := Lib.hid hown3; have HBB3 := Lib.hid hB3; clear hown3 hgrow3 hb3 hi3 hB3))
          go_meet
          refine ⟨?_, HBB3.out⟩
          rw [HC.out, cells0_snoc, List.length_append, Int.ofNat_sub hfr]
          exact own_mono HO3.out (by omega)
      case rest =>
        obtain ⟨hownS, hbS⟩ := hcut
        have hcl := chs_length s
        clear hch hown hB hblk hit hnx hlt
        go_wp2
        go_loopg [8] (chs s).length (fun gf v8 wr => ∃ i : Nat, v8 = .int .i64 i ∧ i + gf = (chs s).length ∧ wr.ownsRow w.heap.size 106 3 u3 (chs s).length (cellsB ((chs s).take i) ++ cells0 ((chs s).drop i)) ∧ Below w.heap.size w wr)
        case atStart => exact ⟨0, rfl, by omega, by simpa [cellsB] using hownS, hbS⟩
        case round =>
          obtain ⟨i, rfl, hig, hO, hbr⟩ := hrel
          cases gk with
          | zero =>
            obtain rfl : i = (chs s).length := by omega
            have hO' : wr.ownsRow w.heap.size 106 3 u3 (chs s).length (cellsB (chs s)) := by simpa [cells0] using hO
            obtain ⟨g, cap, hv⟩ : ∃ g cap, u3 = .slice g (chs s).length cap := by
              rcases hO'.2 with ⟨h, h0⟩ | ⟨g, cap, _, h, _⟩
              · exact ⟨none, 0, by rw [h, h0]⟩
              · exact ⟨_, cap, h⟩
            subst hv
            have HO := Lib.hid hO'; have HB := Lib.hid hbr
            clear hO hO' hbr hbS hownS
            go_wp2
            go_ret
            exact ⟨_, rfl, HO.out, HB.out⟩
          | succ gf =>
            have hil : i < (chs s).length := by omega
            obtain ⟨⟨r', n'⟩, hx⟩ : ∃ x, (chs s)[i]? = some x := ⟨_, List.getElem?_eq_getElem hil⟩
            obtain ⟨g, cap, rfl, hg1, hg2⟩ := hO.form (by omega)
            have hcs := cells_at (chs s) i r' n' hx
            have hst := cells_step (chs s) i r' n' hx
            have c0 := (hO.cellAt (i * 3) (by omega)).trans hcs.1
            have c1 := (hO.cellAt (i * 3 + 1) (by omega)).trans hcs.2.1
            have c2 := (hO.cellAt (i * 3 + 2) (by omega)).trans hcs.2.2
            have f0 := hO.frozenAt (i * 3); have f1 := hO.frozenAt (i * 3 + 1); have f2 := hO.frozenAt (i * 3 + 2)
            have hilI : (i : Int) < ((chs s).length : Int) := by omega
            have HST := Lib.hid hst
            have HO := Lib.hid hO; have HB := Lib.hid hbr
            clear hO hbr hbS hownS hcs hst hx
            by_cases hR : r' = 65533
            · subst hR
              by_cases hN : n' = 1
              · subst hN
                go_wp2
                go_roundg gf
                case measure => omega
                case rel =>
                  refine ⟨i + 1, by go_num, by omega, ?_, below_store3 HB.out hg1 HB.out.size _ _ _ _ _⟩
                  rw [← HST.out]
                  exact own_store3 HO.out _ _ _ _
              · have hNb : ((n' : Int) == 1) = false := by simp; omega
                go_wp2
                go_roundg gf
                case measure => omega
                case rel =>
                  refine ⟨i + 1, by go_num, by omega, ?_, below_store3 HB.out hg1 HB.out.size _ _ _ _ _⟩
                  rw [← HST.out, show isBroken (65533, n') = false by simp [isBroken, hN]]
                  exact own_store3 HO.out _ _ _ _
            · have hRb : ((r' : Int) == 65533) = false := by simp; omega
              go_wp2
              go_roundg gf
              case measure => omega
              case rel =>
                refine ⟨i + 1, by go_num, by omega, ?_, below_store3 HB.out hg1 HB.out.size _ _ _ _ _⟩
                rw [← HST.out, show isBroken (r', n') = false by simp [isBroken, hR]]
                exact own_store3 HO.out _ _ _ _
end Go.Proofs.YtggegefeagkhkaaDoor
