/- The program's reader of graphs: a line's words. -/
import Derived.Test.YtknigkjbnaoldaaDoorGrH
import Derived.WalkMore
import Derived.ScopeJumps
namespace Go.Proofs.YtknigkjbnaoldaaDoor
open Go.RowKit Go.Maps

/-- what line hands back -/
def LineP (w : World) (B r mb : Nat) (v : Value) (o : Option Gr) (R : Ending) (w' : World) : Prop :=
  Below B w w' ∧ match o with
  | none => R = .returned (.bool false)
  | some g => R = .returned (.bool true) ∧ ∃ v', RdrIs w' B r mb g.1 v' g.2 ∧ (v'.ownBlock = v.ownBlock ∨ ∃ k, v'.ownBlock = some k ∧ w.heap.size ≤ k) ∧ Stay r mb v.ownBlock w w'
theorem bytes_ext_ {x y : ByteArray} (h : x.toList = y.toList) : x = y := by
  rw [ByteArray.toList_eq, ByteArray.toList_eq] at h
  cases x; cases y; simp_all [Array.toList_inj]
theorem bytes_beq_ (x y : ByteArray) : (x.toList == y.toList) = decide (x = y) := by
  by_cases h : x = y
  · subst h; simp
  · rw [decide_eq_false h, beq_eq_false_iff_ne]; exact fun e => h (bytes_ext_ e)
theorem bytes_ne_ {x y : ByteArray} (h : x ≠ y) : (x.toList == y.toList) = false := by rw [bytes_beq_]; exact decide_eq_false h
theorem bytes_eq_ {x y : ByteArray} (h : x = y) : (x.toList == y.toList) = true := by rw [bytes_beq_]; exact decide_eq_true h
/-- a row of words, its cells -/
theorem words_at {w : World} {Aw : Option Addr} {ws : List ByteArray} (h : Sl w 1 Aw ws.length (ws.map Value.string)) (h0 : 0 < ws.length) : ∃ b o, Aw = some ⟨b, o, none⟩ ∧ b < w.heap.size ∧ ∀ i s, ws[i]? = some s → w.cell? ⟨b, o + i, none⟩ = some (.string s) := by
  obtain ⟨b, o, hA, hb, hc⟩ := h.2 h0
  exact ⟨b, o, hA, hb, fun i s hs => hc i _ (by rw [List.getElem?_map, hs]; rfl)⟩
theorem wV_list : wVertices.toList = [118, 101, 114, 116, 105, 99, 101, 115] := by rw [ByteArray.toList_eq]; rfl
theorem wE_list : wEdge.toList = [101, 100, 103, 101] := by rw [ByteArray.toList_eq]; rfl
theorem wB_list : wBoth.toList = [98, 111, 116, 104] := by rw [ByteArray.toList_eq]; rfl
theorem words_own {w : World} {Bw : Nat} {Aw : Option Addr} {cw k : Nat} {ws : List ByteArray} (h : w.ownsRow Bw 9 1 (.slice Aw k cw) k (ws.map Value.string)) (h0 : 0 < k) : ∃ b cs, Aw = some ⟨b, 0, none⟩ ∧ b < w.heap.size ∧ w.heap[b]? = some (.cells cs 9 (0, 0)) ∧ ∀ i s, ws[i]? = some s → w.cell? ⟨b, i, none⟩ = some (.string s) := by
  rcases h.2 with ⟨_, h1⟩ | ⟨g, cap, cur, hv, _, hg, _⟩
  · omega
  · have hA : Aw = some ⟨g, 0, none⟩ := by injection hv
    subst hA
    refine ⟨g, cur, rfl, (Array.getElem?_eq_some_iff.1 hg).1, hg, fun i s hs => ?_⟩
    have := h.cells (g := g) rfl i (.string s) (by rw [List.getElem?_map, hs]; rfl)
    rw [addr_add, Nat.zero_add] at this
    exact this
theorem RdrIs.far {w : World} {B r mb : Nat} {n : Int} {v : Value} {l : List Edg} (h : RdrIs w B r mb n v l) {g : Nat} (h1 : g ≠ r) (h2 : g ≠ mb) (h3 : v.ownBlock ≠ some g) (i : Nat) (u : Value) : RdrIs (w.setCell ⟨g, i, none⟩ u) B r mb n v l :=
  ⟨h.blk.far (p := ⟨g, i, none⟩) (fun e => h1 e.symm) u, h.own.kept (row := some g) ⟨rfl, rfl, rfl, by simp [World.setCell], fun k _ hk => Below.heap_setCell _ _ _ _ (fun e => hk (by rw [e]))⟩ (Or.inr h3), h.seen.kept (Below.heap_setCell _ _ _ _ (fun e => h2 e.symm)), h.r, h.mb⟩
theorem below_B {w w' : World} {B : Nat} (h : Below w.heap.size w w') (hB : B ≤ w.heap.size) : Below B w w' := h.mono hB
set_option maxRecDepth 100000 in
set_option maxHeartbeats 8000000 in
theorem line_v0 (w : World) (B r mb : Nat) (n : Int) (v : Value) (l : List Edg) (h : RdrIs w B r mb n v l) (Aw : Option Addr) (cw : Nat) (k : Nat) (hk : k ≠ 2) (hn : n = 0) :
    Calls Tryd.prog 30 #[.pointer (some ⟨r, 0, none⟩), .slice Aw k cw] w (LineP w B r mb v none) := by
  subst hn
  have hkb : ((k : Int) != 2) = true := by rw [bne_iff_ne]; omega
  have b0 := (h.below ((Below.refl w.heap.size w).alloc (Nat.le_refl _) (.cells #[.int .i64 0, .int .i64 0, .int .i64 0] 35))).blk.cell 0
  simp only [List.getElem?_toArray, List.getElem?_cons_zero] at b0
  have HB := Lib.hid (((Below.refl w.heap.size w).alloc (Nat.le_refl _) (.cells #[.int .i64 0, .int .i64 0, .int .i64 0] 35)).mono (Nat.le_trans h.r (Nat.le_of_lt h.blk.lt)))
  clear h hk
  go_enter Tryd.func30, Tryd.ntmps30
  go_wp2
  refine' wp_scope_jumps (rest := _) 0 (fun a' w' => a'.tmps.size = 97 ∧ a'.defers = [] ∧ Below B w w') (fun _ _ => 0) ?hf ?first ?pass
  case hf => rfl
  case' first => skip
  · go_wp2
    go_step3
    exact ⟨rfl, rfl, rfl, HB.out⟩
  · rintro a' w' ⟨hs, hd, hb⟩
    obtain ⟨t, d⟩ := a'
    dsimp only at hs hd
    subst hd
    go_wp2
    go_ret
    refine ⟨hb, ?_⟩
    simp [hs]
set_option maxRecDepth 100000 in
set_option maxHeartbeats 8000000 in
theorem line_v1 (w : World) (B r mb : Nat) (n : Int) (v : Value) (l : List Edg) (h : RdrIs w B r mb n v l) (Aw : Option Addr) (cw : Nat) (x y : ByteArray) (hw : Sl w 1 Aw 2 ([x, y].map Value.string)) (hx : x ≠ wVertices) (hn : n = 0) :
    Calls Tryd.prog 30 #[.pointer (some ⟨r, 0, none⟩), .slice Aw 2 cw] w (LineP w B r mb v none) := by
  subst hn
  obtain ⟨b, oo, rfl, hb, hc⟩ := words_at (ws := [x, y]) hw (by simp)
  have c0 := (World.cell?_alloc_lt w (.cells #[.int .i64 0, .int .i64 0, .int .i64 0] 35) ⟨b, oo + 0, none⟩ hb).trans (hc 0 x rfl)
  simp only [Nat.add_zero] at c0
  have hxb : (!x.toList == [118, 101, 114, 116, 105, 99, 101, 115]) = true := by rw [← wV_list, bytes_ne_ hx]; rfl
  have b0 := (h.below ((Below.refl w.heap.size w).alloc (Nat.le_refl _) (.cells #[.int .i64 0, .int .i64 0, .int .i64 0] 35))).blk.cell 0
  simp only [List.getElem?_toArray, List.getElem?_cons_zero] at b0
  have HB := Lib.hid (((Below.refl w.heap.size w).alloc (Nat.le_refl _) (.cells #[.int .i64 0, .int .i64 0, .int .i64 0] 35)).mono (Nat.le_trans h.r (Nat.le_of_lt h.blk.lt)))
  clear h hx hw hc
  go_enter Tryd.func30, Tryd.ntmps30
  go_wp2
  refine' wp_scope_jumps (rest := _) 0 (fun a' w' => a'.tmps.size = 97 ∧ a'.defers = [] ∧ Below B w w') (fun _ _ => 0) ?hf ?first ?pass
  case hf => rfl
  case' first => skip
  · go_wp2
    go_step3
    exact ⟨rfl, rfl, rfl, HB.out⟩
  · rintro a' w' ⟨hs, hd, hb⟩
    obtain ⟨t, d⟩ := a'
    dsimp only at hs hd
    subst hd
    go_wp2
    go_ret
    refine ⟨hb, ?_⟩
    simp [hs]
set_option maxRecDepth 100000 in
set_option maxHeartbeats 8000000 in
theorem line_v2 (w : World) (B r mb : Nat) (n : Int) (v : Value) (l : List Edg) (h : RdrIs w B r mb n v l) (Aw : Option Addr) (cw : Nat) (y : ByteArray) (hw : Sl w 1 Aw 2 ([wVertices, y].map Value.string)) (hy : y.size ≤ 4294967296) (hF : Firsts w) (hn : n = 0) :
    Calls Tryd.prog 30 #[.pointer (some ⟨r, 0, none⟩), .slice Aw 2 cw] w (LineP w B r mb v (if 0 < numB numW y 513 then some (numB numW y 513, l) else none)) := by
  subst hn
  obtain ⟨b, oo, rfl, hb, hc⟩ := words_at (ws := [wVertices, y]) hw (by simp)
  have c0 := (World.cell?_alloc_lt w (.cells #[.int .i64 0, .int .i64 0, .int .i64 0] 35) ⟨b, oo + 0, none⟩ hb).trans (hc 0 wVertices rfl)
  have c1 := (World.cell?_alloc_lt w (.cells #[.int .i64 0, .int .i64 0, .int .i64 0] 35) ⟨b, oo + 1, none⟩ hb).trans (hc 1 y rfl)
  simp only [Nat.add_zero] at c0
  unfold wVertices at c0
  have hz := firsts_lt hF
  have hW := ((Below.refl w.heap.size w).alloc (Nat.le_refl _) (.cells #[.int .i64 0, .int .i64 0, .int .i64 0] 35))
  have hcon := number_b y 513 _ hy (firsts_below hF hW hz)
  have h1 := h.below hW
  have b0 := h1.blk.cell 0
  simp only [List.getElem?_toArray, List.getElem?_cons_zero] at b0
  have HBW := Lib.hid hW; have HC := Lib.hid hcon; have H1 := Lib.hid h1; have HH := Lib.hid h
  generalize numB numW y 513 = k at *
  clear h hw hc hF hW hcon h1
  by_cases hk : 0 < k
  · rw [if_pos hk]
    go_enter Tryd.func30, Tryd.ntmps30
    go_wp2
    refine wp_scope_straight ?_
    go_wp2_with fail
    refine HC.out.mono ?_
    rintro R w2 ⟨rfl, hb2⟩
    have h2 := H1.out.below hb2
    have hW2 := HBW.out.trans (hb2.mono HBW.out.size)
    have b0' := h2.blk.cell 0; have f0' := h2.blk.frozen 0
    simp only [List.getElem?_toArray, List.getElem?_cons_zero] at b0'
    have HB2 := Lib.hid hW2; have H2 := Lib.hid h2
    clear b0 c0 c1 hb2 hW2 h2
    go_wp2
    all_goals try omega
    all_goals
      rw [Exit.noGoto_ret]
      go_ret
      have h3 : RdrIs (w2.setCell ⟨r, 0, none⟩ (.int .i64 k)) B r mb k v l := by
        have hne : ∀ (g : Nat) xs t fz, w2.heap[g]? = some (.cells xs t fz) → t ≠ 49 → g ≠ r := fun g xs t fz hg ht e' => by
          subst e'
          have := H2.out.blk
          unfold Blk at this
          rw [this] at hg
          injection hg with hg
          injection hg with _ e'
          exact ht e'.symm
        refine ⟨H2.out.blk.set_ 0 (.int .i64 k), own_keep H2.out.own fun g cs fz hg => Below.heap_setCell _ _ _ _ (hne g _ _ _ hg (by decide)), H2.out.seen.kept (Below.heap_setCell _ _ _ _ H2.out.ne), HH.out.r, HH.out.mb⟩
      have hst : Stay r mb v.ownBlock w (w2.setCell ⟨r, 0, none⟩ (.int .i64 k)) := ⟨HB2.out.os, HB2.out.tape, HB2.out.output, by simpa [World.setCell] using HB2.out.size, fun g hg k1 _ _ => (Below.heap_setCell _ _ _ _ k1).trans (HB2.out.block g hg)⟩
      have hmx : max k 0 = k := by omega
      rw [hmx]
      exact ⟨(HB2.out.mono (Nat.le_trans HH.out.r (Nat.le_of_lt HH.out.blk.lt))).setCell (p := ⟨r, 0, none⟩) HH.out.r _, rfl, v, h3, .inl rfl, hst⟩
  · rw [if_neg hk]
    go_enter Tryd.func30, Tryd.ntmps30
    go_wp2
    refine wp_scope_straight ?_
    go_wp2_with fail
    refine HC.out.mono ?_
    rintro R w2 ⟨rfl, hb2⟩
    have h2 := H1.out.below hb2
    have hW2 := HBW.out.trans (hb2.mono HBW.out.size)
    have b0' := h2.blk.cell 0; have f0' := h2.blk.frozen 0
    simp only [List.getElem?_toArray, List.getElem?_cons_zero] at b0'
    have HB2 := Lib.hid hW2; have H2 := Lib.hid h2
    clear b0 c0 c1 hb2 hW2 h2
    go_wp2
    all_goals try omega
    all_goals
      rw [Exit.noGoto_ret]
      go_ret
      exact ⟨(HB2.out.mono (Nat.le_trans HH.out.r (Nat.le_of_lt HH.out.blk.lt))).setCell (p := ⟨r, 0, none⟩) HH.out.r _, (ret_bool (decide_eq_false (by omega)) : Ending.returned (.bool (decide (0 < k))) = _)⟩
set_option maxRecDepth 100000 in
set_option maxHeartbeats 8000000 in
theorem line_short (w : World) (B r mb : Nat) (n : Int) (v : Value) (l : List Edg) (h : RdrIs w B r mb n v l) (Aw : Option Addr) (cw : Nat) (k : Nat) (hk : k < 3) (hn : n ≠ 0) :
    Calls Tryd.prog 30 #[.pointer (some ⟨r, 0, none⟩), .slice Aw k cw] w (LineP w B r mb v none) := by
  have hkI : (k : Int) < 3 := by omega
  have hkn : decide (k < 3) = true := by simp; omega
  have hnb : (n == 0) = false := by simp [hn]
  have b0 := (h.below ((Below.refl w.heap.size w).alloc (Nat.le_refl _) (.cells #[.int .i64 0, .int .i64 0, .int .i64 0] 35))).blk.cell 0
  simp only [List.getElem?_toArray, List.getElem?_cons_zero] at b0
  have HB := Lib.hid (((Below.refl w.heap.size w).alloc (Nat.le_refl _) (.cells #[.int .i64 0, .int .i64 0, .int .i64 0] 35)).mono (Nat.le_trans h.r (Nat.le_of_lt h.blk.lt)))
  clear h hn hk
  go_enter Tryd.func30, Tryd.ntmps30
  go_wp2
  refine' wp_scope_jumps (rest := _) 0 (fun a' w' => a'.tmps.size = 97 ∧ a'.defers = [] ∧ Below B w w') (fun _ _ => 0) ?hf ?first ?pass
  case hf => rfl
  case' first => skip
  · go_wp2
    go_step3
    exact ⟨rfl, rfl, rfl, HB.out⟩
  · rintro a' w' ⟨hs, hd, hb⟩
    obtain ⟨t, d⟩ := a'
    dsimp only at hs hd
    subst hd
    go_wp2
    go_ret
    refine ⟨hb, ?_⟩
    simp [hs]
set_option maxRecDepth 100000 in
set_option maxHeartbeats 8000000 in
theorem line_long (w : World) (B r mb : Nat) (n : Int) (v : Value) (l : List Edg) (h : RdrIs w B r mb n v l) (Aw : Option Addr) (cw : Nat) (k : Nat) (hk : 4 < k) (hn : n ≠ 0) :
    Calls Tryd.prog 30 #[.pointer (some ⟨r, 0, none⟩), .slice Aw k cw] w (LineP w B r mb v none) := by
  have hkI : (4 : Int) < (k : Int) := by omega
  have hkJ : ¬ (k : Int) < 3 := by omega
  have hkn : decide (4 < k) = true := by simp; omega
  have hnb : (n == 0) = false := by simp [hn]
  have b0 := (h.below ((Below.refl w.heap.size w).alloc (Nat.le_refl _) (.cells #[.int .i64 0, .int .i64 0, .int .i64 0] 35))).blk.cell 0
  simp only [List.getElem?_toArray, List.getElem?_cons_zero] at b0
  have HB := Lib.hid (((Below.refl w.heap.size w).alloc (Nat.le_refl _) (.cells #[.int .i64 0, .int .i64 0, .int .i64 0] 35)).mono (Nat.le_trans h.r (Nat.le_of_lt h.blk.lt)))
  clear h hn hk
  go_enter Tryd.func30, Tryd.ntmps30
  go_wp2
  refine' wp_scope_jumps (rest := _) 0 (fun a' w' => a'.tmps.size = 97 ∧ a'.defers = [] ∧ Below B w w') (fun _ _ => 0) ?hf ?first ?pass
  case hf => rfl
  case' first => skip
  · go_wp2
    go_step3
    exact ⟨rfl, rfl, rfl, HB.out⟩
  · rintro a' w' ⟨hs, hd, hb⟩
    obtain ⟨t, d⟩ := a'
    dsimp only at hs hd
    subst hd
    go_wp2
    go_ret
    refine ⟨hb, ?_⟩
    simp [hs]
set_option maxRecDepth 100000 in
set_option maxHeartbeats 8000000 in
theorem line_word3 (w : World) (B r mb : Nat) (n : Int) (v : Value) (l : List Edg) (h : RdrIs w B r mb n v l) (Aw : Option Addr) (cw : Nat) (x y z : ByteArray) (hw : Sl w 1 Aw 3 ([x, y, z].map Value.string)) (hx : x ≠ wEdge) (hx2 : x ≠ wBoth) (hn : n ≠ 0) :
    Calls Tryd.prog 30 #[.pointer (some ⟨r, 0, none⟩), .slice Aw 3 cw] w (LineP w B r mb v none) := by
  have hnb : (n == 0) = false := by simp [hn]
  obtain ⟨b, oo, rfl, hb, hc⟩ := words_at (ws := [x, y, z]) hw (by simp)
  have c0 := (World.cell?_alloc_lt w (.cells #[.int .i64 0, .int .i64 0, .int .i64 0] 35) ⟨b, oo + 0, none⟩ hb).trans (hc 0 x rfl)
  simp only [Nat.add_zero] at c0
  have hx1 : (!x.toList == [101, 100, 103, 101]) = true := by rw [← wE_list, bytes_ne_ hx]; rfl
  have hx3 : (!x.toList == [98, 111, 116, 104]) = true := by rw [← wB_list, bytes_ne_ hx2]; rfl
  have b0 := (h.below ((Below.refl w.heap.size w).alloc (Nat.le_refl _) (.cells #[.int .i64 0, .int .i64 0, .int .i64 0] 35))).blk.cell 0
  simp only [List.getElem?_toArray, List.getElem?_cons_zero] at b0
  have HB := Lib.hid (((Below.refl w.heap.size w).alloc (Nat.le_refl _) (.cells #[.int .i64 0, .int .i64 0, .int .i64 0] 35)).mono (Nat.le_trans h.r (Nat.le_of_lt h.blk.lt)))
  clear h hx hx2 hw hc hn
  go_enter Tryd.func30, Tryd.ntmps30
  go_wp2
  refine' wp_scope_jumps (rest := _) 0 (fun a' w' => a'.tmps.size = 97 ∧ a'.defers = [] ∧ Below B w w') (fun _ _ => 0) ?hf ?first ?pass
  case hf => rfl
  case' first => skip
  · go_wp2
    go_step3
    exact ⟨rfl, rfl, rfl, HB.out⟩
  · rintro a' w' ⟨hs, hd, hb⟩
    obtain ⟨t, d⟩ := a'
    dsimp only at hs hd
    subst hd
    go_wp2
    go_ret
    refine ⟨hb, ?_⟩
    simp [hs]
set_option maxRecDepth 100000 in
set_option maxHeartbeats 8000000 in
theorem line_word4 (w : World) (B r mb : Nat) (n : Int) (v : Value) (l : List Edg) (h : RdrIs w B r mb n v l) (Aw : Option Addr) (cw : Nat) (x y z u : ByteArray) (hw : Sl w 1 Aw 4 ([x, y, z, u].map Value.string)) (hx : x ≠ wEdge) (hx2 : x ≠ wBoth) (hn : n ≠ 0) :
    Calls Tryd.prog 30 #[.pointer (some ⟨r, 0, none⟩), .slice Aw 4 cw] w (LineP w B r mb v none) := by
  have hnb : (n == 0) = false := by simp [hn]
  obtain ⟨b, oo, rfl, hb, hc⟩ := words_at (ws := [x, y, z, u]) hw (by simp)
  have c0 := (World.cell?_alloc_lt w (.cells #[.int .i64 0, .int .i64 0, .int .i64 0] 35) ⟨b, oo + 0, none⟩ hb).trans (hc 0 x rfl)
  simp only [Nat.add_zero] at c0
  have hx1 : (!x.toList == [101, 100, 103, 101]) = true := by rw [← wE_list, bytes_ne_ hx]; rfl
  have hx3 : (!x.toList == [98, 111, 116, 104]) = true := by rw [← wB_list, bytes_ne_ hx2]; rfl
  have b0 := (h.below ((Below.refl w.heap.size w).alloc (Nat.le_refl _) (.cells #[.int .i64 0, .int .i64 0, .int .i64 0] 35))).blk.cell 0
  simp only [List.getElem?_toArray, List.getElem?_cons_zero] at b0
  have HB := Lib.hid (((Below.refl w.heap.size w).alloc (Nat.le_refl _) (.cells #[.int .i64 0, .int .i64 0, .int .i64 0] 35)).mono (Nat.le_trans h.r (Nat.le_of_lt h.blk.lt)))
  clear h hx hx2 hw hc hn
  go_enter Tryd.func30, Tryd.ntmps30
  go_wp2
  refine' wp_scope_jumps (rest := _) 0 (fun a' w' => a'.tmps.size = 97 ∧ a'.defers = [] ∧ Below B w w') (fun _ _ => 0) ?hf ?first ?pass
  case hf => rfl
  case' first => skip
  · go_wp2
    go_step3
    exact ⟨rfl, rfl, rfl, HB.out⟩
  · rintro a' w' ⟨hs, hd, hb⟩
    obtain ⟨t, d⟩ := a'
    dsimp only at hs hd
    subst hd
    go_wp2
    go_ret
    refine ⟨hb, ?_⟩
    simp [hs]
set_option maxRecDepth 100000 in
set_option maxHeartbeats 8000000 in
theorem line_edge3 (w : World) (B r mb : Nat) (n : Int) (v : Value) (l : List Edg) (h : RdrIs w B r mb n v l) (Aw : Option Addr) (cw : Nat) (y z : ByteArray) (Bw : Nat) (hw : w.ownsRow Bw 9 1 (.slice Aw 3 cw) 3 ([wEdge, y, z].map Value.string)) (hsy : y.size ≤ 4294967296) (hsz : z.size ≤ 4294967296) (hF : Firsts w) (hn0 : n ≠ 0) (hn : n ≤ 512) (hl : l.length ≤ 8192) :
    Calls Tryd.prog 30 #[.pointer (some ⟨r, 0, none⟩), .slice Aw 3 cw] w (LineP w B r mb v (edgeP n l false (numB numW y 512, numB numW z 512, 1))) := by
  obtain ⟨b, cs, rfl, hb, hbs, hc⟩ := words_own (ws := [wEdge, y, z]) hw (by simp)
  have hz := firsts_lt hF
  have hW := ((Below.refl w.heap.size w).alloc (Nat.le_refl _) (.cells #[.int .i64 0, .int .i64 0, .int .i64 0] 35))
  have c0 := (hW.cell (p := ⟨b, 0, none⟩) hb).trans (hc 0 _ rfl)
  unfold wEdge at c0
  have hss : ∀ w', Below w.heap.size w w' → w'.cell? ⟨b, 1, none⟩ = some (.string y) ∧ w'.cell? ⟨b, 2, none⟩ = some (.string z) := fun w' hb' => ⟨(hb'.cell (p := ⟨b, 1, none⟩) hb).trans (hc 1 _ rfl), (hb'.cell (p := ⟨b, 2, none⟩) hb).trans (hc 2 _ rfl)⟩
  have hs0 : ∀ w', Below w.heap.size w w' → w'.cell? ⟨b, 0, none⟩ = some (.string wEdge) := fun w' hb' => (hb'.cell (p := ⟨b, 0, none⟩) hb).trans (hc 0 _ rfl)
  have h1 := h.below hW
  have b0 := h1.blk.cell 0
  simp only [List.getElem?_toArray, List.getElem?_cons_zero] at b0
  have hnb : (n == 0) = false := by simp [hn0]
  have hn1 := fun W (hF : Firsts W) => number_b y 512 W hsy hF
  have hn2 := fun W (hF : Firsts W) => number_b z 512 W hsz hF
  generalize numB numW y 512 = p at *
  generalize numB numW z 512 = q at *
  have hkz := Blk.new w 35 #[.int .i64 0, .int .i64 0, .int .i64 0]
  have HSS := Lib.hid hss; have HS0 := Lib.hid hs0; have HBW := Lib.hid hW; have HN1 := Lib.hid hn1; have HN2 := Lib.hid hn2; have HF := Lib.hid hF; have KZ := Lib.hid hkz; have HH := Lib.hid h; have HB0 := Lib.hid (And.intro hb hbs)
  clear hss hs0 hW hn1 hn2 hF hkz h h1 hc hw hn0 hb hbs
  go_enter Tryd.func30, Tryd.ntmps30
  go_wp2
  refine' wp_scope_jumps (rest := _) 0 (fun a' w' => a'.tmps.size = 97 ∧ a'.defers = [] ∧ Below B w w' ∧ edgeP n l false (p, q, 1) = none) (fun _ _ => 0) ?hf ?first ?pass
  case hf => rfl
  case' first => skip
  · go_wp2_with fail
    refine wp_region_noPanic ?_
    refine wp_region_held_drew (S := (fun w' => w'.cell? ⟨b, 1, none⟩ = some (.string y) ∧ w'.cell? ⟨b, 2, none⟩ = some (.string z))) (by kernel_rfl) ?_ (fun hHeld => ?_)
    · exact HSS.out _ (below_drewN HBW.out 1)
    refine wpAnyH_take (i := 0) (v := ?v0g1_) rfl (by kernel_rfl) (by kernel_rfl) (by kernel_rfl) (fun _ _ _ h => h) (Or.inl ⟨by rfl, ?y0g1_⟩) (by assumption) ?r0g1_
    case y0g1_ => (intro w hSw; (try dsimp only at hSw); go_simp; try with_reducible rfl)
    change wpAnyH _ _ _ _ _ _ _ (Act.put _ (some 56) _) _; simp only [Act.put, List.setIfInBounds_toArray, List.set_cons_zero, List.set_cons_succ]
    refine wpAnyH_take (i := 1) (v := ?v1g1_) rfl (by kernel_rfl) (by kernel_rfl) (by kernel_rfl) (fun _ _ _ h => h) (Or.inl ⟨by rfl, ?y1g1_⟩) (by assumption) ?r1g1_
    case y1g1_ => (intro w hSw; (try dsimp only at hSw); go_simp; try with_reducible rfl)
    change wpAnyH _ _ _ _ _ _ _ (Act.put _ (some 57) _) _; simp only [Act.put, List.setIfInBounds_toArray, List.set_cons_zero, List.set_cons_succ]
    refine wpAnyH_take (i := 2) (v := ?v2g1_) rfl (by kernel_rfl) (by kernel_rfl) (by kernel_rfl) (fun _ _ _ h => h) (Or.inl ⟨by rfl, ?y2g1_⟩) (by assumption) ?r2g1_
    case y2g1_ => (intro w hSw; (try dsimp only at hSw); go_simp; try with_reducible rfl)
    change wpAnyH _ _ _ _ _ _ _ (Act.put _ (some 58) _) _; simp only [Act.put, List.setIfInBounds_toArray, List.set_cons_zero, List.set_cons_succ]
    refine wpAnyH_take (i := 4) (v := ?v4g1_) rfl (by kernel_rfl) (by kernel_rfl) (by kernel_rfl) (fun _ _ _ h => h) (Or.inl ⟨by rfl, ?y4g1_⟩) (by assumption) ?r4g1_
    case y4g1_ => (intro w hSw; (try dsimp only at hSw); go_simp; try with_reducible rfl)
    change wpAnyH _ _ _ _ _ _ _ (Act.put _ (some 60) _) _; simp only [Act.put, List.setIfInBounds_toArray, List.set_cons_zero, List.set_cons_succ]
    refine wpAnyH_take (i := 5) (v := ?v5g1_) rfl (by kernel_rfl) (by kernel_rfl) (by kernel_rfl) (fun _ _ _ h => h) (Or.inl ⟨by rfl, ?y5g1_⟩) (by assumption) ?r5g1_
    case y5g1_ => (intro w hSw; (try dsimp only at hSw); go_simp; try with_reducible rfl)
    change wpAnyH _ _ _ _ _ _ _ (Act.put _ (some 61) _) _; simp only [Act.put, List.setIfInBounds_toArray, List.set_cons_zero, List.set_cons_succ]
    refine wpAnyH_take (i := 6) (v := ?v6g1_) rfl (by kernel_rfl) (by kernel_rfl) (by kernel_rfl) (fun _ _ _ h => h) (Or.inl ⟨by rfl, ?y6g1_⟩) (by assumption) ?r6g1_
    case y6g1_ => (intro w hSw; (try dsimp only at hSw); go_simp; try with_reducible rfl)
    change wpAnyH _ _ _ _ _ _ _ (Act.put _ (some 62) _) _; simp only [Act.put, List.setIfInBounds_toArray, List.set_cons_zero, List.set_cons_succ]
    refine wpAnyH_ready (rs := [3]) (by kernel_rfl) (by simp) ?_
    refine AllReadyH.cons rfl (fun K hK => ?_) AllReadyH.nil
    go_simp
    refine (HN1.out _ (firsts_below HF.out (below_drewN HBW.out 1) hz)).mono ?_
    rintro R2 w2 ⟨rfl, hb2⟩
    have kz2 := KZ.out.below (undrew hb2) (by simp)
    have HB2 := Lib.hid (HBW.out.trans ((undrew hb2).mono HBW.out.size))
    have KZ2 := Lib.hid kz2
    clear hb2 kz2
    dsimp only
    refine hK.out _ _ ?_ (fun hHeld => ?_)
    · exact HSS.out _ HB2.out
    clear hK K
    try simp only [Act.put, List.setIfInBounds_toArray, List.set_cons_zero, List.set_cons_succ]
    refine wpAnyH_ready (rs := [7]) (by kernel_rfl) (by simp) ?_
    refine AllReadyH.cons rfl (fun K hK => ?_) AllReadyH.nil
    go_simp
    refine (HN2.out _ (firsts_below HF.out HB2.out hz)).mono ?_
    rintro R3 w3 ⟨rfl, hb3⟩
    have kz3 := KZ2.out.below hb3 KZ2.out.lt
    have HB3 := Lib.hid (HB2.out.trans (hb3.mono HB2.out.size))
    have z0 := kz3.cell 0; have z1 := kz3.cell 1; have z2 := kz3.cell 2; have y0 := kz3.frozen 0; have y1 := kz3.frozen 1; have y2 := kz3.frozen 2
    simp only [List.getElem?_toArray, List.getElem?_cons_zero, List.getElem?_cons_succ] at z0 z1 z2
    have hzl := kz3.lt
    have KZ3 := Lib.hid kz3
    clear hb3 kz3
    dsimp only
    refine hK.out _ _ ?_ (fun hHeld => ?_)
    · exact HSS.out _ HB3.out
    clear hK K
    try simp only [Act.put, List.setIfInBounds_toArray, List.set_cons_zero, List.set_cons_succ]
    refine wpAnyH_take (i := 8) (v := ?v8g1_) rfl (by kernel_rfl) (by kernel_rfl) (by kernel_rfl) (fun _ _ _ h => h) (Or.inl ⟨by rfl, ?y8g1_⟩) (by assumption) ?r8g1_
    case y8g1_ => (intro w hSw; (try dsimp only at hSw); go_simp; try with_reducible rfl)
    change wpAnyH _ _ _ _ _ _ _ (Act.put _ (some 64) _) _; simp only [Act.put, List.setIfInBounds_toArray, List.set_cons_zero, List.set_cons_succ]
    refine wpAnyH_ready (rs := [9]) (by kernel_rfl) (by simp) ?_
    refine AllReadyH.cons rfl (fun K hK => ?_) AllReadyH.nil
    go_simp
    refine hK.out _ _ ?_ (fun hHeld => ?_)
    · exact HSS.out _ (((HB3.out.setCell (p := ⟨w.heap.size, 0, none⟩) (Nat.le_refl _) _).setCell (p := ⟨w.heap.size, 1, none⟩) (Nat.le_refl _) _).setCell (p := ⟨w.heap.size, 2, none⟩) (Nat.le_refl _) _)
    clear hK K
    try simp only [Act.put, List.setIfInBounds_toArray, List.set_cons_zero, List.set_cons_succ]
    refine wpAnyH_done (by kernel_rfl) ?_ _
    refine NoPanic.normal ?_
    have hB4 := ((HB3.out.setCell (p := ⟨w.heap.size, 0, none⟩) (Nat.le_refl _) (.int .i64 p)).setCell (p := ⟨w.heap.size, 1, none⟩) (Nat.le_refl _) (.int .i64 q)).setCell (p := ⟨w.heap.size, 2, none⟩) (Nat.le_refl _) (.int .i64 1)
    have hk4 : Blk (((w3.setCell ⟨w.heap.size, 0, none⟩ (.int .i64 p)).setCell ⟨w.heap.size, 1, none⟩ (.int .i64 q)).setCell ⟨w.heap.size, 2, none⟩ (.int .i64 1)) w.heap.size 35 #[.int .i64 p, .int .i64 q, .int .i64 1] := ((KZ3.out.set_ 0 (.int .i64 p)).set_ 1 (.int .i64 q)).set_ 2 (.int .i64 1)
    obtain ⟨w4, hw4⟩ : ∃ w4, (((w3.setCell ⟨w.heap.size, 0, none⟩ (.int .i64 p)).setCell ⟨w.heap.size, 1, none⟩ (.int .i64 q)).setCell ⟨w.heap.size, 2, none⟩ (.int .i64 1)) = w4 := ⟨_, rfl⟩
    rw [hw4] at hB4 hk4 ⊢
    clear hw4 z0 z1 z2 y0 y1 y2 hzl KZ3 KZ2 HB3 HB2 b0 c0
    have k0 := hk4.cell 0; have k1 := hk4.cell 1; have k2 := hk4.cell 2
    simp only [List.getElem?_toArray, List.getElem?_cons_zero, List.getElem?_cons_succ] at k0 k1 k2
    have h4 := HH.out.below hB4
    have hcon := addR_any_ w4 B r mb n v l (p, q, 1) h4 hn hl
    have HC := Lib.hid hcon; have H4 := Lib.hid h4; have HB4 := Lib.hid hB4; have HK4 := Lib.hid hk4
    clear hcon h4 hB4 hk4
    go_wp2_with fail
    refine HC.out.mono ?_
    rintro R6 w6 h6
    clear k0 k1 k2
    have hBw := Nat.le_trans HH.out.r (Nat.le_of_lt HH.out.blk.lt)
    cases ho : addP n l (p, q, 1) with
    | none =>
      rw [ho] at h6
      obtain ⟨rfl, hb6⟩ := h6
      have HB6 := Lib.hid ((HB4.out.trans (hb6.mono HB4.out.size)).mono hBw)
      have HNO := Lib.hid ho
      clear hb6 ho
      go_wp2
      go_step3
      exact ⟨rfl, rfl, rfl, HB6.out, by unfold edgeP; rw [HNO.out]⟩
    | some m =>
      rw [ho] at h6
      obtain ⟨rfl, hb6, v6, h6, hv6, hst⟩ := h6
      have hB6 := (HB4.out.mono hBw).trans hb6
      have hcx := (HS0.out _ HB4.out)
      have hres : edgeP n l false (p, q, 1) = some (n, m) := by unfold edgeP; rw [ho]; simp
      have hne1 : w.heap.size ≠ r := fun e' => by have := HH.out.blk.lt; omega
      have hne2 : w.heap.size ≠ mb := fun e' => by have := HH.out.seen.lt; omega
      have hne3 : some w.heap.size ≠ v.ownBlock := fun e' => by have := (HH.out.own.lt _ e'.symm).2; omega
      have hk6 := hst.blk HK4.out hne1 hne2 hne3
      have hbw : b < w.heap.size := HB0.out.1
      have hbn1 : b ≠ r := fun e' => by
        have h7 := HB0.out.2
        rw [e'] at h7
        have h8 := HH.out.blk
        unfold Blk at h8
        rw [h8] at h7
        injection h7 with h7
        injection h7 with _ h9
        exact absurd h9 (by decide)
      have hbn2 : b ≠ mb := fun e' => HH.out.seen.no_cells HB0.out.2 e'.symm
      have hbn3 : some b ≠ v.ownBlock := fun e' => own_blk_ne HH.out.own (HB0.out.2 : Blk w b 9 cs) (by decide) e'.symm
      have hstw : Stay r mb v.ownBlock w w6 := (Stay.of_below HB4.out).trans hst (.inl rfl)
      have q0 : w6.cell? ⟨b, 0, none⟩ = some (.string ⟨#[101, 100, 103, 101]⟩) := (World.cell?_of_block (a := ⟨b, 0, none⟩) (hst.block b (Nat.lt_of_lt_of_le hbw HB4.out.size) hbn1 hbn2 hbn3)).trans hcx
      have HRES := Lib.hid hres; have HST := Lib.hid hstw; have H6 := Lib.hid h6; have HB6 := Lib.hid hB6; have HV6 := Lib.hid hv6
      clear hres hst hstw h6 hB6 hb6 hv6 hk6 ho hcx hne1 hne2 hne3
      go_wp2
      simp only [Exit.jump]
      go_ret
      rw [HRES.out]
      exact ⟨HB6.out, rfl, v6, H6.out, HV6.out.imp id (fun ⟨g, h1, h2⟩ => ⟨g, h1, Nat.le_trans HB4.out.size h2⟩), HST.out⟩
  · rintro a' w' ⟨hs, hd, hb, ho⟩
    obtain ⟨t, d⟩ := a'
    dsimp only at hs hd
    subst hd
    have HO := Lib.hid ho
    clear ho
    go_wp2
    go_ret
    rw [HO.out]
    refine ⟨hb, ?_⟩
    simp [hs]
set_option maxRecDepth 100000 in
set_option maxHeartbeats 8000000 in
theorem line_edge4 (w : World) (B r mb : Nat) (n : Int) (v : Value) (l : List Edg) (h : RdrIs w B r mb n v l) (Aw : Option Addr) (cw : Nat) (y z : ByteArray) (u : ByteArray) (hsu : u.size ≤ 4294967296) (Bw : Nat) (hw : w.ownsRow Bw 9 1 (.slice Aw 4 cw) 4 ([wEdge, y, z, u].map Value.string)) (hsy : y.size ≤ 4294967296) (hsz : z.size ≤ 4294967296) (hF : Firsts w) (hn0 : n ≠ 0) (hn : n ≤ 512) (hl : l.length ≤ 8192) :
    Calls Tryd.prog 30 #[.pointer (some ⟨r, 0, none⟩), .slice Aw 4 cw] w (LineP w B r mb v (edgeP n l false (numB numW y 512, numB numW z 512, numB numW u 2147483648))) := by
  obtain ⟨b, cs, rfl, hb, hbs, hc⟩ := words_own (ws := [wEdge, y, z, u]) hw (by simp)
  have hz := firsts_lt hF
  have hW := ((Below.refl w.heap.size w).alloc (Nat.le_refl _) (.cells #[.int .i64 0, .int .i64 0, .int .i64 0] 35))
  have c0 := (hW.cell (p := ⟨b, 0, none⟩) hb).trans (hc 0 _ rfl)
  unfold wEdge at c0
  have hss : ∀ w', Below w.heap.size w w' → w'.cell? ⟨b, 1, none⟩ = some (.string y) ∧ w'.cell? ⟨b, 2, none⟩ = some (.string z) := fun w' hb' => ⟨(hb'.cell (p := ⟨b, 1, none⟩) hb).trans (hc 1 _ rfl), (hb'.cell (p := ⟨b, 2, none⟩) hb).trans (hc 2 _ rfl)⟩
  have hs0 : ∀ w', Below w.heap.size w w' → w'.cell? ⟨b, 0, none⟩ = some (.string wEdge) := fun w' hb' => (hb'.cell (p := ⟨b, 0, none⟩) hb).trans (hc 0 _ rfl)
  have hs3 : ∀ w', Below w.heap.size w w' → w'.cell? ⟨b, 3, none⟩ = some (.string u) := fun w' hb' => (hb'.cell (p := ⟨b, 3, none⟩) hb).trans (hc 3 _ rfl)
  have hn3 := fun W (hF : Firsts W) => number_b u 2147483648 W hsu hF
  have h1 := h.below hW
  have b0 := h1.blk.cell 0
  simp only [List.getElem?_toArray, List.getElem?_cons_zero] at b0
  have hnb : (n == 0) = false := by simp [hn0]
  have hn1 := fun W (hF : Firsts W) => number_b y 512 W hsy hF
  have hn2 := fun W (hF : Firsts W) => number_b z 512 W hsz hF
  generalize numB numW y 512 = p at *
  generalize numB numW z 512 = q at *
  generalize numB numW u 2147483648 = wt at *
  have HN3 := Lib.hid hn3; have HS3 := Lib.hid hs3
  clear hn3 hs3
  have hkz := Blk.new w 35 #[.int .i64 0, .int .i64 0, .int .i64 0]
  have HSS := Lib.hid hss; have HS0 := Lib.hid hs0; have HBW := Lib.hid hW; have HN1 := Lib.hid hn1; have HN2 := Lib.hid hn2; have HF := Lib.hid hF; have KZ := Lib.hid hkz; have HH := Lib.hid h; have HB0 := Lib.hid (And.intro hb hbs)
  clear hss hs0 hW hn1 hn2 hF hkz h h1 hc hw hn0 hb hbs
  go_enter Tryd.func30, Tryd.ntmps30
  go_wp2
  refine' wp_scope_jumps (rest := _) 0 (fun a' w' => a'.tmps.size = 97 ∧ a'.defers = [] ∧ Below B w w' ∧ edgeP n l false (p, q, wt) = none) (fun _ _ => 0) ?hf ?first ?pass
  case hf => rfl
  case' first => skip
  · go_wp2_with fail
    refine wp_region_noPanic ?_
    refine wp_region_held_drew (S := (fun w' => w'.cell? ⟨b, 1, none⟩ = some (.string y) ∧ w'.cell? ⟨b, 2, none⟩ = some (.string z))) (by kernel_rfl) ?_ (fun hHeld => ?_)
    · exact HSS.out _ (below_drewN HBW.out 1)
    refine wpAnyH_take (i := 0) (v := ?v0g2_) rfl (by kernel_rfl) (by kernel_rfl) (by kernel_rfl) (fun _ _ _ h => h) (Or.inl ⟨by rfl, ?y0g2_⟩) (by assumption) ?r0g2_
    case y0g2_ => (intro w hSw; (try dsimp only at hSw); go_simp; try with_reducible rfl)
    change wpAnyH _ _ _ _ _ _ _ (Act.put _ (some 56) _) _; simp only [Act.put, List.setIfInBounds_toArray, List.set_cons_zero, List.set_cons_succ]
    refine wpAnyH_take (i := 1) (v := ?v1g2_) rfl (by kernel_rfl) (by kernel_rfl) (by kernel_rfl) (fun _ _ _ h => h) (Or.inl ⟨by rfl, ?y1g2_⟩) (by assumption) ?r1g2_
    case y1g2_ => (intro w hSw; (try dsimp only at hSw); go_simp; try with_reducible rfl)
    change wpAnyH _ _ _ _ _ _ _ (Act.put _ (some 57) _) _; simp only [Act.put, List.setIfInBounds_toArray, List.set_cons_zero, List.set_cons_succ]
    refine wpAnyH_take (i := 2) (v := ?v2g2_) rfl (by kernel_rfl) (by kernel_rfl) (by kernel_rfl) (fun _ _ _ h => h) (Or.inl ⟨by rfl, ?y2g2_⟩) (by assumption) ?r2g2_
    case y2g2_ => (intro w hSw; (try dsimp only at hSw); go_simp; try with_reducible rfl)
    change wpAnyH _ _ _ _ _ _ _ (Act.put _ (some 58) _) _; simp only [Act.put, List.setIfInBounds_toArray, List.set_cons_zero, List.set_cons_succ]
    refine wpAnyH_take (i := 4) (v := ?v4g2_) rfl (by kernel_rfl) (by kernel_rfl) (by kernel_rfl) (fun _ _ _ h => h) (Or.inl ⟨by rfl, ?y4g2_⟩) (by assumption) ?r4g2_
    case y4g2_ => (intro w hSw; (try dsimp only at hSw); go_simp; try with_reducible rfl)
    change wpAnyH _ _ _ _ _ _ _ (Act.put _ (some 60) _) _; simp only [Act.put, List.setIfInBounds_toArray, List.set_cons_zero, List.set_cons_succ]
    refine wpAnyH_take (i := 5) (v := ?v5g2_) rfl (by kernel_rfl) (by kernel_rfl) (by kernel_rfl) (fun _ _ _ h => h) (Or.inl ⟨by rfl, ?y5g2_⟩) (by assumption) ?r5g2_
    case y5g2_ => (intro w hSw; (try dsimp only at hSw); go_simp; try with_reducible rfl)
    change wpAnyH _ _ _ _ _ _ _ (Act.put _ (some 61) _) _; simp only [Act.put, List.setIfInBounds_toArray, List.set_cons_zero, List.set_cons_succ]
    refine wpAnyH_take (i := 6) (v := ?v6g2_) rfl (by kernel_rfl) (by kernel_rfl) (by kernel_rfl) (fun _ _ _ h => h) (Or.inl ⟨by rfl, ?y6g2_⟩) (by assumption) ?r6g2_
    case y6g2_ => (intro w hSw; (try dsimp only at hSw); go_simp; try with_reducible rfl)
    change wpAnyH _ _ _ _ _ _ _ (Act.put _ (some 62) _) _; simp only [Act.put, List.setIfInBounds_toArray, List.set_cons_zero, List.set_cons_succ]
    refine wpAnyH_ready (rs := [3]) (by kernel_rfl) (by simp) ?_
    refine AllReadyH.cons rfl (fun K hK => ?_) AllReadyH.nil
    go_simp
    refine (HN1.out _ (firsts_below HF.out (below_drewN HBW.out 1) hz)).mono ?_
    rintro R2 w2 ⟨rfl, hb2⟩
    have kz2 := KZ.out.below (undrew hb2) (by simp)
    have HB2 := Lib.hid (HBW.out.trans ((undrew hb2).mono HBW.out.size))
    have KZ2 := Lib.hid kz2
    clear hb2 kz2
    dsimp only
    refine hK.out _ _ ?_ (fun hHeld => ?_)
    · exact HSS.out _ HB2.out
    clear hK K
    try simp only [Act.put, List.setIfInBounds_toArray, List.set_cons_zero, List.set_cons_succ]
    refine wpAnyH_ready (rs := [7]) (by kernel_rfl) (by simp) ?_
    refine AllReadyH.cons rfl (fun K hK => ?_) AllReadyH.nil
    go_simp
    refine (HN2.out _ (firsts_below HF.out HB2.out hz)).mono ?_
    rintro R3 w3 ⟨rfl, hb3⟩
    have kz3 := KZ2.out.below hb3 KZ2.out.lt
    have HB3 := Lib.hid (HB2.out.trans (hb3.mono HB2.out.size))
    have z0 := kz3.cell 0; have z1 := kz3.cell 1; have z2 := kz3.cell 2; have y0 := kz3.frozen 0; have y1 := kz3.frozen 1; have y2 := kz3.frozen 2
    simp only [List.getElem?_toArray, List.getElem?_cons_zero, List.getElem?_cons_succ] at z0 z1 z2
    have hzl := kz3.lt
    have KZ3 := Lib.hid kz3
    clear hb3 kz3
    dsimp only
    refine hK.out _ _ ?_ (fun hHeld => ?_)
    · exact HSS.out _ HB3.out
    clear hK K
    try simp only [Act.put, List.setIfInBounds_toArray, List.set_cons_zero, List.set_cons_succ]
    refine wpAnyH_take (i := 8) (v := ?v8g2_) rfl (by kernel_rfl) (by kernel_rfl) (by kernel_rfl) (fun _ _ _ h => h) (Or.inl ⟨by rfl, ?y8g2_⟩) (by assumption) ?r8g2_
    case y8g2_ => (intro w hSw; (try dsimp only at hSw); go_simp; try with_reducible rfl)
    change wpAnyH _ _ _ _ _ _ _ (Act.put _ (some 64) _) _; simp only [Act.put, List.setIfInBounds_toArray, List.set_cons_zero, List.set_cons_succ]
    refine wpAnyH_ready (rs := [9]) (by kernel_rfl) (by simp) ?_
    refine AllReadyH.cons rfl (fun K hK => ?_) AllReadyH.nil
    go_simp
    refine hK.out _ _ ?_ (fun hHeld => ?_)
    · exact HSS.out _ (((HB3.out.setCell (p := ⟨w.heap.size, 0, none⟩) (Nat.le_refl _) _).setCell (p := ⟨w.heap.size, 1, none⟩) (Nat.le_refl _) _).setCell (p := ⟨w.heap.size, 2, none⟩) (Nat.le_refl _) _)
    clear hK K
    try simp only [Act.put, List.setIfInBounds_toArray, List.set_cons_zero, List.set_cons_succ]
    refine wpAnyH_done (by kernel_rfl) ?_ _
    refine NoPanic.normal ?_
    have hB4 := ((HB3.out.setCell (p := ⟨w.heap.size, 0, none⟩) (Nat.le_refl _) (.int .i64 p)).setCell (p := ⟨w.heap.size, 1, none⟩) (Nat.le_refl _) (.int .i64 q)).setCell (p := ⟨w.heap.size, 2, none⟩) (Nat.le_refl _) (.int .i64 1)
    have hk4 : Blk (((w3.setCell ⟨w.heap.size, 0, none⟩ (.int .i64 p)).setCell ⟨w.heap.size, 1, none⟩ (.int .i64 q)).setCell ⟨w.heap.size, 2, none⟩ (.int .i64 1)) w.heap.size 35 #[.int .i64 p, .int .i64 q, .int .i64 1] := ((KZ3.out.set_ 0 (.int .i64 p)).set_ 1 (.int .i64 q)).set_ 2 (.int .i64 1)
    obtain ⟨w4, hw4⟩ : ∃ w4, (((w3.setCell ⟨w.heap.size, 0, none⟩ (.int .i64 p)).setCell ⟨w.heap.size, 1, none⟩ (.int .i64 q)).setCell ⟨w.heap.size, 2, none⟩ (.int .i64 1)) = w4 := ⟨_, rfl⟩
    rw [hw4] at hB4 hk4 ⊢
    clear hw4 z0 z1 z2 y0 y1 y2 hzl KZ3 KZ2 HB3 HB2 b0 c0
    have c3 := HS3.out _ hB4
    have hf4 := firsts_below HF.out hB4 hz
    have hl4 := hk4.lt
    have HB4 := Lib.hid hB4; have HK4 := Lib.hid hk4
    clear hB4 hk4
    go_wp2_with fail
    refine (HN3.out _ hf4).mono ?_
    rintro R5 w5 ⟨rfl, hb5⟩
    have hB5 := HB4.out.trans (hb5.mono HB4.out.size)
    have hk5 := HK4.out.below hb5 hl4
    have z2 := hk5.cell 2; have y2 := hk5.frozen 2
    simp only [List.getElem?_toArray, List.getElem?_cons_zero, List.getElem?_cons_succ] at z2
    have hB6 := hB5.setCell (p := ⟨w.heap.size, 2, none⟩) (Nat.le_refl _) (.int .i64 wt)
    have hk6 : Blk (w5.setCell ⟨w.heap.size, 2, none⟩ (.int .i64 wt)) w.heap.size 35 #[.int .i64 p, .int .i64 q, .int .i64 wt] := hk5.set_ 2 (.int .i64 wt)
    have HK6 := Lib.hid hk6; have HB6 := Lib.hid hB6
    clear hB5 hk5 hb5 hf4 c3 hl4 hB6 hk6
    go_upto_region 11 with (fail)
    obtain ⟨w4, hw4⟩ : ∃ w4, w5.setCell ⟨w.heap.size, 2, none⟩ (.int .i64 wt) = w4 := ⟨_, rfl⟩
    have hB4 := HB6.out
    have hk4 := HK6.out
    rw [hw4] at hB4 hk4 ⊢
    clear hw4 z2 y2 HK6 HB6 HB4 HK4
    have k0 := hk4.cell 0; have k1 := hk4.cell 1; have k2 := hk4.cell 2
    simp only [List.getElem?_toArray, List.getElem?_cons_zero, List.getElem?_cons_succ] at k0 k1 k2
    have h4 := HH.out.below hB4
    have hcon := addR_any_ w4 B r mb n v l (p, q, wt) h4 hn hl
    have HC := Lib.hid hcon; have H4 := Lib.hid h4; have HB4 := Lib.hid hB4; have HK4 := Lib.hid hk4
    clear hcon h4 hB4 hk4
    go_wp2_with fail
    refine HC.out.mono ?_
    rintro R6 w6 h6
    clear k0 k1 k2
    have hBw := Nat.le_trans HH.out.r (Nat.le_of_lt HH.out.blk.lt)
    cases ho : addP n l (p, q, wt) with
    | none =>
      rw [ho] at h6
      obtain ⟨rfl, hb6⟩ := h6
      have HB6 := Lib.hid ((HB4.out.trans (hb6.mono HB4.out.size)).mono hBw)
      have HNO := Lib.hid ho
      clear hb6 ho
      go_wp2
      go_step3
      exact ⟨rfl, rfl, rfl, HB6.out, by unfold edgeP; rw [HNO.out]⟩
    | some m =>
      rw [ho] at h6
      obtain ⟨rfl, hb6, v6, h6, hv6, hst⟩ := h6
      have hB6 := (HB4.out.mono hBw).trans hb6
      have hcx := (HS0.out _ HB4.out)
      have hres : edgeP n l false (p, q, wt) = some (n, m) := by unfold edgeP; rw [ho]; simp
      have hne1 : w.heap.size ≠ r := fun e' => by have := HH.out.blk.lt; omega
      have hne2 : w.heap.size ≠ mb := fun e' => by have := HH.out.seen.lt; omega
      have hne3 : some w.heap.size ≠ v.ownBlock := fun e' => by have := (HH.out.own.lt _ e'.symm).2; omega
      have hk6 := hst.blk HK4.out hne1 hne2 hne3
      have hbw : b < w.heap.size := HB0.out.1
      have hbn1 : b ≠ r := fun e' => by
        have h7 := HB0.out.2
        rw [e'] at h7
        have h8 := HH.out.blk
        unfold Blk at h8
        rw [h8] at h7
        injection h7 with h7
        injection h7 with _ h9
        exact absurd h9 (by decide)
      have hbn2 : b ≠ mb := fun e' => HH.out.seen.no_cells HB0.out.2 e'.symm
      have hbn3 : some b ≠ v.ownBlock := fun e' => own_blk_ne HH.out.own (HB0.out.2 : Blk w b 9 cs) (by decide) e'.symm
      have hstw : Stay r mb v.ownBlock w w6 := (Stay.of_below HB4.out).trans hst (.inl rfl)
      have q0 : w6.cell? ⟨b, 0, none⟩ = some (.string ⟨#[101, 100, 103, 101]⟩) := (World.cell?_of_block (a := ⟨b, 0, none⟩) (hst.block b (Nat.lt_of_lt_of_le hbw HB4.out.size) hbn1 hbn2 hbn3)).trans hcx
      have HRES := Lib.hid hres; have HST := Lib.hid hstw; have H6 := Lib.hid h6; have HB6 := Lib.hid hB6; have HV6 := Lib.hid hv6
      clear hres hst hstw h6 hB6 hb6 hv6 hk6 ho hcx hne1 hne2 hne3
      go_wp2
      simp only [Exit.jump]
      go_ret
      rw [HRES.out]
      exact ⟨HB6.out, rfl, v6, H6.out, HV6.out.imp id (fun ⟨g, h1, h2⟩ => ⟨g, h1, Nat.le_trans HB4.out.size h2⟩), HST.out⟩
  · rintro a' w' ⟨hs, hd, hb, ho⟩
    obtain ⟨t, d⟩ := a'
    dsimp only at hs hd
    subst hd
    have HO := Lib.hid ho
    clear ho
    go_wp2
    go_ret
    rw [HO.out]
    refine ⟨hb, ?_⟩
    simp [hs]
set_option maxRecDepth 100000 in
set_option maxHeartbeats 8000000 in
theorem line_both3 (w : World) (B r mb : Nat) (n : Int) (v : Value) (l : List Edg) (h : RdrIs w B r mb n v l) (Aw : Option Addr) (cw : Nat) (y z : ByteArray) (Bw : Nat) (hw : w.ownsRow Bw 9 1 (.slice Aw 3 cw) 3 ([wBoth, y, z].map Value.string)) (hsy : y.size ≤ 4294967296) (hsz : z.size ≤ 4294967296) (hF : Firsts w) (hn0 : n ≠ 0) (hn : n ≤ 512) (hl : l.length ≤ 8192) :
    Calls Tryd.prog 30 #[.pointer (some ⟨r, 0, none⟩), .slice Aw 3 cw] w (LineP w B r mb v (edgeP n l true (numB numW y 512, numB numW z 512, 1))) := by
  obtain ⟨b, cs, rfl, hb, hbs, hc⟩ := words_own (ws := [wBoth, y, z]) hw (by simp)
  have hz := firsts_lt hF
  have hW := ((Below.refl w.heap.size w).alloc (Nat.le_refl _) (.cells #[.int .i64 0, .int .i64 0, .int .i64 0] 35))
  have c0 := (hW.cell (p := ⟨b, 0, none⟩) hb).trans (hc 0 _ rfl)
  unfold wBoth at c0
  have hss : ∀ w', Below w.heap.size w w' → w'.cell? ⟨b, 1, none⟩ = some (.string y) ∧ w'.cell? ⟨b, 2, none⟩ = some (.string z) := fun w' hb' => ⟨(hb'.cell (p := ⟨b, 1, none⟩) hb).trans (hc 1 _ rfl), (hb'.cell (p := ⟨b, 2, none⟩) hb).trans (hc 2 _ rfl)⟩
  have hs0 : ∀ w', Below w.heap.size w w' → w'.cell? ⟨b, 0, none⟩ = some (.string wBoth) := fun w' hb' => (hb'.cell (p := ⟨b, 0, none⟩) hb).trans (hc 0 _ rfl)
  have h1 := h.below hW
  have b0 := h1.blk.cell 0
  simp only [List.getElem?_toArray, List.getElem?_cons_zero] at b0
  have hnb : (n == 0) = false := by simp [hn0]
  have hn1 := fun W (hF : Firsts W) => number_b y 512 W hsy hF
  have hn2 := fun W (hF : Firsts W) => number_b z 512 W hsz hF
  generalize numB numW y 512 = p at *
  generalize numB numW z 512 = q at *
  have hkz := Blk.new w 35 #[.int .i64 0, .int .i64 0, .int .i64 0]
  have HSS := Lib.hid hss; have HS0 := Lib.hid hs0; have HBW := Lib.hid hW; have HN1 := Lib.hid hn1; have HN2 := Lib.hid hn2; have HF := Lib.hid hF; have KZ := Lib.hid hkz; have HH := Lib.hid h; have HB0 := Lib.hid (And.intro hb hbs)
  clear hss hs0 hW hn1 hn2 hF hkz h h1 hc hw hn0 hb hbs
  go_enter Tryd.func30, Tryd.ntmps30
  go_wp2
  refine' wp_scope_jumps (rest := _) 0 (fun a' w' => a'.tmps.size = 97 ∧ a'.defers = [] ∧ Below B w w' ∧ edgeP n l true (p, q, 1) = none) (fun _ _ => 0) ?hf ?first ?pass
  case hf => rfl
  case' first => skip
  · go_wp2_with fail
    refine wp_region_noPanic ?_
    refine wp_region_held_drew (S := (fun w' => w'.cell? ⟨b, 1, none⟩ = some (.string y) ∧ w'.cell? ⟨b, 2, none⟩ = some (.string z))) (by kernel_rfl) ?_ (fun hHeld => ?_)
    · exact HSS.out _ (below_drewN HBW.out 1)
    refine wpAnyH_take (i := 0) (v := ?v0g3_) rfl (by kernel_rfl) (by kernel_rfl) (by kernel_rfl) (fun _ _ _ h => h) (Or.inl ⟨by rfl, ?y0g3_⟩) (by assumption) ?r0g3_
    case y0g3_ => (intro w hSw; (try dsimp only at hSw); go_simp; try with_reducible rfl)
    change wpAnyH _ _ _ _ _ _ _ (Act.put _ (some 56) _) _; simp only [Act.put, List.setIfInBounds_toArray, List.set_cons_zero, List.set_cons_succ]
    refine wpAnyH_take (i := 1) (v := ?v1g3_) rfl (by kernel_rfl) (by kernel_rfl) (by kernel_rfl) (fun _ _ _ h => h) (Or.inl ⟨by rfl, ?y1g3_⟩) (by assumption) ?r1g3_
    case y1g3_ => (intro w hSw; (try dsimp only at hSw); go_simp; try with_reducible rfl)
    change wpAnyH _ _ _ _ _ _ _ (Act.put _ (some 57) _) _; simp only [Act.put, List.setIfInBounds_toArray, List.set_cons_zero, List.set_cons_succ]
    refine wpAnyH_take (i := 2) (v := ?v2g3_) rfl (by kernel_rfl) (by kernel_rfl) (by kernel_rfl) (fun _ _ _ h => h) (Or.inl ⟨by rfl, ?y2g3_⟩) (by assumption) ?r2g3_
    case y2g3_ => (intro w hSw; (try dsimp only at hSw); go_simp; try with_reducible rfl)
    change wpAnyH _ _ _ _ _ _ _ (Act.put _ (some 58) _) _; simp only [Act.put, List.setIfInBounds_toArray, List.set_cons_zero, List.set_cons_succ]
    refine wpAnyH_take (i := 4) (v := ?v4g3_) rfl (by kernel_rfl) (by kernel_rfl) (by kernel_rfl) (fun _ _ _ h => h) (Or.inl ⟨by rfl, ?y4g3_⟩) (by assumption) ?r4g3_
    case y4g3_ => (intro w hSw; (try dsimp only at hSw); go_simp; try with_reducible rfl)
    change wpAnyH _ _ _ _ _ _ _ (Act.put _ (some 60) _) _; simp only [Act.put, List.setIfInBounds_toArray, List.set_cons_zero, List.set_cons_succ]
    refine wpAnyH_take (i := 5) (v := ?v5g3_) rfl (by kernel_rfl) (by kernel_rfl) (by kernel_rfl) (fun _ _ _ h => h) (Or.inl ⟨by rfl, ?y5g3_⟩) (by assumption) ?r5g3_
    case y5g3_ => (intro w hSw; (try dsimp only at hSw); go_simp; try with_reducible rfl)
    change wpAnyH _ _ _ _ _ _ _ (Act.put _ (some 61) _) _; simp only [Act.put, List.setIfInBounds_toArray, List.set_cons_zero, List.set_cons_succ]
    refine wpAnyH_take (i := 6) (v := ?v6g3_) rfl (by kernel_rfl) (by kernel_rfl) (by kernel_rfl) (fun _ _ _ h => h) (Or.inl ⟨by rfl, ?y6g3_⟩) (by assumption) ?r6g3_
    case y6g3_ => (intro w hSw; (try dsimp only at hSw); go_simp; try with_reducible rfl)
    change wpAnyH _ _ _ _ _ _ _ (Act.put _ (some 62) _) _; simp only [Act.put, List.setIfInBounds_toArray, List.set_cons_zero, List.set_cons_succ]
    refine wpAnyH_ready (rs := [3]) (by kernel_rfl) (by simp) ?_
    refine AllReadyH.cons rfl (fun K hK => ?_) AllReadyH.nil
    go_simp
    refine (HN1.out _ (firsts_below HF.out (below_drewN HBW.out 1) hz)).mono ?_
    rintro R2 w2 ⟨rfl, hb2⟩
    have kz2 := KZ.out.below (undrew hb2) (by simp)
    have HB2 := Lib.hid (HBW.out.trans ((undrew hb2).mono HBW.out.size))
    have KZ2 := Lib.hid kz2
    clear hb2 kz2
    dsimp only
    refine hK.out _ _ ?_ (fun hHeld => ?_)
    · exact HSS.out _ HB2.out
    clear hK K
    try simp only [Act.put, List.setIfInBounds_toArray, List.set_cons_zero, List.set_cons_succ]
    refine wpAnyH_ready (rs := [7]) (by kernel_rfl) (by simp) ?_
    refine AllReadyH.cons rfl (fun K hK => ?_) AllReadyH.nil
    go_simp
    refine (HN2.out _ (firsts_below HF.out HB2.out hz)).mono ?_
    rintro R3 w3 ⟨rfl, hb3⟩
    have kz3 := KZ2.out.below hb3 KZ2.out.lt
    have HB3 := Lib.hid (HB2.out.trans (hb3.mono HB2.out.size))
    have z0 := kz3.cell 0; have z1 := kz3.cell 1; have z2 := kz3.cell 2; have y0 := kz3.frozen 0; have y1 := kz3.frozen 1; have y2 := kz3.frozen 2
    simp only [List.getElem?_toArray, List.getElem?_cons_zero, List.getElem?_cons_succ] at z0 z1 z2
    have hzl := kz3.lt
    have KZ3 := Lib.hid kz3
    clear hb3 kz3
    dsimp only
    refine hK.out _ _ ?_ (fun hHeld => ?_)
    · exact HSS.out _ HB3.out
    clear hK K
    try simp only [Act.put, List.setIfInBounds_toArray, List.set_cons_zero, List.set_cons_succ]
    refine wpAnyH_take (i := 8) (v := ?v8g3_) rfl (by kernel_rfl) (by kernel_rfl) (by kernel_rfl) (fun _ _ _ h => h) (Or.inl ⟨by rfl, ?y8g3_⟩) (by assumption) ?r8g3_
    case y8g3_ => (intro w hSw; (try dsimp only at hSw); go_simp; try with_reducible rfl)
    change wpAnyH _ _ _ _ _ _ _ (Act.put _ (some 64) _) _; simp only [Act.put, List.setIfInBounds_toArray, List.set_cons_zero, List.set_cons_succ]
    refine wpAnyH_ready (rs := [9]) (by kernel_rfl) (by simp) ?_
    refine AllReadyH.cons rfl (fun K hK => ?_) AllReadyH.nil
    go_simp
    refine hK.out _ _ ?_ (fun hHeld => ?_)
    · exact HSS.out _ (((HB3.out.setCell (p := ⟨w.heap.size, 0, none⟩) (Nat.le_refl _) _).setCell (p := ⟨w.heap.size, 1, none⟩) (Nat.le_refl _) _).setCell (p := ⟨w.heap.size, 2, none⟩) (Nat.le_refl _) _)
    clear hK K
    try simp only [Act.put, List.setIfInBounds_toArray, List.set_cons_zero, List.set_cons_succ]
    refine wpAnyH_done (by kernel_rfl) ?_ _
    refine NoPanic.normal ?_
    have hB4 := ((HB3.out.setCell (p := ⟨w.heap.size, 0, none⟩) (Nat.le_refl _) (.int .i64 p)).setCell (p := ⟨w.heap.size, 1, none⟩) (Nat.le_refl _) (.int .i64 q)).setCell (p := ⟨w.heap.size, 2, none⟩) (Nat.le_refl _) (.int .i64 1)
    have hk4 : Blk (((w3.setCell ⟨w.heap.size, 0, none⟩ (.int .i64 p)).setCell ⟨w.heap.size, 1, none⟩ (.int .i64 q)).setCell ⟨w.heap.size, 2, none⟩ (.int .i64 1)) w.heap.size 35 #[.int .i64 p, .int .i64 q, .int .i64 1] := ((KZ3.out.set_ 0 (.int .i64 p)).set_ 1 (.int .i64 q)).set_ 2 (.int .i64 1)
    obtain ⟨w4, hw4⟩ : ∃ w4, (((w3.setCell ⟨w.heap.size, 0, none⟩ (.int .i64 p)).setCell ⟨w.heap.size, 1, none⟩ (.int .i64 q)).setCell ⟨w.heap.size, 2, none⟩ (.int .i64 1)) = w4 := ⟨_, rfl⟩
    rw [hw4] at hB4 hk4 ⊢
    clear hw4 z0 z1 z2 y0 y1 y2 hzl KZ3 KZ2 HB3 HB2 b0 c0
    have k0 := hk4.cell 0; have k1 := hk4.cell 1; have k2 := hk4.cell 2
    simp only [List.getElem?_toArray, List.getElem?_cons_zero, List.getElem?_cons_succ] at k0 k1 k2
    have h4 := HH.out.below hB4
    have hcon := addR_any_ w4 B r mb n v l (p, q, 1) h4 hn hl
    have HC := Lib.hid hcon; have H4 := Lib.hid h4; have HB4 := Lib.hid hB4; have HK4 := Lib.hid hk4
    clear hcon h4 hB4 hk4
    go_wp2_with fail
    refine HC.out.mono ?_
    rintro R6 w6 h6
    clear k0 k1 k2
    have hBw := Nat.le_trans HH.out.r (Nat.le_of_lt HH.out.blk.lt)
    cases ho : addP n l (p, q, 1) with
    | none =>
      rw [ho] at h6
      obtain ⟨rfl, hb6⟩ := h6
      have HB6 := Lib.hid ((HB4.out.trans (hb6.mono HB4.out.size)).mono hBw)
      have HNO := Lib.hid ho
      clear hb6 ho
      go_wp2
      go_step3
      exact ⟨rfl, rfl, rfl, HB6.out, by unfold edgeP; rw [HNO.out]⟩
    | some m =>
      rw [ho] at h6
      obtain ⟨rfl, hb6, v6, h6, hv6, hst⟩ := h6
      have hB6 := (HB4.out.mono hBw).trans hb6
      have hcx := (HS0.out _ HB4.out)
      have hne1 : w.heap.size ≠ r := fun e' => by have := HH.out.blk.lt; omega
      have hne2 : w.heap.size ≠ mb := fun e' => by have := HH.out.seen.lt; omega
      have hne3 : some w.heap.size ≠ v.ownBlock := fun e' => by have := (HH.out.own.lt _ e'.symm).2; omega
      have hk6 := hst.blk HK4.out hne1 hne2 hne3
      have hbw : b < w.heap.size := HB0.out.1
      have hbn1 : b ≠ r := fun e' => by
        have h7 := HB0.out.2
        rw [e'] at h7
        have h8 := HH.out.blk
        unfold Blk at h8
        rw [h8] at h7
        injection h7 with h7
        injection h7 with _ h9
        exact absurd h9 (by decide)
      have hbn2 : b ≠ mb := fun e' => HH.out.seen.no_cells HB0.out.2 e'.symm
      have hbn3 : some b ≠ v.ownBlock := fun e' => own_blk_ne HH.out.own (HB0.out.2 : Blk w b 9 cs) (by decide) e'.symm
      have hstw : Stay r mb v.ownBlock w w6 := (Stay.of_below HB4.out).trans hst (.inl rfl)
      have q0 : w6.cell? ⟨b, 0, none⟩ = some (.string ⟨#[98, 111, 116, 104]⟩) := (World.cell?_of_block (a := ⟨b, 0, none⟩) (hst.block b (Nat.lt_of_lt_of_le hbw HB4.out.size) hbn1 hbn2 hbn3)).trans hcx
      have e0 := hk6.cell 0; have e1 := hk6.cell 1; have e2 := hk6.cell 2; have y0 := hk6.frozen 0; have y1 := hk6.frozen 1
      simp only [List.getElem?_toArray, List.getElem?_cons_zero, List.getElem?_cons_succ] at e0 e1 e2
      have hml : m.length ≤ 8192 := by
        obtain ⟨rfl, h8⟩ := addP_some ho
        simp; omega
      have hvn : v6.ownBlock ≠ some w.heap.size := by
        rcases hv6 with h7 | ⟨g, h7, h8⟩
        · rw [h7]; exact fun e' => hne3 e'.symm
        · rw [h7]; intro e'; injection e' with e'; have := HK4.out.lt; omega
      have HST := Lib.hid hstw; have H6 := Lib.hid h6; have HB6 := Lib.hid hB6; have HV6 := Lib.hid hv6
      have HK6 := Lib.hid hk6; have HN := Lib.hid (And.intro hne1 (And.intro hne2 hvn))
      by_cases hpq : p = q
      · have hres : edgeP n l true (p, q, 1) = some (n, m) := by unfold edgeP; rw [ho]; simp [hpq]
        have hpb : (p != q) = false := by simp [hpq]
        have HRES := Lib.hid hres
        clear hres hst hstw h6 hB6 hb6 hv6 hk6 ho hcx hne1 hne2 hne3 hpq hvn
        go_wp2
        simp only [Exit.jump]
        go_ret
        rw [HRES.out]
        exact ⟨HB6.out, rfl, v6, H6.out, HV6.out.imp id (fun ⟨g, h1, h2⟩ => ⟨g, h1, Nat.le_trans HB4.out.size h2⟩), HST.out⟩
      · have hres : edgeP n l true (p, q, 1) = (addP n m (q, p, 1)).map fun l2 => (n, l2) := by unfold edgeP; rw [ho]; simp [hpq]
        have hpb : (p != q) = true := by simp [hpq]
        have h7 : RdrIs ((w6.setCell ⟨w.heap.size, 0, none⟩ (.int .i64 q)).setCell ⟨w.heap.size, 1, none⟩ (.int .i64 p)) B r mb n v6 m := (h6.far HN.out.1 HN.out.2.1 HN.out.2.2 0 _).far HN.out.1 HN.out.2.1 HN.out.2.2 1 _
        have k7 : Blk ((w6.setCell ⟨w.heap.size, 0, none⟩ (.int .i64 q)).setCell ⟨w.heap.size, 1, none⟩ (.int .i64 p)) w.heap.size 35 #[.int .i64 q, .int .i64 p, .int .i64 1] := (hk6.set_ 0 (.int .i64 q)).set_ 1 (.int .i64 p)
        have hcon := addR_any_ _ B r mb n v6 m (q, p, 1) h7 hn hml
        have HRES := Lib.hid hres; have HC7 := Lib.hid hcon; have H7 := Lib.hid h7
        clear hres hst hstw h6 hB6 hb6 hv6 hk6 ho hcx hne1 hne2 hne3 hpq hvn hcon h7 k7
        go_wp2_with fail
        refine HC7.out.mono ?_
        rintro R8 w8 h8
        have hst7 : Stay r mb v.ownBlock w ((w6.setCell ⟨w.heap.size, 0, none⟩ (.int .i64 q)).setCell ⟨w.heap.size, 1, none⟩ (.int .i64 p)) := ⟨HST.out.os, HST.out.tape, HST.out.output, by simpa [World.setCell] using HST.out.size, fun g hg k1 k2 k3 => by
          rw [Below.heap_setCell _ _ _ _ (fun e' => by have e' : g = w.heap.size := e'; omega), Below.heap_setCell _ _ _ _ (fun e' => by have e' : g = w.heap.size := e'; omega)]
          exact HST.out.block g hg k1 k2 k3⟩
        have hB7 : Below B w ((w6.setCell ⟨w.heap.size, 0, none⟩ (.int .i64 q)).setCell ⟨w.heap.size, 1, none⟩ (.int .i64 p)) := (HB6.out.setCell (p := ⟨w.heap.size, 0, none⟩) hBw _).setCell (p := ⟨w.heap.size, 1, none⟩) hBw _
        cases ho2 : addP n m (q, p, 1) with
        | none =>
          rw [ho2] at h8
          obtain ⟨rfl, hb8⟩ := h8
          have HE := Lib.hid ho2
          have HB8 := Lib.hid (hB7.trans (hb8.mono (Nat.le_trans hBw hst7.size)))
          clear hb8 ho2 hst7 hB7 e0 e1 e2 y0 y1 q0
          go_wp2
          simp only [Exit.jump]
          go_ret
          rw [HRES.out, HE.out]
          exact ⟨HB8.out, rfl⟩
        | some m2 =>
          rw [ho2] at h8
          obtain ⟨rfl, hb8, v8, h8, hv8, hst8⟩ := h8
          have HE := Lib.hid ho2
          have hvr : v6.ownBlock = v.ownBlock ∨ ∃ g, v6.ownBlock = some g ∧ w.heap.size ≤ g := HV6.out.imp id (fun ⟨g, h1, h2⟩ => ⟨g, h1, Nat.le_trans HB4.out.size h2⟩)
          have HST8 := Lib.hid (hst7.trans hst8 hvr); have HB8 := Lib.hid (hB7.trans hb8); have H8 := Lib.hid h8
          have hv9 : v8.ownBlock = v.ownBlock ∨ ∃ g, v8.ownBlock = some g ∧ w.heap.size ≤ g := by
            rcases hv8 with h | ⟨g, h1, h2⟩
            · rw [h]; exact hvr
            · exact .inr ⟨g, h1, Nat.le_trans hst7.size h2⟩
          have HV9 := Lib.hid hv9
          clear hb8 ho2 hst7 hB7 hst8 hvr h8 hv8 hv9 e0 e1 e2 y0 y1 q0
          go_wp2
          simp only [Exit.jump]
          go_ret
          rw [HRES.out, HE.out]
          exact ⟨HB8.out, rfl, v8, H8.out, HV9.out, HST8.out⟩
  · rintro a' w' ⟨hs, hd, hb, ho⟩
    obtain ⟨t, d⟩ := a'
    dsimp only at hs hd
    subst hd
    have HO := Lib.hid ho
    clear ho
    go_wp2
    go_ret
    rw [HO.out]
    refine ⟨hb, ?_⟩
    simp [hs]
set_option maxRecDepth 100000 in
set_option maxHeartbeats 8000000 in
theorem line_both4 (w : World) (B r mb : Nat) (n : Int) (v : Value) (l : List Edg) (h : RdrIs w B r mb n v l) (Aw : Option Addr) (cw : Nat) (y z : ByteArray) (u : ByteArray) (hsu : u.size ≤ 4294967296) (Bw : Nat) (hw : w.ownsRow Bw 9 1 (.slice Aw 4 cw) 4 ([wBoth, y, z, u].map Value.string)) (hsy : y.size ≤ 4294967296) (hsz : z.size ≤ 4294967296) (hF : Firsts w) (hn0 : n ≠ 0) (hn : n ≤ 512) (hl : l.length ≤ 8192) :
    Calls Tryd.prog 30 #[.pointer (some ⟨r, 0, none⟩), .slice Aw 4 cw] w (LineP w B r mb v (edgeP n l true (numB numW y 512, numB numW z 512, numB numW u 2147483648))) := by
  obtain ⟨b, cs, rfl, hb, hbs, hc⟩ := words_own (ws := [wBoth, y, z, u]) hw (by simp)
  have hz := firsts_lt hF
  have hW := ((Below.refl w.heap.size w).alloc (Nat.le_refl _) (.cells #[.int .i64 0, .int .i64 0, .int .i64 0] 35))
  have c0 := (hW.cell (p := ⟨b, 0, none⟩) hb).trans (hc 0 _ rfl)
  unfold wBoth at c0
  have hss : ∀ w', Below w.heap.size w w' → w'.cell? ⟨b, 1, none⟩ = some (.string y) ∧ w'.cell? ⟨b, 2, none⟩ = some (.string z) := fun w' hb' => ⟨(hb'.cell (p := ⟨b, 1, none⟩) hb).trans (hc 1 _ rfl), (hb'.cell (p := ⟨b, 2, none⟩) hb).trans (hc 2 _ rfl)⟩
  have hs0 : ∀ w', Below w.heap.size w w' → w'.cell? ⟨b, 0, none⟩ = some (.string wBoth) := fun w' hb' => (hb'.cell (p := ⟨b, 0, none⟩) hb).trans (hc 0 _ rfl)
  have hs3 : ∀ w', Below w.heap.size w w' → w'.cell? ⟨b, 3, none⟩ = some (.string u) := fun w' hb' => (hb'.cell (p := ⟨b, 3, none⟩) hb).trans (hc 3 _ rfl)
  have hn3 := fun W (hF : Firsts W) => number_b u 2147483648 W hsu hF
  have h1 := h.below hW
  have b0 := h1.blk.cell 0
  simp only [List.getElem?_toArray, List.getElem?_cons_zero] at b0
  have hnb : (n == 0) = false := by simp [hn0]
  have hn1 := fun W (hF : Firsts W) => number_b y 512 W hsy hF
  have hn2 := fun W (hF : Firsts W) => number_b z 512 W hsz hF
  generalize numB numW y 512 = p at *
  generalize numB numW z 512 = q at *
  generalize numB numW u 2147483648 = wt at *
  have HN3 := Lib.hid hn3; have HS3 := Lib.hid hs3
  clear hn3 hs3
  have hkz := Blk.new w 35 #[.int .i64 0, .int .i64 0, .int .i64 0]
  have HSS := Lib.hid hss; have HS0 := Lib.hid hs0; have HBW := Lib.hid hW; have HN1 := Lib.hid hn1; have HN2 := Lib.hid hn2; have HF := Lib.hid hF; have KZ := Lib.hid hkz; have HH := Lib.hid h; have HB0 := Lib.hid (And.intro hb hbs)
  clear hss hs0 hW hn1 hn2 hF hkz h h1 hc hw hn0 hb hbs
  go_enter Tryd.func30, Tryd.ntmps30
  go_wp2
  refine' wp_scope_jumps (rest := _) 0 (fun a' w' => a'.tmps.size = 97 ∧ a'.defers = [] ∧ Below B w w' ∧ edgeP n l true (p, q, wt) = none) (fun _ _ => 0) ?hf ?first ?pass
  case hf => rfl
  case' first => skip
  · go_wp2_with fail
    refine wp_region_noPanic ?_
    refine wp_region_held_drew (S := (fun w' => w'.cell? ⟨b, 1, none⟩ = some (.string y) ∧ w'.cell? ⟨b, 2, none⟩ = some (.string z))) (by kernel_rfl) ?_ (fun hHeld => ?_)
    · exact HSS.out _ (below_drewN HBW.out 1)
    refine wpAnyH_take (i := 0) (v := ?v0g4_) rfl (by kernel_rfl) (by kernel_rfl) (by kernel_rfl) (fun _ _ _ h => h) (Or.inl ⟨by rfl, ?y0g4_⟩) (by assumption) ?r0g4_
    case y0g4_ => (intro w hSw; (try dsimp only at hSw); go_simp; try with_reducible rfl)
    change wpAnyH _ _ _ _ _ _ _ (Act.put _ (some 56) _) _; simp only [Act.put, List.setIfInBounds_toArray, List.set_cons_zero, List.set_cons_succ]
    refine wpAnyH_take (i := 1) (v := ?v1g4_) rfl (by kernel_rfl) (by kernel_rfl) (by kernel_rfl) (fun _ _ _ h => h) (Or.inl ⟨by rfl, ?y1g4_⟩) (by assumption) ?r1g4_
    case y1g4_ => (intro w hSw; (try dsimp only at hSw); go_simp; try with_reducible rfl)
    change wpAnyH _ _ _ _ _ _ _ (Act.put _ (some 57) _) _; simp only [Act.put, List.setIfInBounds_toArray, List.set_cons_zero, List.set_cons_succ]
    refine wpAnyH_take (i := 2) (v := ?v2g4_) rfl (by kernel_rfl) (by kernel_rfl) (by kernel_rfl) (fun _ _ _ h => h) (Or.inl ⟨by rfl, ?y2g4_⟩) (by assumption) ?r2g4_
    case y2g4_ => (intro w hSw; (try dsimp only at hSw); go_simp; try with_reducible rfl)
    change wpAnyH _ _ _ _ _ _ _ (Act.put _ (some 58) _) _; simp only [Act.put, List.setIfInBounds_toArray, List.set_cons_zero, List.set_cons_succ]
    refine wpAnyH_take (i := 4) (v := ?v4g4_) rfl (by kernel_rfl) (by kernel_rfl) (by kernel_rfl) (fun _ _ _ h => h) (Or.inl ⟨by rfl, ?y4g4_⟩) (by assumption) ?r4g4_
    case y4g4_ => (intro w hSw; (try dsimp only at hSw); go_simp; try with_reducible rfl)
    change wpAnyH _ _ _ _ _ _ _ (Act.put _ (some 60) _) _; simp only [Act.put, List.setIfInBounds_toArray, List.set_cons_zero, List.set_cons_succ]
    refine wpAnyH_take (i := 5) (v := ?v5g4_) rfl (by kernel_rfl) (by kernel_rfl) (by kernel_rfl) (fun _ _ _ h => h) (Or.inl ⟨by rfl, ?y5g4_⟩) (by assumption) ?r5g4_
    case y5g4_ => (intro w hSw; (try dsimp only at hSw); go_simp; try with_reducible rfl)
    change wpAnyH _ _ _ _ _ _ _ (Act.put _ (some 61) _) _; simp only [Act.put, List.setIfInBounds_toArray, List.set_cons_zero, List.set_cons_succ]
    refine wpAnyH_take (i := 6) (v := ?v6g4_) rfl (by kernel_rfl) (by kernel_rfl) (by kernel_rfl) (fun _ _ _ h => h) (Or.inl ⟨by rfl, ?y6g4_⟩) (by assumption) ?r6g4_
    case y6g4_ => (intro w hSw; (try dsimp only at hSw); go_simp; try with_reducible rfl)
    change wpAnyH _ _ _ _ _ _ _ (Act.put _ (some 62) _) _; simp only [Act.put, List.setIfInBounds_toArray, List.set_cons_zero, List.set_cons_succ]
    refine wpAnyH_ready (rs := [3]) (by kernel_rfl) (by simp) ?_
    refine AllReadyH.cons rfl (fun K hK => ?_) AllReadyH.nil
    go_simp
    refine (HN1.out _ (firsts_below HF.out (below_drewN HBW.out 1) hz)).mono ?_
    rintro R2 w2 ⟨rfl, hb2⟩
    have kz2 := KZ.out.below (undrew hb2) (by simp)
    have HB2 := Lib.hid (HBW.out.trans ((undrew hb2).mono HBW.out.size))
    have KZ2 := Lib.hid kz2
    clear hb2 kz2
    dsimp only
    refine hK.out _ _ ?_ (fun hHeld => ?_)
    · exact HSS.out _ HB2.out
    clear hK K
    try simp only [Act.put, List.setIfInBounds_toArray, List.set_cons_zero, List.set_cons_succ]
    refine wpAnyH_ready (rs := [7]) (by kernel_rfl) (by simp) ?_
    refine AllReadyH.cons rfl (fun K hK => ?_) AllReadyH.nil
    go_simp
    refine (HN2.out _ (firsts_below HF.out HB2.out hz)).mono ?_
    rintro R3 w3 ⟨rfl, hb3⟩
    have kz3 := KZ2.out.below hb3 KZ2.out.lt
    have HB3 := Lib.hid (HB2.out.trans (hb3.mono HB2.out.size))
    have z0 := kz3.cell 0; have z1 := kz3.cell 1; have z2 := kz3.cell 2; have y0 := kz3.frozen 0; have y1 := kz3.frozen 1; have y2 := kz3.frozen 2
    simp only [List.getElem?_toArray, List.getElem?_cons_zero, List.getElem?_cons_succ] at z0 z1 z2
    have hzl := kz3.lt
    have KZ3 := Lib.hid kz3
    clear hb3 kz3
    dsimp only
    refine hK.out _ _ ?_ (fun hHeld => ?_)
    · exact HSS.out _ HB3.out
    clear hK K
    try simp only [Act.put, List.setIfInBounds_toArray, List.set_cons_zero, List.set_cons_succ]
    refine wpAnyH_take (i := 8) (v := ?v8g4_) rfl (by kernel_rfl) (by kernel_rfl) (by kernel_rfl) (fun _ _ _ h => h) (Or.inl ⟨by rfl, ?y8g4_⟩) (by assumption) ?r8g4_
    case y8g4_ => (intro w hSw; (try dsimp only at hSw); go_simp; try with_reducible rfl)
    change wpAnyH _ _ _ _ _ _ _ (Act.put _ (some 64) _) _; simp only [Act.put, List.setIfInBounds_toArray, List.set_cons_zero, List.set_cons_succ]
    refine wpAnyH_ready (rs := [9]) (by kernel_rfl) (by simp) ?_
    refine AllReadyH.cons rfl (fun K hK => ?_) AllReadyH.nil
    go_simp
    refine hK.out _ _ ?_ (fun hHeld => ?_)
    · exact HSS.out _ (((HB3.out.setCell (p := ⟨w.heap.size, 0, none⟩) (Nat.le_refl _) _).setCell (p := ⟨w.heap.size, 1, none⟩) (Nat.le_refl _) _).setCell (p := ⟨w.heap.size, 2, none⟩) (Nat.le_refl _) _)
    clear hK K
    try simp only [Act.put, List.setIfInBounds_toArray, List.set_cons_zero, List.set_cons_succ]
    refine wpAnyH_done (by kernel_rfl) ?_ _
    refine NoPanic.normal ?_
    have hB4 := ((HB3.out.setCell (p := ⟨w.heap.size, 0, none⟩) (Nat.le_refl _) (.int .i64 p)).setCell (p := ⟨w.heap.size, 1, none⟩) (Nat.le_refl _) (.int .i64 q)).setCell (p := ⟨w.heap.size, 2, none⟩) (Nat.le_refl _) (.int .i64 1)
    have hk4 : Blk (((w3.setCell ⟨w.heap.size, 0, none⟩ (.int .i64 p)).setCell ⟨w.heap.size, 1, none⟩ (.int .i64 q)).setCell ⟨w.heap.size, 2, none⟩ (.int .i64 1)) w.heap.size 35 #[.int .i64 p, .int .i64 q, .int .i64 1] := ((KZ3.out.set_ 0 (.int .i64 p)).set_ 1 (.int .i64 q)).set_ 2 (.int .i64 1)
    obtain ⟨w4, hw4⟩ : ∃ w4, (((w3.setCell ⟨w.heap.size, 0, none⟩ (.int .i64 p)).setCell ⟨w.heap.size, 1, none⟩ (.int .i64 q)).setCell ⟨w.heap.size, 2, none⟩ (.int .i64 1)) = w4 := ⟨_, rfl⟩
    rw [hw4] at hB4 hk4 ⊢
    clear hw4 z0 z1 z2 y0 y1 y2 hzl KZ3 KZ2 HB3 HB2 b0 c0
    have c3 := HS3.out _ hB4
    have hf4 := firsts_below HF.out hB4 hz
    have hl4 := hk4.lt
    have HB4 := Lib.hid hB4; have HK4 := Lib.hid hk4
    clear hB4 hk4
    go_wp2_with fail
    refine (HN3.out _ hf4).mono ?_
    rintro R5 w5 ⟨rfl, hb5⟩
    have hB5 := HB4.out.trans (hb5.mono HB4.out.size)
    have hk5 := HK4.out.below hb5 hl4
    have z2 := hk5.cell 2; have y2 := hk5.frozen 2
    simp only [List.getElem?_toArray, List.getElem?_cons_zero, List.getElem?_cons_succ] at z2
    have hB6 := hB5.setCell (p := ⟨w.heap.size, 2, none⟩) (Nat.le_refl _) (.int .i64 wt)
    have hk6 : Blk (w5.setCell ⟨w.heap.size, 2, none⟩ (.int .i64 wt)) w.heap.size 35 #[.int .i64 p, .int .i64 q, .int .i64 wt] := hk5.set_ 2 (.int .i64 wt)
    have HK6 := Lib.hid hk6; have HB6 := Lib.hid hB6
    clear hB5 hk5 hb5 hf4 c3 hl4 hB6 hk6
    go_upto_region 11 with (fail)
    obtain ⟨w4, hw4⟩ : ∃ w4, w5.setCell ⟨w.heap.size, 2, none⟩ (.int .i64 wt) = w4 := ⟨_, rfl⟩
    have hB4 := HB6.out
    have hk4 := HK6.out
    rw [hw4] at hB4 hk4 ⊢
    clear hw4 z2 y2 HK6 HB6 HB4 HK4
    have k0 := hk4.cell 0; have k1 := hk4.cell 1; have k2 := hk4.cell 2
    simp only [List.getElem?_toArray, List.getElem?_cons_zero, List.getElem?_cons_succ] at k0 k1 k2
    have h4 := HH.out.below hB4
    have hcon := addR_any_ w4 B r mb n v l (p, q, wt) h4 hn hl
    have HC := Lib.hid hcon; have H4 := Lib.hid h4; have HB4 := Lib.hid hB4; have HK4 := Lib.hid hk4
    clear hcon h4 hB4 hk4
    go_wp2_with fail
    refine HC.out.mono ?_
    rintro R6 w6 h6
    clear k0 k1 k2
    have hBw := Nat.le_trans HH.out.r (Nat.le_of_lt HH.out.blk.lt)
    cases ho : addP n l (p, q, wt) with
    | none =>
      rw [ho] at h6
      obtain ⟨rfl, hb6⟩ := h6
      have HB6 := Lib.hid ((HB4.out.trans (hb6.mono HB4.out.size)).mono hBw)
      have HNO := Lib.hid ho
      clear hb6 ho
      go_wp2
      go_step3
      exact ⟨rfl, rfl, rfl, HB6.out, by unfold edgeP; rw [HNO.out]⟩
    | some m =>
      rw [ho] at h6
      obtain ⟨rfl, hb6, v6, h6, hv6, hst⟩ := h6
      have hB6 := (HB4.out.mono hBw).trans hb6
      have hcx := (HS0.out _ HB4.out)
      have hne1 : w.heap.size ≠ r := fun e' => by have := HH.out.blk.lt; omega
      have hne2 : w.heap.size ≠ mb := fun e' => by have := HH.out.seen.lt; omega
      have hne3 : some w.heap.size ≠ v.ownBlock := fun e' => by have := (HH.out.own.lt _ e'.symm).2; omega
      have hk6 := hst.blk HK4.out hne1 hne2 hne3
      have hbw : b < w.heap.size := HB0.out.1
      have hbn1 : b ≠ r := fun e' => by
        have h7 := HB0.out.2
        rw [e'] at h7
        have h8 := HH.out.blk
        unfold Blk at h8
        rw [h8] at h7
        injection h7 with h7
        injection h7 with _ h9
        exact absurd h9 (by decide)
      have hbn2 : b ≠ mb := fun e' => HH.out.seen.no_cells HB0.out.2 e'.symm
      have hbn3 : some b ≠ v.ownBlock := fun e' => own_blk_ne HH.out.own (HB0.out.2 : Blk w b 9 cs) (by decide) e'.symm
      have hstw : Stay r mb v.ownBlock w w6 := (Stay.of_below HB4.out).trans hst (.inl rfl)
      have q0 : w6.cell? ⟨b, 0, none⟩ = some (.string ⟨#[98, 111, 116, 104]⟩) := (World.cell?_of_block (a := ⟨b, 0, none⟩) (hst.block b (Nat.lt_of_lt_of_le hbw HB4.out.size) hbn1 hbn2 hbn3)).trans hcx
      have e0 := hk6.cell 0; have e1 := hk6.cell 1; have e2 := hk6.cell 2; have y0 := hk6.frozen 0; have y1 := hk6.frozen 1
      simp only [List.getElem?_toArray, List.getElem?_cons_zero, List.getElem?_cons_succ] at e0 e1 e2
      have hml : m.length ≤ 8192 := by
        obtain ⟨rfl, h8⟩ := addP_some ho
        simp; omega
      have hvn : v6.ownBlock ≠ some w.heap.size := by
        rcases hv6 with h7 | ⟨g, h7, h8⟩
        · rw [h7]; exact fun e' => hne3 e'.symm
        · rw [h7]; intro e'; injection e' with e'; have := HK4.out.lt; omega
      have HST := Lib.hid hstw; have H6 := Lib.hid h6; have HB6 := Lib.hid hB6; have HV6 := Lib.hid hv6
      have HK6 := Lib.hid hk6; have HN := Lib.hid (And.intro hne1 (And.intro hne2 hvn))
      by_cases hpq : p = q
      · have hres : edgeP n l true (p, q, wt) = some (n, m) := by unfold edgeP; rw [ho]; simp [hpq]
        have hpb : (p != q) = false := by simp [hpq]
        have HRES := Lib.hid hres
        clear hres hst hstw h6 hB6 hb6 hv6 hk6 ho hcx hne1 hne2 hne3 hpq hvn
        go_wp2
        simp only [Exit.jump]
        go_ret
        rw [HRES.out]
        exact ⟨HB6.out, rfl, v6, H6.out, HV6.out.imp id (fun ⟨g, h1, h2⟩ => ⟨g, h1, Nat.le_trans HB4.out.size h2⟩), HST.out⟩
      · have hres : edgeP n l true (p, q, wt) = (addP n m (q, p, wt)).map fun l2 => (n, l2) := by unfold edgeP; rw [ho]; simp [hpq]
        have hpb : (p != q) = true := by simp [hpq]
        have h7 : RdrIs ((w6.setCell ⟨w.heap.size, 0, none⟩ (.int .i64 q)).setCell ⟨w.heap.size, 1, none⟩ (.int .i64 p)) B r mb n v6 m := (h6.far HN.out.1 HN.out.2.1 HN.out.2.2 0 _).far HN.out.1 HN.out.2.1 HN.out.2.2 1 _
        have k7 : Blk ((w6.setCell ⟨w.heap.size, 0, none⟩ (.int .i64 q)).setCell ⟨w.heap.size, 1, none⟩ (.int .i64 p)) w.heap.size 35 #[.int .i64 q, .int .i64 p, .int .i64 wt] := (hk6.set_ 0 (.int .i64 q)).set_ 1 (.int .i64 p)
        have hcon := addR_any_ _ B r mb n v6 m (q, p, wt) h7 hn hml
        have HRES := Lib.hid hres; have HC7 := Lib.hid hcon; have H7 := Lib.hid h7
        clear hres hst hstw h6 hB6 hb6 hv6 hk6 ho hcx hne1 hne2 hne3 hpq hvn hcon h7 k7
        go_wp2_with fail
        refine HC7.out.mono ?_
        rintro R8 w8 h8
        have hst7 : Stay r mb v.ownBlock w ((w6.setCell ⟨w.heap.size, 0, none⟩ (.int .i64 q)).setCell ⟨w.heap.size, 1, none⟩ (.int .i64 p)) := ⟨HST.out.os, HST.out.tape, HST.out.output, by simpa [World.setCell] using HST.out.size, fun g hg k1 k2 k3 => by
          rw [Below.heap_setCell _ _ _ _ (fun e' => by have e' : g = w.heap.size := e'; omega), Below.heap_setCell _ _ _ _ (fun e' => by have e' : g = w.heap.size := e'; omega)]
          exact HST.out.block g hg k1 k2 k3⟩
        have hB7 : Below B w ((w6.setCell ⟨w.heap.size, 0, none⟩ (.int .i64 q)).setCell ⟨w.heap.size, 1, none⟩ (.int .i64 p)) := (HB6.out.setCell (p := ⟨w.heap.size, 0, none⟩) hBw _).setCell (p := ⟨w.heap.size, 1, none⟩) hBw _
        cases ho2 : addP n m (q, p, wt) with
        | none =>
          rw [ho2] at h8
          obtain ⟨rfl, hb8⟩ := h8
          have HE := Lib.hid ho2
          have HB8 := Lib.hid (hB7.trans (hb8.mono (Nat.le_trans hBw hst7.size)))
          clear hb8 ho2 hst7 hB7 e0 e1 e2 y0 y1 q0
          go_wp2
          simp only [Exit.jump]
          go_ret
          rw [HRES.out, HE.out]
          exact ⟨HB8.out, rfl⟩
        | some m2 =>
          rw [ho2] at h8
          obtain ⟨rfl, hb8, v8, h8, hv8, hst8⟩ := h8
          have HE := Lib.hid ho2
          have hvr : v6.ownBlock = v.ownBlock ∨ ∃ g, v6.ownBlock = some g ∧ w.heap.size ≤ g := HV6.out.imp id (fun ⟨g, h1, h2⟩ => ⟨g, h1, Nat.le_trans HB4.out.size h2⟩)
          have HST8 := Lib.hid (hst7.trans hst8 hvr); have HB8 := Lib.hid (hB7.trans hb8); have H8 := Lib.hid h8
          have hv9 : v8.ownBlock = v.ownBlock ∨ ∃ g, v8.ownBlock = some g ∧ w.heap.size ≤ g := by
            rcases hv8 with h | ⟨g, h1, h2⟩
            · rw [h]; exact hvr
            · exact .inr ⟨g, h1, Nat.le_trans hst7.size h2⟩
          have HV9 := Lib.hid hv9
          clear hb8 ho2 hst7 hB7 hst8 hvr h8 hv8 hv9 e0 e1 e2 y0 y1 q0
          go_wp2
          simp only [Exit.jump]
          go_ret
          rw [HRES.out, HE.out]
          exact ⟨HB8.out, rfl, v8, H8.out, HV9.out, HST8.out⟩
  · rintro a' w' ⟨hs, hd, hb, ho⟩
    obtain ⟨t, d⟩ := a'
    dsimp only at hs hd
    subst hd
    have HO := Lib.hid ho
    clear ho
    go_wp2
    go_ret
    rw [HO.out]
    refine ⟨hb, ?_⟩
    simp [hs]
end Go.Proofs.YtknigkjbnaoldaaDoor
