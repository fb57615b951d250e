/- The reference's line. -/
import Derived.Test.YtknigkjbnaoldaaDoorGrF
import Derived.Test.YtknigkjbnaoldaaDoorGrI
import Derived.Test.YtknigkjbnaoldaaDoorNumS
namespace Go.Proofs.YtknigkjbnaoldaaDoor
open Go.RowKit

theorem refNumber_b (s : ByteArray) (w : World) (hs : s.size ≤ 4294967296) :
    Calls Tryd.prog 35 #[.string s] w fun e w' => e = .returned (.tuple #[.int .i64 (numW s).1, .int .i64 (numW s).2]) ∧ Below w.heap.size w w' := by
  have h := numberR_any s w hs
  have e : numR ((chs s).map (·.1)) = numW s := by unfold numW; rw [runes_chs, ← num_eq, List.map_map]; rfl
  rwa [e] at h
/-- the boxes of a graph and of what is handed back -/
structure LnB (w wr : World) (n : Int) (A : Option Addr) (c : Nat) (l : List Edg) : Prop where
  below : Below w.heap.size w wr
  box : Blk wr w.heap.size 25 #[.int .i64 n, .slice A l.length c]
  rbox : Blk wr (w.heap.size + 1) 25 #[.int .i64 0, .slice none 0 0]
  size : w.heap.size + 2 ≤ wr.heap.size
section
variable {w wr w' : World} {n : Int} {A : Option Addr} {c : Nat} {l : List Edg}
theorem LnB.start (w : World) (n : Int) (A : Option Addr) (c : Nat) (l : List Edg) : LnB w ((w.alloc (.cells #[.int .i64 n, .slice A l.length c] 25)).alloc (.cells #[.int .i64 0, .slice none 0 0] 25)) n A c l := by
  have k1 := Blk.new (w.alloc (.cells #[.int .i64 n, .slice A l.length c] 25)) 25 #[.int .i64 0, .slice none 0 0]
  rw [show (w.alloc (.cells #[.int .i64 n, .slice A l.length c] 25)).heap.size = w.heap.size + 1 from by simp] at k1
  exact ⟨((Below.refl _ _).alloc (Nat.le_refl _) _).alloc (by simp) _, (Blk.new w _ _).alloc _, k1, by simp⟩
theorem LnB.step (h : LnB w wr n A c l) (hb : Below wr.heap.size wr w') : LnB w w' n A c l :=
  ⟨h.below.trans (hb.mono (by have := h.size; omega)), h.box.below hb h.box.lt, h.rbox.below hb h.rbox.lt, Nat.le_trans h.size hb.size⟩
theorem LnB.far (h : LnB w wr n A c l) {g : Nat} (hg : w.heap.size + 2 ≤ g) (i : Nat) (u : Value) : LnB w (wr.setCell ⟨g, i, none⟩ u) n A c l :=
  ⟨h.below.setCell (p := ⟨g, i, none⟩) (by show _ ≤ g; omega) u, h.box.far (p := ⟨g, i, none⟩) (by show w.heap.size ≠ g; omega) u, h.rbox.far (p := ⟨g, i, none⟩) (by show w.heap.size + 1 ≠ g; omega) u, by simpa [World.setCell] using h.size⟩
theorem LnB.put (h : LnB w wr n A c l) (A' : Option Addr) (c' : Nat) (m : List Edg) : LnB w ((wr.setCell ⟨w.heap.size, 0, none⟩ (.int .i64 n)).setCell ⟨w.heap.size, 1, none⟩ (.slice A' m.length c')) n A' c' m :=
  ⟨(h.below.setCell (p := ⟨w.heap.size, 0, none⟩) (Nat.le_refl _) _).setCell (p := ⟨w.heap.size, 1, none⟩) (Nat.le_refl _) _, (h.box.set_ 0 (.int .i64 n)).set_ 1 (.slice A' m.length c'), (h.rbox.far (p := ⟨w.heap.size, 0, none⟩) (by show w.heap.size + 1 ≠ w.heap.size; omega) _).far (p := ⟨w.heap.size, 1, none⟩) (by show w.heap.size + 1 ≠ w.heap.size; omega) _, by simpa [World.setCell] using h.size⟩
theorem LnB.cells (h : LnB w wr n A c l) : wr.cell? ⟨w.heap.size, 0, none⟩ = some (.int .i64 n) ∧ wr.cell? ⟨w.heap.size, 1, none⟩ = some (.slice A l.length c) ∧ wr.cell? ⟨w.heap.size + 1, 0, none⟩ = some (.int .i64 0) ∧ wr.cell? ⟨w.heap.size + 1, 1, none⟩ = some (.slice none 0 0) ∧ wr.frozen? ⟨w.heap.size + 1, 0, none⟩ = false ∧ wr.frozen? ⟨w.heap.size + 1, 1, none⟩ = false ∧ wr.frozen? ⟨w.heap.size, 0, none⟩ = false ∧ wr.frozen? ⟨w.heap.size, 1, none⟩ = false ∧ w.heap.size < wr.heap.size ∧ w.heap.size + 1 < wr.heap.size :=
  ⟨h.box.cell 0, h.box.cell 1, h.rbox.cell 0, h.rbox.cell 1, h.rbox.frozen 0, h.rbox.frozen 1, h.box.frozen 0, h.box.frozen 1, h.box.lt, h.rbox.lt⟩
end
/-- what line hands back -/
def RLineP (w : World) (n : Int) (o : Option Gr) (R : Ending) (w' : World) : Prop :=
  Below w.heap.size w w' ∧ match o with
  | none => ∃ (A' : Option Addr) (k c' : Nat), R = .returned (.tuple #[.agg #[.int .i64 n, .slice A' k c'], .bool false])
  | some g => ∃ A' c', R = .returned (.tuple #[.agg #[.int .i64 g.1, .slice A' g.2.length c'], .bool true]) ∧ g.2.length ≤ c' ∧ w'.ownsRow w.heap.size 35 3 (.slice A' g.2.length c') g.2.length (rcs edgC g.2)
set_option maxRecDepth 100000 in
set_option maxHeartbeats 8000000 in
theorem rline_len (w : World) (n : Int) (A : Option Addr) (c : Nat) (l : List Edg) (Aw : Option Addr) (cw : Nat) (k : Nat) (h3 : k ≠ 3) (h4 : k ≠ 4) :
    Calls Tryd.prog 36 #[.agg #[.int .i64 n, .slice A l.length c], .slice Aw k cw] w (RLineP w n none) := by
  have hk3 : ((k : Int) != 3) = true := by rw [bne_iff_ne]; omega
  have hk4 : ((k : Int) != 4) = true := by rw [bne_iff_ne]; omega
  have h0 := LnB.start w n A c l
  obtain ⟨b0, b1, r0, r1, f0, f1, g0, g1, z0, z1⟩ := h0.cells
  have H0 := Lib.hid h0
  clear h0
  go_enter Tryd.func36, Tryd.ntmps36
  go_wp2
  exact bodyPost_ret (v := .tuple #[.agg #[.int .i64 n, .slice A l.length c], .bool false]) (by simp [results, Tryd.results36, go_sem]) rfl ⟨((Below.refl _ _).alloc (Nat.le_refl _) _).alloc (by simp) _, A, l.length, c, rfl⟩
set_option maxRecDepth 100000 in
set_option maxHeartbeats 8000000 in
theorem rline_word3 (w : World) (n : Int) (A : Option Addr) (c : Nat) (l : List Edg) (Aw : Option Addr) (cw : Nat) (Bw : Nat) (x y z : ByteArray) (hw : w.ownsRow Bw 9 1 (.slice Aw 3 cw) 3 ([x, y, z].map Value.string)) (hx : x ≠ wEdge) (hx2 : x ≠ wBoth) :
    Calls Tryd.prog 36 #[.agg #[.int .i64 n, .slice A l.length c], .slice Aw 3 cw] w (RLineP w n none) := by
  obtain ⟨b, cs, rfl, hb, hbs, hc⟩ := words_own (ws := [x, y, z]) hw (by simp)
  have h0 := LnB.start w n A c l
  obtain ⟨b0, b1, r0, r1, f0, f1, g0, g1, z0, z1⟩ := h0.cells
  have H0 := Lib.hid h0
  clear h0
  have c0 := (H0.out.below.cell (p := ⟨b, 0, none⟩) hb).trans (hc 0 x rfl)
  have hx1 : (!x.toList == [101, 100, 103, 101]) = true := by rw [← wE_list, bytes_ne_ hx]; rfl
  have hx3 : (!x.toList == [98, 111, 116, 104]) = true := by rw [← wB_list, bytes_ne_ hx2]; rfl
  clear hx hx2 hw hc hbs
  go_enter Tryd.func36, Tryd.ntmps36
  go_wp2
  exact bodyPost_ret (v := .tuple #[.agg #[.int .i64 n, .slice A l.length c], .bool false]) (by simp [results, Tryd.results36, go_sem]) rfl ⟨((Below.refl _ _).alloc (Nat.le_refl _) _).alloc (by simp) _, A, l.length, c, rfl⟩
set_option maxRecDepth 100000 in
set_option maxHeartbeats 8000000 in
theorem rline_word4 (w : World) (n : Int) (A : Option Addr) (c : Nat) (l : List Edg) (Aw : Option Addr) (cw : Nat) (Bw : Nat) (x y z u : ByteArray) (hw : w.ownsRow Bw 9 1 (.slice Aw 4 cw) 4 ([x, y, z, u].map Value.string)) (hx : x ≠ wEdge) (hx2 : x ≠ wBoth) :
    Calls Tryd.prog 36 #[.agg #[.int .i64 n, .slice A l.length c], .slice Aw 4 cw] w (RLineP w n none) := by
  obtain ⟨b, cs, rfl, hb, hbs, hc⟩ := words_own (ws := [x, y, z, u]) hw (by simp)
  have h0 := LnB.start w n A c l
  obtain ⟨b0, b1, r0, r1, f0, f1, g0, g1, z0, z1⟩ := h0.cells
  have H0 := Lib.hid h0
  clear h0
  have c0 := (H0.out.below.cell (p := ⟨b, 0, none⟩) hb).trans (hc 0 x rfl)
  have hx1 : (!x.toList == [101, 100, 103, 101]) = true := by rw [← wE_list, bytes_ne_ hx]; rfl
  have hx3 : (!x.toList == [98, 111, 116, 104]) = true := by rw [← wB_list, bytes_ne_ hx2]; rfl
  clear hx hx2 hw hc hbs
  go_enter Tryd.func36, Tryd.ntmps36
  go_wp2
  exact bodyPost_ret (v := .tuple #[.agg #[.int .i64 n, .slice A l.length c], .bool false]) (by simp [results, Tryd.results36, go_sem]) rfl ⟨((Below.refl _ _).alloc (Nat.le_refl _) _).alloc (by simp) _, A, l.length, c, rfl⟩
set_option maxRecDepth 100000 in
set_option maxHeartbeats 8000000 in
theorem rline_edge3 (w : World) (n : Int) (A : Option Addr) (c : Nat) (l : List Edg) (Aw : Option Addr) (cw : Nat) (Bw : Nat) (y z : ByteArray) (hw : w.ownsRow Bw 9 1 (.slice Aw 3 cw) 3 ([wEdge, y, z].map Value.string)) (hsy : y.size ≤ 4294967296) (hsz : z.size ≤ 4294967296) (h : Rs edgC 3 w A l) (hc : l.length ≤ c) :
    Calls Tryd.prog 36 #[.agg #[.int .i64 n, .slice A l.length c], .slice Aw 3 cw] w (RLineP w n (if (numW y).2 = 0 ∧ (numW z).2 = 0 ∧ (numW y).1 < 512 ∧ (numW z).1 < 512 then edgeR n l false ((numW y).1, (numW z).1, 1) else none)) := by
  obtain ⟨b, cs, rfl, hb, hbs, hcw⟩ := words_own (ws := [wEdge, y, z]) hw (by simp)
  have hss : ∀ w', Below w.heap.size w w' → w'.cell? ⟨b, 0, none⟩ = some (.string wEdge) ∧ w'.cell? ⟨b, 1, none⟩ = some (.string y) ∧ w'.cell? ⟨b, 2, none⟩ = some (.string z) := fun w' hb' => ⟨(hb'.cell (p := ⟨b, 0, none⟩) hb).trans (hcw 0 _ rfl), (hb'.cell (p := ⟨b, 1, none⟩) hb).trans (hcw 1 _ rfl), (hb'.cell (p := ⟨b, 2, none⟩) hb).trans (hcw 2 _ rfl)⟩
  unfold wEdge at hss
  have hn0 := fun W => refNumber_b y W hsy
  have hn1 := fun W => refNumber_b z W hsz
  obtain ⟨p, ep, hp⟩ : ∃ a b, numW y = (a, b) := ⟨_, _, rfl⟩
  rw [hp] at hn0 ⊢
  obtain ⟨q, eq, hq⟩ : ∃ a b, numW z = (a, b) := ⟨_, _, rfl⟩
  rw [hq] at hn1 ⊢
  dsimp only at hn0 hn1 ⊢
  clear hp hsy hq hsz hw hcw hbs
  have h0 := LnB.start w n A c l
  obtain ⟨b0, b1, r0, r1, f0, f1, g0, g1, z0, z1⟩ := h0.cells
  have H0 := Lib.hid h0
  clear h0
  obtain ⟨c0, -⟩ := hss _ H0.out.below
  obtain ⟨-, c1, c2⟩ := hss _ (H0.out.below.alloc H0.out.below.size (.cells #[.int .i64 0, .int .i64 0, .int .i64 1] 2))
  have HSS := Lib.hid hss; have HR := Lib.hid h; have HCC := Lib.hid hc; have HN0 := Lib.hid hn0; have HN1 := Lib.hid hn1
  clear hss h hc hn0 hn1
  by_cases hep : ep = 0
  rotate_left
  · rw [if_neg (by rintro ⟨h, _⟩; exact hep h)]
    have e0 : (ep != 0) = true := by simp [hep]
    clear hep
    go_enter Tryd.func36, Tryd.ntmps36
    go_wp2
    refine wp_loop_rounds 5 ?_
    rw [rounds_succ]
    go_wp2_with fail
    refine (HN0.out _).mono ?_
    rintro R0 v0 ⟨rfl, hb0⟩
    have hs0 := (H0.out.step ((Below.refl _ _).alloc (Nat.le_refl _) (.cells #[.int .i64 0, .int .i64 0, .int .i64 1] 2))).step hb0
    have kn0 := (Blk.new ((w.alloc (.cells #[.int .i64 n, .slice A l.length c] 25)).alloc (.cells #[.int .i64 0, .slice none 0 0] 25)) 2 #[.int .i64 0, .int .i64 0, .int .i64 1]).below hb0 (by simp)
    rw [show ((w.alloc (.cells #[.int .i64 n, .slice A l.length c] 25)).alloc (.cells #[.int .i64 0, .slice none 0 0] 25)).heap.size = w.heap.size + 2 from by simp, show w.heap.size + 2 = w.heap.size + 1 + 1 from rfl] at kn0
    obtain ⟨b0, b1, r0, r1, f0, f1, g0, g1, z0, z1⟩ := hs0.cells
    obtain ⟨c0, c1, c2⟩ := HSS.out _ hs0.below
    have n0 : v0.cell? ⟨w.heap.size + 1 + 1, 0, none⟩ = some (.int .i64 0) := kn0.cell 0
    have m0 := kn0.frozen 0; have zn := kn0.lt
    have HB0 := Lib.hid hb0; have HS0 := Lib.hid hs0; have KN0 := Lib.hid kn0
    clear hb0 hs0 kn0
    go_wp2
    have hd0 := (HS0.out.rbox.set_ 0 (.int .i64 n)).set_ 1 (.slice A l.length c)
    have hd1 := hd0.cell 0; have hd2 := hd0.cell 1
    simp only [List.getElem?_toArray, List.setIfInBounds_toArray, List.set_cons_zero, List.set_cons_succ, List.getElem?_cons_zero, List.getElem?_cons_succ] at hd1 hd2
    exact bodyPost_ret (v := .tuple #[.agg #[.int .i64 n, .slice A l.length c], .bool false]) (by simp [results, Tryd.results36, go_sem, hd1, hd2]) rfl ⟨(HS0.out.below.setCell (p := ⟨w.heap.size + 1, 0, none⟩) (by show _ ≤ w.heap.size + 1; omega) _).setCell (p := ⟨w.heap.size + 1, 1, none⟩) (by show _ ≤ w.heap.size + 1; omega) _, A, l.length, c, rfl⟩
  subst hep
  by_cases heq : eq = 0
  rotate_left
  · rw [if_neg (by rintro ⟨_, h, _⟩; exact heq h)]
    have e1 : (eq != 0) = true := by simp [heq]
    clear heq
    go_enter Tryd.func36, Tryd.ntmps36
    go_wp2
    refine wp_loop_rounds 5 ?_
    rw [rounds_succ]
    go_wp2_with fail
    refine (HN0.out _).mono ?_
    rintro R0 v0 ⟨rfl, hb0⟩
    have hs0 := (H0.out.step ((Below.refl _ _).alloc (Nat.le_refl _) (.cells #[.int .i64 0, .int .i64 0, .int .i64 1] 2))).step hb0
    have kn0 := (Blk.new ((w.alloc (.cells #[.int .i64 n, .slice A l.length c] 25)).alloc (.cells #[.int .i64 0, .slice none 0 0] 25)) 2 #[.int .i64 0, .int .i64 0, .int .i64 1]).below hb0 (by simp)
    rw [show ((w.alloc (.cells #[.int .i64 n, .slice A l.length c] 25)).alloc (.cells #[.int .i64 0, .slice none 0 0] 25)).heap.size = w.heap.size + 2 from by simp, show w.heap.size + 2 = w.heap.size + 1 + 1 from rfl] at kn0
    obtain ⟨b0, b1, r0, r1, f0, f1, g0, g1, z0, z1⟩ := hs0.cells
    obtain ⟨c0, c1, c2⟩ := HSS.out _ hs0.below
    have n0 : v0.cell? ⟨w.heap.size + 1 + 1, 0, none⟩ = some (.int .i64 0) := kn0.cell 0
    have m0 := kn0.frozen 0; have zn := kn0.lt
    have HB0 := Lib.hid hb0; have HS0 := Lib.hid hs0; have KN0 := Lib.hid kn0
    clear hb0 hs0 kn0
    go_wp2
    rw [rounds_succ]
    go_wp2_with fail
    refine (HN1.out _).mono ?_
    rintro R1 v1 ⟨rfl, hb1⟩
    have hs1 := (HS0.out.far (g := w.heap.size + 1 + 1) (Nat.le_refl _) 0 (.int .i64 p)).step hb1
    have kn1 := (KN0.out.set_ 0 (.int .i64 p)).below hb1 (by exact (KN0.out.set_ 0 (.int .i64 p)).lt)
    obtain ⟨b0, b1, r0, r1, f0, f1, g0, g1, z0, z1⟩ := hs1.cells
    obtain ⟨c0, c1, c2⟩ := HSS.out _ hs1.below
    have n1 : v1.cell? ⟨w.heap.size + 1 + 1, 1, none⟩ = some (.int .i64 0) := kn1.cell 1
    have m0 := kn1.frozen 1; have zn := kn1.lt
    have HB1 := Lib.hid hb1; have HS1 := Lib.hid hs1; have KN1 := Lib.hid kn1
    clear hb1 hs1 kn1
    go_wp2
    have hd0 := (HS1.out.rbox.set_ 0 (.int .i64 n)).set_ 1 (.slice A l.length c)
    have hd1 := hd0.cell 0; have hd2 := hd0.cell 1
    simp only [List.getElem?_toArray, List.setIfInBounds_toArray, List.set_cons_zero, List.set_cons_succ, List.getElem?_cons_zero, List.getElem?_cons_succ] at hd1 hd2
    exact bodyPost_ret (v := .tuple #[.agg #[.int .i64 n, .slice A l.length c], .bool false]) (by simp [results, Tryd.results36, go_sem, hd1, hd2]) rfl ⟨(HS1.out.below.setCell (p := ⟨w.heap.size + 1, 0, none⟩) (by show _ ≤ w.heap.size + 1; omega) _).setCell (p := ⟨w.heap.size + 1, 1, none⟩) (by show _ ≤ w.heap.size + 1; omega) _, A, l.length, c, rfl⟩
  subst heq
  by_cases hp : p < 512
  rotate_left
  · rw [if_neg (by rintro ⟨_, _, h, _⟩; exact hp h)]
    have hg : (512 : Int) ≤ p := by omega
    clear hp
    go_enter Tryd.func36, Tryd.ntmps36
    go_wp2
    refine wp_loop_rounds 5 ?_
    rw [rounds_succ]
    go_wp2_with fail
    refine (HN0.out _).mono ?_
    rintro R0 v0 ⟨rfl, hb0⟩
    have hs0 := (H0.out.step ((Below.refl _ _).alloc (Nat.le_refl _) (.cells #[.int .i64 0, .int .i64 0, .int .i64 1] 2))).step hb0
    have kn0 := (Blk.new ((w.alloc (.cells #[.int .i64 n, .slice A l.length c] 25)).alloc (.cells #[.int .i64 0, .slice none 0 0] 25)) 2 #[.int .i64 0, .int .i64 0, .int .i64 1]).below hb0 (by simp)
    rw [show ((w.alloc (.cells #[.int .i64 n, .slice A l.length c] 25)).alloc (.cells #[.int .i64 0, .slice none 0 0] 25)).heap.size = w.heap.size + 2 from by simp, show w.heap.size + 2 = w.heap.size + 1 + 1 from rfl] at kn0
    obtain ⟨b0, b1, r0, r1, f0, f1, g0, g1, z0, z1⟩ := hs0.cells
    obtain ⟨c0, c1, c2⟩ := HSS.out _ hs0.below
    have n0 : v0.cell? ⟨w.heap.size + 1 + 1, 0, none⟩ = some (.int .i64 0) := kn0.cell 0
    have m0 := kn0.frozen 0; have zn := kn0.lt
    have HB0 := Lib.hid hb0; have HS0 := Lib.hid hs0; have KN0 := Lib.hid kn0
    clear hb0 hs0 kn0
    go_wp2
    rw [rounds_succ]
    go_wp2_with fail
    refine (HN1.out _).mono ?_
    rintro R1 v1 ⟨rfl, hb1⟩
    have hs1 := (HS0.out.far (g := w.heap.size + 1 + 1) (Nat.le_refl _) 0 (.int .i64 p)).step hb1
    have kn1 := (KN0.out.set_ 0 (.int .i64 p)).below hb1 (by exact (KN0.out.set_ 0 (.int .i64 p)).lt)
    obtain ⟨b0, b1, r0, r1, f0, f1, g0, g1, z0, z1⟩ := hs1.cells
    obtain ⟨c0, c1, c2⟩ := HSS.out _ hs1.below
    have n0 : v1.cell? ⟨w.heap.size + 1 + 1, 0, none⟩ = some (.int .i64 p) := kn1.cell 0
    have n1 : v1.cell? ⟨w.heap.size + 1 + 1, 1, none⟩ = some (.int .i64 0) := kn1.cell 1
    have n2 : v1.cell? ⟨w.heap.size + 1 + 1, 2, none⟩ = some (.int .i64 1) := kn1.cell 2
    have m0 := kn1.frozen 1; have zn := kn1.lt
    have HB1 := Lib.hid hb1; have HS1 := Lib.hid hs1; have KN1 := Lib.hid kn1
    clear hb1 hs1 kn1
    go_wp2
    have hs9 := HS1.out.far (g := w.heap.size + 1 + 1) (Nat.le_refl _) 1 (.int .i64 q)
    rw [rounds_succ]
    go_wp2
    have hd0 := (hs9.rbox.set_ 0 (.int .i64 n)).set_ 1 (.slice A l.length c)
    have hd1 := hd0.cell 0; have hd2 := hd0.cell 1
    simp only [List.getElem?_toArray, List.setIfInBounds_toArray, List.set_cons_zero, List.set_cons_succ, List.getElem?_cons_zero, List.getElem?_cons_succ] at hd1 hd2
    exact bodyPost_ret (v := .tuple #[.agg #[.int .i64 n, .slice A l.length c], .bool false]) (by simp [results, Tryd.results36, go_sem, hd1, hd2]) rfl ⟨(hs9.below.setCell (p := ⟨w.heap.size + 1, 0, none⟩) (by show _ ≤ w.heap.size + 1; omega) _).setCell (p := ⟨w.heap.size + 1, 1, none⟩) (by show _ ≤ w.heap.size + 1; omega) _, A, l.length, c, rfl⟩
  by_cases hq : q < 512
  rotate_left
  · rw [if_neg (by rintro ⟨_, _, _, h⟩; exact hq h)]
    have hg : (512 : Int) ≤ q := by omega
    have hq0 : ¬ (512 : Int) ≤ p := by omega
    clear hq
    go_enter Tryd.func36, Tryd.ntmps36
    go_wp2
    refine wp_loop_rounds 5 ?_
    rw [rounds_succ]
    go_wp2_with fail
    refine (HN0.out _).mono ?_
    rintro R0 v0 ⟨rfl, hb0⟩
    have hs0 := (H0.out.step ((Below.refl _ _).alloc (Nat.le_refl _) (.cells #[.int .i64 0, .int .i64 0, .int .i64 1] 2))).step hb0
    have kn0 := (Blk.new ((w.alloc (.cells #[.int .i64 n, .slice A l.length c] 25)).alloc (.cells #[.int .i64 0, .slice none 0 0] 25)) 2 #[.int .i64 0, .int .i64 0, .int .i64 1]).below hb0 (by simp)
    rw [show ((w.alloc (.cells #[.int .i64 n, .slice A l.length c] 25)).alloc (.cells #[.int .i64 0, .slice none 0 0] 25)).heap.size = w.heap.size + 2 from by simp, show w.heap.size + 2 = w.heap.size + 1 + 1 from rfl] at kn0
    obtain ⟨b0, b1, r0, r1, f0, f1, g0, g1, z0, z1⟩ := hs0.cells
    obtain ⟨c0, c1, c2⟩ := HSS.out _ hs0.below
    have n0 : v0.cell? ⟨w.heap.size + 1 + 1, 0, none⟩ = some (.int .i64 0) := kn0.cell 0
    have m0 := kn0.frozen 0; have zn := kn0.lt
    have HB0 := Lib.hid hb0; have HS0 := Lib.hid hs0; have KN0 := Lib.hid kn0
    clear hb0 hs0 kn0
    go_wp2
    rw [rounds_succ]
    go_wp2_with fail
    refine (HN1.out _).mono ?_
    rintro R1 v1 ⟨rfl, hb1⟩
    have hs1 := (HS0.out.far (g := w.heap.size + 1 + 1) (Nat.le_refl _) 0 (.int .i64 p)).step hb1
    have kn1 := (KN0.out.set_ 0 (.int .i64 p)).below hb1 (by exact (KN0.out.set_ 0 (.int .i64 p)).lt)
    obtain ⟨b0, b1, r0, r1, f0, f1, g0, g1, z0, z1⟩ := hs1.cells
    obtain ⟨c0, c1, c2⟩ := HSS.out _ hs1.below
    have n0 : v1.cell? ⟨w.heap.size + 1 + 1, 0, none⟩ = some (.int .i64 p) := kn1.cell 0
    have n1 : v1.cell? ⟨w.heap.size + 1 + 1, 1, none⟩ = some (.int .i64 0) := kn1.cell 1
    have n2 : v1.cell? ⟨w.heap.size + 1 + 1, 2, none⟩ = some (.int .i64 1) := kn1.cell 2
    have m0 := kn1.frozen 1; have zn := kn1.lt
    have HB1 := Lib.hid hb1; have HS1 := Lib.hid hs1; have KN1 := Lib.hid kn1
    clear hb1 hs1 kn1
    go_wp2
    have hs9 := HS1.out.far (g := w.heap.size + 1 + 1) (Nat.le_refl _) 1 (.int .i64 q)
    rw [rounds_succ]
    go_wp2
    have hd0 := (hs9.rbox.set_ 0 (.int .i64 n)).set_ 1 (.slice A l.length c)
    have hd1 := hd0.cell 0; have hd2 := hd0.cell 1
    simp only [List.getElem?_toArray, List.setIfInBounds_toArray, List.set_cons_zero, List.set_cons_succ, List.getElem?_cons_zero, List.getElem?_cons_succ] at hd1 hd2
    exact bodyPost_ret (v := .tuple #[.agg #[.int .i64 n, .slice A l.length c], .bool false]) (by simp [results, Tryd.results36, go_sem, hd1, hd2]) rfl ⟨(hs9.below.setCell (p := ⟨w.heap.size + 1, 0, none⟩) (by show _ ≤ w.heap.size + 1; omega) _).setCell (p := ⟨w.heap.size + 1, 1, none⟩) (by show _ ≤ w.heap.size + 1; omega) _, A, l.length, c, rfl⟩
  rw [if_pos ⟨rfl, rfl, hp, hq⟩]
  have hp0 : ¬ (512 : Int) ≤ p := by omega
  have hq0 : ¬ (512 : Int) ≤ q := by omega
  clear hp hq
  go_enter Tryd.func36, Tryd.ntmps36
  go_wp2
  refine wp_loop_rounds 5 ?_
  rw [rounds_succ]
  go_wp2_with fail
  refine (HN0.out _).mono ?_
  rintro R0 v0 ⟨rfl, hb0⟩
  have hs0 := (H0.out.step ((Below.refl _ _).alloc (Nat.le_refl _) (.cells #[.int .i64 0, .int .i64 0, .int .i64 1] 2))).step hb0
  have kn0 := (Blk.new ((w.alloc (.cells #[.int .i64 n, .slice A l.length c] 25)).alloc (.cells #[.int .i64 0, .slice none 0 0] 25)) 2 #[.int .i64 0, .int .i64 0, .int .i64 1]).below hb0 (by simp)
  rw [show ((w.alloc (.cells #[.int .i64 n, .slice A l.length c] 25)).alloc (.cells #[.int .i64 0, .slice none 0 0] 25)).heap.size = w.heap.size + 2 from by simp, show w.heap.size + 2 = w.heap.size + 1 + 1 from rfl] at kn0
  obtain ⟨b0, b1, r0, r1, f0, f1, g0, g1, z0, z1⟩ := hs0.cells
  obtain ⟨c0, c1, c2⟩ := HSS.out _ hs0.below
  have n0 : v0.cell? ⟨w.heap.size + 1 + 1, 0, none⟩ = some (.int .i64 0) := kn0.cell 0
  have m0 := kn0.frozen 0; have zn := kn0.lt
  have HB0 := Lib.hid hb0; have HS0 := Lib.hid hs0; have KN0 := Lib.hid kn0
  clear hb0 hs0 kn0
  go_wp2
  rw [rounds_succ]
  go_wp2_with fail
  refine (HN1.out _).mono ?_
  rintro R1 v1 ⟨rfl, hb1⟩
  have hs1 := (HS0.out.far (g := w.heap.size + 1 + 1) (Nat.le_refl _) 0 (.int .i64 p)).step hb1
  have kn1 := (KN0.out.set_ 0 (.int .i64 p)).below hb1 (by exact (KN0.out.set_ 0 (.int .i64 p)).lt)
  obtain ⟨b0, b1, r0, r1, f0, f1, g0, g1, z0, z1⟩ := hs1.cells
  obtain ⟨c0, c1, c2⟩ := HSS.out _ hs1.below
  have n0 : v1.cell? ⟨w.heap.size + 1 + 1, 0, none⟩ = some (.int .i64 p) := kn1.cell 0
  have n1 : v1.cell? ⟨w.heap.size + 1 + 1, 1, none⟩ = some (.int .i64 0) := kn1.cell 1
  have n2 : v1.cell? ⟨w.heap.size + 1 + 1, 2, none⟩ = some (.int .i64 1) := kn1.cell 2
  have m0 := kn1.frozen 1; have zn := kn1.lt
  have HB1 := Lib.hid hb1; have HS1 := Lib.hid hs1; have KN1 := Lib.hid kn1
  clear hb1 hs1 kn1
  go_wp2
  rw [rounds_succ]
  go_wp2_with fail
  have hs9 := HS1.out.far (g := w.heap.size + 1 + 1) (Nat.le_refl _) 1 (.int .i64 q)
  have kn9 : Blk (v1.setCell ⟨w.heap.size + 1 + 1, 1, none⟩ (.int .i64 q)) (w.heap.size + 1 + 1) 2 #[.int .i64 p, .int .i64 q, .int .i64 1] := KN1.out.set_ 1 (.int .i64 q)
  obtain ⟨wx, hwx⟩ : ∃ wx, (v1.setCell ⟨w.heap.size + 1 + 1, 1, none⟩ (.int .i64 q)) = wx := ⟨_, rfl⟩
  rw [hwx] at hs9 kn9 ⊢
  clear hwx b0 b1 r0 r1 f0 f1 g0 g1 z0 z1 n0 n1 n2 m0 zn c0 c1 c2
  have n0 : wx.cell? ⟨w.heap.size + 1 + 1, 0, none⟩ = some (.int .i64 p) := kn9.cell 0
  have n1 : wx.cell? ⟨w.heap.size + 1 + 1, 1, none⟩ = some (.int .i64 q) := kn9.cell 1
  have n2 : wx.cell? ⟨w.heap.size + 1 + 1, 2, none⟩ = some (.int .i64 1) := kn9.cell 2
  have zn := kn9.lt
  obtain ⟨b0, b1, r0, r1, f0, f1, g0, g1, z0, z1⟩ := hs9.cells
  have HAD := Lib.hid fun W hW => refAdd_any W n A c l (p, q, 1) hW HCC.out
  have HS9 := Lib.hid hs9
  clear hs9 kn9
  go_region_held3 (fun w' => w'.cell? ⟨w.heap.size + 1 + 1, 0, none⟩ = some (.int .i64 p) ∧ w'.cell? ⟨w.heap.size + 1 + 1, 1, none⟩ = some (.int .i64 q) ∧ w'.cell? ⟨w.heap.size + 1 + 1, 2, none⟩ = some (.int .i64 1)) (go_keep) (fail)
  go_wp2_with fail
  refine (HAD.out _ ?_).mono ?_
  · exact (HR.out.below HS9.out.below).alloc _
  rintro R9 w9 ⟨hb9, h9⟩
  have hs10 := HS9.out.step (((Below.refl _ _).alloc (Nat.le_refl _) (.cells #[.int .i64 p, .int .i64 q, .int .i64 1] 35)).trans ((undrew hb9).mono (by simp)))
  have ke : Blk w9 wx.heap.size 35 #[.int .i64 p, .int .i64 q, .int .i64 1] := (Blk.new wx 35 #[.int .i64 p, .int .i64 q, .int .i64 1]).below (undrew hb9) (by simp)
  clear b0 b1 r0 r1 f0 f1 g0 g1 z0 z1 n0 n1 n2 zn HAD
  obtain ⟨b0, b1, r0, r1, f0, f1, g0, g1, z0, z1⟩ := hs10.cells
  obtain ⟨c0, -⟩ := HSS.out _ hs10.below
  have zw : w.heap.size + 2 ≤ wx.heap.size := HS9.out.size
  cases ho : addR n l (p, q, 1) with
  | none =>
    rw [ho] at h9
    obtain rfl := h9
    have hres : edgeR n l false (p, q, 1) = none := by unfold edgeR; rw [ho]
    have hs11 := hs10.put A c l
    have HRES := Lib.hid hres; have HS11 := Lib.hid hs11
    clear hres ho hs10 hs11 ke hb9
    go_wp2
    rw [HRES.out]
    have hd0 := (HS11.out.rbox.set_ 0 (.int .i64 n)).set_ 1 (.slice A l.length c)
    have hd1 := hd0.cell 0; have hd2 := hd0.cell 1
    simp only [List.getElem?_toArray, List.setIfInBounds_toArray, List.set_cons_zero, List.set_cons_succ, List.getElem?_cons_zero, List.getElem?_cons_succ] at hd1 hd2
    exact bodyPost_ret (v := .tuple #[.agg #[.int .i64 n, .slice A l.length c], .bool false]) (by simp [results, Tryd.results36, go_sem, hd1, hd2]) rfl ⟨(HS11.out.below.setCell (p := ⟨w.heap.size + 1, 0, none⟩) (by show _ ≤ w.heap.size + 1; omega) _).setCell (p := ⟨w.heap.size + 1, 1, none⟩) (by show _ ≤ w.heap.size + 1; omega) _, A, l.length, c, rfl⟩
  | some m =>
    rw [ho] at h9
    obtain ⟨A', c', rfl, hc', hown⟩ := h9
    have hs11 := hs10.put A' c' m
    have ho11 := own_keep (own_keep hown (type_set (i := 0) hs10.box (by decide) (.int .i64 n))) (type_set (i := 1) (hs10.box.set_ 0 (.int .i64 n)) (by decide) (.slice A' m.length c'))
    have ho12 := own_mono ho11 (show w.heap.size ≤ (wx.alloc (.cells #[.int .i64 p, .int .i64 q, .int .i64 1] 35)).heap.size by simp; omega)
    have HS11 := Lib.hid hs11; have HO12 := Lib.hid ho12; have HC' := Lib.hid hc'
    have hres : edgeR n l false (p, q, 1) = some (n, m) := by unfold edgeR; rw [ho]; simp
    have HRES := Lib.hid hres
    clear hres ho hs10 hs11 ke hb9 hown ho11 ho12 hc'
    go_wp2
    have hd0 := (HS11.out.rbox.set_ 0 (.int .i64 n)).set_ 1 (.slice A' m.length c')
    have hd1 := hd0.cell 0; have hd2 := hd0.cell 1
    simp only [List.getElem?_toArray, List.setIfInBounds_toArray, List.set_cons_zero, List.set_cons_succ, List.getElem?_cons_zero, List.getElem?_cons_succ] at hd1 hd2
    have ho1 := own_keep HO12.out (type_set (i := 0) HS11.out.rbox (by decide) (.int .i64 n))
    have hr1 := HS11.out.rbox.set_ 0 (.int .i64 n)
    have ho2 := own_keep ho1 (type_set (i := 1) hr1 (by decide) (.slice A' m.length c'))
    rw [HRES.out]
    exact bodyPost_ret (v := .tuple #[.agg #[.int .i64 n, .slice A' m.length c'], .bool true]) (by simp [results, Tryd.results36, go_sem, hd1, hd2]) rfl ⟨(HS11.out.below.setCell (p := ⟨w.heap.size + 1, 0, none⟩) (by show _ ≤ w.heap.size + 1; omega) _).setCell (p := ⟨w.heap.size + 1, 1, none⟩) (by show _ ≤ w.heap.size + 1; omega) _, A', c', rfl, HC'.out, own_mono ho2 (by omega)⟩
set_option maxRecDepth 100000 in
set_option maxHeartbeats 8000000 in
theorem rline_edge4 (w : World) (n : Int) (A : Option Addr) (c : Nat) (l : List Edg) (Aw : Option Addr) (cw : Nat) (Bw : Nat) (y z u : ByteArray) (hw : w.ownsRow Bw 9 1 (.slice Aw 4 cw) 4 ([wEdge, y, z, u].map Value.string)) (hsy : y.size ≤ 4294967296) (hsz : z.size ≤ 4294967296) (hsu : u.size ≤ 4294967296) (h : Rs edgC 3 w A l) (hc : l.length ≤ c) :
    Calls Tryd.prog 36 #[.agg #[.int .i64 n, .slice A l.length c], .slice Aw 4 cw] w (RLineP w n (if (numW y).2 = 0 ∧ (numW z).2 = 0 ∧ (numW u).2 = 0 ∧ (numW y).1 < 512 ∧ (numW z).1 < 512 then edgeR n l false ((numW y).1, (numW z).1, (numW u).1) else none)) := by
  obtain ⟨b, cs, rfl, hb, hbs, hcw⟩ := words_own (ws := [wEdge, y, z, u]) hw (by simp)
  have hss : ∀ w', Below w.heap.size w w' → w'.cell? ⟨b, 0, none⟩ = some (.string wEdge) ∧ w'.cell? ⟨b, 1, none⟩ = some (.string y) ∧ w'.cell? ⟨b, 2, none⟩ = some (.string z) ∧ w'.cell? ⟨b, 3, none⟩ = some (.string u) := fun w' hb' => ⟨(hb'.cell (p := ⟨b, 0, none⟩) hb).trans (hcw 0 _ rfl), (hb'.cell (p := ⟨b, 1, none⟩) hb).trans (hcw 1 _ rfl), (hb'.cell (p := ⟨b, 2, none⟩) hb).trans (hcw 2 _ rfl), (hb'.cell (p := ⟨b, 3, none⟩) hb).trans (hcw 3 _ rfl)⟩
  unfold wEdge at hss
  have hn0 := fun W => refNumber_b y W hsy
  have hn1 := fun W => refNumber_b z W hsz
  have hn2 := fun W => refNumber_b u W hsu
  obtain ⟨p, ep, hp⟩ : ∃ a b, numW y = (a, b) := ⟨_, _, rfl⟩
  rw [hp] at hn0 ⊢
  obtain ⟨q, eq, hq⟩ : ∃ a b, numW z = (a, b) := ⟨_, _, rfl⟩
  rw [hq] at hn1 ⊢
  obtain ⟨t, et, ht⟩ : ∃ a b, numW u = (a, b) := ⟨_, _, rfl⟩
  rw [ht] at hn2 ⊢
  dsimp only at hn0 hn1 hn2 ⊢
  clear hp hsy hq hsz ht hsu hw hcw hbs
  have h0 := LnB.start w n A c l
  obtain ⟨b0, b1, r0, r1, f0, f1, g0, g1, z0, z1⟩ := h0.cells
  have H0 := Lib.hid h0
  clear h0
  obtain ⟨c0, -⟩ := hss _ H0.out.below
  obtain ⟨-, c1, c2, c3⟩ := hss _ (H0.out.below.alloc H0.out.below.size (.cells #[.int .i64 0, .int .i64 0, .int .i64 1] 2))
  have HSS := Lib.hid hss; have HR := Lib.hid h; have HCC := Lib.hid hc; have HN0 := Lib.hid hn0; have HN1 := Lib.hid hn1; have HN2 := Lib.hid hn2
  clear hss h hc hn0 hn1 hn2
  by_cases hep : ep = 0
  rotate_left
  · rw [if_neg (by rintro ⟨h, _⟩; exact hep h)]
    have e0 : (ep != 0) = true := by simp [hep]
    clear hep
    go_enter Tryd.func36, Tryd.ntmps36
    go_wp2
    refine wp_loop_rounds 5 ?_
    rw [rounds_succ]
    go_wp2_with fail
    refine (HN0.out _).mono ?_
    rintro R0 v0 ⟨rfl, hb0⟩
    have hs0 := (H0.out.step ((Below.refl _ _).alloc (Nat.le_refl _) (.cells #[.int .i64 0, .int .i64 0, .int .i64 1] 2))).step hb0
    have kn0 := (Blk.new ((w.alloc (.cells #[.int .i64 n, .slice A l.length c] 25)).alloc (.cells #[.int .i64 0, .slice none 0 0] 25)) 2 #[.int .i64 0, .int .i64 0, .int .i64 1]).below hb0 (by simp)
    rw [show ((w.alloc (.cells #[.int .i64 n, .slice A l.length c] 25)).alloc (.cells #[.int .i64 0, .slice none 0 0] 25)).heap.size = w.heap.size + 2 from by simp, show w.heap.size + 2 = w.heap.size + 1 + 1 from rfl] at kn0
    obtain ⟨b0, b1, r0, r1, f0, f1, g0, g1, z0, z1⟩ := hs0.cells
    obtain ⟨c0, c1, c2, c3⟩ := HSS.out _ hs0.below
    have n0 : v0.cell? ⟨w.heap.size + 1 + 1, 0, none⟩ = some (.int .i64 0) := kn0.cell 0
    have m0 := kn0.frozen 0; have zn := kn0.lt
    have HB0 := Lib.hid hb0; have HS0 := Lib.hid hs0; have KN0 := Lib.hid kn0
    clear hb0 hs0 kn0
    go_wp2
    have hd0 := (HS0.out.rbox.set_ 0 (.int .i64 n)).set_ 1 (.slice A l.length c)
    have hd1 := hd0.cell 0; have hd2 := hd0.cell 1
    simp only [List.getElem?_toArray, List.setIfInBounds_toArray, List.set_cons_zero, List.set_cons_succ, List.getElem?_cons_zero, List.getElem?_cons_succ] at hd1 hd2
    exact bodyPost_ret (v := .tuple #[.agg #[.int .i64 n, .slice A l.length c], .bool false]) (by simp [results, Tryd.results36, go_sem, hd1, hd2]) rfl ⟨(HS0.out.below.setCell (p := ⟨w.heap.size + 1, 0, none⟩) (by show _ ≤ w.heap.size + 1; omega) _).setCell (p := ⟨w.heap.size + 1, 1, none⟩) (by show _ ≤ w.heap.size + 1; omega) _, A, l.length, c, rfl⟩
  subst hep
  by_cases heq : eq = 0
  rotate_left
  · rw [if_neg (by rintro ⟨_, h, _⟩; exact heq h)]
    have e1 : (eq != 0) = true := by simp [heq]
    clear heq
    go_enter Tryd.func36, Tryd.ntmps36
    go_wp2
    refine wp_loop_rounds 5 ?_
    rw [rounds_succ]
    go_wp2_with fail
    refine (HN0.out _).mono ?_
    rintro R0 v0 ⟨rfl, hb0⟩
    have hs0 := (H0.out.step ((Below.refl _ _).alloc (Nat.le_refl _) (.cells #[.int .i64 0, .int .i64 0, .int .i64 1] 2))).step hb0
    have kn0 := (Blk.new ((w.alloc (.cells #[.int .i64 n, .slice A l.length c] 25)).alloc (.cells #[.int .i64 0, .slice none 0 0] 25)) 2 #[.int .i64 0, .int .i64 0, .int .i64 1]).below hb0 (by simp)
    rw [show ((w.alloc (.cells #[.int .i64 n, .slice A l.length c] 25)).alloc (.cells #[.int .i64 0, .slice none 0 0] 25)).heap.size = w.heap.size + 2 from by simp, show w.heap.size + 2 = w.heap.size + 1 + 1 from rfl] at kn0
    obtain ⟨b0, b1, r0, r1, f0, f1, g0, g1, z0, z1⟩ := hs0.cells
    obtain ⟨c0, c1, c2, c3⟩ := HSS.out _ hs0.below
    have n0 : v0.cell? ⟨w.heap.size + 1 + 1, 0, none⟩ = some (.int .i64 0) := kn0.cell 0
    have m0 := kn0.frozen 0; have zn := kn0.lt
    have HB0 := Lib.hid hb0; have HS0 := Lib.hid hs0; have KN0 := Lib.hid kn0
    clear hb0 hs0 kn0
    go_wp2
    rw [rounds_succ]
    go_wp2_with fail
    refine (HN1.out _).mono ?_
    rintro R1 v1 ⟨rfl, hb1⟩
    have hs1 := (HS0.out.far (g := w.heap.size + 1 + 1) (Nat.le_refl _) 0 (.int .i64 p)).step hb1
    have kn1 := (KN0.out.set_ 0 (.int .i64 p)).below hb1 (by exact (KN0.out.set_ 0 (.int .i64 p)).lt)
    obtain ⟨b0, b1, r0, r1, f0, f1, g0, g1, z0, z1⟩ := hs1.cells
    obtain ⟨c0, c1, c2, c3⟩ := HSS.out _ hs1.below
    have n1 : v1.cell? ⟨w.heap.size + 1 + 1, 1, none⟩ = some (.int .i64 0) := kn1.cell 1
    have m0 := kn1.frozen 1; have zn := kn1.lt
    have HB1 := Lib.hid hb1; have HS1 := Lib.hid hs1; have KN1 := Lib.hid kn1
    clear hb1 hs1 kn1
    go_wp2
    have hd0 := (HS1.out.rbox.set_ 0 (.int .i64 n)).set_ 1 (.slice A l.length c)
    have hd1 := hd0.cell 0; have hd2 := hd0.cell 1
    simp only [List.getElem?_toArray, List.setIfInBounds_toArray, List.set_cons_zero, List.set_cons_succ, List.getElem?_cons_zero, List.getElem?_cons_succ] at hd1 hd2
    exact bodyPost_ret (v := .tuple #[.agg #[.int .i64 n, .slice A l.length c], .bool false]) (by simp [results, Tryd.results36, go_sem, hd1, hd2]) rfl ⟨(HS1.out.below.setCell (p := ⟨w.heap.size + 1, 0, none⟩) (by show _ ≤ w.heap.size + 1; omega) _).setCell (p := ⟨w.heap.size + 1, 1, none⟩) (by show _ ≤ w.heap.size + 1; omega) _, A, l.length, c, rfl⟩
  subst heq
  by_cases het : et = 0
  rotate_left
  · rw [if_neg (by rintro ⟨_, _, h, _⟩; exact het h)]
    have e2 : (et != 0) = true := by simp [het]
    clear het
    go_enter Tryd.func36, Tryd.ntmps36
    go_wp2
    refine wp_loop_rounds 5 ?_
    rw [rounds_succ]
    go_wp2_with fail
    refine (HN0.out _).mono ?_
    rintro R0 v0 ⟨rfl, hb0⟩
    have hs0 := (H0.out.step ((Below.refl _ _).alloc (Nat.le_refl _) (.cells #[.int .i64 0, .int .i64 0, .int .i64 1] 2))).step hb0
    have kn0 := (Blk.new ((w.alloc (.cells #[.int .i64 n, .slice A l.length c] 25)).alloc (.cells #[.int .i64 0, .slice none 0 0] 25)) 2 #[.int .i64 0, .int .i64 0, .int .i64 1]).below hb0 (by simp)
    rw [show ((w.alloc (.cells #[.int .i64 n, .slice A l.length c] 25)).alloc (.cells #[.int .i64 0, .slice none 0 0] 25)).heap.size = w.heap.size + 2 from by simp, show w.heap.size + 2 = w.heap.size + 1 + 1 from rfl] at kn0
    obtain ⟨b0, b1, r0, r1, f0, f1, g0, g1, z0, z1⟩ := hs0.cells
    obtain ⟨c0, c1, c2, c3⟩ := HSS.out _ hs0.below
    have n0 : v0.cell? ⟨w.heap.size + 1 + 1, 0, none⟩ = some (.int .i64 0) := kn0.cell 0
    have m0 := kn0.frozen 0; have zn := kn0.lt
    have HB0 := Lib.hid hb0; have HS0 := Lib.hid hs0; have KN0 := Lib.hid kn0
    clear hb0 hs0 kn0
    go_wp2
    rw [rounds_succ]
    go_wp2_with fail
    refine (HN1.out _).mono ?_
    rintro R1 v1 ⟨rfl, hb1⟩
    have hs1 := (HS0.out.far (g := w.heap.size + 1 + 1) (Nat.le_refl _) 0 (.int .i64 p)).step hb1
    have kn1 := (KN0.out.set_ 0 (.int .i64 p)).below hb1 (by exact (KN0.out.set_ 0 (.int .i64 p)).lt)
    obtain ⟨b0, b1, r0, r1, f0, f1, g0, g1, z0, z1⟩ := hs1.cells
    obtain ⟨c0, c1, c2, c3⟩ := HSS.out _ hs1.below
    have n1 : v1.cell? ⟨w.heap.size + 1 + 1, 1, none⟩ = some (.int .i64 0) := kn1.cell 1
    have m0 := kn1.frozen 1; have zn := kn1.lt
    have HB1 := Lib.hid hb1; have HS1 := Lib.hid hs1; have KN1 := Lib.hid kn1
    clear hb1 hs1 kn1
    go_wp2
    rw [rounds_succ]
    go_wp2_with fail
    refine (HN2.out _).mono ?_
    rintro R2 v2 ⟨rfl, hb2⟩
    have hs2 := (HS1.out.far (g := w.heap.size + 1 + 1) (Nat.le_refl _) 1 (.int .i64 q)).step hb2
    have kn2 := (KN1.out.set_ 1 (.int .i64 q)).below hb2 (by exact (KN1.out.set_ 1 (.int .i64 q)).lt)
    obtain ⟨b0, b1, r0, r1, f0, f1, g0, g1, z0, z1⟩ := hs2.cells
    obtain ⟨c0, c1, c2, c3⟩ := HSS.out _ hs2.below
    have n2 : v2.cell? ⟨w.heap.size + 1 + 1, 2, none⟩ = some (.int .i64 1) := kn2.cell 2
    have m0 := kn2.frozen 2; have zn := kn2.lt
    have HB2 := Lib.hid hb2; have HS2 := Lib.hid hs2; have KN2 := Lib.hid kn2
    clear hb2 hs2 kn2
    go_wp2
    have hd0 := (HS2.out.rbox.set_ 0 (.int .i64 n)).set_ 1 (.slice A l.length c)
    have hd1 := hd0.cell 0; have hd2 := hd0.cell 1
    simp only [List.getElem?_toArray, List.setIfInBounds_toArray, List.set_cons_zero, List.set_cons_succ, List.getElem?_cons_zero, List.getElem?_cons_succ] at hd1 hd2
    exact bodyPost_ret (v := .tuple #[.agg #[.int .i64 n, .slice A l.length c], .bool false]) (by simp [results, Tryd.results36, go_sem, hd1, hd2]) rfl ⟨(HS2.out.below.setCell (p := ⟨w.heap.size + 1, 0, none⟩) (by show _ ≤ w.heap.size + 1; omega) _).setCell (p := ⟨w.heap.size + 1, 1, none⟩) (by show _ ≤ w.heap.size + 1; omega) _, A, l.length, c, rfl⟩
  subst het
  by_cases hp : p < 512
  rotate_left
  · rw [if_neg (by rintro ⟨_, _, _, h, _⟩; exact hp h)]
    have hg : (512 : Int) ≤ p := by omega
    clear hp
    go_enter Tryd.func36, Tryd.ntmps36
    go_wp2
    refine wp_loop_rounds 5 ?_
    rw [rounds_succ]
    go_wp2_with fail
    refine (HN0.out _).mono ?_
    rintro R0 v0 ⟨rfl, hb0⟩
    have hs0 := (H0.out.step ((Below.refl _ _).alloc (Nat.le_refl _) (.cells #[.int .i64 0, .int .i64 0, .int .i64 1] 2))).step hb0
    have kn0 := (Blk.new ((w.alloc (.cells #[.int .i64 n, .slice A l.length c] 25)).alloc (.cells #[.int .i64 0, .slice none 0 0] 25)) 2 #[.int .i64 0, .int .i64 0, .int .i64 1]).below hb0 (by simp)
    rw [show ((w.alloc (.cells #[.int .i64 n, .slice A l.length c] 25)).alloc (.cells #[.int .i64 0, .slice none 0 0] 25)).heap.size = w.heap.size + 2 from by simp, show w.heap.size + 2 = w.heap.size + 1 + 1 from rfl] at kn0
    obtain ⟨b0, b1, r0, r1, f0, f1, g0, g1, z0, z1⟩ := hs0.cells
    obtain ⟨c0, c1, c2, c3⟩ := HSS.out _ hs0.below
    have n0 : v0.cell? ⟨w.heap.size + 1 + 1, 0, none⟩ = some (.int .i64 0) := kn0.cell 0
    have m0 := kn0.frozen 0; have zn := kn0.lt
    have HB0 := Lib.hid hb0; have HS0 := Lib.hid hs0; have KN0 := Lib.hid kn0
    clear hb0 hs0 kn0
    go_wp2
    rw [rounds_succ]
    go_wp2_with fail
    refine (HN1.out _).mono ?_
    rintro R1 v1 ⟨rfl, hb1⟩
    have hs1 := (HS0.out.far (g := w.heap.size + 1 + 1) (Nat.le_refl _) 0 (.int .i64 p)).step hb1
    have kn1 := (KN0.out.set_ 0 (.int .i64 p)).below hb1 (by exact (KN0.out.set_ 0 (.int .i64 p)).lt)
    obtain ⟨b0, b1, r0, r1, f0, f1, g0, g1, z0, z1⟩ := hs1.cells
    obtain ⟨c0, c1, c2, c3⟩ := HSS.out _ hs1.below
    have n1 : v1.cell? ⟨w.heap.size + 1 + 1, 1, none⟩ = some (.int .i64 0) := kn1.cell 1
    have m0 := kn1.frozen 1; have zn := kn1.lt
    have HB1 := Lib.hid hb1; have HS1 := Lib.hid hs1; have KN1 := Lib.hid kn1
    clear hb1 hs1 kn1
    go_wp2
    rw [rounds_succ]
    go_wp2_with fail
    refine (HN2.out _).mono ?_
    rintro R2 v2 ⟨rfl, hb2⟩
    have hs2 := (HS1.out.far (g := w.heap.size + 1 + 1) (Nat.le_refl _) 1 (.int .i64 q)).step hb2
    have kn2 := (KN1.out.set_ 1 (.int .i64 q)).below hb2 (by exact (KN1.out.set_ 1 (.int .i64 q)).lt)
    obtain ⟨b0, b1, r0, r1, f0, f1, g0, g1, z0, z1⟩ := hs2.cells
    obtain ⟨c0, c1, c2, c3⟩ := HSS.out _ hs2.below
    have n0 : v2.cell? ⟨w.heap.size + 1 + 1, 0, none⟩ = some (.int .i64 p) := kn2.cell 0
    have n1 : v2.cell? ⟨w.heap.size + 1 + 1, 1, none⟩ = some (.int .i64 q) := kn2.cell 1
    have n2 : v2.cell? ⟨w.heap.size + 1 + 1, 2, none⟩ = some (.int .i64 1) := kn2.cell 2
    have m0 := kn2.frozen 2; have zn := kn2.lt
    have HB2 := Lib.hid hb2; have HS2 := Lib.hid hs2; have KN2 := Lib.hid kn2
    clear hb2 hs2 kn2
    go_wp2
    have hs9 := HS2.out.far (g := w.heap.size + 1 + 1) (Nat.le_refl _) 2 (.int .i64 t)
    rw [rounds_succ]
    go_wp2
    have hd0 := (hs9.rbox.set_ 0 (.int .i64 n)).set_ 1 (.slice A l.length c)
    have hd1 := hd0.cell 0; have hd2 := hd0.cell 1
    simp only [List.getElem?_toArray, List.setIfInBounds_toArray, List.set_cons_zero, List.set_cons_succ, List.getElem?_cons_zero, List.getElem?_cons_succ] at hd1 hd2
    exact bodyPost_ret (v := .tuple #[.agg #[.int .i64 n, .slice A l.length c], .bool false]) (by simp [results, Tryd.results36, go_sem, hd1, hd2]) rfl ⟨(hs9.below.setCell (p := ⟨w.heap.size + 1, 0, none⟩) (by show _ ≤ w.heap.size + 1; omega) _).setCell (p := ⟨w.heap.size + 1, 1, none⟩) (by show _ ≤ w.heap.size + 1; omega) _, A, l.length, c, rfl⟩
  by_cases hq : q < 512
  rotate_left
  · rw [if_neg (by rintro ⟨_, _, _, _, h⟩; exact hq h)]
    have hg : (512 : Int) ≤ q := by omega
    have hq0 : ¬ (512 : Int) ≤ p := by omega
    clear hq
    go_enter Tryd.func36, Tryd.ntmps36
    go_wp2
    refine wp_loop_rounds 5 ?_
    rw [rounds_succ]
    go_wp2_with fail
    refine (HN0.out _).mono ?_
    rintro R0 v0 ⟨rfl, hb0⟩
    have hs0 := (H0.out.step ((Below.refl _ _).alloc (Nat.le_refl _) (.cells #[.int .i64 0, .int .i64 0, .int .i64 1] 2))).step hb0
    have kn0 := (Blk.new ((w.alloc (.cells #[.int .i64 n, .slice A l.length c] 25)).alloc (.cells #[.int .i64 0, .slice none 0 0] 25)) 2 #[.int .i64 0, .int .i64 0, .int .i64 1]).below hb0 (by simp)
    rw [show ((w.alloc (.cells #[.int .i64 n, .slice A l.length c] 25)).alloc (.cells #[.int .i64 0, .slice none 0 0] 25)).heap.size = w.heap.size + 2 from by simp, show w.heap.size + 2 = w.heap.size + 1 + 1 from rfl] at kn0
    obtain ⟨b0, b1, r0, r1, f0, f1, g0, g1, z0, z1⟩ := hs0.cells
    obtain ⟨c0, c1, c2, c3⟩ := HSS.out _ hs0.below
    have n0 : v0.cell? ⟨w.heap.size + 1 + 1, 0, none⟩ = some (.int .i64 0) := kn0.cell 0
    have m0 := kn0.frozen 0; have zn := kn0.lt
    have HB0 := Lib.hid hb0; have HS0 := Lib.hid hs0; have KN0 := Lib.hid kn0
    clear hb0 hs0 kn0
    go_wp2
    rw [rounds_succ]
    go_wp2_with fail
    refine (HN1.out _).mono ?_
    rintro R1 v1 ⟨rfl, hb1⟩
    have hs1 := (HS0.out.far (g := w.heap.size + 1 + 1) (Nat.le_refl _) 0 (.int .i64 p)).step hb1
    have kn1 := (KN0.out.set_ 0 (.int .i64 p)).below hb1 (by exact (KN0.out.set_ 0 (.int .i64 p)).lt)
    obtain ⟨b0, b1, r0, r1, f0, f1, g0, g1, z0, z1⟩ := hs1.cells
    obtain ⟨c0, c1, c2, c3⟩ := HSS.out _ hs1.below
    have n1 : v1.cell? ⟨w.heap.size + 1 + 1, 1, none⟩ = some (.int .i64 0) := kn1.cell 1
    have m0 := kn1.frozen 1; have zn := kn1.lt
    have HB1 := Lib.hid hb1; have HS1 := Lib.hid hs1; have KN1 := Lib.hid kn1
    clear hb1 hs1 kn1
    go_wp2
    rw [rounds_succ]
    go_wp2_with fail
    refine (HN2.out _).mono ?_
    rintro R2 v2 ⟨rfl, hb2⟩
    have hs2 := (HS1.out.far (g := w.heap.size + 1 + 1) (Nat.le_refl _) 1 (.int .i64 q)).step hb2
    have kn2 := (KN1.out.set_ 1 (.int .i64 q)).below hb2 (by exact (KN1.out.set_ 1 (.int .i64 q)).lt)
    obtain ⟨b0, b1, r0, r1, f0, f1, g0, g1, z0, z1⟩ := hs2.cells
    obtain ⟨c0, c1, c2, c3⟩ := HSS.out _ hs2.below
    have n0 : v2.cell? ⟨w.heap.size + 1 + 1, 0, none⟩ = some (.int .i64 p) := kn2.cell 0
    have n1 : v2.cell? ⟨w.heap.size + 1 + 1, 1, none⟩ = some (.int .i64 q) := kn2.cell 1
    have n2 : v2.cell? ⟨w.heap.size + 1 + 1, 2, none⟩ = some (.int .i64 1) := kn2.cell 2
    have m0 := kn2.frozen 2; have zn := kn2.lt
    have HB2 := Lib.hid hb2; have HS2 := Lib.hid hs2; have KN2 := Lib.hid kn2
    clear hb2 hs2 kn2
    go_wp2
    have hs9 := HS2.out.far (g := w.heap.size + 1 + 1) (Nat.le_refl _) 2 (.int .i64 t)
    rw [rounds_succ]
    go_wp2
    have hd0 := (hs9.rbox.set_ 0 (.int .i64 n)).set_ 1 (.slice A l.length c)
    have hd1 := hd0.cell 0; have hd2 := hd0.cell 1
    simp only [List.getElem?_toArray, List.setIfInBounds_toArray, List.set_cons_zero, List.set_cons_succ, List.getElem?_cons_zero, List.getElem?_cons_succ] at hd1 hd2
    exact bodyPost_ret (v := .tuple #[.agg #[.int .i64 n, .slice A l.length c], .bool false]) (by simp [results, Tryd.results36, go_sem, hd1, hd2]) rfl ⟨(hs9.below.setCell (p := ⟨w.heap.size + 1, 0, none⟩) (by show _ ≤ w.heap.size + 1; omega) _).setCell (p := ⟨w.heap.size + 1, 1, none⟩) (by show _ ≤ w.heap.size + 1; omega) _, A, l.length, c, rfl⟩
  rw [if_pos ⟨rfl, rfl, rfl, hp, hq⟩]
  have hp0 : ¬ (512 : Int) ≤ p := by omega
  have hq0 : ¬ (512 : Int) ≤ q := by omega
  clear hp hq
  go_enter Tryd.func36, Tryd.ntmps36
  go_wp2
  refine wp_loop_rounds 5 ?_
  rw [rounds_succ]
  go_wp2_with fail
  refine (HN0.out _).mono ?_
  rintro R0 v0 ⟨rfl, hb0⟩
  have hs0 := (H0.out.step ((Below.refl _ _).alloc (Nat.le_refl _) (.cells #[.int .i64 0, .int .i64 0, .int .i64 1] 2))).step hb0
  have kn0 := (Blk.new ((w.alloc (.cells #[.int .i64 n, .slice A l.length c] 25)).alloc (.cells #[.int .i64 0, .slice none 0 0] 25)) 2 #[.int .i64 0, .int .i64 0, .int .i64 1]).below hb0 (by simp)
  rw [show ((w.alloc (.cells #[.int .i64 n, .slice A l.length c] 25)).alloc (.cells #[.int .i64 0, .slice none 0 0] 25)).heap.size = w.heap.size + 2 from by simp, show w.heap.size + 2 = w.heap.size + 1 + 1 from rfl] at kn0
  obtain ⟨b0, b1, r0, r1, f0, f1, g0, g1, z0, z1⟩ := hs0.cells
  obtain ⟨c0, c1, c2, c3⟩ := HSS.out _ hs0.below
  have n0 : v0.cell? ⟨w.heap.size + 1 + 1, 0, none⟩ = some (.int .i64 0) := kn0.cell 0
  have m0 := kn0.frozen 0; have zn := kn0.lt
  have HB0 := Lib.hid hb0; have HS0 := Lib.hid hs0; have KN0 := Lib.hid kn0
  clear hb0 hs0 kn0
  go_wp2
  rw [rounds_succ]
  go_wp2_with fail
  refine (HN1.out _).mono ?_
  rintro R1 v1 ⟨rfl, hb1⟩
  have hs1 := (HS0.out.far (g := w.heap.size + 1 + 1) (Nat.le_refl _) 0 (.int .i64 p)).step hb1
  have kn1 := (KN0.out.set_ 0 (.int .i64 p)).below hb1 (by exact (KN0.out.set_ 0 (.int .i64 p)).lt)
  obtain ⟨b0, b1, r0, r1, f0, f1, g0, g1, z0, z1⟩ := hs1.cells
  obtain ⟨c0, c1, c2, c3⟩ := HSS.out _ hs1.below
  have n1 : v1.cell? ⟨w.heap.size + 1 + 1, 1, none⟩ = some (.int .i64 0) := kn1.cell 1
  have m0 := kn1.frozen 1; have zn := kn1.lt
  have HB1 := Lib.hid hb1; have HS1 := Lib.hid hs1; have KN1 := Lib.hid kn1
  clear hb1 hs1 kn1
  go_wp2
  rw [rounds_succ]
  go_wp2_with fail
  refine (HN2.out _).mono ?_
  rintro R2 v2 ⟨rfl, hb2⟩
  have hs2 := (HS1.out.far (g := w.heap.size + 1 + 1) (Nat.le_refl _) 1 (.int .i64 q)).step hb2
  have kn2 := (KN1.out.set_ 1 (.int .i64 q)).below hb2 (by exact (KN1.out.set_ 1 (.int .i64 q)).lt)
  obtain ⟨b0, b1, r0, r1, f0, f1, g0, g1, z0, z1⟩ := hs2.cells
  obtain ⟨c0, c1, c2, c3⟩ := HSS.out _ hs2.below
  have n0 : v2.cell? ⟨w.heap.size + 1 + 1, 0, none⟩ = some (.int .i64 p) := kn2.cell 0
  have n1 : v2.cell? ⟨w.heap.size + 1 + 1, 1, none⟩ = some (.int .i64 q) := kn2.cell 1
  have n2 : v2.cell? ⟨w.heap.size + 1 + 1, 2, none⟩ = some (.int .i64 1) := kn2.cell 2
  have m0 := kn2.frozen 2; have zn := kn2.lt
  have HB2 := Lib.hid hb2; have HS2 := Lib.hid hs2; have KN2 := Lib.hid kn2
  clear hb2 hs2 kn2
  go_wp2
  rw [rounds_succ]
  go_wp2_with fail
  have hs9 := HS2.out.far (g := w.heap.size + 1 + 1) (Nat.le_refl _) 2 (.int .i64 t)
  have kn9 : Blk (v2.setCell ⟨w.heap.size + 1 + 1, 2, none⟩ (.int .i64 t)) (w.heap.size + 1 + 1) 2 #[.int .i64 p, .int .i64 q, .int .i64 t] := KN2.out.set_ 2 (.int .i64 t)
  obtain ⟨wx, hwx⟩ : ∃ wx, (v2.setCell ⟨w.heap.size + 1 + 1, 2, none⟩ (.int .i64 t)) = wx := ⟨_, rfl⟩
  rw [hwx] at hs9 kn9 ⊢
  clear hwx b0 b1 r0 r1 f0 f1 g0 g1 z0 z1 n0 n1 n2 m0 zn c0 c1 c2 c3
  have n0 : wx.cell? ⟨w.heap.size + 1 + 1, 0, none⟩ = some (.int .i64 p) := kn9.cell 0
  have n1 : wx.cell? ⟨w.heap.size + 1 + 1, 1, none⟩ = some (.int .i64 q) := kn9.cell 1
  have n2 : wx.cell? ⟨w.heap.size + 1 + 1, 2, none⟩ = some (.int .i64 t) := kn9.cell 2
  have zn := kn9.lt
  obtain ⟨b0, b1, r0, r1, f0, f1, g0, g1, z0, z1⟩ := hs9.cells
  have HAD := Lib.hid fun W hW => refAdd_any W n A c l (p, q, t) hW HCC.out
  have HS9 := Lib.hid hs9
  clear hs9 kn9
  go_region_held3 (fun w' => w'.cell? ⟨w.heap.size + 1 + 1, 0, none⟩ = some (.int .i64 p) ∧ w'.cell? ⟨w.heap.size + 1 + 1, 1, none⟩ = some (.int .i64 q) ∧ w'.cell? ⟨w.heap.size + 1 + 1, 2, none⟩ = some (.int .i64 t)) (go_keep) (fail)
  go_wp2_with fail
  refine (HAD.out _ ?_).mono ?_
  · exact (HR.out.below HS9.out.below).alloc _
  rintro R9 w9 ⟨hb9, h9⟩
  have hs10 := HS9.out.step (((Below.refl _ _).alloc (Nat.le_refl _) (.cells #[.int .i64 p, .int .i64 q, .int .i64 t] 35)).trans ((undrew hb9).mono (by simp)))
  have ke : Blk w9 wx.heap.size 35 #[.int .i64 p, .int .i64 q, .int .i64 t] := (Blk.new wx 35 #[.int .i64 p, .int .i64 q, .int .i64 t]).below (undrew hb9) (by simp)
  clear b0 b1 r0 r1 f0 f1 g0 g1 z0 z1 n0 n1 n2 zn HAD
  obtain ⟨b0, b1, r0, r1, f0, f1, g0, g1, z0, z1⟩ := hs10.cells
  obtain ⟨c0, -⟩ := HSS.out _ hs10.below
  have zw : w.heap.size + 2 ≤ wx.heap.size := HS9.out.size
  cases ho : addR n l (p, q, t) with
  | none =>
    rw [ho] at h9
    obtain rfl := h9
    have hres : edgeR n l false (p, q, t) = none := by unfold edgeR; rw [ho]
    have hs11 := hs10.put A c l
    have HRES := Lib.hid hres; have HS11 := Lib.hid hs11
    clear hres ho hs10 hs11 ke hb9
    go_wp2
    rw [HRES.out]
    have hd0 := (HS11.out.rbox.set_ 0 (.int .i64 n)).set_ 1 (.slice A l.length c)
    have hd1 := hd0.cell 0; have hd2 := hd0.cell 1
    simp only [List.getElem?_toArray, List.setIfInBounds_toArray, List.set_cons_zero, List.set_cons_succ, List.getElem?_cons_zero, List.getElem?_cons_succ] at hd1 hd2
    exact bodyPost_ret (v := .tuple #[.agg #[.int .i64 n, .slice A l.length c], .bool false]) (by simp [results, Tryd.results36, go_sem, hd1, hd2]) rfl ⟨(HS11.out.below.setCell (p := ⟨w.heap.size + 1, 0, none⟩) (by show _ ≤ w.heap.size + 1; omega) _).setCell (p := ⟨w.heap.size + 1, 1, none⟩) (by show _ ≤ w.heap.size + 1; omega) _, A, l.length, c, rfl⟩
  | some m =>
    rw [ho] at h9
    obtain ⟨A', c', rfl, hc', hown⟩ := h9
    have hs11 := hs10.put A' c' m
    have ho11 := own_keep (own_keep hown (type_set (i := 0) hs10.box (by decide) (.int .i64 n))) (type_set (i := 1) (hs10.box.set_ 0 (.int .i64 n)) (by decide) (.slice A' m.length c'))
    have ho12 := own_mono ho11 (show w.heap.size ≤ (wx.alloc (.cells #[.int .i64 p, .int .i64 q, .int .i64 t] 35)).heap.size by simp; omega)
    have HS11 := Lib.hid hs11; have HO12 := Lib.hid ho12; have HC' := Lib.hid hc'
    have hres : edgeR n l false (p, q, t) = some (n, m) := by unfold edgeR; rw [ho]; simp
    have HRES := Lib.hid hres
    clear hres ho hs10 hs11 ke hb9 hown ho11 ho12 hc'
    go_wp2
    have hd0 := (HS11.out.rbox.set_ 0 (.int .i64 n)).set_ 1 (.slice A' m.length c')
    have hd1 := hd0.cell 0; have hd2 := hd0.cell 1
    simp only [List.getElem?_toArray, List.setIfInBounds_toArray, List.set_cons_zero, List.set_cons_succ, List.getElem?_cons_zero, List.getElem?_cons_succ] at hd1 hd2
    have ho1 := own_keep HO12.out (type_set (i := 0) HS11.out.rbox (by decide) (.int .i64 n))
    have hr1 := HS11.out.rbox.set_ 0 (.int .i64 n)
    have ho2 := own_keep ho1 (type_set (i := 1) hr1 (by decide) (.slice A' m.length c'))
    rw [HRES.out]
    exact bodyPost_ret (v := .tuple #[.agg #[.int .i64 n, .slice A' m.length c'], .bool true]) (by simp [results, Tryd.results36, go_sem, hd1, hd2]) rfl ⟨(HS11.out.below.setCell (p := ⟨w.heap.size + 1, 0, none⟩) (by show _ ≤ w.heap.size + 1; omega) _).setCell (p := ⟨w.heap.size + 1, 1, none⟩) (by show _ ≤ w.heap.size + 1; omega) _, A', c', rfl, HC'.out, own_mono ho2 (by omega)⟩
set_option maxRecDepth 100000 in
set_option maxHeartbeats 8000000 in
theorem rline_both3 (w : World) (n : Int) (A : Option Addr) (c : Nat) (l : List Edg) (Aw : Option Addr) (cw : Nat) (Bw : Nat) (y z : ByteArray) (hw : w.ownsRow Bw 9 1 (.slice Aw 3 cw) 3 ([wBoth, y, z].map Value.string)) (hsy : y.size ≤ 4294967296) (hsz : z.size ≤ 4294967296) (h : Rs edgC 3 w A l) (hc : l.length ≤ c) :
    Calls Tryd.prog 36 #[.agg #[.int .i64 n, .slice A l.length c], .slice Aw 3 cw] w (RLineP w n (if (numW y).2 = 0 ∧ (numW z).2 = 0 ∧ (numW y).1 < 512 ∧ (numW z).1 < 512 then edgeR n l true ((numW y).1, (numW z).1, 1) else none)) := by
  obtain ⟨b, cs, rfl, hb, hbs, hcw⟩ := words_own (ws := [wBoth, y, z]) hw (by simp)
  have hss : ∀ w', Below w.heap.size w w' → w'.cell? ⟨b, 0, none⟩ = some (.string wBoth) ∧ w'.cell? ⟨b, 1, none⟩ = some (.string y) ∧ w'.cell? ⟨b, 2, none⟩ = some (.string z) := fun w' hb' => ⟨(hb'.cell (p := ⟨b, 0, none⟩) hb).trans (hcw 0 _ rfl), (hb'.cell (p := ⟨b, 1, none⟩) hb).trans (hcw 1 _ rfl), (hb'.cell (p := ⟨b, 2, none⟩) hb).trans (hcw 2 _ rfl)⟩
  unfold wBoth at hss
  have hn0 := fun W => refNumber_b y W hsy
  have hn1 := fun W => refNumber_b z W hsz
  obtain ⟨p, ep, hp⟩ : ∃ a b, numW y = (a, b) := ⟨_, _, rfl⟩
  rw [hp] at hn0 ⊢
  obtain ⟨q, eq, hq⟩ : ∃ a b, numW z = (a, b) := ⟨_, _, rfl⟩
  rw [hq] at hn1 ⊢
  dsimp only at hn0 hn1 ⊢
  clear hp hsy hq hsz hw hcw hbs
  have h0 := LnB.start w n A c l
  obtain ⟨b0, b1, r0, r1, f0, f1, g0, g1, z0, z1⟩ := h0.cells
  have H0 := Lib.hid h0
  clear h0
  obtain ⟨c0, -⟩ := hss _ H0.out.below
  obtain ⟨-, c1, c2⟩ := hss _ (H0.out.below.alloc H0.out.below.size (.cells #[.int .i64 0, .int .i64 0, .int .i64 1] 2))
  have HSS := Lib.hid hss; have HR := Lib.hid h; have HCC := Lib.hid hc; have HN0 := Lib.hid hn0; have HN1 := Lib.hid hn1
  clear hss h hc hn0 hn1
  by_cases hep : ep = 0
  rotate_left
  · rw [if_neg (by rintro ⟨h, _⟩; exact hep h)]
    have e0 : (ep != 0) = true := by simp [hep]
    clear hep
    go_enter Tryd.func36, Tryd.ntmps36
    go_wp2
    refine wp_loop_rounds 5 ?_
    rw [rounds_succ]
    go_wp2_with fail
    refine (HN0.out _).mono ?_
    rintro R0 v0 ⟨rfl, hb0⟩
    have hs0 := (H0.out.step ((Below.refl _ _).alloc (Nat.le_refl _) (.cells #[.int .i64 0, .int .i64 0, .int .i64 1] 2))).step hb0
    have kn0 := (Blk.new ((w.alloc (.cells #[.int .i64 n, .slice A l.length c] 25)).alloc (.cells #[.int .i64 0, .slice none 0 0] 25)) 2 #[.int .i64 0, .int .i64 0, .int .i64 1]).below hb0 (by simp)
    rw [show ((w.alloc (.cells #[.int .i64 n, .slice A l.length c] 25)).alloc (.cells #[.int .i64 0, .slice none 0 0] 25)).heap.size = w.heap.size + 2 from by simp, show w.heap.size + 2 = w.heap.size + 1 + 1 from rfl] at kn0
    obtain ⟨b0, b1, r0, r1, f0, f1, g0, g1, z0, z1⟩ := hs0.cells
    obtain ⟨c0, c1, c2⟩ := HSS.out _ hs0.below
    have n0 : v0.cell? ⟨w.heap.size + 1 + 1, 0, none⟩ = some (.int .i64 0) := kn0.cell 0
    have m0 := kn0.frozen 0; have zn := kn0.lt
    have HB0 := Lib.hid hb0; have HS0 := Lib.hid hs0; have KN0 := Lib.hid kn0
    clear hb0 hs0 kn0
    go_wp2
    have hd0 := (HS0.out.rbox.set_ 0 (.int .i64 n)).set_ 1 (.slice A l.length c)
    have hd1 := hd0.cell 0; have hd2 := hd0.cell 1
    simp only [List.getElem?_toArray, List.setIfInBounds_toArray, List.set_cons_zero, List.set_cons_succ, List.getElem?_cons_zero, List.getElem?_cons_succ] at hd1 hd2
    exact bodyPost_ret (v := .tuple #[.agg #[.int .i64 n, .slice A l.length c], .bool false]) (by simp [results, Tryd.results36, go_sem, hd1, hd2]) rfl ⟨(HS0.out.below.setCell (p := ⟨w.heap.size + 1, 0, none⟩) (by show _ ≤ w.heap.size + 1; omega) _).setCell (p := ⟨w.heap.size + 1, 1, none⟩) (by show _ ≤ w.heap.size + 1; omega) _, A, l.length, c, rfl⟩
  subst hep
  by_cases heq : eq = 0
  rotate_left
  · rw [if_neg (by rintro ⟨_, h, _⟩; exact heq h)]
    have e1 : (eq != 0) = true := by simp [heq]
    clear heq
    go_enter Tryd.func36, Tryd.ntmps36
    go_wp2
    refine wp_loop_rounds 5 ?_
    rw [rounds_succ]
    go_wp2_with fail
    refine (HN0.out _).mono ?_
    rintro R0 v0 ⟨rfl, hb0⟩
    have hs0 := (H0.out.step ((Below.refl _ _).alloc (Nat.le_refl _) (.cells #[.int .i64 0, .int .i64 0, .int .i64 1] 2))).step hb0
    have kn0 := (Blk.new ((w.alloc (.cells #[.int .i64 n, .slice A l.length c] 25)).alloc (.cells #[.int .i64 0, .slice none 0 0] 25)) 2 #[.int .i64 0, .int .i64 0, .int .i64 1]).below hb0 (by simp)
    rw [show ((w.alloc (.cells #[.int .i64 n, .slice A l.length c] 25)).alloc (.cells #[.int .i64 0, .slice none 0 0] 25)).heap.size = w.heap.size + 2 from by simp, show w.heap.size + 2 = w.heap.size + 1 + 1 from rfl] at kn0
    obtain ⟨b0, b1, r0, r1, f0, f1, g0, g1, z0, z1⟩ := hs0.cells
    obtain ⟨c0, c1, c2⟩ := HSS.out _ hs0.below
    have n0 : v0.cell? ⟨w.heap.size + 1 + 1, 0, none⟩ = some (.int .i64 0) := kn0.cell 0
    have m0 := kn0.frozen 0; have zn := kn0.lt
    have HB0 := Lib.hid hb0; have HS0 := Lib.hid hs0; have KN0 := Lib.hid kn0
    clear hb0 hs0 kn0
    go_wp2
    rw [rounds_succ]
    go_wp2_with fail
    refine (HN1.out _).mono ?_
    rintro R1 v1 ⟨rfl, hb1⟩
    have hs1 := (HS0.out.far (g := w.heap.size + 1 + 1) (Nat.le_refl _) 0 (.int .i64 p)).step hb1
    have kn1 := (KN0.out.set_ 0 (.int .i64 p)).below hb1 (by exact (KN0.out.set_ 0 (.int .i64 p)).lt)
    obtain ⟨b0, b1, r0, r1, f0, f1, g0, g1, z0, z1⟩ := hs1.cells
    obtain ⟨c0, c1, c2⟩ := HSS.out _ hs1.below
    have n1 : v1.cell? ⟨w.heap.size + 1 + 1, 1, none⟩ = some (.int .i64 0) := kn1.cell 1
    have m0 := kn1.frozen 1; have zn := kn1.lt
    have HB1 := Lib.hid hb1; have HS1 := Lib.hid hs1; have KN1 := Lib.hid kn1
    clear hb1 hs1 kn1
    go_wp2
    have hd0 := (HS1.out.rbox.set_ 0 (.int .i64 n)).set_ 1 (.slice A l.length c)
    have hd1 := hd0.cell 0; have hd2 := hd0.cell 1
    simp only [List.getElem?_toArray, List.setIfInBounds_toArray, List.set_cons_zero, List.set_cons_succ, List.getElem?_cons_zero, List.getElem?_cons_succ] at hd1 hd2
    exact bodyPost_ret (v := .tuple #[.agg #[.int .i64 n, .slice A l.length c], .bool false]) (by simp [results, Tryd.results36, go_sem, hd1, hd2]) rfl ⟨(HS1.out.below.setCell (p := ⟨w.heap.size + 1, 0, none⟩) (by show _ ≤ w.heap.size + 1; omega) _).setCell (p := ⟨w.heap.size + 1, 1, none⟩) (by show _ ≤ w.heap.size + 1; omega) _, A, l.length, c, rfl⟩
  subst heq
  by_cases hp : p < 512
  rotate_left
  · rw [if_neg (by rintro ⟨_, _, h, _⟩; exact hp h)]
    have hg : (512 : Int) ≤ p := by omega
    clear hp
    go_enter Tryd.func36, Tryd.ntmps36
    go_wp2
    refine wp_loop_rounds 5 ?_
    rw [rounds_succ]
    go_wp2_with fail
    refine (HN0.out _).mono ?_
    rintro R0 v0 ⟨rfl, hb0⟩
    have hs0 := (H0.out.step ((Below.refl _ _).alloc (Nat.le_refl _) (.cells #[.int .i64 0, .int .i64 0, .int .i64 1] 2))).step hb0
    have kn0 := (Blk.new ((w.alloc (.cells #[.int .i64 n, .slice A l.length c] 25)).alloc (.cells #[.int .i64 0, .slice none 0 0] 25)) 2 #[.int .i64 0, .int .i64 0, .int .i64 1]).below hb0 (by simp)
    rw [show ((w.alloc (.cells #[.int .i64 n, .slice A l.length c] 25)).alloc (.cells #[.int .i64 0, .slice none 0 0] 25)).heap.size = w.heap.size + 2 from by simp, show w.heap.size + 2 = w.heap.size + 1 + 1 from rfl] at kn0
    obtain ⟨b0, b1, r0, r1, f0, f1, g0, g1, z0, z1⟩ := hs0.cells
    obtain ⟨c0, c1, c2⟩ := HSS.out _ hs0.below
    have n0 : v0.cell? ⟨w.heap.size + 1 + 1, 0, none⟩ = some (.int .i64 0) := kn0.cell 0
    have m0 := kn0.frozen 0; have zn := kn0.lt
    have HB0 := Lib.hid hb0; have HS0 := Lib.hid hs0; have KN0 := Lib.hid kn0
    clear hb0 hs0 kn0
    go_wp2
    rw [rounds_succ]
    go_wp2_with fail
    refine (HN1.out _).mono ?_
    rintro R1 v1 ⟨rfl, hb1⟩
    have hs1 := (HS0.out.far (g := w.heap.size + 1 + 1) (Nat.le_refl _) 0 (.int .i64 p)).step hb1
    have kn1 := (KN0.out.set_ 0 (.int .i64 p)).below hb1 (by exact (KN0.out.set_ 0 (.int .i64 p)).lt)
    obtain ⟨b0, b1, r0, r1, f0, f1, g0, g1, z0, z1⟩ := hs1.cells
    obtain ⟨c0, c1, c2⟩ := HSS.out _ hs1.below
    have n0 : v1.cell? ⟨w.heap.size + 1 + 1, 0, none⟩ = some (.int .i64 p) := kn1.cell 0
    have n1 : v1.cell? ⟨w.heap.size + 1 + 1, 1, none⟩ = some (.int .i64 0) := kn1.cell 1
    have n2 : v1.cell? ⟨w.heap.size + 1 + 1, 2, none⟩ = some (.int .i64 1) := kn1.cell 2
    have m0 := kn1.frozen 1; have zn := kn1.lt
    have HB1 := Lib.hid hb1; have HS1 := Lib.hid hs1; have KN1 := Lib.hid kn1
    clear hb1 hs1 kn1
    go_wp2
    have hs9 := HS1.out.far (g := w.heap.size + 1 + 1) (Nat.le_refl _) 1 (.int .i64 q)
    rw [rounds_succ]
    go_wp2
    have hd0 := (hs9.rbox.set_ 0 (.int .i64 n)).set_ 1 (.slice A l.length c)
    have hd1 := hd0.cell 0; have hd2 := hd0.cell 1
    simp only [List.getElem?_toArray, List.setIfInBounds_toArray, List.set_cons_zero, List.set_cons_succ, List.getElem?_cons_zero, List.getElem?_cons_succ] at hd1 hd2
    exact bodyPost_ret (v := .tuple #[.agg #[.int .i64 n, .slice A l.length c], .bool false]) (by simp [results, Tryd.results36, go_sem, hd1, hd2]) rfl ⟨(hs9.below.setCell (p := ⟨w.heap.size + 1, 0, none⟩) (by show _ ≤ w.heap.size + 1; omega) _).setCell (p := ⟨w.heap.size + 1, 1, none⟩) (by show _ ≤ w.heap.size + 1; omega) _, A, l.length, c, rfl⟩
  by_cases hq : q < 512
  rotate_left
  · rw [if_neg (by rintro ⟨_, _, _, h⟩; exact hq h)]
    have hg : (512 : Int) ≤ q := by omega
    have hq0 : ¬ (512 : Int) ≤ p := by omega
    clear hq
    go_enter Tryd.func36, Tryd.ntmps36
    go_wp2
    refine wp_loop_rounds 5 ?_
    rw [rounds_succ]
    go_wp2_with fail
    refine (HN0.out _).mono ?_
    rintro R0 v0 ⟨rfl, hb0⟩
    have hs0 := (H0.out.step ((Below.refl _ _).alloc (Nat.le_refl _) (.cells #[.int .i64 0, .int .i64 0, .int .i64 1] 2))).step hb0
    have kn0 := (Blk.new ((w.alloc (.cells #[.int .i64 n, .slice A l.length c] 25)).alloc (.cells #[.int .i64 0, .slice none 0 0] 25)) 2 #[.int .i64 0, .int .i64 0, .int .i64 1]).below hb0 (by simp)
    rw [show ((w.alloc (.cells #[.int .i64 n, .slice A l.length c] 25)).alloc (.cells #[.int .i64 0, .slice none 0 0] 25)).heap.size = w.heap.size + 2 from by simp, show w.heap.size + 2 = w.heap.size + 1 + 1 from rfl] at kn0
    obtain ⟨b0, b1, r0, r1, f0, f1, g0, g1, z0, z1⟩ := hs0.cells
    obtain ⟨c0, c1, c2⟩ := HSS.out _ hs0.below
    have n0 : v0.cell? ⟨w.heap.size + 1 + 1, 0, none⟩ = some (.int .i64 0) := kn0.cell 0
    have m0 := kn0.frozen 0; have zn := kn0.lt
    have HB0 := Lib.hid hb0; have HS0 := Lib.hid hs0; have KN0 := Lib.hid kn0
    clear hb0 hs0 kn0
    go_wp2
    rw [rounds_succ]
    go_wp2_with fail
    refine (HN1.out _).mono ?_
    rintro R1 v1 ⟨rfl, hb1⟩
    have hs1 := (HS0.out.far (g := w.heap.size + 1 + 1) (Nat.le_refl _) 0 (.int .i64 p)).step hb1
    have kn1 := (KN0.out.set_ 0 (.int .i64 p)).below hb1 (by exact (KN0.out.set_ 0 (.int .i64 p)).lt)
    obtain ⟨b0, b1, r0, r1, f0, f1, g0, g1, z0, z1⟩ := hs1.cells
    obtain ⟨c0, c1, c2⟩ := HSS.out _ hs1.below
    have n0 : v1.cell? ⟨w.heap.size + 1 + 1, 0, none⟩ = some (.int .i64 p) := kn1.cell 0
    have n1 : v1.cell? ⟨w.heap.size + 1 + 1, 1, none⟩ = some (.int .i64 0) := kn1.cell 1
    have n2 : v1.cell? ⟨w.heap.size + 1 + 1, 2, none⟩ = some (.int .i64 1) := kn1.cell 2
    have m0 := kn1.frozen 1; have zn := kn1.lt
    have HB1 := Lib.hid hb1; have HS1 := Lib.hid hs1; have KN1 := Lib.hid kn1
    clear hb1 hs1 kn1
    go_wp2
    have hs9 := HS1.out.far (g := w.heap.size + 1 + 1) (Nat.le_refl _) 1 (.int .i64 q)
    rw [rounds_succ]
    go_wp2
    have hd0 := (hs9.rbox.set_ 0 (.int .i64 n)).set_ 1 (.slice A l.length c)
    have hd1 := hd0.cell 0; have hd2 := hd0.cell 1
    simp only [List.getElem?_toArray, List.setIfInBounds_toArray, List.set_cons_zero, List.set_cons_succ, List.getElem?_cons_zero, List.getElem?_cons_succ] at hd1 hd2
    exact bodyPost_ret (v := .tuple #[.agg #[.int .i64 n, .slice A l.length c], .bool false]) (by simp [results, Tryd.results36, go_sem, hd1, hd2]) rfl ⟨(hs9.below.setCell (p := ⟨w.heap.size + 1, 0, none⟩) (by show _ ≤ w.heap.size + 1; omega) _).setCell (p := ⟨w.heap.size + 1, 1, none⟩) (by show _ ≤ w.heap.size + 1; omega) _, A, l.length, c, rfl⟩
  rw [if_pos ⟨rfl, rfl, hp, hq⟩]
  have hp0 : ¬ (512 : Int) ≤ p := by omega
  have hq0 : ¬ (512 : Int) ≤ q := by omega
  clear hp hq
  go_enter Tryd.func36, Tryd.ntmps36
  go_wp2
  refine wp_loop_rounds 5 ?_
  rw [rounds_succ]
  go_wp2_with fail
  refine (HN0.out _).mono ?_
  rintro R0 v0 ⟨rfl, hb0⟩
  have hs0 := (H0.out.step ((Below.refl _ _).alloc (Nat.le_refl _) (.cells #[.int .i64 0, .int .i64 0, .int .i64 1] 2))).step hb0
  have kn0 := (Blk.new ((w.alloc (.cells #[.int .i64 n, .slice A l.length c] 25)).alloc (.cells #[.int .i64 0, .slice none 0 0] 25)) 2 #[.int .i64 0, .int .i64 0, .int .i64 1]).below hb0 (by simp)
  rw [show ((w.alloc (.cells #[.int .i64 n, .slice A l.length c] 25)).alloc (.cells #[.int .i64 0, .slice none 0 0] 25)).heap.size = w.heap.size + 2 from by simp, show w.heap.size + 2 = w.heap.size + 1 + 1 from rfl] at kn0
  obtain ⟨b0, b1, r0, r1, f0, f1, g0, g1, z0, z1⟩ := hs0.cells
  obtain ⟨c0, c1, c2⟩ := HSS.out _ hs0.below
  have n0 : v0.cell? ⟨w.heap.size + 1 + 1, 0, none⟩ = some (.int .i64 0) := kn0.cell 0
  have m0 := kn0.frozen 0; have zn := kn0.lt
  have HB0 := Lib.hid hb0; have HS0 := Lib.hid hs0; have KN0 := Lib.hid kn0
  clear hb0 hs0 kn0
  go_wp2
  rw [rounds_succ]
  go_wp2_with fail
  refine (HN1.out _).mono ?_
  rintro R1 v1 ⟨rfl, hb1⟩
  have hs1 := (HS0.out.far (g := w.heap.size + 1 + 1) (Nat.le_refl _) 0 (.int .i64 p)).step hb1
  have kn1 := (KN0.out.set_ 0 (.int .i64 p)).below hb1 (by exact (KN0.out.set_ 0 (.int .i64 p)).lt)
  obtain ⟨b0, b1, r0, r1, f0, f1, g0, g1, z0, z1⟩ := hs1.cells
  obtain ⟨c0, c1, c2⟩ := HSS.out _ hs1.below
  have n0 : v1.cell? ⟨w.heap.size + 1 + 1, 0, none⟩ = some (.int .i64 p) := kn1.cell 0
  have n1 : v1.cell? ⟨w.heap.size + 1 + 1, 1, none⟩ = some (.int .i64 0) := kn1.cell 1
  have n2 : v1.cell? ⟨w.heap.size + 1 + 1, 2, none⟩ = some (.int .i64 1) := kn1.cell 2
  have m0 := kn1.frozen 1; have zn := kn1.lt
  have HB1 := Lib.hid hb1; have HS1 := Lib.hid hs1; have KN1 := Lib.hid kn1
  clear hb1 hs1 kn1
  go_wp2
  rw [rounds_succ]
  go_wp2_with fail
  have hs9 := HS1.out.far (g := w.heap.size + 1 + 1) (Nat.le_refl _) 1 (.int .i64 q)
  have kn9 : Blk (v1.setCell ⟨w.heap.size + 1 + 1, 1, none⟩ (.int .i64 q)) (w.heap.size + 1 + 1) 2 #[.int .i64 p, .int .i64 q, .int .i64 1] := KN1.out.set_ 1 (.int .i64 q)
  obtain ⟨wx, hwx⟩ : ∃ wx, (v1.setCell ⟨w.heap.size + 1 + 1, 1, none⟩ (.int .i64 q)) = wx := ⟨_, rfl⟩
  rw [hwx] at hs9 kn9 ⊢
  clear hwx b0 b1 r0 r1 f0 f1 g0 g1 z0 z1 n0 n1 n2 m0 zn c0 c1 c2
  have n0 : wx.cell? ⟨w.heap.size + 1 + 1, 0, none⟩ = some (.int .i64 p) := kn9.cell 0
  have n1 : wx.cell? ⟨w.heap.size + 1 + 1, 1, none⟩ = some (.int .i64 q) := kn9.cell 1
  have n2 : wx.cell? ⟨w.heap.size + 1 + 1, 2, none⟩ = some (.int .i64 1) := kn9.cell 2
  have zn := kn9.lt
  obtain ⟨b0, b1, r0, r1, f0, f1, g0, g1, z0, z1⟩ := hs9.cells
  have HAD := Lib.hid fun W hW => refAdd_any W n A c l (p, q, 1) hW HCC.out
  have HS9 := Lib.hid hs9
  clear hs9 kn9
  go_region_held3 (fun w' => w'.cell? ⟨w.heap.size + 1 + 1, 0, none⟩ = some (.int .i64 p) ∧ w'.cell? ⟨w.heap.size + 1 + 1, 1, none⟩ = some (.int .i64 q) ∧ w'.cell? ⟨w.heap.size + 1 + 1, 2, none⟩ = some (.int .i64 1)) (go_keep) (fail)
  go_wp2_with fail
  refine (HAD.out _ ?_).mono ?_
  · exact (HR.out.below HS9.out.below).alloc _
  rintro R9 w9 ⟨hb9, h9⟩
  have hs10 := HS9.out.step (((Below.refl _ _).alloc (Nat.le_refl _) (.cells #[.int .i64 p, .int .i64 q, .int .i64 1] 35)).trans ((undrew hb9).mono (by simp)))
  have ke : Blk w9 wx.heap.size 35 #[.int .i64 p, .int .i64 q, .int .i64 1] := (Blk.new wx 35 #[.int .i64 p, .int .i64 q, .int .i64 1]).below (undrew hb9) (by simp)
  clear b0 b1 r0 r1 f0 f1 g0 g1 z0 z1 n0 n1 n2 zn HAD
  obtain ⟨b0, b1, r0, r1, f0, f1, g0, g1, z0, z1⟩ := hs10.cells
  obtain ⟨c0, -⟩ := HSS.out _ hs10.below
  have zw : w.heap.size + 2 ≤ wx.heap.size := HS9.out.size
  cases ho : addR n l (p, q, 1) with
  | none =>
    rw [ho] at h9
    obtain rfl := h9
    have hres : edgeR n l true (p, q, 1) = none := by unfold edgeR; rw [ho]
    have hs11 := hs10.put A c l
    have HRES := Lib.hid hres; have HS11 := Lib.hid hs11
    clear hres ho hs10 hs11 ke hb9
    go_wp2
    rw [HRES.out]
    have hd0 := (HS11.out.rbox.set_ 0 (.int .i64 n)).set_ 1 (.slice A l.length c)
    have hd1 := hd0.cell 0; have hd2 := hd0.cell 1
    simp only [List.getElem?_toArray, List.setIfInBounds_toArray, List.set_cons_zero, List.set_cons_succ, List.getElem?_cons_zero, List.getElem?_cons_succ] at hd1 hd2
    exact bodyPost_ret (v := .tuple #[.agg #[.int .i64 n, .slice A l.length c], .bool false]) (by simp [results, Tryd.results36, go_sem, hd1, hd2]) rfl ⟨(HS11.out.below.setCell (p := ⟨w.heap.size + 1, 0, none⟩) (by show _ ≤ w.heap.size + 1; omega) _).setCell (p := ⟨w.heap.size + 1, 1, none⟩) (by show _ ≤ w.heap.size + 1; omega) _, A, l.length, c, rfl⟩
  | some m =>
    rw [ho] at h9
    obtain ⟨A', c', rfl, hc', hown⟩ := h9
    have hs11 := hs10.put A' c' m
    have ho11 := own_keep (own_keep hown (type_set (i := 0) hs10.box (by decide) (.int .i64 n))) (type_set (i := 1) (hs10.box.set_ 0 (.int .i64 n)) (by decide) (.slice A' m.length c'))
    have ho12 := own_mono ho11 (show w.heap.size ≤ (wx.alloc (.cells #[.int .i64 p, .int .i64 q, .int .i64 1] 35)).heap.size by simp; omega)
    have HS11 := Lib.hid hs11; have HO12 := Lib.hid ho12; have HC' := Lib.hid hc'
    have e0 : w9.cell? ⟨wx.heap.size, 0, none⟩ = some (.int .i64 p) := ke.cell 0
    have e1 : w9.cell? ⟨wx.heap.size, 1, none⟩ = some (.int .i64 q) := ke.cell 1
    have e2 : w9.cell? ⟨wx.heap.size, 2, none⟩ = some (.int .i64 1) := ke.cell 2
    have ne0 : wx.heap.size ≠ w.heap.size := by omega
    have ne1 : w.heap.size ≠ wx.heap.size := by omega
    by_cases hpq : p = q
    · have hres : edgeR n l true (p, q, 1) = some (n, m) := by unfold edgeR; rw [ho]; simp [hpq]
      have hpb : (p != q) = false := by simp [hpq]
      have HRES := Lib.hid hres
      clear hres ho hs10 hs11 ke hb9 hown ho11 ho12 hc' hpq
      go_wp2
      have hd0 := (HS11.out.rbox.set_ 0 (.int .i64 n)).set_ 1 (.slice A' m.length c')
      have hd1 := hd0.cell 0; have hd2 := hd0.cell 1
      simp only [List.getElem?_toArray, List.setIfInBounds_toArray, List.set_cons_zero, List.set_cons_succ, List.getElem?_cons_zero, List.getElem?_cons_succ] at hd1 hd2
      have ho1 := own_keep HO12.out (type_set (i := 0) HS11.out.rbox (by decide) (.int .i64 n))
      have hr1 := HS11.out.rbox.set_ 0 (.int .i64 n)
      have ho2 := own_keep ho1 (type_set (i := 1) hr1 (by decide) (.slice A' m.length c'))
      rw [HRES.out]
      exact bodyPost_ret (v := .tuple #[.agg #[.int .i64 n, .slice A' m.length c'], .bool true]) (by simp [results, Tryd.results36, go_sem, hd1, hd2]) rfl ⟨(HS11.out.below.setCell (p := ⟨w.heap.size + 1, 0, none⟩) (by show _ ≤ w.heap.size + 1; omega) _).setCell (p := ⟨w.heap.size + 1, 1, none⟩) (by show _ ≤ w.heap.size + 1; omega) _, A', c', rfl, HC'.out, own_mono ho2 (by omega)⟩
    · have hres : edgeR n l true (p, q, 1) = (addR n m (q, p, 1)).map fun l2 => (n, l2) := by unfold edgeR; rw [ho]; simp [hpq]
      have hpb : (p != q) = true := by simp [hpq]
      have HAD := Lib.hid (refAdd_any _ n A' c' m (q, p, 1) (Rs.of_own ho12) hc')
      have HRES := Lib.hid hres
      clear hres ho hs10 hs11 ke hb9 hown ho11 ho12 hc' hpq
      go_wp2_with fail
      refine HAD.out.mono ?_
      rintro R10 w10 ⟨hb10, h10⟩
      have hs12 := HS11.out.step hb10
      clear b0 b1 r0 r1 f0 f1 g0 g1 z0 z1 e0 e1 e2 c0 HAD
      obtain ⟨b0, b1, r0, r1, f0, f1, g0, g1, z0, z1⟩ := hs12.cells
      have HS12 := Lib.hid hs12
      cases ho2 : addR n m (q, p, 1) with
      | none =>
        rw [ho2] at h10
        obtain rfl := h10
        have HRES2 := Lib.hid ho2
        clear ho2 hb10 hs12
        go_wp2
        rw [HRES.out, HRES2.out]
        have hd0 := (HS12.out.rbox.set_ 0 (.int .i64 n)).set_ 1 (.slice A' m.length c')
        have hd1 := hd0.cell 0; have hd2 := hd0.cell 1
        simp only [List.getElem?_toArray, List.setIfInBounds_toArray, List.set_cons_zero, List.set_cons_succ, List.getElem?_cons_zero, List.getElem?_cons_succ] at hd1 hd2
        exact bodyPost_ret (v := .tuple #[.agg #[.int .i64 n, .slice A' m.length c'], .bool false]) (by simp [results, Tryd.results36, go_sem, hd1, hd2]) rfl ⟨(HS12.out.below.setCell (p := ⟨w.heap.size + 1, 0, none⟩) (by show _ ≤ w.heap.size + 1; omega) _).setCell (p := ⟨w.heap.size + 1, 1, none⟩) (by show _ ≤ w.heap.size + 1; omega) _, A', m.length, c', rfl⟩
      | some m2 =>
        rw [ho2] at h10
        obtain ⟨A2, c2, rfl, hc2, hown2⟩ := h10
        have HC2 := Lib.hid hc2
        have HRES2 := Lib.hid ho2
        have HO2 := Lib.hid (own_mono hown2 (show w.heap.size ≤ ((w9.setCell ⟨w.heap.size, 0, none⟩ (.int .i64 n)).setCell ⟨w.heap.size, 1, none⟩ (.slice A' m.length c')).heap.size by have := HS11.out.size; omega))
        clear ho2 hb10 hs12 hown2 hc2
        go_wp2
        rw [HRES.out, HRES2.out]
        have hd0 := (HS12.out.rbox.set_ 0 (.int .i64 n)).set_ 1 (.slice A2 m2.length c2)
        have hd1 := hd0.cell 0; have hd2 := hd0.cell 1
        simp only [List.getElem?_toArray, List.setIfInBounds_toArray, List.set_cons_zero, List.set_cons_succ, List.getElem?_cons_zero, List.getElem?_cons_succ] at hd1 hd2
        have ho1 := own_keep HO2.out (type_set (i := 0) HS12.out.rbox (by decide) (.int .i64 n))
        have hr1 := HS12.out.rbox.set_ 0 (.int .i64 n)
        have ho2 := own_keep ho1 (type_set (i := 1) hr1 (by decide) (.slice A2 m2.length c2))
        exact bodyPost_ret (v := .tuple #[.agg #[.int .i64 n, .slice A2 m2.length c2], .bool true]) (by simp [results, Tryd.results36, go_sem, hd1, hd2]) rfl ⟨(HS12.out.below.setCell (p := ⟨w.heap.size + 1, 0, none⟩) (by show _ ≤ w.heap.size + 1; omega) _).setCell (p := ⟨w.heap.size + 1, 1, none⟩) (by show _ ≤ w.heap.size + 1; omega) _, A2, c2, rfl, HC2.out, own_mono ho2 (by omega)⟩
set_option maxRecDepth 100000 in
set_option maxHeartbeats 8000000 in
theorem rline_both4 (w : World) (n : Int) (A : Option Addr) (c : Nat) (l : List Edg) (Aw : Option Addr) (cw : Nat) (Bw : Nat) (y z u : ByteArray) (hw : w.ownsRow Bw 9 1 (.slice Aw 4 cw) 4 ([wBoth, y, z, u].map Value.string)) (hsy : y.size ≤ 4294967296) (hsz : z.size ≤ 4294967296) (hsu : u.size ≤ 4294967296) (h : Rs edgC 3 w A l) (hc : l.length ≤ c) :
    Calls Tryd.prog 36 #[.agg #[.int .i64 n, .slice A l.length c], .slice Aw 4 cw] w (RLineP w n (if (numW y).2 = 0 ∧ (numW z).2 = 0 ∧ (numW u).2 = 0 ∧ (numW y).1 < 512 ∧ (numW z).1 < 512 then edgeR n l true ((numW y).1, (numW z).1, (numW u).1) else none)) := by
  obtain ⟨b, cs, rfl, hb, hbs, hcw⟩ := words_own (ws := [wBoth, y, z, u]) hw (by simp)
  have hss : ∀ w', Below w.heap.size w w' → w'.cell? ⟨b, 0, none⟩ = some (.string wBoth) ∧ w'.cell? ⟨b, 1, none⟩ = some (.string y) ∧ w'.cell? ⟨b, 2, none⟩ = some (.string z) ∧ w'.cell? ⟨b, 3, none⟩ = some (.string u) := fun w' hb' => ⟨(hb'.cell (p := ⟨b, 0, none⟩) hb).trans (hcw 0 _ rfl), (hb'.cell (p := ⟨b, 1, none⟩) hb).trans (hcw 1 _ rfl), (hb'.cell (p := ⟨b, 2, none⟩) hb).trans (hcw 2 _ rfl), (hb'.cell (p := ⟨b, 3, none⟩) hb).trans (hcw 3 _ rfl)⟩
  unfold wBoth at hss
  have hn0 := fun W => refNumber_b y W hsy
  have hn1 := fun W => refNumber_b z W hsz
  have hn2 := fun W => refNumber_b u W hsu
  obtain ⟨p, ep, hp⟩ : ∃ a b, numW y = (a, b) := ⟨_, _, rfl⟩
  rw [hp] at hn0 ⊢
  obtain ⟨q, eq, hq⟩ : ∃ a b, numW z = (a, b) := ⟨_, _, rfl⟩
  rw [hq] at hn1 ⊢
  obtain ⟨t, et, ht⟩ : ∃ a b, numW u = (a, b) := ⟨_, _, rfl⟩
  rw [ht] at hn2 ⊢
  dsimp only at hn0 hn1 hn2 ⊢
  clear hp hsy hq hsz ht hsu hw hcw hbs
  have h0 := LnB.start w n A c l
  obtain ⟨b0, b1, r0, r1, f0, f1, g0, g1, z0, z1⟩ := h0.cells
  have H0 := Lib.hid h0
  clear h0
  obtain ⟨c0, -⟩ := hss _ H0.out.below
  obtain ⟨-, c1, c2, c3⟩ := hss _ (H0.out.below.alloc H0.out.below.size (.cells #[.int .i64 0, .int .i64 0, .int .i64 1] 2))
  have HSS := Lib.hid hss; have HR := Lib.hid h; have HCC := Lib.hid hc; have HN0 := Lib.hid hn0; have HN1 := Lib.hid hn1; have HN2 := Lib.hid hn2
  clear hss h hc hn0 hn1 hn2
  by_cases hep : ep = 0
  rotate_left
  · rw [if_neg (by rintro ⟨h, _⟩; exact hep h)]
    have e0 : (ep != 0) = true := by simp [hep]
    clear hep
    go_enter Tryd.func36, Tryd.ntmps36
    go_wp2
    refine wp_loop_rounds 5 ?_
    rw [rounds_succ]
    go_wp2_with fail
    refine (HN0.out _).mono ?_
    rintro R0 v0 ⟨rfl, hb0⟩
    have hs0 := (H0.out.step ((Below.refl _ _).alloc (Nat.le_refl _) (.cells #[.int .i64 0, .int .i64 0, .int .i64 1] 2))).step hb0
    have kn0 := (Blk.new ((w.alloc (.cells #[.int .i64 n, .slice A l.length c] 25)).alloc (.cells #[.int .i64 0, .slice none 0 0] 25)) 2 #[.int .i64 0, .int .i64 0, .int .i64 1]).below hb0 (by simp)
    rw [show ((w.alloc (.cells #[.int .i64 n, .slice A l.length c] 25)).alloc (.cells #[.int .i64 0, .slice none 0 0] 25)).heap.size = w.heap.size + 2 from by simp, show w.heap.size + 2 = w.heap.size + 1 + 1 from rfl] at kn0
    obtain ⟨b0, b1, r0, r1, f0, f1, g0, g1, z0, z1⟩ := hs0.cells
    obtain ⟨c0, c1, c2, c3⟩ := HSS.out _ hs0.below
    have n0 : v0.cell? ⟨w.heap.size + 1 + 1, 0, none⟩ = some (.int .i64 0) := kn0.cell 0
    have m0 := kn0.frozen 0; have zn := kn0.lt
    have HB0 := Lib.hid hb0; have HS0 := Lib.hid hs0; have KN0 := Lib.hid kn0
    clear hb0 hs0 kn0
    go_wp2
    have hd0 := (HS0.out.rbox.set_ 0 (.int .i64 n)).set_ 1 (.slice A l.length c)
    have hd1 := hd0.cell 0; have hd2 := hd0.cell 1
    simp only [List.getElem?_toArray, List.setIfInBounds_toArray, List.set_cons_zero, List.set_cons_succ, List.getElem?_cons_zero, List.getElem?_cons_succ] at hd1 hd2
    exact bodyPost_ret (v := .tuple #[.agg #[.int .i64 n, .slice A l.length c], .bool false]) (by simp [results, Tryd.results36, go_sem, hd1, hd2]) rfl ⟨(HS0.out.below.setCell (p := ⟨w.heap.size + 1, 0, none⟩) (by show _ ≤ w.heap.size + 1; omega) _).setCell (p := ⟨w.heap.size + 1, 1, none⟩) (by show _ ≤ w.heap.size + 1; omega) _, A, l.length, c, rfl⟩
  subst hep
  by_cases heq : eq = 0
  rotate_left
  · rw [if_neg (by rintro ⟨_, h, _⟩; exact heq h)]
    have e1 : (eq != 0) = true := by simp [heq]
    clear heq
    go_enter Tryd.func36, Tryd.ntmps36
    go_wp2
    refine wp_loop_rounds 5 ?_
    rw [rounds_succ]
    go_wp2_with fail
    refine (HN0.out _).mono ?_
    rintro R0 v0 ⟨rfl, hb0⟩
    have hs0 := (H0.out.step ((Below.refl _ _).alloc (Nat.le_refl _) (.cells #[.int .i64 0, .int .i64 0, .int .i64 1] 2))).step hb0
    have kn0 := (Blk.new ((w.alloc (.cells #[.int .i64 n, .slice A l.length c] 25)).alloc (.cells #[.int .i64 0, .slice none 0 0] 25)) 2 #[.int .i64 0, .int .i64 0, .int .i64 1]).below hb0 (by simp)
    rw [show ((w.alloc (.cells #[.int .i64 n, .slice A l.length c] 25)).alloc (.cells #[.int .i64 0, .slice none 0 0] 25)).heap.size = w.heap.size + 2 from by simp, show w.heap.size + 2 = w.heap.size + 1 + 1 from rfl] at kn0
    obtain ⟨b0, b1, r0, r1, f0, f1, g0, g1, z0, z1⟩ := hs0.cells
    obtain ⟨c0, c1, c2, c3⟩ := HSS.out _ hs0.below
    have n0 : v0.cell? ⟨w.heap.size + 1 + 1, 0, none⟩ = some (.int .i64 0) := kn0.cell 0
    have m0 := kn0.frozen 0; have zn := kn0.lt
    have HB0 := Lib.hid hb0; have HS0 := Lib.hid hs0; have KN0 := Lib.hid kn0
    clear hb0 hs0 kn0
    go_wp2
    rw [rounds_succ]
    go_wp2_with fail
    refine (HN1.out _).mono ?_
    rintro R1 v1 ⟨rfl, hb1⟩
    have hs1 := (HS0.out.far (g := w.heap.size + 1 + 1) (Nat.le_refl _) 0 (.int .i64 p)).step hb1
    have kn1 := (KN0.out.set_ 0 (.int .i64 p)).below hb1 (by exact (KN0.out.set_ 0 (.int .i64 p)).lt)
    obtain ⟨b0, b1, r0, r1, f0, f1, g0, g1, z0, z1⟩ := hs1.cells
    obtain ⟨c0, c1, c2, c3⟩ := HSS.out _ hs1.below
    have n1 : v1.cell? ⟨w.heap.size + 1 + 1, 1, none⟩ = some (.int .i64 0) := kn1.cell 1
    have m0 := kn1.frozen 1; have zn := kn1.lt
    have HB1 := Lib.hid hb1; have HS1 := Lib.hid hs1; have KN1 := Lib.hid kn1
    clear hb1 hs1 kn1
    go_wp2
    have hd0 := (HS1.out.rbox.set_ 0 (.int .i64 n)).set_ 1 (.slice A l.length c)
    have hd1 := hd0.cell 0; have hd2 := hd0.cell 1
    simp only [List.getElem?_toArray, List.setIfInBounds_toArray, List.set_cons_zero, List.set_cons_succ, List.getElem?_cons_zero, List.getElem?_cons_succ] at hd1 hd2
    exact bodyPost_ret (v := .tuple #[.agg #[.int .i64 n, .slice A l.length c], .bool false]) (by simp [results, Tryd.results36, go_sem, hd1, hd2]) rfl ⟨(HS1.out.below.setCell (p := ⟨w.heap.size + 1, 0, none⟩) (by show _ ≤ w.heap.size + 1; omega) _).setCell (p := ⟨w.heap.size + 1, 1, none⟩) (by show _ ≤ w.heap.size + 1; omega) _, A, l.length, c, rfl⟩
  subst heq
  by_cases het : et = 0
  rotate_left
  · rw [if_neg (by rintro ⟨_, _, h, _⟩; exact het h)]
    have e2 : (et != 0) = true := by simp [het]
    clear het
    go_enter Tryd.func36, Tryd.ntmps36
    go_wp2
    refine wp_loop_rounds 5 ?_
    rw [rounds_succ]
    go_wp2_with fail
    refine (HN0.out _).mono ?_
    rintro R0 v0 ⟨rfl, hb0⟩
    have hs0 := (H0.out.step ((Below.refl _ _).alloc (Nat.le_refl _) (.cells #[.int .i64 0, .int .i64 0, .int .i64 1] 2))).step hb0
    have kn0 := (Blk.new ((w.alloc (.cells #[.int .i64 n, .slice A l.length c] 25)).alloc (.cells #[.int .i64 0, .slice none 0 0] 25)) 2 #[.int .i64 0, .int .i64 0, .int .i64 1]).below hb0 (by simp)
    rw [show ((w.alloc (.cells #[.int .i64 n, .slice A l.length c] 25)).alloc (.cells #[.int .i64 0, .slice none 0 0] 25)).heap.size = w.heap.size + 2 from by simp, show w.heap.size + 2 = w.heap.size + 1 + 1 from rfl] at kn0
    obtain ⟨b0, b1, r0, r1, f0, f1, g0, g1, z0, z1⟩ := hs0.cells
    obtain ⟨c0, c1, c2, c3⟩ := HSS.out _ hs0.below
    have n0 : v0.cell? ⟨w.heap.size + 1 + 1, 0, none⟩ = some (.int .i64 0) := kn0.cell 0
    have m0 := kn0.frozen 0; have zn := kn0.lt
    have HB0 := Lib.hid hb0; have HS0 := Lib.hid hs0; have KN0 := Lib.hid kn0
    clear hb0 hs0 kn0
    go_wp2
    rw [rounds_succ]
    go_wp2_with fail
    refine (HN1.out _).mono ?_
    rintro R1 v1 ⟨rfl, hb1⟩
    have hs1 := (HS0.out.far (g := w.heap.size + 1 + 1) (Nat.le_refl _) 0 (.int .i64 p)).step hb1
    have kn1 := (KN0.out.set_ 0 (.int .i64 p)).below hb1 (by exact (KN0.out.set_ 0 (.int .i64 p)).lt)
    obtain ⟨b0, b1, r0, r1, f0, f1, g0, g1, z0, z1⟩ := hs1.cells
    obtain ⟨c0, c1, c2, c3⟩ := HSS.out _ hs1.below
    have n1 : v1.cell? ⟨w.heap.size + 1 + 1, 1, none⟩ = some (.int .i64 0) := kn1.cell 1
    have m0 := kn1.frozen 1; have zn := kn1.lt
    have HB1 := Lib.hid hb1; have HS1 := Lib.hid hs1; have KN1 := Lib.hid kn1
    clear hb1 hs1 kn1
    go_wp2
    rw [rounds_succ]
    go_wp2_with fail
    refine (HN2.out _).mono ?_
    rintro R2 v2 ⟨rfl, hb2⟩
    have hs2 := (HS1.out.far (g := w.heap.size + 1 + 1) (Nat.le_refl _) 1 (.int .i64 q)).step hb2
    have kn2 := (KN1.out.set_ 1 (.int .i64 q)).below hb2 (by exact (KN1.out.set_ 1 (.int .i64 q)).lt)
    obtain ⟨b0, b1, r0, r1, f0, f1, g0, g1, z0, z1⟩ := hs2.cells
    obtain ⟨c0, c1, c2, c3⟩ := HSS.out _ hs2.below
    have n2 : v2.cell? ⟨w.heap.size + 1 + 1, 2, none⟩ = some (.int .i64 1) := kn2.cell 2
    have m0 := kn2.frozen 2; have zn := kn2.lt
    have HB2 := Lib.hid hb2; have HS2 := Lib.hid hs2; have KN2 := Lib.hid kn2
    clear hb2 hs2 kn2
    go_wp2
    have hd0 := (HS2.out.rbox.set_ 0 (.int .i64 n)).set_ 1 (.slice A l.length c)
    have hd1 := hd0.cell 0; have hd2 := hd0.cell 1
    simp only [List.getElem?_toArray, List.setIfInBounds_toArray, List.set_cons_zero, List.set_cons_succ, List.getElem?_cons_zero, List.getElem?_cons_succ] at hd1 hd2
    exact bodyPost_ret (v := .tuple #[.agg #[.int .i64 n, .slice A l.length c], .bool false]) (by simp [results, Tryd.results36, go_sem, hd1, hd2]) rfl ⟨(HS2.out.below.setCell (p := ⟨w.heap.size + 1, 0, none⟩) (by show _ ≤ w.heap.size + 1; omega) _).setCell (p := ⟨w.heap.size + 1, 1, none⟩) (by show _ ≤ w.heap.size + 1; omega) _, A, l.length, c, rfl⟩
  subst het
  by_cases hp : p < 512
  rotate_left
  · rw [if_neg (by rintro ⟨_, _, _, h, _⟩; exact hp h)]
    have hg : (512 : Int) ≤ p := by omega
    clear hp
    go_enter Tryd.func36, Tryd.ntmps36
    go_wp2
    refine wp_loop_rounds 5 ?_
    rw [rounds_succ]
    go_wp2_with fail
    refine (HN0.out _).mono ?_
    rintro R0 v0 ⟨rfl, hb0⟩
    have hs0 := (H0.out.step ((Below.refl _ _).alloc (Nat.le_refl _) (.cells #[.int .i64 0, .int .i64 0, .int .i64 1] 2))).step hb0
    have kn0 := (Blk.new ((w.alloc (.cells #[.int .i64 n, .slice A l.length c] 25)).alloc (.cells #[.int .i64 0, .slice none 0 0] 25)) 2 #[.int .i64 0, .int .i64 0, .int .i64 1]).below hb0 (by simp)
    rw [show ((w.alloc (.cells #[.int .i64 n, .slice A l.length c] 25)).alloc (.cells #[.int .i64 0, .slice none 0 0] 25)).heap.size = w.heap.size + 2 from by simp, show w.heap.size + 2 = w.heap.size + 1 + 1 from rfl] at kn0
    obtain ⟨b0, b1, r0, r1, f0, f1, g0, g1, z0, z1⟩ := hs0.cells
    obtain ⟨c0, c1, c2, c3⟩ := HSS.out _ hs0.below
    have n0 : v0.cell? ⟨w.heap.size + 1 + 1, 0, none⟩ = some (.int .i64 0) := kn0.cell 0
    have m0 := kn0.frozen 0; have zn := kn0.lt
    have HB0 := Lib.hid hb0; have HS0 := Lib.hid hs0; have KN0 := Lib.hid kn0
    clear hb0 hs0 kn0
    go_wp2
    rw [rounds_succ]
    go_wp2_with fail
    refine (HN1.out _).mono ?_
    rintro R1 v1 ⟨rfl, hb1⟩
    have hs1 := (HS0.out.far (g := w.heap.size + 1 + 1) (Nat.le_refl _) 0 (.int .i64 p)).step hb1
    have kn1 := (KN0.out.set_ 0 (.int .i64 p)).below hb1 (by exact (KN0.out.set_ 0 (.int .i64 p)).lt)
    obtain ⟨b0, b1, r0, r1, f0, f1, g0, g1, z0, z1⟩ := hs1.cells
    obtain ⟨c0, c1, c2, c3⟩ := HSS.out _ hs1.below
    have n1 : v1.cell? ⟨w.heap.size + 1 + 1, 1, none⟩ = some (.int .i64 0) := kn1.cell 1
    have m0 := kn1.frozen 1; have zn := kn1.lt
    have HB1 := Lib.hid hb1; have HS1 := Lib.hid hs1; have KN1 := Lib.hid kn1
    clear hb1 hs1 kn1
    go_wp2
    rw [rounds_succ]
    go_wp2_with fail
    refine (HN2.out _).mono ?_
    rintro R2 v2 ⟨rfl, hb2⟩
    have hs2 := (HS1.out.far (g := w.heap.size + 1 + 1) (Nat.le_refl _) 1 (.int .i64 q)).step hb2
    have kn2 := (KN1.out.set_ 1 (.int .i64 q)).below hb2 (by exact (KN1.out.set_ 1 (.int .i64 q)).lt)
    obtain ⟨b0, b1, r0, r1, f0, f1, g0, g1, z0, z1⟩ := hs2.cells
    obtain ⟨c0, c1, c2, c3⟩ := HSS.out _ hs2.below
    have n0 : v2.cell? ⟨w.heap.size + 1 + 1, 0, none⟩ = some (.int .i64 p) := kn2.cell 0
    have n1 : v2.cell? ⟨w.heap.size + 1 + 1, 1, none⟩ = some (.int .i64 q) := kn2.cell 1
    have n2 : v2.cell? ⟨w.heap.size + 1 + 1, 2, none⟩ = some (.int .i64 1) := kn2.cell 2
    have m0 := kn2.frozen 2; have zn := kn2.lt
    have HB2 := Lib.hid hb2; have HS2 := Lib.hid hs2; have KN2 := Lib.hid kn2
    clear hb2 hs2 kn2
    go_wp2
    have hs9 := HS2.out.far (g := w.heap.size + 1 + 1) (Nat.le_refl _) 2 (.int .i64 t)
    rw [rounds_succ]
    go_wp2
    have hd0 := (hs9.rbox.set_ 0 (.int .i64 n)).set_ 1 (.slice A l.length c)
    have hd1 := hd0.cell 0; have hd2 := hd0.cell 1
    simp only [List.getElem?_toArray, List.setIfInBounds_toArray, List.set_cons_zero, List.set_cons_succ, List.getElem?_cons_zero, List.getElem?_cons_succ] at hd1 hd2
    exact bodyPost_ret (v := .tuple #[.agg #[.int .i64 n, .slice A l.length c], .bool false]) (by simp [results, Tryd.results36, go_sem, hd1, hd2]) rfl ⟨(hs9.below.setCell (p := ⟨w.heap.size + 1, 0, none⟩) (by show _ ≤ w.heap.size + 1; omega) _).setCell (p := ⟨w.heap.size + 1, 1, none⟩) (by show _ ≤ w.heap.size + 1; omega) _, A, l.length, c, rfl⟩
  by_cases hq : q < 512
  rotate_left
  · rw [if_neg (by rintro ⟨_, _, _, _, h⟩; exact hq h)]
    have hg : (512 : Int) ≤ q := by omega
    have hq0 : ¬ (512 : Int) ≤ p := by omega
    clear hq
    go_enter Tryd.func36, Tryd.ntmps36
    go_wp2
    refine wp_loop_rounds 5 ?_
    rw [rounds_succ]
    go_wp2_with fail
    refine (HN0.out _).mono ?_
    rintro R0 v0 ⟨rfl, hb0⟩
    have hs0 := (H0.out.step ((Below.refl _ _).alloc (Nat.le_refl _) (.cells #[.int .i64 0, .int .i64 0, .int .i64 1] 2))).step hb0
    have kn0 := (Blk.new ((w.alloc (.cells #[.int .i64 n, .slice A l.length c] 25)).alloc (.cells #[.int .i64 0, .slice none 0 0] 25)) 2 #[.int .i64 0, .int .i64 0, .int .i64 1]).below hb0 (by simp)
    rw [show ((w.alloc (.cells #[.int .i64 n, .slice A l.length c] 25)).alloc (.cells #[.int .i64 0, .slice none 0 0] 25)).heap.size = w.heap.size + 2 from by simp, show w.heap.size + 2 = w.heap.size + 1 + 1 from rfl] at kn0
    obtain ⟨b0, b1, r0, r1, f0, f1, g0, g1, z0, z1⟩ := hs0.cells
    obtain ⟨c0, c1, c2, c3⟩ := HSS.out _ hs0.below
    have n0 : v0.cell? ⟨w.heap.size + 1 + 1, 0, none⟩ = some (.int .i64 0) := kn0.cell 0
    have m0 := kn0.frozen 0; have zn := kn0.lt
    have HB0 := Lib.hid hb0; have HS0 := Lib.hid hs0; have KN0 := Lib.hid kn0
    clear hb0 hs0 kn0
    go_wp2
    rw [rounds_succ]
    go_wp2_with fail
    refine (HN1.out _).mono ?_
    rintro R1 v1 ⟨rfl, hb1⟩
    have hs1 := (HS0.out.far (g := w.heap.size + 1 + 1) (Nat.le_refl _) 0 (.int .i64 p)).step hb1
    have kn1 := (KN0.out.set_ 0 (.int .i64 p)).below hb1 (by exact (KN0.out.set_ 0 (.int .i64 p)).lt)
    obtain ⟨b0, b1, r0, r1, f0, f1, g0, g1, z0, z1⟩ := hs1.cells
    obtain ⟨c0, c1, c2, c3⟩ := HSS.out _ hs1.below
    have n1 : v1.cell? ⟨w.heap.size + 1 + 1, 1, none⟩ = some (.int .i64 0) := kn1.cell 1
    have m0 := kn1.frozen 1; have zn := kn1.lt
    have HB1 := Lib.hid hb1; have HS1 := Lib.hid hs1; have KN1 := Lib.hid kn1
    clear hb1 hs1 kn1
    go_wp2
    rw [rounds_succ]
    go_wp2_with fail
    refine (HN2.out _).mono ?_
    rintro R2 v2 ⟨rfl, hb2⟩
    have hs2 := (HS1.out.far (g := w.heap.size + 1 + 1) (Nat.le_refl _) 1 (.int .i64 q)).step hb2
    have kn2 := (KN1.out.set_ 1 (.int .i64 q)).below hb2 (by exact (KN1.out.set_ 1 (.int .i64 q)).lt)
    obtain ⟨b0, b1, r0, r1, f0, f1, g0, g1, z0, z1⟩ := hs2.cells
    obtain ⟨c0, c1, c2, c3⟩ := HSS.out _ hs2.below
    have n0 : v2.cell? ⟨w.heap.size + 1 + 1, 0, none⟩ = some (.int .i64 p) := kn2.cell 0
    have n1 : v2.cell? ⟨w.heap.size + 1 + 1, 1, none⟩ = some (.int .i64 q) := kn2.cell 1
    have n2 : v2.cell? ⟨w.heap.size + 1 + 1, 2, none⟩ = some (.int .i64 1) := kn2.cell 2
    have m0 := kn2.frozen 2; have zn := kn2.lt
    have HB2 := Lib.hid hb2; have HS2 := Lib.hid hs2; have KN2 := Lib.hid kn2
    clear hb2 hs2 kn2
    go_wp2
    have hs9 := HS2.out.far (g := w.heap.size + 1 + 1) (Nat.le_refl _) 2 (.int .i64 t)
    rw [rounds_succ]
    go_wp2
    have hd0 := (hs9.rbox.set_ 0 (.int .i64 n)).set_ 1 (.slice A l.length c)
    have hd1 := hd0.cell 0; have hd2 := hd0.cell 1
    simp only [List.getElem?_toArray, List.setIfInBounds_toArray, List.set_cons_zero, List.set_cons_succ, List.getElem?_cons_zero, List.getElem?_cons_succ] at hd1 hd2
    exact bodyPost_ret (v := .tuple #[.agg #[.int .i64 n, .slice A l.length c], .bool false]) (by simp [results, Tryd.results36, go_sem, hd1, hd2]) rfl ⟨(hs9.below.setCell (p := ⟨w.heap.size + 1, 0, none⟩) (by show _ ≤ w.heap.size + 1; omega) _).setCell (p := ⟨w.heap.size + 1, 1, none⟩) (by show _ ≤ w.heap.size + 1; omega) _, A, l.length, c, rfl⟩
  rw [if_pos ⟨rfl, rfl, rfl, hp, hq⟩]
  have hp0 : ¬ (512 : Int) ≤ p := by omega
  have hq0 : ¬ (512 : Int) ≤ q := by omega
  clear hp hq
  go_enter Tryd.func36, Tryd.ntmps36
  go_wp2
  refine wp_loop_rounds 5 ?_
  rw [rounds_succ]
  go_wp2_with fail
  refine (HN0.out _).mono ?_
  rintro R0 v0 ⟨rfl, hb0⟩
  have hs0 := (H0.out.step ((Below.refl _ _).alloc (Nat.le_refl _) (.cells #[.int .i64 0, .int .i64 0, .int .i64 1] 2))).step hb0
  have kn0 := (Blk.new ((w.alloc (.cells #[.int .i64 n, .slice A l.length c] 25)).alloc (.cells #[.int .i64 0, .slice none 0 0] 25)) 2 #[.int .i64 0, .int .i64 0, .int .i64 1]).below hb0 (by simp)
  rw [show ((w.alloc (.cells #[.int .i64 n, .slice A l.length c] 25)).alloc (.cells #[.int .i64 0, .slice none 0 0] 25)).heap.size = w.heap.size + 2 from by simp, show w.heap.size + 2 = w.heap.size + 1 + 1 from rfl] at kn0
  obtain ⟨b0, b1, r0, r1, f0, f1, g0, g1, z0, z1⟩ := hs0.cells
  obtain ⟨c0, c1, c2, c3⟩ := HSS.out _ hs0.below
  have n0 : v0.cell? ⟨w.heap.size + 1 + 1, 0, none⟩ = some (.int .i64 0) := kn0.cell 0
  have m0 := kn0.frozen 0; have zn := kn0.lt
  have HB0 := Lib.hid hb0; have HS0 := Lib.hid hs0; have KN0 := Lib.hid kn0
  clear hb0 hs0 kn0
  go_wp2
  rw [rounds_succ]
  go_wp2_with fail
  refine (HN1.out _).mono ?_
  rintro R1 v1 ⟨rfl, hb1⟩
  have hs1 := (HS0.out.far (g := w.heap.size + 1 + 1) (Nat.le_refl _) 0 (.int .i64 p)).step hb1
  have kn1 := (KN0.out.set_ 0 (.int .i64 p)).below hb1 (by exact (KN0.out.set_ 0 (.int .i64 p)).lt)
  obtain ⟨b0, b1, r0, r1, f0, f1, g0, g1, z0, z1⟩ := hs1.cells
  obtain ⟨c0, c1, c2, c3⟩ := HSS.out _ hs1.below
  have n1 : v1.cell? ⟨w.heap.size + 1 + 1, 1, none⟩ = some (.int .i64 0) := kn1.cell 1
  have m0 := kn1.frozen 1; have zn := kn1.lt
  have HB1 := Lib.hid hb1; have HS1 := Lib.hid hs1; have KN1 := Lib.hid kn1
  clear hb1 hs1 kn1
  go_wp2
  rw [rounds_succ]
  go_wp2_with fail
  refine (HN2.out _).mono ?_
  rintro R2 v2 ⟨rfl, hb2⟩
  have hs2 := (HS1.out.far (g := w.heap.size + 1 + 1) (Nat.le_refl _) 1 (.int .i64 q)).step hb2
  have kn2 := (KN1.out.set_ 1 (.int .i64 q)).below hb2 (by exact (KN1.out.set_ 1 (.int .i64 q)).lt)
  obtain ⟨b0, b1, r0, r1, f0, f1, g0, g1, z0, z1⟩ := hs2.cells
  obtain ⟨c0, c1, c2, c3⟩ := HSS.out _ hs2.below
  have n0 : v2.cell? ⟨w.heap.size + 1 + 1, 0, none⟩ = some (.int .i64 p) := kn2.cell 0
  have n1 : v2.cell? ⟨w.heap.size + 1 + 1, 1, none⟩ = some (.int .i64 q) := kn2.cell 1
  have n2 : v2.cell? ⟨w.heap.size + 1 + 1, 2, none⟩ = some (.int .i64 1) := kn2.cell 2
  have m0 := kn2.frozen 2; have zn := kn2.lt
  have HB2 := Lib.hid hb2; have HS2 := Lib.hid hs2; have KN2 := Lib.hid kn2
  clear hb2 hs2 kn2
  go_wp2
  rw [rounds_succ]
  go_wp2_with fail
  have hs9 := HS2.out.far (g := w.heap.size + 1 + 1) (Nat.le_refl _) 2 (.int .i64 t)
  have kn9 : Blk (v2.setCell ⟨w.heap.size + 1 + 1, 2, none⟩ (.int .i64 t)) (w.heap.size + 1 + 1) 2 #[.int .i64 p, .int .i64 q, .int .i64 t] := KN2.out.set_ 2 (.int .i64 t)
  obtain ⟨wx, hwx⟩ : ∃ wx, (v2.setCell ⟨w.heap.size + 1 + 1, 2, none⟩ (.int .i64 t)) = wx := ⟨_, rfl⟩
  rw [hwx] at hs9 kn9 ⊢
  clear hwx b0 b1 r0 r1 f0 f1 g0 g1 z0 z1 n0 n1 n2 m0 zn c0 c1 c2 c3
  have n0 : wx.cell? ⟨w.heap.size + 1 + 1, 0, none⟩ = some (.int .i64 p) := kn9.cell 0
  have n1 : wx.cell? ⟨w.heap.size + 1 + 1, 1, none⟩ = some (.int .i64 q) := kn9.cell 1
  have n2 : wx.cell? ⟨w.heap.size + 1 + 1, 2, none⟩ = some (.int .i64 t) := kn9.cell 2
  have zn := kn9.lt
  obtain ⟨b0, b1, r0, r1, f0, f1, g0, g1, z0, z1⟩ := hs9.cells
  have HAD := Lib.hid fun W hW => refAdd_any W n A c l (p, q, t) hW HCC.out
  have HS9 := Lib.hid hs9
  clear hs9 kn9
  go_region_held3 (fun w' => w'.cell? ⟨w.heap.size + 1 + 1, 0, none⟩ = some (.int .i64 p) ∧ w'.cell? ⟨w.heap.size + 1 + 1, 1, none⟩ = some (.int .i64 q) ∧ w'.cell? ⟨w.heap.size + 1 + 1, 2, none⟩ = some (.int .i64 t)) (go_keep) (fail)
  go_wp2_with fail
  refine (HAD.out _ ?_).mono ?_
  · exact (HR.out.below HS9.out.below).alloc _
  rintro R9 w9 ⟨hb9, h9⟩
  have hs10 := HS9.out.step (((Below.refl _ _).alloc (Nat.le_refl _) (.cells #[.int .i64 p, .int .i64 q, .int .i64 t] 35)).trans ((undrew hb9).mono (by simp)))
  have ke : Blk w9 wx.heap.size 35 #[.int .i64 p, .int .i64 q, .int .i64 t] := (Blk.new wx 35 #[.int .i64 p, .int .i64 q, .int .i64 t]).below (undrew hb9) (by simp)
  clear b0 b1 r0 r1 f0 f1 g0 g1 z0 z1 n0 n1 n2 zn HAD
  obtain ⟨b0, b1, r0, r1, f0, f1, g0, g1, z0, z1⟩ := hs10.cells
  obtain ⟨c0, -⟩ := HSS.out _ hs10.below
  have zw : w.heap.size + 2 ≤ wx.heap.size := HS9.out.size
  cases ho : addR n l (p, q, t) with
  | none =>
    rw [ho] at h9
    obtain rfl := h9
    have hres : edgeR n l true (p, q, t) = none := by unfold edgeR; rw [ho]
    have hs11 := hs10.put A c l
    have HRES := Lib.hid hres; have HS11 := Lib.hid hs11
    clear hres ho hs10 hs11 ke hb9
    go_wp2
    rw [HRES.out]
    have hd0 := (HS11.out.rbox.set_ 0 (.int .i64 n)).set_ 1 (.slice A l.length c)
    have hd1 := hd0.cell 0; have hd2 := hd0.cell 1
    simp only [List.getElem?_toArray, List.setIfInBounds_toArray, List.set_cons_zero, List.set_cons_succ, List.getElem?_cons_zero, List.getElem?_cons_succ] at hd1 hd2
    exact bodyPost_ret (v := .tuple #[.agg #[.int .i64 n, .slice A l.length c], .bool false]) (by simp [results, Tryd.results36, go_sem, hd1, hd2]) rfl ⟨(HS11.out.below.setCell (p := ⟨w.heap.size + 1, 0, none⟩) (by show _ ≤ w.heap.size + 1; omega) _).setCell (p := ⟨w.heap.size + 1, 1, none⟩) (by show _ ≤ w.heap.size + 1; omega) _, A, l.length, c, rfl⟩
  | some m =>
    rw [ho] at h9
    obtain ⟨A', c', rfl, hc', hown⟩ := h9
    have hs11 := hs10.put A' c' m
    have ho11 := own_keep (own_keep hown (type_set (i := 0) hs10.box (by decide) (.int .i64 n))) (type_set (i := 1) (hs10.box.set_ 0 (.int .i64 n)) (by decide) (.slice A' m.length c'))
    have ho12 := own_mono ho11 (show w.heap.size ≤ (wx.alloc (.cells #[.int .i64 p, .int .i64 q, .int .i64 t] 35)).heap.size by simp; omega)
    have HS11 := Lib.hid hs11; have HO12 := Lib.hid ho12; have HC' := Lib.hid hc'
    have e0 : w9.cell? ⟨wx.heap.size, 0, none⟩ = some (.int .i64 p) := ke.cell 0
    have e1 : w9.cell? ⟨wx.heap.size, 1, none⟩ = some (.int .i64 q) := ke.cell 1
    have e2 : w9.cell? ⟨wx.heap.size, 2, none⟩ = some (.int .i64 t) := ke.cell 2
    have ne0 : wx.heap.size ≠ w.heap.size := by omega
    have ne1 : w.heap.size ≠ wx.heap.size := by omega
    by_cases hpq : p = q
    · have hres : edgeR n l true (p, q, t) = some (n, m) := by unfold edgeR; rw [ho]; simp [hpq]
      have hpb : (p != q) = false := by simp [hpq]
      have HRES := Lib.hid hres
      clear hres ho hs10 hs11 ke hb9 hown ho11 ho12 hc' hpq
      go_wp2
      have hd0 := (HS11.out.rbox.set_ 0 (.int .i64 n)).set_ 1 (.slice A' m.length c')
      have hd1 := hd0.cell 0; have hd2 := hd0.cell 1
      simp only [List.getElem?_toArray, List.setIfInBounds_toArray, List.set_cons_zero, List.set_cons_succ, List.getElem?_cons_zero, List.getElem?_cons_succ] at hd1 hd2
      have ho1 := own_keep HO12.out (type_set (i := 0) HS11.out.rbox (by decide) (.int .i64 n))
      have hr1 := HS11.out.rbox.set_ 0 (.int .i64 n)
      have ho2 := own_keep ho1 (type_set (i := 1) hr1 (by decide) (.slice A' m.length c'))
      rw [HRES.out]
      exact bodyPost_ret (v := .tuple #[.agg #[.int .i64 n, .slice A' m.length c'], .bool true]) (by simp [results, Tryd.results36, go_sem, hd1, hd2]) rfl ⟨(HS11.out.below.setCell (p := ⟨w.heap.size + 1, 0, none⟩) (by show _ ≤ w.heap.size + 1; omega) _).setCell (p := ⟨w.heap.size + 1, 1, none⟩) (by show _ ≤ w.heap.size + 1; omega) _, A', c', rfl, HC'.out, own_mono ho2 (by omega)⟩
    · have hres : edgeR n l true (p, q, t) = (addR n m (q, p, t)).map fun l2 => (n, l2) := by unfold edgeR; rw [ho]; simp [hpq]
      have hpb : (p != q) = true := by simp [hpq]
      have HAD := Lib.hid (refAdd_any _ n A' c' m (q, p, t) (Rs.of_own ho12) hc')
      have HRES := Lib.hid hres
      clear hres ho hs10 hs11 ke hb9 hown ho11 ho12 hc' hpq
      go_wp2_with fail
      refine HAD.out.mono ?_
      rintro R10 w10 ⟨hb10, h10⟩
      have hs12 := HS11.out.step hb10
      clear b0 b1 r0 r1 f0 f1 g0 g1 z0 z1 e0 e1 e2 c0 HAD
      obtain ⟨b0, b1, r0, r1, f0, f1, g0, g1, z0, z1⟩ := hs12.cells
      have HS12 := Lib.hid hs12
      cases ho2 : addR n m (q, p, t) with
      | none =>
        rw [ho2] at h10
        obtain rfl := h10
        have HRES2 := Lib.hid ho2
        clear ho2 hb10 hs12
        go_wp2
        rw [HRES.out, HRES2.out]
        have hd0 := (HS12.out.rbox.set_ 0 (.int .i64 n)).set_ 1 (.slice A' m.length c')
        have hd1 := hd0.cell 0; have hd2 := hd0.cell 1
        simp only [List.getElem?_toArray, List.setIfInBounds_toArray, List.set_cons_zero, List.set_cons_succ, List.getElem?_cons_zero, List.getElem?_cons_succ] at hd1 hd2
        exact bodyPost_ret (v := .tuple #[.agg #[.int .i64 n, .slice A' m.length c'], .bool false]) (by simp [results, Tryd.results36, go_sem, hd1, hd2]) rfl ⟨(HS12.out.below.setCell (p := ⟨w.heap.size + 1, 0, none⟩) (by show _ ≤ w.heap.size + 1; omega) _).setCell (p := ⟨w.heap.size + 1, 1, none⟩) (by show _ ≤ w.heap.size + 1; omega) _, A', m.length, c', rfl⟩
      | some m2 =>
        rw [ho2] at h10
        obtain ⟨A2, c2, rfl, hc2, hown2⟩ := h10
        have HC2 := Lib.hid hc2
        have HRES2 := Lib.hid ho2
        have HO2 := Lib.hid (own_mono hown2 (show w.heap.size ≤ ((w9.setCell ⟨w.heap.size, 0, none⟩ (.int .i64 n)).setCell ⟨w.heap.size, 1, none⟩ (.slice A' m.length c')).heap.size by have := HS11.out.size; omega))
        clear ho2 hb10 hs12 hown2 hc2
        go_wp2
        rw [HRES.out, HRES2.out]
        have hd0 := (HS12.out.rbox.set_ 0 (.int .i64 n)).set_ 1 (.slice A2 m2.length c2)
        have hd1 := hd0.cell 0; have hd2 := hd0.cell 1
        simp only [List.getElem?_toArray, List.setIfInBounds_toArray, List.set_cons_zero, List.set_cons_succ, List.getElem?_cons_zero, List.getElem?_cons_succ] at hd1 hd2
        have ho1 := own_keep HO2.out (type_set (i := 0) HS12.out.rbox (by decide) (.int .i64 n))
        have hr1 := HS12.out.rbox.set_ 0 (.int .i64 n)
        have ho2 := own_keep ho1 (type_set (i := 1) hr1 (by decide) (.slice A2 m2.length c2))
        exact bodyPost_ret (v := .tuple #[.agg #[.int .i64 n, .slice A2 m2.length c2], .bool true]) (by simp [results, Tryd.results36, go_sem, hd1, hd2]) rfl ⟨(HS12.out.below.setCell (p := ⟨w.heap.size + 1, 0, none⟩) (by show _ ≤ w.heap.size + 1; omega) _).setCell (p := ⟨w.heap.size + 1, 1, none⟩) (by show _ ≤ w.heap.size + 1; omega) _, A2, c2, rfl, HC2.out, own_mono ho2 (by omega)⟩
end Go.Proofs.YtknigkjbnaoldaaDoor
