/- GraphEdges: the edges from and to any vertex are the document's; each edge is once among them; the graph stays. -/
import Derived.Test.YtknigkjbnaoldaaDoorGrBq
namespace Go.Proofs.YtknigkjbnaoldaaDoor
open Go.RowKit

/-- a graph in a box, and its edges -/
structure Bx (wr : World) (g : Nat) (n : Int) (A : Option Addr) (c : Nat) (l : List Edg) : Prop where
  blk : Blk wr g 25 #[.int .i64 n, .slice A l.length c]
  rs : Rs edgC 3 wr A l
theorem Bx.step {wr w' : World} {g : Nat} {n : Int} {A : Option Addr} {c : Nat} {l : List Edg} (h : Bx wr g n A c l) (hb : Below wr.heap.size wr w') : Bx w' g n A c l := ⟨h.blk.below hb h.blk.lt, h.rs.below hb⟩
theorem Bx.new {wr : World} {A : Option Addr} {l : List Edg} (n : Int) (c : Nat) (h : Rs edgC 3 wr A l) : Bx (wr.alloc (.cells #[.int .i64 n, .slice A l.length c] 25)) wr.heap.size n A c l := ⟨Blk.new wr _ _, h.alloc _⟩
theorem Bx.cells {wr : World} {g : Nat} {n : Int} {A : Option Addr} {c : Nat} {l : List Edg} (h : Bx wr g n A c l) : wr.cell? ⟨g, 0, none⟩ = some (.int .i64 n) ∧ wr.cell? ⟨g, 1, none⟩ = some (.slice A l.length c) := ⟨h.blk.cell 0, h.blk.cell 1⟩
theorem light_at (n : Int) (A : Option Addr) (k c : Nat) (top : Int) (b : Bool) (w : World) (h : decide ((k : Int) ≤ top) = b) : Calls Tryd.prog 13 #[.agg #[.int .i64 n, .slice A k c], .int .i64 top] w fun r w' => r = .returned (.bool b) ∧ Below w.heap.size w w' := by
  have := light_any n A k c top w
  rwa [h] at this
theorem sameE_true (w : World) (A B : Option Addr) (c d : Nat) (xs : List Edg) (ha : Rs edgC 3 w A xs) (hb : Rs edgC 3 w B xs) (hn : xs.length ≤ 1000000000) :
    Calls Tryd.prog 16 #[.slice A xs.length c, .slice B xs.length d] w fun e w' => e = .returned (.bool true) ∧ Below w.heap.size w w' := by
  have := sameEdges_any w A B c d xs xs ha hb hn
  rw [decide_eq_true (show xs = xs from rfl)] at this
  refine this.mono ?_
  rintro e w' ⟨he, q, rfl⟩
  exact ⟨he, below_drewN (Below.refl _ _) q⟩
/-- a call that hands back a row of edges of its own -/
def GivesE (M : List Edg) (W : World) (e : Ending) (w' : World) : Prop := ∃ A c, e = .returned (.slice A M.length c) ∧ w'.ownsRow W.heap.size 35 3 (.slice A M.length c) M.length (rcs edgC M) ∧ Below W.heap.size W w'
theorem givesE_of {M : List Edg} {W : World} {e : Ending} {w' : World} (h : ∃ r, e = .returned r ∧ w'.ownsRow W.heap.size 35 3 r M.length (rcs edgC M) ∧ Below W.heap.size W w') : GivesE M W e w' := by
  obtain ⟨r, rfl, ho, hb⟩ := h
  obtain ⟨A', c', rfl, _⟩ := own_parts ho
  exact ⟨A', c', rfl, ho, hb⟩
theorem rcs_set_any (z : Int) : ∀ (M : List Edg) (j : Nat), j < M.length * 3 → ∃ M' : List Edg, M'.length = M.length ∧ (rcs edgC M).set j (.int .i64 z) = rcs edgC M' := by
  intro M
  induction M with
  | nil => intro j h; simp at h
  | cons y M ih =>
    intro j h
    have e : ∀ (z : Edg) (M : List Edg), rcs edgC (z :: M) = .int .i64 z.1 :: .int .i64 z.2.1 :: .int .i64 z.2.2 :: rcs edgC M := fun z M => rfl
    match j, h with
    | 0, _ => exact ⟨(z, y.2.1, y.2.2) :: M, rfl, rfl⟩
    | 1, _ => exact ⟨(y.1, z, y.2.2) :: M, rfl, rfl⟩
    | 2, _ => exact ⟨(y.1, y.2.1, z) :: M, rfl, rfl⟩
    | j + 3, h =>
      obtain ⟨M', h1, h2⟩ := ih j (by simp only [List.length_cons] at h; omega)
      exact ⟨y :: M', by simp [h1], by rw [e, e, ← h2]; rfl⟩
/-- two rows of the law's own are written -/
structure ESt (y wr : World) (a b : Value) (ka kb : Nat) : Prop where
  below : Below y.heap.size y wr
  ra : ∃ M : List Edg, M.length = ka ∧ wr.ownsRow y.heap.size 35 3 a ka (rcs edgC M)
  rb : ∃ M : List Edg, M.length = kb ∧ wr.ownsRow y.heap.size 35 3 b kb (rcs edgC M)
  ap : a.ownBlock = none ∨ a.ownBlock ≠ b.ownBlock
theorem ESt.setA {y wr : World} {g ka ca kb : Nat} {b : Value} (h : ESt y wr (.slice (some ⟨g, 0, none⟩) ka ca) b ka kb) {j : Nat} (hj : j < ka * 3) (z : Int) : ESt y (wr.setCell ⟨g, j, none⟩ (.int .i64 z)) (.slice (some ⟨g, 0, none⟩) ka ca) b ka kb := by
  obtain ⟨M, hM, hr⟩ := h.ra
  obtain ⟨Mb, hMb, hrb⟩ := h.rb
  obtain ⟨M', h1, h2⟩ := rcs_set_any z M j (by rw [hM]; exact hj)
  obtain ⟨s1, s2⟩ := hr.stored j (.int .i64 z)
  have hg := (own_blk hr).choose_spec.2
  rw [h2] at s1
  refine ⟨h.below.setCell (p := ⟨g, j, none⟩) hg _, ⟨M', by rw [h1]; exact hM, s1⟩, ⟨Mb, hMb, hrb.kept s2 (.inr fun e => ?_)⟩, h.ap⟩
  rcases h.ap with h3 | h3
  · cases h3
  · exact h3 e.symm
theorem ESt.setB {y wr : World} {g ka cb kb : Nat} {a : Value} (h : ESt y wr a (.slice (some ⟨g, 0, none⟩) kb cb) ka kb) {j : Nat} (hj : j < kb * 3) (z : Int) : ESt y (wr.setCell ⟨g, j, none⟩ (.int .i64 z)) a (.slice (some ⟨g, 0, none⟩) kb cb) ka kb := by
  obtain ⟨Ma, hMa, hra⟩ := h.ra
  obtain ⟨M, hM, hr⟩ := h.rb
  obtain ⟨M', h1, h2⟩ := rcs_set_any z M j (by rw [hM]; exact hj)
  obtain ⟨s1, s2⟩ := hr.stored j (.int .i64 z)
  have hg := (own_blk hr).choose_spec.2
  rw [h2] at s1
  exact ⟨h.below.setCell (p := ⟨g, j, none⟩) hg _, ⟨Ma, hMa, hra.kept s2 h.ap⟩, ⟨M', by rw [h1]; exact hM, s1⟩, h.ap⟩
theorem ESt.step {y wr w' : World} {a b : Value} {ka kb : Nat} (h : ESt y wr a b ka kb) (hb : Below wr.heap.size wr w') : ESt y w' a b ka kb := by
  obtain ⟨Ma, hMa, hra⟩ := h.ra
  obtain ⟨Mb, hMb, hrb⟩ := h.rb
  exact ⟨h.below.trans (hb.mono h.below.size), ⟨Ma, hMa, own_below hra hb⟩, ⟨Mb, hMb, own_below hrb hb⟩, h.ap⟩
/-- the cells of a row's place -/
theorem row_cells {wr : World} {B k c : Nat} {A : Option Addr} (h : ∃ M : List Edg, M.length = k ∧ wr.ownsRow B 35 3 (.slice A k c) k (rcs edgC M)) {i : Nat} (hi : i < k) :
    ∃ g, A = some ⟨g, 0, none⟩ ∧ (∃ u, wr.cell? ⟨g, i * 3, none⟩ = some u) ∧ (∃ u, wr.cell? ⟨g, i * 3 + 1, none⟩ = some u) ∧ wr.frozen? ⟨g, i * 3, none⟩ = false ∧ wr.frozen? ⟨g, i * 3 + 1, none⟩ = false := by
  obtain ⟨M, hM, hr⟩ := h
  obtain ⟨g, cap', hv, _⟩ := hr.form (by omega)
  have hA : A = some ⟨g, 0, none⟩ := by injection hv
  subst hA
  subst hM
  obtain ⟨b, oo, x', hbe, hb, hx', x1, x2, x3⟩ := edg_at (Rs.of_own (l := M) hr) (i := i) hi
  obtain ⟨rfl, rfl⟩ : b = g ∧ oo = 0 := by injection hbe with hbe; injection hbe with h1 h2; exact ⟨h1.symm, h2.symm⟩
  simp only [Nat.zero_add] at x1 x2
  exact ⟨b, rfl, ⟨_, x1⟩, ⟨_, x2⟩, hr.frozenAt _, hr.frozenAt _⟩
theorem cnt_le (l : List Edg) (u : Nat) : cntOf l u ≤ l.length ∧ cntTo l u ≤ l.length := ⟨List.length_filter_le _ _, List.length_filter_le _ _⟩
set_option maxRecDepth 100000 in
set_option maxHeartbeats 8000000 in
theorem lawEdges_any (w : World) (n v : Int) (A : Option Addr) (c : Nat) (l : List Edg) (ha : Rs edgC 3 w A l) (hF : Firsts w) :
    Calls Tryd.prog 4 #[.agg #[.int .i64 n, .slice A l.length c], .int .i64 v] w fun e w' => e = .returned (.bool true) ∧ Below w.heap.size w w' := by
  have hz := firsts_lt hF
  obtain ⟨i0, hi0, hz0, hz1, hz2, -⟩ := parts infoE
  have hB := (Below.refl w.heap.size w).alloc (Nat.le_refl _) (.cells #[.int .i64 n, .slice A l.length c] 25)
  have hX := Bx.new n c ha
  by_cases h1 : (l.length : Int) ≤ 200
  · have hs1 := fun W => light_at n A l.length c 200 true W (decide_eq_true h1)
    have hll : l.length ≤ 200 := by omega
    have hPO := fun W (hW : Below w.heap.size w W) => (pOut_any W n v A c l (ha.below hW) (by omega)).mono fun _ _ h => givesE_of h
    have hPB := fun W (hW : Below w.heap.size w W) => (pBack_any W n v A c l (ha.below hW) (by omega)).mono fun _ _ h => givesE_of h
    have hRO := fun W (hW : Below w.heap.size w W) => (refOut_any W n v A c l (ha.below hW) (by omega)).mono fun _ _ h => givesE_of h
    have hRB := fun W (hW : Below w.heap.size w W) => (refBack_any W n v A c l (ha.below hW) (by omega)).mono fun _ _ h => givesE_of h
    have hPOu := fun (u : Int) W (hW : Below w.heap.size w W) => (pOut_any W n u A c l (ha.below hW) (by omega)).mono fun _ _ h => givesE_of h
    have hPBu := fun (u : Int) W (hW : Below w.heap.size w W) => (pBack_any W n u A c l (ha.below hW) (by omega)).mono fun _ _ h => givesE_of h
    have hCK := fun W (hW : Below w.heap.size w W) => check_any W n A c l (ha.below hW)
    have hol := outL_len l v; have hbl := backL_len l v
    obtain ⟨MO, hMO⟩ : ∃ M, outL l v = M := ⟨_, rfl⟩
    obtain ⟨MB, hMB⟩ : ∃ M, backL l v = M := ⟨_, rfl⟩
    rw [hMO] at hPO hRO hol
    rw [hMB] at hPB hRB hbl
    have HX := Lib.hid hX; have H1 := Lib.hid hs1; have HF := Lib.hid hF; have HB := Lib.hid hB; have HPO := Lib.hid hPO; have HPB := Lib.hid hPB; have HRO := Lib.hid hRO; have HRB := Lib.hid hRB; have HPOU := Lib.hid hPOu; have HPBU := Lib.hid hPBu; have HCK := Lib.hid hCK; have HI0 := Lib.hid hi0; have HZ0 := Lib.hid hz0; have HE1 := Lib.hid (edgC_one l)
    clear hX hs1 ha hF h1 hB hPO hPB hRO hRB hPOu hPBu hCK hi0 hz0 hMO hMB
    go_enter Tryd.func4, Tryd.ntmps4
    go_wp2_with fail
    refine (H1.out _).mono ?_
    rintro e x1 ⟨rfl, hb1⟩
    have HB1 := Lib.hid (HB.out.trans (hb1.mono HB.out.size)); have HX1 := Lib.hid (HX.out.step hb1)
    clear hb1 HB HX
    obtain ⟨g0, g1⟩ := HX1.out.cells
    have HRD := Lib.hid HX1.out.rs.rd
    have HSZ := HB1.out.size
    go_wp2_with (at_builtin; refine wpList_append_any _ rfl (.tmp 17) (.tmp 19) 23 rfl w.heap.size 35 i0 (.agg #[.int .i64 0, .int .i64 0, .int .i64 0]) 3 24 Tryd.underlying23 HI0.out HZ0.out hz1 hz2 rfl (by decide) (.slice none 0 0) 0 [] rfl (World.ownsRow_nil _ _ _ _) _ A l.length c (rcs edgC l) rfl HRD.out HE1.out (by unfold maxLen; omega) (by omega) HSZ ?_; intro v3 x2 h2 h3 h4; rw [Nat.zero_add, List.nil_append] at h2; obtain ⟨Ao, co, rfl, _⟩ := own_parts h2; have HO2 := Lib.hid h2; have HG2 := Lib.hid (show Below x1.heap.size x1 x2 from (Below.refl _ _).grown h3 (Nat.le_refl _) (fun k hk => by cases hk)); clear h2 h3 h4)
    clear g0 g1
    have HB2 := Lib.hid (HB1.out.trans (HG2.out.mono HB1.out.size)); have HX2 := Lib.hid (HX1.out.step HG2.out)
    clear HB1 HX1 HG2 HRD
    have hss : ∀ w', Below x2.heap.size x2 w' → w'.cell? ⟨w.heap.size, 0, none⟩ = some (.int .i64 n) ∧ w'.cell? ⟨w.heap.size, 1, none⟩ = some (.slice A l.length c) := fun w' hb' => (HX2.out.step hb').cells
    have HSS := Lib.hid hss
    clear hss
    refine wp_region_noPanic ?_
    refine wp_region_held_drew (S := (fun w' => w'.cell? ⟨w.heap.size, 0, none⟩ = some (.int .i64 n) ∧ w'.cell? ⟨w.heap.size, 1, none⟩ = some (.slice A l.length c))) (by kernel_rfl) ?_ (fun hHeld => ?_)
    · exact HSS.out _ (below_drewN (Below.refl _ _) 1)
    refine wpAnyH_take (i := 0) (v := ?v0g1_) rfl (by kernel_rfl) (by kernel_rfl) (by kernel_rfl) (fun _ _ _ h => h) (Or.inl ⟨by rfl, ?y0g1_⟩) (by assumption) ?r0g1_
    case y0g1_ => (intro w hSw; (try dsimp only at hSw); go_simp; try with_reducible rfl)
    change wpAnyH _ _ _ _ _ _ _ (Act.put _ (some 21) _) _; simp only [Act.put, List.setIfInBounds_toArray, List.set_cons_zero, List.set_cons_succ]
    refine wpAnyH_take (i := 1) (v := ?v1g1_) rfl (by kernel_rfl) (by kernel_rfl) (by kernel_rfl) (fun _ _ _ h => h) (Or.inl ⟨by rfl, ?y1g1_⟩) (by assumption) ?r1g1_
    case y1g1_ => (intro w hSw; (try dsimp only at hSw); go_simp; try with_reducible rfl)
    change wpAnyH _ _ _ _ _ _ _ (Act.put _ (some 22) _) _; simp only [Act.put, List.setIfInBounds_toArray, List.set_cons_zero, List.set_cons_succ]
    refine wpAnyH_take (i := 3) (v := ?v3g1_) rfl (by kernel_rfl) (by kernel_rfl) (by kernel_rfl) (fun _ _ _ h => h) (Or.inl ⟨by rfl, ?y3g1_⟩) (by assumption) ?r3g1_
    case y3g1_ => (intro w hSw; (try dsimp only at hSw); go_simp; try with_reducible rfl)
    change wpAnyH _ _ _ _ _ _ _ (Act.put _ (some 24) _) _; simp only [Act.put, List.setIfInBounds_toArray, List.set_cons_zero, List.set_cons_succ]
    refine wpAnyH_take (i := 4) (v := ?v4g1_) rfl (by kernel_rfl) (by kernel_rfl) (by kernel_rfl) (fun _ _ _ h => h) (Or.inl ⟨by rfl, ?y4g1_⟩) (by assumption) ?r4g1_
    case y4g1_ => (intro w hSw; (try dsimp only at hSw); go_simp; try with_reducible rfl)
    change wpAnyH _ _ _ _ _ _ _ (Act.put _ (some 25) _) _; simp only [Act.put, List.setIfInBounds_toArray, List.set_cons_zero, List.set_cons_succ]
    refine wpAnyH_ready (rs := [2]) (by kernel_rfl) (by simp) ?_
    refine AllReadyH.cons rfl (fun K hK => ?_) AllReadyH.nil
    go_simp
    refine (HPO.out _ (below_drewN HB2.out 1)).mono ?_
    rintro e x3 ⟨Aa, ca, rfl, ho3, hb3⟩
    have HB3 := Lib.hid (undrew hb3)
    have HA3 : Hid (x3.ownsRow x2.heap.size 35 3 (.slice Aa MO.length ca) MO.length (rcs edgC MO)) := Lib.hid ho3
    clear ho3 hb3
    dsimp only
    refine hK.out _ _ ?_ (fun hHeld => ?_)
    · exact HSS.out _ HB3.out
    clear hK K
    try simp only [Act.put, List.setIfInBounds_toArray, List.set_cons_zero, List.set_cons_succ]
    refine wpAnyH_ready (rs := [5]) (by kernel_rfl) (by simp) ?_
    refine AllReadyH.cons rfl (fun K hK => ?_) AllReadyH.nil
    go_simp
    refine (HPB.out _ (HB2.out.trans (HB3.out.mono HB2.out.size))).mono ?_
    rintro e x4 ⟨Ab, cb, rfl, ho4, hb4⟩
    have HB4 := Lib.hid (HB3.out.trans (hb4.mono HB3.out.size))
    have HC4 := Lib.hid hb4
    have HA4 := Lib.hid ho4
    clear ho4 hb4
    dsimp only
    refine hK.out _ _ ?_ (fun hHeld => ?_)
    · exact HSS.out _ HB4.out
    clear hK K
    try simp only [Act.put, List.setIfInBounds_toArray, List.set_cons_zero, List.set_cons_succ]
    refine wpAnyH_take (i := 6) (v := ?v6g1_) rfl (by kernel_rfl) (by kernel_rfl) (by kernel_rfl) (fun _ _ _ h => h) (Or.inl ⟨by rfl, ?y6g1_⟩) (by assumption) ?r6g1_
    case y6g1_ => (intro w hSw; (try dsimp only at hSw); go_simp; try with_reducible rfl)
    change wpAnyH _ _ _ _ _ _ _ (Act.put _ (some 6) _) _; simp only [Act.put, List.setIfInBounds_toArray, List.set_cons_zero, List.set_cons_succ]
    refine wpAnyH_take (i := 7) (v := ?v7g1_) rfl (by kernel_rfl) (by kernel_rfl) (by kernel_rfl) (fun _ _ _ h => h) (Or.inl ⟨by rfl, ?y7g1_⟩) (by assumption) ?r7g1_
    case y7g1_ => (intro w hSw; (try dsimp only at hSw); go_simp; try with_reducible rfl)
    change wpAnyH _ _ _ _ _ _ _ (Act.put _ (some 7) _) _; simp only [Act.put, List.setIfInBounds_toArray, List.set_cons_zero, List.set_cons_succ]
    refine wpAnyH_done (by kernel_rfl) ?_ _
    refine NoPanic.normal ?_
    have HRA := Lib.hid (own_below HA3.out HC4.out)
    have hap : (Value.slice Aa MO.length ca).ownBlock = none ∨ (Value.slice Aa MO.length ca).ownBlock ≠ (Value.slice Ab MB.length cb).ownBlock := by
      cases hob : (Value.slice Aa MO.length ca).ownBlock with
      | none => exact .inl rfl
      | some q =>
        right
        intro e'
        have q1 := (HA3.out.lt q hob).2
        have q2 := (HA4.out.lt q e'.symm).1
        omega
    have HS4 : Hid (ESt x2 x4 (.slice Aa MO.length ca) (.slice Ab MB.length cb) MO.length MB.length) := Lib.hid ⟨HB4.out, ⟨MO, rfl, HRA.out⟩, ⟨MB, rfl, own_mono HA4.out HB3.out.size⟩, hap⟩
    have HR4 := Lib.hid (Rs.of_own HRA.out); have HQ4 := Lib.hid (Rs.of_own HA4.out)
    clear hap HRA HA3 HA4 HC4 HSS HB3 HB4
    obtain ⟨g0, g1⟩ := (HX2.out.step HS4.out.below).cells
    go_wp2_with fail
    refine (HRO.out _ (HB2.out.trans (HS4.out.below.mono HB2.out.size))).mono ?_
    clear g0 g1
    rintro e x5 ⟨A5, c5, rfl, ho5, hb5⟩
    have HS5 := Lib.hid (HS4.out.step hb5); have HR5 := Lib.hid (HR4.out.below hb5); have HQ5 := Lib.hid (HQ4.out.below hb5); have HT5 := Lib.hid (Rs.of_own ho5)
    clear ho5 hb5 HS4 HR4 HQ4
    go_wp2_with fail
    refine (sameE_true _ _ _ _ _ MO HR5.out HT5.out (by omega)).mono ?_
    rintro e x6 ⟨rfl, hb6⟩
    have HS6 := Lib.hid (HS5.out.step hb6); have HQ6 := Lib.hid (HQ5.out.below hb6)
    clear hb6 HS5 HR5 HQ5 HT5
    obtain ⟨g0, g1⟩ := (HX2.out.step HS6.out.below).cells
    go_wp2_with fail
    refine (HRB.out _ (HB2.out.trans (HS6.out.below.mono HB2.out.size))).mono ?_
    clear g0 g1
    rintro e x7 ⟨A7, c7, rfl, ho7, hb7⟩
    have HS7 := Lib.hid (HS6.out.step hb7); have HQ7 := Lib.hid (HQ6.out.below hb7); have HT7 := Lib.hid (Rs.of_own ho7)
    clear ho7 hb7 HS6 HQ6
    go_wp2_with fail
    refine (sameE_true _ _ _ _ _ MB HQ7.out HT7.out (by omega)).mono ?_
    rintro e x8 ⟨rfl, hb8⟩
    have HS8 := Lib.hid (HS7.out.step hb8)
    clear hb8 HS7 HQ7 HT7
    go_wp2
    go_loopg [8] MO.length (fun gf vi wr => ∃ i : Nat, vi = .int .i64 i ∧ i + gf = MO.length ∧ ESt x2 wr (.slice Aa MO.length ca) (.slice Ab MB.length cb) MO.length MB.length)
    case atStart => exact ⟨0, rfl, by omega, HS8.out⟩
    case round =>
      clear HS8
      obtain ⟨i, rfl, hi, hst⟩ := hrel
      cases gk with
      | succ gf =>
        have hiI : (i : Int) < (MO.length : Int) := by omega
        obtain ⟨g, rfl, _, ⟨u, hu⟩, _, hf⟩ := row_cells hst.ra (i := i) (by omega)
        have HNX := Lib.hid (hst.setA (j := i * 3 + 1) (by omega) (-9))
        clear hst
        go_wp2
        go_roundg gf
        case measure => omega
        case rel => exact ⟨i + 1, by go_num, by omega, HNX.out⟩
      | zero =>
        obtain rfl : i = MO.length := by omega
        have HST := Lib.hid hst
        clear hst
        go_wp2
        go_loopg [9] MB.length (fun gf vi wr => ∃ i : Nat, vi = .int .i64 i ∧ i + gf = MB.length ∧ ESt x2 wr (.slice Aa MO.length ca) (.slice Ab MB.length cb) MO.length MB.length)
        case atStart => exact ⟨0, rfl, by omega, HST.out⟩
        case round =>
          clear HST
          obtain ⟨i, rfl, hi, hst⟩ := hrel
          cases gk with
          | succ gf =>
            have hiI : (i : Int) < (MB.length : Int) := by omega
            obtain ⟨g, rfl, ⟨u, hu⟩, _, hf, _⟩ := row_cells hst.rb (i := i) (by omega)
            have HNX := Lib.hid (hst.setB (j := i * 3) (by omega) (-9))
            clear hst
            go_wp2
            go_roundg gf
            case measure => omega
            case rel => exact ⟨i + 1, by go_num, by omega, HNX.out⟩
          | zero =>
            obtain rfl : i = MB.length := by omega
            have HB9 := Lib.hid hst.below
            clear hst
            have HOW := Lib.hid (Rs.of_own HO2.out)
            obtain ⟨g0, g1⟩ := (HX2.out.step HB9.out).cells
            go_wp2_with fail
            refine (sameE_true _ _ _ _ _ l (HOW.out.below HB9.out) ((HX2.out.step HB9.out).rs) (by omega)).mono ?_
            clear g0 g1
            rintro e x10 ⟨rfl, hb10⟩
            have HB10 := Lib.hid (HB9.out.trans (hb10.mono HB9.out.size))
            clear hb10 HB9
            obtain ⟨g0, g1⟩ := (HX2.out.step HB10.out).cells
            by_cases hk : checkL (n, l) = 0
            · obtain ⟨N, rfl⟩ : ∃ N : Nat, n = (N : Int) := ⟨n.toNat, by have h1 : 1 ≤ n := (check_ok hk).1; omega⟩
              have hN5 : N ≤ 512 := by have h1 : (N : Int) ≤ 512 := (check_ok hk).2.1; omega
              obtain ⟨cT, cO⟩ := cnt_all (check_ok hk).2.2.2.1
              have hck := HCK.out x10 (HB2.out.trans (HB10.out.mono HB2.out.size))
              rw [hk] at hck
              have HC := Lib.hid hck; have HCT := Lib.hid cT; have HCO := Lib.hid cO
              clear hck cT cO hk
              go_wp2_with fail
              refine HC.out.mono ?_
              clear HC g0 g1
              rintro e x11 ⟨rfl, hb11⟩
              have HB11 := Lib.hid (HB10.out.trans (hb11.mono HB10.out.size))
              clear hb11 HB10
              go_wp2
              go_loopg [10, 11, 12] N (fun gf vn vm vu wr => ∃ u : Nat, vu = .int .i64 u ∧ u + gf = N ∧ vn = .int .i64 (cntOf l u) ∧ vm = .int .i64 (cntTo l u) ∧ Below x2.heap.size x2 wr)
              case atStart => exact ⟨0, rfl, by omega, by rw [cntOf_zero]; rfl, by rw [cntTo_zero]; rfl, HB11.out⟩
              case round =>
                clear HB11
                obtain ⟨u, rfl, hu, rfl, rfl, hb⟩ := hrel
                have HBU := Lib.hid hb
                clear hb
                obtain ⟨g0, g1⟩ := (HX2.out.step HBU.out).cells
                cases gk with
                | zero =>
                  obtain rfl : N = u := by omega
                  rw [HCT.out, HCO.out]
                  have hge : decide ((N : Int) < (N : Int)) = false := by simp
                  go_wp2_with fail
                  refine (works_any _ (firsts_below HF.out (HB2.out.trans (HBU.out.mono HB2.out.size)) hz)).mono ?_
                  rintro e x12 ⟨rfl, hb12⟩
                  have HBF := Lib.hid ((HB2.out.trans (HBU.out.mono HB2.out.size)).trans (hb12.mono (HB2.out.trans (HBU.out.mono HB2.out.size)).size))
                  clear hb12
                  go_wp2
                  go_ret
                  exact ⟨rfl, HBF.out⟩
                | succ gf =>
                  have huI : (u : Int) < (N : Int) := by omega
                  have huN : u < N := by omega
                  have s1 := cntOf_succ l u; have s2 := cntTo_succ l u
                  have q1 := (cnt_le l (u + 1)).1; have q2 := (cnt_le l (u + 1)).2
                  have HS1 := Lib.hid s1; have HS2 := Lib.hid s2
                  have b1 : cntOf l u + (outL l u).length ≤ 200 := by omega
                  have b2 : cntTo l u + (backL l u).length ≤ 200 := by omega
                  clear s1 s2 q1 q2
                  generalize hcO : cntOf l u = p1 at *
                  generalize hcT : cntTo l u = p2 at *
                  clear hcO hcT
                  go_wp2_with fail
                  refine (HPOU.out u _ (HB2.out.trans (HBU.out.mono HB2.out.size))).mono ?_
                  clear g0 g1
                  rintro e x12 ⟨A12, c12, rfl, -, hb12⟩
                  have HBV := Lib.hid (HBU.out.trans (hb12.mono HBU.out.size))
                  clear hb12 HBU
                  obtain ⟨g0, g1⟩ := (HX2.out.step HBV.out).cells
                  go_wp2_with fail
                  refine (HPBU.out u _ (HB2.out.trans (HBV.out.mono HB2.out.size))).mono ?_
                  clear g0 g1
                  rintro e x13 ⟨A13, c13, rfl, -, hb13⟩
                  have HBW := Lib.hid (HBV.out.trans (hb13.mono HBV.out.size))
                  clear hb13 HBV
                  go_wp2
                  go_roundg gf
                  case measure => omega
                  case rel => exact ⟨u + 1, by go_num, by omega, by rw [HS1.out]; go_num, by rw [HS2.out]; go_num, HBW.out⟩
            · have hne : (checkL (n, l) != 0) = true := by simp [hk]
              have hck := HCK.out x10 (HB2.out.trans (HB10.out.mono HB2.out.size))
              obtain ⟨K, hK⟩ : ∃ K, checkL (n, l) = K := ⟨_, rfl⟩
              rw [hK] at hck hne
              have HC := Lib.hid hck
              clear hck hk hK
              go_wp2_with fail
              refine HC.out.mono ?_
              clear HC g0 g1
              rintro e x11 ⟨rfl, hb11⟩
              have HB11 := Lib.hid (HB10.out.trans (hb11.mono HB10.out.size))
              clear hb11 HB10
              obtain ⟨g0, g1⟩ := (HX2.out.step HB11.out).cells
              go_wp2_with fail
              refine (sameE_true _ _ _ _ _ l (HOW.out.below HB11.out) ((HX2.out.step HB11.out).rs) (by omega)).mono ?_
              clear g0 g1
              rintro e x12 ⟨rfl, hb12⟩
              have HB12 := Lib.hid (HB2.out.trans ((HB11.out.trans (hb12.mono HB11.out.size)).mono HB2.out.size))
              clear hb12 HB11
              go_wp2_with fail
              refine (works_any _ (firsts_below HF.out HB12.out hz)).mono ?_
              rintro e x13 ⟨rfl, hb13⟩
              have HB13 := Lib.hid (HB12.out.trans (hb13.mono HB12.out.size))
              clear hb13
              go_wp2
              go_ret
              exact ⟨rfl, HB13.out⟩
  · have hs1 := fun W => light_at n A l.length c 200 false W (decide_eq_false h1)
    have H1 := Lib.hid hs1; have HF := Lib.hid hF; have HB := Lib.hid hB
    clear hX hs1 ha hF h1 hB hi0 hz0
    go_enter Tryd.func4, Tryd.ntmps4
    go_wp2_with fail
    refine (H1.out _).mono ?_
    rintro e x1 ⟨rfl, hb1⟩
    have HB1 := Lib.hid (HB.out.trans (hb1.mono HB.out.size))
    clear hb1
    go_wp2_with fail
    refine (works_any _ (firsts_below HF.out HB1.out hz)).mono ?_
    rintro e x2 ⟨rfl, hb2⟩
    have HB2 := Lib.hid (HB1.out.trans (hb2.mono HB1.out.size))
    clear hb2
    go_wp2
    go_ret
    exact ⟨rfl, HB2.out⟩
end Go.Proofs.YtknigkjbnaoldaaDoor
