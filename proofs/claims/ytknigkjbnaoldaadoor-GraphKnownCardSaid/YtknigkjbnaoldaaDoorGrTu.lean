/- The program's Turn. The reference's Turn. -/
import Derived.Test.YtknigkjbnaoldaaDoorGrJ
import Derived.Test.YtknigkjbnaoldaaDoorGrE
import Derived.Deep.Cut
import Derived.Deep.RegionLaw
namespace Go.Proofs.YtknigkjbnaoldaaDoor
open Go.RowKit Go.Maps

/-- what is turned: a graph, and an error -/
def turnG (g : Gr) : Gr := if checkL g = 0 then (g.1, turnR g.2 g.1.toNat) else (0, [])
def TurnP (w : World) (g : Gr) (R : Ending) (w' : World) : Prop :=
  Below w.heap.size w w' ∧ ∃ (A : Option Addr) (c : Nat), R = .returned (.tuple #[.agg #[.int .i64 (turnG g).1, .slice A (turnG g).2.length c], .int .i64 (checkL g)]) ∧ Rs edgC 3 w' A (turnG g).2
theorem turn_err {w w' : World} {g : Gr} {R : Ending} {k : Int} (h : checkL g = k) (hk : k ≠ 0) (hb : Below w.heap.size w w') (hR : R = .returned (.tuple #[.agg #[.int .i64 0, .slice none 0 0], .int .i64 k])) : TurnP w g R w' := by
  have e : turnG g = (0, []) := by unfold turnG; rw [if_neg (by rw [h]; exact hk)]
  unfold TurnP
  rw [e, h]
  exact ⟨hb, none, 0, hR, Rs.nil' _⟩
/-- half a row is turned -/
def halfT (l : List Edg) (i : Nat) : List Edg := (l.take i).map swapE ++ l.drop i
theorem halfT_len (l : List Edg) (i : Nat) : (halfT l i).length = l.length := by unfold halfT; simp; omega
theorem halfT_zero (l : List Edg) : halfT l 0 = l := by simp [halfT]
theorem halfT_all (l : List Edg) : halfT l l.length = l.map swapE := by simp [halfT]
theorem halfT_at {l : List Edg} {i : Nat} {x : Edg} (h : l[i]? = some x) : (halfT l i)[i]? = some x := by
  have hlt := (List.getElem?_eq_some_iff.1 h).1
  unfold halfT
  rw [List.getElem?_append_right (by simp; omega)]
  simp only [List.length_map, List.length_take, List.getElem?_drop]
  rw [Nat.min_eq_left (by omega)]
  simpa using h
theorem halfT_set {l : List Edg} {i : Nat} {x : Edg} (h : l[i]? = some x) : (halfT l i).set i (swapE x) = halfT l (i + 1) := by
  have hlt := (List.getElem?_eq_some_iff.1 h).1
  have hd : l.drop i = x :: l.drop (i + 1) := by
    rw [List.drop_eq_getElem_cons hlt]
    rw [List.getElem?_eq_getElem hlt] at h
    injection h with h
    rw [h]
  unfold halfT
  rw [hd, take_snoc_ h, List.map_append, List.set_append_right _ _ (by rw [List.length_map, List.length_take]; exact Nat.min_le_left _ _)]
  simp [Nat.min_eq_left (Nat.le_of_lt hlt)]
theorem rcs_set2 : ∀ {L : List Edg} {i : Nat} {x : Edg} (a b : Int), L[i]? = some x → ((rcs edgC L).set (i * 3) (.int .i64 a)).set (i * 3 + 1) (.int .i64 b) = rcs edgC (L.set i (a, b, x.2.2)) := by
  intro L
  induction L with
  | nil => intro i x a b h; simp at h
  | cons y L ih =>
    intro i x a b h
    have e : ∀ (z : Edg) (M : List Edg), rcs edgC (z :: M) = .int .i64 z.1 :: .int .i64 z.2.1 :: .int .i64 z.2.2 :: rcs edgC M := fun z M => rfl
    cases i with
    | zero =>
      injection h with h
      subst h
      rw [List.set_cons_zero, e, e]
      rfl
    | succ i =>
      have h' : L[i]? = some x := h
      rw [List.set_cons_succ, e, e, ← ih a b h', show (i + 1) * 3 = i * 3 + 1 + 1 + 1 by omega]
      rfl
theorem swap_pair {l : List Edg} (h : SortedE l) : (l.map swapE).Pairwise fun a b => sameE a b = false := by
  rw [List.pairwise_map]
  refine h.imp fun {a b} hab => ?_
  have := ahead_ne hab
  unfold sameE at this ⊢
  unfold swapE
  simp only [decide_eq_false_iff_not] at this ⊢
  omega
set_option maxHeartbeats 2000000 in
theorem cloneE_any (w : World) (A : Option Addr) (c : Nat) (l : List Edg) (h : Rs edgC 3 w A l) (hs : l.length ≤ 1000000000) :
    Calls Tryd.prog 47 #[.slice A l.length c] w fun e w' => ∃ A' c', e = .returned (.slice A' l.length c') ∧ w'.ownsRow w.heap.size 35 3 (.slice A' l.length c') l.length (rcs edgC l) ∧ Below w.heap.size w w' := by
  obtain ⟨i0, hi, hz0, hz1, hz2, -⟩ := parts infoE
  have hnil : Sem.run Tryd.prog (binOp .eql 23 (.slice A l.length c) (.slice none 0 0)) w = .ok (.bool A.isNone) w := Lib.run_eql_slice_nil (P := Tryd.prog) w 23 35 A l.length c 0 0 Tryd.underlying23
  cases A with
  | none =>
    have hl : l = [] := by
      rcases Nat.eq_zero_or_pos l.length with h0 | h0
      · exact List.eq_nil_of_length_eq_zero h0
      · obtain ⟨b, o, e, _⟩ := h.2 h0
        cases e
    subst hl
    have hn0 : Sem.run Tryd.prog (binOp .eql 23 (.slice none 0 c) (.slice none 0 0)) w = .ok (.bool true) w := hnil
    clear hnil h hs hi hz0 hz1 hz2
    rw [List.length_nil]
    go_enter Tryd.func47, Tryd.ntmps47
    go_wp2
    go_ret
    exact ⟨none, 0, rfl, World.ownsRow_nil _ _ _ _, Below.refl _ _⟩
  | some ad =>
    have hn1 : Sem.run Tryd.prog (binOp .eql 23 (.slice (some ad) l.length c) (.slice none 0 0)) w = .ok (.bool false) w := hnil
    clear hnil
    have hrA := (h.alloc (.cells #[] 35)).rd
    have ho : (w.alloc (.cells #[] 35)).ownsRow w.heap.size 35 3 (.slice (some ⟨w.heap.size, 0, none⟩) 0 0) 0 [] := ⟨by simp, .inr ⟨w.heap.size, 0, #[], rfl, Nat.le_refl _, heap_alloc_new w _, Nat.le_refl _, by unfold maxLen; omega, rfl, by simp⟩⟩
    have hBA := (Below.refl w.heap.size w).alloc (Nat.le_refl _) (.cells #[] 35)
    have HR := Lib.hid hrA; have HO := Lib.hid ho; have HB := Lib.hid hBA; have H1 := Lib.hid (edgC_one l)
    clear hrA ho hBA h
    go_enter Tryd.func47, Tryd.ntmps47
    go_wp2_with (at_builtin; refine wpList_append_any _ rfl (.tmp 5) (.tmp 6) 23 rfl w.heap.size 35 i0 (.agg #[.int .i64 0, .int .i64 0, .int .i64 0]) 3 24 Tryd.underlying23 hi hz0 hz1 hz2 rfl (by decide) _ _ _ rfl HO.out _ _ _ _ (rcs edgC l) rfl HR.out H1.out (by unfold maxLen; omega) (by omega) (by simp) ?_; intro v3 w3 h2 h3 h4; have HO3 := Lib.hid h2; have HG3 := Lib.hid h3; clear h2 h3 h4)
    go_ret
    have ho3 := HO3.out
    rw [Nat.zero_add, List.nil_append] at ho3
    have hb3 := HB.out.grown HG3.out (by simp) (fun k hk => (HO.out.lt k hk).1)
    obtain ⟨A', c', rfl, _⟩ := own_parts ho3
    exact ⟨A', c', rfl, ho3, hb3⟩
/-- a state of Turn -/
structure TSt (w wr : World) (n : Int) (A : Option Addr) (c : Nat) (L : List Edg) (k : Nat) : Prop where
  below : Below w.heap.size w wr
  box : Blk wr w.heap.size 25 #[.int .i64 n, .slice A k c]
  res : Blk wr (w.heap.size + 1) 25 #[.int .i64 0, .slice none 0 0]
  row : wr.ownsRow w.heap.size 35 3 (.slice A k c) k (rcs edgC L)
set_option maxRecDepth 100000 in
set_option maxHeartbeats 4000000 in
theorem turn_any (w : World) (n : Int) (A : Option Addr) (c : Nat) (l : List Edg) (h : Rs edgC 3 w A l) :
    Calls Tryd.prog 23 #[.agg #[.int .i64 n, .slice A l.length c]] w (TurnP w (n, l)) := by
  have hB := ((Below.refl w.heap.size w).alloc (Nat.le_refl _) (.cells #[.int .i64 n, .slice A l.length c] 25)).alloc (by simp) (.cells #[.int .i64 0, .slice none 0 0] 25)
  have hk0 := (Blk.new w 25 #[.int .i64 n, .slice A l.length c]).alloc (.cells #[.int .i64 0, .slice none 0 0] 25)
  have hk1 := Blk.new (w.alloc (.cells #[.int .i64 n, .slice A l.length c] 25)) 25 #[.int .i64 0, .slice none 0 0]
  rw [show (w.alloc (.cells #[.int .i64 n, .slice A l.length c] 25)).heap.size = w.heap.size + 1 by simp] at hk1
  have hR := (h.alloc (.cells #[.int .i64 n, .slice A l.length c] 25)).alloc (.cells #[.int .i64 0, .slice none 0 0] 25)
  have hc := check_any _ n A c l hR
  by_cases hk : checkL (n, l) = 0
  · have hlim := check_ok hk
    have hout : turnG (n, l) = (n, turnR l n.toNat) := by unfold turnG; rw [if_pos hk]
    rw [hk] at hc
    have HC := Lib.hid hc; have HB := Lib.hid hB; have HK0 := Lib.hid hk0; have HK1 := Lib.hid hk1; have HR := Lib.hid hR; have HL := Lib.hid hlim; have HO := Lib.hid hout; have HK := Lib.hid hk
    clear h hB hk0 hk1 hR hc hlim hout hk
    go_enter Tryd.func23, Tryd.ntmps23
    go_wp2_with fail
    refine HC.out.mono ?_
    clear HC
    rintro e w1 ⟨rfl, hb1⟩
    have hB1 := HB.out.trans (hb1.mono HB.out.size)
    have hk0 := HK0.out.below hb1 HK0.out.lt
    have hk1 := HK1.out.below hb1 HK1.out.lt
    have hlen : l.length ≤ 8192 := HL.out.2.2.1
    have hcl := cloneE_any w1 A c l (HR.out.below hb1) (by omega)
    have g1 := hk0.cell 1
    simp only [List.getElem?_toArray, List.getElem?_cons_zero, List.getElem?_cons_succ] at g1
    have HCL := Lib.hid hcl; have HB1 := Lib.hid hB1; have HK0 := Lib.hid hk0; have HK1 := Lib.hid hk1
    clear hcl hb1 HB hB1 hk0 hk1 HR
    go_wp2_with fail
    refine HCL.out.mono ?_
    clear HCL g1
    rintro e w2 ⟨A', c', rfl, ho2, hb2⟩
    have hk0 := HK0.out.below hb2 HK0.out.lt
    have hk1 := HK1.out.below hb2 HK1.out.lt
    have hs1 := HB1.out.size
    have HST : Hid (TSt w (w2.setCell ⟨w.heap.size, 1, none⟩ (.slice A' l.length c')) n A' c' (halfT l 0) l.length) := Lib.hid
      ⟨(HB1.out.trans (hb2.mono HB1.out.size)).setCell (p := ⟨w.heap.size, 1, none⟩) (Nat.le_refl _) _, hk0.set_ 1 _, hk1.far (p := ⟨w.heap.size, 1, none⟩) (by show w.heap.size + 1 ≠ w.heap.size; omega) _, by
        rw [halfT_zero]
        exact own_mono (own_keep ho2 (type_set (i := 1) hk0 (by decide) (.slice A' l.length c'))) hs1⟩
    have y0 := hk0.frozen 1
    have y1 := hk0.cell 1
    have g1 := HST.out.box.cell 1
    simp only [List.getElem?_toArray, List.getElem?_cons_zero, List.getElem?_cons_succ] at g1 y1
    clear hk0 hk1 ho2 hb2 HK0 HK1 HB1 hs1
    go_wp2
    clear y0 y1 g1
    go_loopg [20] l.length (fun gf vi wr => ∃ i : Nat, vi = .int .i64 i ∧ i + gf = l.length ∧ TSt w wr n A' c' (halfT l i) l.length)
    case atStart => exact ⟨0, rfl, by omega, HST.out⟩
    case round =>
      clear HST
      obtain ⟨i, rfl, hi, hst⟩ := hrel
      have g0 := hst.box.cell 0
      have g1 := hst.box.cell 1
      simp only [List.getElem?_toArray, List.getElem?_cons_zero, List.getElem?_cons_succ] at g0 g1
      cases gk with
      | zero =>
        obtain rfl : i = l.length := by omega
        rw [halfT_all] at hst
        have hsort := sortEdg_any wr w.heap.size A' c' (l.map swapE) (by rw [List.length_map]; exact hst.row) (by rw [List.length_map]; omega) (swap_pair HL.out.2.2.2.2)
        rw [List.length_map] at hsort
        have HST := Lib.hid hst; have HSO := Lib.hid hsort
        clear hst hsort
        go_wp2_with fail
        refine HSO.out.mono ?_
        clear HSO g0 g1
        rintro e w3 ⟨rfl, m, hml, hms, hmp, hmo, hmg⟩
        have hne : ∀ g' cs, Blk wr g' 25 cs → some g' ≠ (Value.slice A' l.length c').ownBlock := fun g' cs hb e => by
          obtain ⟨cc, fz, hcc⟩ : ∃ cc fz, wr.heap[g']? = some (.cells cc 35 fz) := by
            rcases HST.out.row.2 with ⟨h1, _⟩ | ⟨g2, cap, cur, h1, _, hg2, _⟩
            · rw [h1] at e; cases e
            · rw [h1] at e
              simp only [Value.ownBlock, Option.some.injEq] at e
              subst e
              exact ⟨cur, _, hg2⟩
          unfold Blk at hb
          rw [hb] at hcc
          injection hcc with hcc
          injection hcc with _ h9
          exact absurd h9 (by decide)
        have hk0 := HST.out.box.grown hmg (hne _ _ HST.out.box)
        have hk1 := HST.out.res.grown hmg (hne _ _ HST.out.res)
        have hb3 := HST.out.below.grown hmg HST.out.below.size (fun k hk => (HST.out.row.lt k hk).1)
        have hmt : m = turnR l n.toNat := turn_is (n := n.toNat) (by
          intro e he
          have := HL.out.2.2.2.1 e he
          rwa [show ((n.toNat : Nat) : Int) = n by have := HL.out.1; omega]) HL.out.2.2.2.2 hms hmp
        have g0 := hk0.cell 0; have g1 := hk0.cell 1; have r0 := hk1.cell 0; have r1 := hk1.cell 1; have f0 := hk1.frozen 0; have f1 := hk1.frozen 1
        simp only [List.getElem?_toArray, List.getElem?_cons_zero, List.getElem?_cons_succ] at g0 g1 r0 r1
        have d0 := (hk1.set_ 0 (.int .i64 n)).set_ 1 (.slice A' l.length c')
        have hrow2 : ((w3.setCell ⟨w.heap.size + 1, 0, none⟩ (.int .i64 n)).setCell ⟨w.heap.size + 1, 1, none⟩ (.slice A' l.length c')).ownsRow w.heap.size 35 3 (.slice A' l.length c') l.length (rcs edgC m) :=
          own_keep (own_keep hmo (type_set (i := 0) hk1 (by decide) _)) (type_set (i := 1) (hk1.set_ 0 (.int .i64 n)) (by decide) _)
        have hfin : TurnP w (n, l) (.returned (.tuple #[.agg #[.int .i64 n, .slice A' l.length c'], .int .i64 0])) ((w3.setCell ⟨w.heap.size + 1, 0, none⟩ (.int .i64 n)).setCell ⟨w.heap.size + 1, 1, none⟩ (.slice A' l.length c')) := by
          refine ⟨(hb3.setCell (p := ⟨w.heap.size + 1, 0, none⟩) (Nat.le_succ _) _).setCell (p := ⟨w.heap.size + 1, 1, none⟩) (Nat.le_succ _) _, A', c', ?_, ?_⟩
          · rw [HO.out, HK.out, ← hmt, ← hml]
          · rw [HO.out, ← hmt]
            rw [← hml] at hrow2 ⊢
            exact Rs.of_own hrow2
        have d1 := d0.cell 0; have d2 := d0.cell 1
        simp only [List.getElem?_toArray, List.setIfInBounds_toArray, List.set_cons_zero, List.set_cons_succ, List.getElem?_cons_zero, List.getElem?_cons_succ] at d1 d2
        have HFIN := Lib.hid hfin; have D1 := Lib.hid d1; have D2 := Lib.hid d2
        clear hfin hrow2 d0 hk0 hk1 hb3 hmo hmg hmp hms hml hmt d1 d2
        go_wp2
        have d1 := D1.out; have d2 := D2.out
        refine bodyPost_ret (v := .tuple #[.agg #[.int .i64 n, .slice A' l.length c'], .int .i64 0]) (by simp [results, Tryd.results23, go_sem, d1, d2]) rfl ?_
        exact HFIN.out
      | succ gf =>
        have hiI : (i : Int) < (l.length : Int) := by omega
        obtain ⟨x, hx⟩ : ∃ x, l[i]? = some x := ⟨_, List.getElem?_eq_getElem (by omega)⟩
        have hxa := halfT_at hx
        obtain ⟨g, cap', hv, _⟩ := hst.row.form (by omega)
        have hA : A' = some ⟨g, 0, none⟩ := by injection hv
        subst hA
        obtain ⟨b, oo, x', hbe, hb, hx', x1, x2, x3⟩ := edg_at (Rs.of_own (l := halfT l i) (by rw [halfT_len]; exact hst.row)) (i := i) (by rw [halfT_len]; omega)
        obtain ⟨rfl, rfl⟩ : b = g ∧ oo = 0 := by injection hbe with hbe; injection hbe with h1 h2; exact ⟨h1.symm, h2.symm⟩
        obtain rfl : x' = x := by rw [hxa] at hx'; injection hx' with e; exact e.symm
        simp only [Nat.zero_add] at x1 x2 x3
        have z0 := hst.row.frozenAt (i * 3)
        have z1 := hst.row.frozenAt (i * 3 + 1)
        have hgb := (own_blk hst.row).choose_spec
        have HNX : Hid (TSt w ((wr.setCell ⟨b, i * 3, none⟩ (.int .i64 x'.2.1)).setCell ⟨b, i * 3 + 1, none⟩ (.int .i64 x'.1)) n (some ⟨b, 0, none⟩) c' (halfT l (i + 1)) l.length) := by
          have s1 := hst.row.stored (i * 3) (.int .i64 x'.2.1)
          have s2 := s1.1.stored (i * 3 + 1) (.int .i64 x'.1)
          have hn0 : w.heap.size ≠ b := fun e => by
            have h9 := hst.box
            unfold Blk at h9
            rw [e] at h9
            have h10 := hgb.1
            unfold Blk at h10
            rw [h10] at h9
            injection h9 with h9
            injection h9 with _ h9
            exact absurd h9 (by decide)
          have hn1 : w.heap.size + 1 ≠ b := fun e => by
            have h9 := hst.res
            unfold Blk at h9
            rw [e] at h9
            have h10 := hgb.1
            unfold Blk at h10
            rw [h10] at h9
            injection h9 with h9
            injection h9 with _ h9
            exact absurd h9 (by decide)
          refine Lib.hid ⟨(hst.below.setCell (p := ⟨b, i * 3, none⟩) hgb.2 _).setCell (p := ⟨b, i * 3 + 1, none⟩) hgb.2 _, (hst.box.far (p := ⟨b, i * 3, none⟩) hn0 _).far (p := ⟨b, i * 3 + 1, none⟩) hn0 _, (hst.res.far (p := ⟨b, i * 3, none⟩) hn1 _).far (p := ⟨b, i * 3 + 1, none⟩) hn1 _, ?_⟩
          have h5 := s2.1
          rw [rcs_set2 _ _ hxa, show (x'.2.1, x'.1, x'.2.2) = swapE x' from rfl, halfT_set hx] at h5
          exact h5
        have hi2 : i < 8192 := by omega
        clear hst hxa hx hx' hgb hbe hv
        go_wp2_with fail
        go_region
        go_wp2
        go_roundg gf
        case measure => omega
        case rel => exact ⟨i + 1, by go_num, by omega, below_drewN HNX.out.below 1, HNX.out.box, HNX.out.res, HNX.out.row⟩
  · have hne : (checkL (n, l) != 0) = true := by simp [hk]
    have hout := fun (w' : World) (R : Ending) => turn_err (w := w) (w' := w') (g := (n, l)) (R := R) rfl hk
    obtain ⟨K, hK⟩ : ∃ K, checkL (n, l) = K := ⟨_, rfl⟩
    rw [hK] at hc hne hout
    have HC := Lib.hid hc; have HB := Lib.hid hB; have HK1 := Lib.hid hk1; have HO := Lib.hid hout
    clear h hB hk0 hk1 hR hc hout hK hk
    go_enter Tryd.func23, Tryd.ntmps23
    go_wp2_with fail
    refine HC.out.mono ?_
    clear HC
    rintro e w1 ⟨rfl, hb1⟩
    have hB1 := HB.out.trans (hb1.mono HB.out.size)
    have hk1 := HK1.out.below hb1 HK1.out.lt
    have r0 := hk1.cell 0; have r1 := hk1.cell 1; have f0 := hk1.frozen 0; have f1 := hk1.frozen 1
    simp only [List.getElem?_toArray, List.getElem?_cons_zero, List.getElem?_cons_succ] at r0 r1
    have d0 := (hk1.set_ 0 (.int .i64 0)).set_ 1 (.slice none 0 0)
    have d1 := d0.cell 0; have d2 := d0.cell 1
    simp only [List.getElem?_toArray, List.setIfInBounds_toArray, List.set_cons_zero, List.set_cons_succ, List.getElem?_cons_zero, List.getElem?_cons_succ] at d1 d2
    have HFIN := Lib.hid (HO.out _ _ ((hB1.setCell (p := ⟨w.heap.size + 1, 0, none⟩) (Nat.le_succ _) (.int .i64 0)).setCell (p := ⟨w.heap.size + 1, 1, none⟩) (Nat.le_succ _) (.slice none 0 0)) rfl)
    have D1 := Lib.hid d1; have D2 := Lib.hid d2
    clear hb1 hB1 hk1 HK1 HB d0 d1 d2 HO
    go_wp2
    have d1 := D1.out; have d2 := D2.out
    refine bodyPost_ret (v := .tuple #[.agg #[.int .i64 0, .slice none 0 0], .int .i64 K]) (by simp [results, Tryd.results23, go_sem, d1, d2]) rfl ?_
    exact HFIN.out
end Go.Proofs.YtknigkjbnaoldaaDoor
namespace Go.Proofs.YtknigkjbnaoldaaDoor
open Go.RowKit Go.Maps

theorem ne_row {w : World} {B n size : Nat} {v : Value} {xs : List Value} {g : Nat} {cs : Array Value} (ho : w.ownsRow B 35 size v n xs) (hb : Blk w g 25 cs) : some g ≠ v.ownBlock := fun e => by
  obtain ⟨cc, fz, hcc⟩ : ∃ cc fz, w.heap[g]? = some (.cells cc 35 fz) := by
    rcases ho.2 with ⟨h1, _⟩ | ⟨g2, cap, cur, h1, _, hg2, _⟩
    · rw [h1] at e; cases e
    · rw [h1] at e
      simp only [Value.ownBlock, Option.some.injEq] at e
      subst e
      exact ⟨cur, _, hg2⟩
  unfold Blk at hb
  rw [hb] at hcc
  injection hcc with hcc
  injection hcc with _ h9
  exact absurd h9 (by decide)
/-- an edge to a vertex, turned -/
def turnE (v : Int) (e : Edg) : Edg := (v, e.1, e.2.2)
theorem turnR_succ (l : List Edg) (v : Nat) : turnR l (v + 1) = turnR l v ++ (backL l v).map (turnE v) := by
  unfold turnR
  rw [List.range_succ, List.flatMap_append]
  simp [turnE]
theorem turnR_len (l : List Edg) (v : Nat) : (turnR l v).length ≤ v * l.length := by
  induction v with
  | zero => simp [turnR]
  | succ v ih =>
    rw [turnR_succ, List.length_append, List.length_map, Nat.succ_mul]
    have := backL_len l v
    omega
/-- a state of the reference's Turn -/
structure RTs (w wr : World) (tb : Nat) (n : Int) (A : Option Addr) (c k : Nat) (At : Option Addr) (ct : Nat) (T : List Edg) : Prop where
  below : Below w.heap.size w wr
  box : Blk wr w.heap.size 25 #[.int .i64 n, .slice A k c]
  res : Blk wr (w.heap.size + 1) 25 #[.int .i64 0, .slice none 0 0]
  tbox : Blk wr tb 25 #[.int .i64 n, .slice At T.length ct]
  row : wr.ownsRow w.heap.size 35 3 (.slice At T.length ct) T.length (rcs edgC T)
  tb : w.heap.size + 2 ≤ tb
theorem RTs.step {w wr w' : World} {tb : Nat} {n : Int} {A : Option Addr} {c k : Nat} {At : Option Addr} {ct : Nat} {T : List Edg} (h : RTs w wr tb n A c k At ct T) (hb : Below wr.heap.size wr w') : RTs w w' tb n A c k At ct T :=
  ⟨h.below.trans (hb.mono h.below.size), h.box.below hb h.box.lt, h.res.below hb h.res.lt, h.tbox.below hb h.tbox.lt, own_below h.row hb, h.tb⟩
theorem RTs.drew {w wr : World} {tb : Nat} {n : Int} {A : Option Addr} {c k : Nat} {At : Option Addr} {ct : Nat} {T : List Edg} (h : RTs w wr tb n A c k At ct T) : RTs w wr.drew tb n A c k At ct T :=
  ⟨below_drewN h.below 1, h.box, h.res, h.tbox, h.row, h.tb⟩
/-- .. with a row of edges to a vertex beside it -/
structure RTi (w wr : World) (tb : Nat) (n : Int) (A : Option Addr) (c k : Nat) (At : Option Addr) (ct : Nat) (T : List Edg) (Ab : Option Addr) (cb : Nat) (M : List Edg) : Prop where
  st : RTs w wr tb n A c k At ct T
  bk : wr.ownsRow w.heap.size 35 3 (.slice Ab M.length cb) M.length (rcs edgC M)
  ap : (Value.slice Ab M.length cb).ownBlock = none ∨ (Value.slice Ab M.length cb).ownBlock ≠ (Value.slice At T.length ct).ownBlock
/-- an edge more: the new row's block is written into the graph's box -/
theorem RTi.put {w wr w5 : World} {tb : Nat} {n : Int} {A : Option Addr} {c k : Nat} {At : Option Addr} {ct : Nat} {T : List Edg} {Ab : Option Addr} {cb : Nat} {M : List Edg} {cs : List Value} {e : Edg} {A5 : Option Addr} {c5 : Nat} (h : RTi w wr tb n A c k At ct T Ab cb M)
    (h1 : w5.ownsRow w.heap.size 35 3 (.slice A5 (T.length + 1) c5) (T.length + 1) (rcs edgC T ++ edgC e)) (h2 : (wr.drew.alloc (.cells cs.toArray 35)).grownBy w5 (Value.slice At T.length ct).ownBlock)
    (h3 : (Value.slice A5 (T.length + 1) c5).ownBlock = (Value.slice At T.length ct).ownBlock ∨ (Value.slice A5 (T.length + 1) c5).ownBlock = some (wr.drew.alloc (.cells cs.toArray 35)).heap.size) :
    RTi w (w5.setCell ⟨tb, 1, none⟩ (.slice A5 (T.length + 1) c5)) tb n A c k A5 c5 (T ++ [e]) Ab cb M := by
  have hd := h.st.drew
  have a0 := hd.box.alloc (.cells cs.toArray 35)
  have a1 := hd.res.alloc (.cells cs.toArray 35)
  have a2 := hd.tbox.alloc (.cells cs.toArray 35)
  have a3 := hd.row.alloc (.cells cs.toArray 35)
  have a4 : wr.drew.ownsRow w.heap.size 35 3 (.slice Ab M.length cb) M.length (rcs edgC M) := h.bk
  have a5 := a4.alloc (.cells cs.toArray 35)
  have a6 := hd.below.alloc hd.below.size (.cells cs.toArray 35)
  have hlen : (T ++ [e]).length = T.length + 1 := by simp
  have b0 := a0.grown h2 (ne_row a3 a0)
  have b1 := a1.grown h2 (ne_row a3 a1)
  have b2 := a2.grown h2 (ne_row a3 a2)
  have htb := h.st.tb
  have b4 := a5.kept h2 h.ap
  have b6 := a6.grown h2 a6.size (fun k hk => (a3.lt k hk).1)
  have hb : ∀ k, (Value.slice Ab M.length cb).ownBlock = some k → k < wr.heap.size := fun k hk => (h.bk.lt k hk).2
  refine ⟨⟨b6.setCell (p := ⟨tb, 1, none⟩) (by show w.heap.size ≤ tb; omega) _, b0.far (p := ⟨tb, 1, none⟩) (by show w.heap.size ≠ tb; omega) _, b1.far (p := ⟨tb, 1, none⟩) (by show w.heap.size + 1 ≠ tb; omega) _, ?_, ?_, htb⟩, own_keep b4 (type_set (i := 1) b2 (by decide) _), ?_⟩
  · rw [hlen]
    exact b2.set_ 1 (.slice A5 (T.length + 1) c5)
  · rw [hlen, rcs_append, rcs_one]
    exact own_keep h1 (type_set (i := 1) b2 (by decide) _)
  · rw [hlen]
    rcases h3 with h3 | h3
    · rw [h3]; exact h.ap
    · right
      intro e'
      rw [h3] at e'
      have := hb _ e'
      have hz : (wr.drew.alloc (.cells cs.toArray 35)).heap.size = wr.heap.size + 1 := by simp
      omega
set_option maxRecDepth 100000 in
set_option maxHeartbeats 2000000 in
theorem rturn_any (w : World) (n : Int) (A : Option Addr) (c : Nat) (l : List Edg) (h : Rs edgC 3 w A l) :
    Calls Tryd.prog 24 #[.agg #[.int .i64 n, .slice A l.length c]] w (TurnP w (n, l)) := by
  obtain ⟨i0, hi0, hz0, hz1, hz2, -⟩ := parts infoE
  have hB := ((Below.refl w.heap.size w).alloc (Nat.le_refl _) (.cells #[.int .i64 n, .slice A l.length c] 25)).alloc (by simp) (.cells #[.int .i64 0, .slice none 0 0] 25)
  have hk0 := (Blk.new w 25 #[.int .i64 n, .slice A l.length c]).alloc (.cells #[.int .i64 0, .slice none 0 0] 25)
  have hk1 := Blk.new (w.alloc (.cells #[.int .i64 n, .slice A l.length c] 25)) 25 #[.int .i64 0, .slice none 0 0]
  rw [show (w.alloc (.cells #[.int .i64 n, .slice A l.length c] 25)).heap.size = w.heap.size + 1 by simp] at hk1
  have hR := (h.alloc (.cells #[.int .i64 n, .slice A l.length c] 25)).alloc (.cells #[.int .i64 0, .slice none 0 0] 25)
  have hc := refCheck_any _ n A c l hR
  by_cases hk : checkL (n, l) = 0
  · have hlim := check_ok hk
    obtain ⟨N, rfl⟩ : ∃ N : Nat, n = (N : Int) := ⟨n.toNat, by have h1 : 1 ≤ n := hlim.1; omega⟩
    have hout : turnG ((N : Int), l) = ((N : Int), turnR l N) := by unfold turnG; rw [if_pos hk]; rfl
    rw [hk] at hc
    have HC := Lib.hid hc; have HB := Lib.hid hB; have HK0 := Lib.hid hk0; have HK1 := Lib.hid hk1; have HR := Lib.hid h; have HL := Lib.hid hlim; have HO := Lib.hid hout; have HK := Lib.hid hk; have HI0 := Lib.hid hi0; have HZ0 := Lib.hid hz0
    clear h hB hk0 hk1 hR hc hlim hout hk hi0 hz0
    go_enter Tryd.func24, Tryd.ntmps24
    go_wp2_with fail
    refine HC.out.mono ?_
    clear HC
    rintro e w1 ⟨rfl, hb1⟩
    have hB1 := HB.out.trans (hb1.mono HB.out.size)
    have hk0 := HK0.out.below hb1 HK0.out.lt
    have hk1 := HK1.out.below hb1 HK1.out.lt
    have hs1 : w.heap.size + 2 ≤ w1.heap.size := by have := hb1.size; simpa using this
    have g0 := hk0.cell 0
    simp only [List.getElem?_toArray, List.getElem?_cons_zero] at g0
    have hn1 : (1 : Int) ≤ (N : Int) := HL.out.1
    have hn2 : (N : Int) ≤ 512 := HL.out.2.1
    have hlen : l.length ≤ 8192 := HL.out.2.2.1
    have HST : Hid (RTs w (w1.alloc (.cells #[.int .i64 (N : Int), .slice none 0 0] 25)) w1.heap.size (N : Int) A c l.length none 0 (turnR l 0)) := Lib.hid
      ⟨hB1.alloc hB1.size _, hk0.alloc _, hk1.alloc _, Blk.new w1 _ _, World.ownsRow_nil _ _ _ _, hs1⟩
    clear hB1 hk0 hk1 hb1 HB HK0 HK1
    go_wp2
    clear g0
    go_loopg [6] N (fun gf vi wr => ∃ (v : Nat) (At : Option Addr) (ct : Nat), vi = .int .i64 v ∧ v + gf = N ∧ RTs w wr w1.heap.size (N : Int) A c l.length At ct (turnR l v))
    case atStart => exact ⟨0, none, 0, rfl, by omega, HST.out⟩
    case round =>
      clear HST
      obtain ⟨v, At, ct, rfl, hv, hst⟩ := hrel
      have g0 := hst.box.cell 0; have g1 := hst.box.cell 1
      simp only [List.getElem?_toArray, List.getElem?_cons_zero, List.getElem?_cons_succ] at g0 g1
      cases gk with
      | zero =>
        obtain rfl : N = v := by omega
        have hvI : ¬ (N : Int) < (N : Int) := by omega
        have t0 := hst.tbox.cell 0; have t1 := hst.tbox.cell 1; have r0 := hst.res.cell 0; have r1 := hst.res.cell 1; have f0 := hst.res.frozen 0; have f1 := hst.res.frozen 1
        simp only [List.getElem?_toArray, List.getElem?_cons_zero, List.getElem?_cons_succ] at t0 t1 r0 r1
        have d0 := (hst.res.set_ 0 (.int .i64 (N : Int))).set_ 1 (.slice At (turnR l N).length ct)
        have hrow2 := own_keep (own_keep hst.row (type_set (i := 0) hst.res (by decide) (.int .i64 (N : Int)))) (type_set (i := 1) (hst.res.set_ 0 (.int .i64 (N : Int))) (by decide) (.slice At (turnR l N).length ct))
        have hfin : TurnP w ((N : Int), l) (.returned (.tuple #[.agg #[.int .i64 (N : Int), .slice At (turnR l N).length ct], .int .i64 0])) ((wr.setCell ⟨w.heap.size + 1, 0, none⟩ (.int .i64 (N : Int))).setCell ⟨w.heap.size + 1, 1, none⟩ (.slice At (turnR l N).length ct)) := by
          refine ⟨(hst.below.setCell (p := ⟨w.heap.size + 1, 0, none⟩) (Nat.le_succ _) _).setCell (p := ⟨w.heap.size + 1, 1, none⟩) (Nat.le_succ _) _, At, ct, ?_, ?_⟩
          · rw [HO.out, HK.out]
          · rw [HO.out]
            exact Rs.of_own hrow2
        have d1 := d0.cell 0; have d2 := d0.cell 1
        simp only [List.getElem?_toArray, List.setIfInBounds_toArray, List.set_cons_zero, List.set_cons_succ, List.getElem?_cons_zero, List.getElem?_cons_succ] at d1 d2
        have hge : decide ((N : Int) < (N : Int)) = false := decide_eq_false hvI
        have HFIN := Lib.hid hfin; have D1 := Lib.hid d1; have D2 := Lib.hid d2
        have htl : w.heap.size + 1 ≠ w1.heap.size := by have := hst.tb; omega
        clear hfin hrow2 d0 d1 d2 hst
        go_wp2
        have d1 := D1.out; have d2 := D2.out
        refine bodyPost_ret (v := .tuple #[.agg #[.int .i64 (N : Int), .slice At (turnR l N).length ct], .int .i64 0]) (by simp [results, Tryd.results24, go_sem, d1, d2]) rfl ?_
        exact HFIN.out
      | succ gf =>
        have hvI : (v : Int) < (N : Int) := by omega
        have hvN : v < N := by omega
        have hlT := turnR_len l v
        have hlT2 : v * l.length ≤ 512 * 8192 := Nat.mul_le_mul (by omega) hlen
        have hbk := refBack_any wr (N : Int) v A c l (HR.out.below hst.below) (by omega)
        have hbl := backL_len l v
        have hsucc := turnR_succ l v
        have HST := Lib.hid hst; have HBK := Lib.hid hbk; have HSU := Lib.hid hsucc
        clear hst hbk hsucc
        go_wp2_with fail
        refine HBK.out.mono ?_
        clear HBK g0 g1
        rintro e w2 ⟨r, rfl, ho2, hb2⟩
        obtain ⟨Ab, cb, rfl, _⟩ := own_parts ho2
        have HI : Hid (RTi w w2 w1.heap.size (N : Int) A c l.length At ct (turnR l v) Ab cb (backL l v)) := by
          refine Lib.hid ⟨HST.out.step hb2, own_mono ho2 HST.out.below.size, ?_⟩
          cases hob : (Value.slice Ab (backL l v).length cb).ownBlock with
          | none => exact .inl rfl
          | some q =>
            right
            intro e'
            have q1 := (ho2.lt q hob).1
            have q2 := (HST.out.row.lt q e'.symm).2
            omega
        clear ho2 hb2 HST
        obtain ⟨M, hM⟩ : ∃ M, backL l v = M := ⟨_, rfl⟩
        rw [hM] at HI HSU hbl ⊢
        clear hM
        go_wp2
        go_loopg [8] M.length (fun gf vi wr => ∃ (j : Nat) (At : Option Addr) (ct : Nat), vi = .int .i64 j ∧ j + gf = M.length ∧ RTi w wr w1.heap.size (N : Int) A c l.length At ct (turnR l v ++ (M.take j).map (turnE v)) Ab cb M)
        case atStart => exact ⟨0, At, ct, rfl, by omega, by simpa using HI.out⟩
        case round =>
          clear HI
          obtain ⟨j, At, ct, rfl, hj, hst⟩ := hrel
          cases gk with
          | zero =>
            obtain rfl : j = M.length := by omega
            rw [List.take_length, ← HSU.out] at hst
            have HST := Lib.hid hst.st
            clear hst
            go_wp2
            go_roundg gf
            case measure => omega
            case rel => exact ⟨v + 1, At, ct, by go_num, by omega, HST.out⟩
          | succ gf2 =>
            have hjI : (j : Int) < (M.length : Int) := by omega
            obtain ⟨b, oo, x, rfl, hb, hx, x1, x2, x3⟩ := edg_at (Rs.of_own hst.bk) (i := j) (by omega)
            have hTs : turnR l v ++ (M.take (j + 1)).map (turnE v) = (turnR l v ++ (M.take j).map (turnE v)) ++ [((v : Int), x.1, x.2.2)] := by
              rw [take_snoc_ hx, List.map_append, List.append_assoc]; rfl
            have hTl : (turnR l v ++ (M.take j).map (turnE v)).length ≤ 5000000 := by
              rw [List.length_append, List.length_map, List.length_take]; omega
            obtain ⟨T, hT⟩ : ∃ T, turnR l v ++ (M.take j).map (turnE v) = T := ⟨_, rfl⟩
            rw [hT] at hTs hTl hst
            have t1 := hst.st.tbox.cell 1; have tf := hst.st.tbox.frozen 1
            simp only [List.getElem?_toArray, List.getElem?_cons_zero, List.getElem?_cons_succ] at t1
            have hsz := hst.st.below.size
            have htl := hst.st.tbox.lt
            have hown := World.ownsRow.alloc hst.st.drew.row (.cells #[.int .i64 v, .int .i64 x.1, .int .i64 x.2.2] 35)
            have hrd := (Sl.new wr.drew [.int .i64 v, .int .i64 x.1, .int .i64 x.2.2] 35 3 1 rfl wr.heap.size rfl).rd
            have hq : ∀ w5 : World, (wr.drew.alloc (.cells #[.int .i64 v, .int .i64 x.1, .int .i64 x.2.2] 35)).grownBy w5 (Value.slice At T.length ct).ownBlock → w5.cell? ⟨w1.heap.size, 1, none⟩ = some (.slice At T.length ct) ∧ w5.frozen? ⟨w1.heap.size, 1, none⟩ = false := fun w5 hg5 => by
              have ha := hst.st.drew.tbox.alloc (.cells #[.int .i64 v, .int .i64 x.1, .int .i64 x.2.2] 35)
              have hk := ha.grown hg5 (ne_row hown ha)
              exact ⟨hk.cell 1, hk.frozen 1⟩
            have hjb : j < 8192 := by omega
            have hvb : v < 512 := by omega
            have HST := Lib.hid hst; have HQ := Lib.hid hq; have HOWN := Lib.hid hown; have HRD := Lib.hid hrd; have HTS := Lib.hid hTs
            clear hst hq hown hrd hTs hT hx hlT hlT2 hbl
            go_wp2_with fail
            go_region_law (first | (refine step_append_any _ rfl (.tmp 34) (.tmp 47) 23 rfl w.heap.size 35 i0 (.agg #[.int .i64 0, .int .i64 0, .int .i64 0]) 3 24 Tryd.underlying23 HI0.out HZ0.out hz1 hz2 rfl (by decide) (.slice At T.length ct) T.length (rcs edgC T) (by simp [Act.eval]) HOWN.out _ (some ⟨wr.heap.size, 0, none⟩) 1 1 [.int .i64 v, .int .i64 x.1, .int .i64 x.2.2] (by simp [Act.eval]) HRD.out (by simp [Value.oneCell']) (by unfold maxLen; omega) (by omega) (by simp; omega) ?_; intro v5 w5 h2 h3 h4; obtain ⟨A5, c5, rfl, _⟩ := own_parts h2; obtain ⟨q1, q2⟩ := HQ.out w5 h3; have HW := Lib.hid (RTi.put (e := ((v : Int), x.1, x.2.2)) (cs := [.int .i64 v, .int .i64 x.1, .int .i64 x.2.2]) HST.out h2 h3 h4); clear h2 h3 h4))
            all_goals
              go_wp2
              go_roundg gf2
              case measure => omega
              case rel => exact ⟨j + 1, A5, c5, by go_num, by omega, by rw [HTS.out]; exact HW.out⟩
  · have hne : (checkL (n, l) != 0) = true := by simp [hk]
    have hout := fun (w' : World) (R : Ending) => turn_err (w := w) (w' := w') (g := (n, l)) (R := R) rfl hk
    obtain ⟨K, hK⟩ : ∃ K, checkL (n, l) = K := ⟨_, rfl⟩
    rw [hK] at hc hne hout
    have HC := Lib.hid hc; have HB := Lib.hid hB; have HK1 := Lib.hid hk1; have HO := Lib.hid hout
    clear h hB hk0 hk1 hR hc hout hK hk
    go_enter Tryd.func24, Tryd.ntmps24
    go_wp2_with fail
    refine HC.out.mono ?_
    clear HC
    rintro e w1 ⟨rfl, hb1⟩
    have hB1 := HB.out.trans (hb1.mono HB.out.size)
    have hk1 := HK1.out.below hb1 HK1.out.lt
    have r0 := hk1.cell 0; have r1 := hk1.cell 1; have f0 := hk1.frozen 0; have f1 := hk1.frozen 1
    simp only [List.getElem?_toArray, List.getElem?_cons_zero, List.getElem?_cons_succ] at r0 r1
    have d0 := (hk1.set_ 0 (.int .i64 0)).set_ 1 (.slice none 0 0)
    have d1 := d0.cell 0; have d2 := d0.cell 1
    simp only [List.getElem?_toArray, List.setIfInBounds_toArray, List.set_cons_zero, List.set_cons_succ, List.getElem?_cons_zero, List.getElem?_cons_succ] at d1 d2
    have HFIN := Lib.hid (HO.out _ _ ((hB1.setCell (p := ⟨w.heap.size + 1, 0, none⟩) (Nat.le_succ _) (.int .i64 0)).setCell (p := ⟨w.heap.size + 1, 1, none⟩) (Nat.le_succ _) (.slice none 0 0)) rfl)
    have D1 := Lib.hid d1; have D2 := Lib.hid d2
    clear hb1 hB1 hk1 HK1 HB d0 d1 d2 HO
    go_wp2
    have d1 := D1.out; have d2 := D2.out
    refine bodyPost_ret (v := .tuple #[.agg #[.int .i64 0, .slice none 0 0], .int .i64 K]) (by simp [results, Tryd.results24, go_sem, d1, d2]) rfl ?_
    exact HFIN.out
end Go.Proofs.YtknigkjbnaoldaaDoor
