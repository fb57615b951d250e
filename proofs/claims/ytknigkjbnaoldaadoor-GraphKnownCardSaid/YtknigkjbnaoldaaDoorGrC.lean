/- The edges from a vertex, and to it: both programs. -/
import Derived.Test.YtknigkjbnaoldaaDoorGrB
namespace Go.Proofs.YtknigkjbnaoldaaDoor
open Go.RowKit

theorem infoE : (Tryd.prog.info? 35).map (fun i => (i.zero, i.size, i.bytes)) = some (some (.agg #[.int .i64 0, .int .i64 0, .int .i64 0]), 3, 24) := by kernel_rfl
theorem parts {P : Program} {e : TypeId} {z : Value} {s b : Nat} (h : (P.info? e).map (fun i => (i.zero, i.size, i.bytes)) = some (some z, s, b)) : ∃ i, P.info? e = some i ∧ i.zero = some z ∧ i.size = s ∧ i.bytes = b ∧ True := by
  rw [Option.map_eq_some_iff] at h
  obtain ⟨i, hi, he⟩ := h
  simp only [Prod.mk.injEq] at he
  exact ⟨i, hi, he.1, he.2.1, he.2.2, trivial⟩
theorem edgC_one (l : List Edg) : ∀ u ∈ rcs edgC l, u.oneCell' = true := by
  intro u hu
  obtain ⟨m, _, hu⟩ := List.mem_flatMap.1 hu
  simp only [edgC, List.mem_cons, List.not_mem_nil, or_false] at hu
  rcases hu with rfl | rfl | rfl <;> rfl
theorem backL_snoc {l : List Edg} {i : Nat} {x : Edg} (h : l[i]? = some x) (v : Int) : backL (l.take (i + 1)) v = backL (l.take i) v ++ if x.2.1 = v then [x] else [] := by
  unfold backL
  rw [take_snoc_ h, List.filter_append]
  congr 1
  by_cases hv : x.2.1 = v <;> simp [hv]
theorem outL_snoc {l : List Edg} {i : Nat} {x : Edg} (h : l[i]? = some x) (v : Int) : outL (l.take (i + 1)) v = outL (l.take i) v ++ if x.1 = v then [x] else [] := by
  unfold outL
  rw [take_snoc_ h, List.filter_append]
  congr 1
  by_cases hv : x.1 = v <;> simp [hv]
theorem backL_len (l : List Edg) (v : Int) : (backL l v).length ≤ l.length := List.length_filter_le _ _
theorem outL_len (l : List Edg) (v : Int) : (outL l v).length ≤ l.length := List.length_filter_le _ _
set_option maxHeartbeats 1000000 in
theorem cloOut_any (x : Edg) (v : Int) (g : Nat) (w : World) (hg : g < w.heap.size) (hv : w.cell? ⟨g, 0, none⟩ = some (.int .i64 v)) : Calls Tryd.prog 38 #[.agg #[.int .i64 x.1, .int .i64 x.2.1, .int .i64 x.2.2], .pointer (some ⟨g, 0, none⟩)] w fun e w' => e = .returned (.bool (decide (x.1 = v))) ∧ Below w.heap.size w w' := by
  have hv2 : (w.alloc (.cells #[.int .i64 x.1, .int .i64 x.2.1, .int .i64 x.2.2] 35)).cell? ⟨g, 0, none⟩ = some (.int .i64 v) := (World.cell?_alloc_lt w _ ⟨g, 0, none⟩ hg).trans hv
  clear hv
  go_enter Tryd.func38, Tryd.ntmps38
  go_wp2
  go_ret
  refine ⟨ret_bool ?_, (Below.refl _ _).alloc (Nat.le_refl _) _⟩
  by_cases h : x.1 = v <;> simp [h]
set_option maxRecDepth 100000 in
set_option maxHeartbeats 4000000 in
theorem someOut_any (w : World) (n v : Int) (A : Option Addr) (c g : Nat) (l : List Edg) (h : Rs edgC 3 w A l) (hl : l.length ≤ 1000000000) (hg : g < w.heap.size) (hv : w.cell? ⟨g, 0, none⟩ = some (.int .i64 v)) :
    Calls Tryd.prog 37 #[.agg #[.int .i64 n, .slice A l.length c], .func (.func 38) #[] #[.pointer (some ⟨g, 0, none⟩)]] w fun e w' => ∃ r, e = .returned r ∧ w'.ownsRow w.heap.size 35 3 r (outL l v).length (rcs edgC (outL l v)) ∧ Below w.heap.size w w' := by
  obtain ⟨i0, hi0, hz0, hz1, hz2, -⟩ := parts infoE
  have hB := (Below.refl w.heap.size w).alloc (Nat.le_refl _) (.cells #[.int .i64 n, .slice A l.length c] 25)
  have HR := Lib.hid h; have HB := Lib.hid hB; have HI0 := Lib.hid hi0; have HZ0 := Lib.hid hz0; have HV := Lib.hid hv; have HG := Lib.hid hg
  clear h hB hi0 hz0 hv hg
  go_enter Tryd.func37, Tryd.ntmps37
  go_wp2
  go_loopg [5, 11] l.length (fun gf vo vi wr => ∃ i : Nat, vi = .int .i64 i ∧ i + gf = l.length ∧ Below w.heap.size w wr ∧ w.heap.size + 1 ≤ wr.heap.size ∧ wr.ownsRow w.heap.size 35 3 vo (outL (l.take i) v).length (rcs edgC (outL (l.take i) v)))
  case atStart => exact ⟨0, rfl, by omega, HB.out, by simp, World.ownsRow_nil _ _ _ _⟩
  case round =>
    clear HB
    obtain ⟨i, rfl, hi, hB, hsz, hO⟩ := hrel
    cases gk with
    | zero =>
      obtain rfl : i = l.length := by omega
      rw [List.take_length] at hO
      have HB := Lib.hid hB; have HO := Lib.hid hO
      clear hB hO
      go_wp2
      go_ret
      exact ⟨_, rfl, HO.out, HB.out⟩
    | succ gf =>
      have hiI : (i : Int) < (l.length : Int) := by omega
      obtain ⟨b, oo, x, rfl, hb, hx, x1, x2, x3⟩ := edg_at (HR.out.below hB) (i := i) (by omega)
      have hs := outL_snoc hx v
      have hle := Nat.le_trans (outL_len (l.take i) v) (by rw [List.length_take]; exact Nat.min_le_left _ _)
      obtain ⟨Ao, co, rfl, _⟩ := own_parts hO
      have hOA := hO.alloc (.cells #[.int .i64 x.1, .int .i64 x.2.1, .int .i64 x.2.2] 35)
      have hBA := hB.alloc hB.size (.cells #[.int .i64 x.1, .int .i64 x.2.1, .int .i64 x.2.2] 35)
      have hglt : g < wr.heap.size := Nat.lt_of_lt_of_le HG.out hB.size
      have hvA : (wr.alloc (.cells #[.int .i64 x.1, .int .i64 x.2.1, .int .i64 x.2.2] 35)).cell? ⟨g, 0, none⟩ = some (.int .i64 v) := (World.cell?_alloc_lt wr _ ⟨g, 0, none⟩ hglt).trans ((hB.cell (p := ⟨g, 0, none⟩) HG.out).trans HV.out)
      have hkA := Blk.new wr 35 #[.int .i64 x.1, .int .i64 x.2.1, .int .i64 x.2.2]
      have hcl := cloOut_any x v g _ (by simp; omega) hvA
      by_cases hxv : x.1 = v
      · rw [decide_eq_true hxv] at hcl
        rw [if_pos hxv] at hs
        have HS := Lib.hid hs; have HCL := Lib.hid hcl; have HOA := Lib.hid hOA; have HBA := Lib.hid hBA; have HKA := Lib.hid hkA
        clear hs hcl hOA hBA hkA hx hB hO hvA hxv hglt
        go_wp2_with fail
        refine HCL.out.mono ?_
        rintro e w2 ⟨rfl, hb2⟩
        have hO2 := own_below HOA.out hb2
        have hk2 := HKA.out.below hb2 (by simp)
        have k0 := hk2.cell 0; have k1 := hk2.cell 1; have k2 := hk2.cell 2
        simp only [List.getElem?_toArray, List.getElem?_cons_zero, List.getElem?_cons_succ] at k0 k1 k2
        have hB2 := HBA.out.trans (hb2.mono HBA.out.size)
        have hs2 := hB2.size
        have hs3 : wr.heap.size + 1 ≤ w2.heap.size := by have := hb2.size; simpa using this
        have HO2 := Lib.hid hO2; have HB2 := Lib.hid hB2
        clear hO2 hB2 hk2 hb2 HCL HOA HBA HKA
        go_wp2_with (at_builtin; refine wpList_app _ w2 rfl (.tmp 18) (.tmp 20) 23 rfl w.heap.size 35 i0 (.agg #[.int .i64 0, .int .i64 0, .int .i64 0]) 3 24 Tryd.underlying23 HI0.out HZ0.out hz1 hz2 rfl (by decide) (by decide) _ (outL (l.take i) v).length _ rfl HO2 [.int .i64 x.1, .int .i64 x.2.1, .int .i64 x.2.2] rfl rfl rfl _ rfl rfl (by omega) (by omega) ?_; intro v3 w3 h2 h3 h4; have HO3 := Lib.hid h2.out; have HB3 := Lib.hid h4.out; clear h2 h3 h4)
        go_roundg gf
        case measure => omega
        case rel =>
          refine ⟨i + 1, by go_num, by omega, HB2.out.trans HB3.out, Nat.le_trans (Nat.le_trans (by omega) hs3) HB3.out.size, ?_⟩
          rw [HS.out, rcs_append, List.length_append]
          exact HO3.out
      · rw [decide_eq_false hxv] at hcl
        rw [if_neg hxv, List.append_nil] at hs
        have HS := Lib.hid hs; have HCL := Lib.hid hcl; have HOA := Lib.hid hOA; have HBA := Lib.hid hBA
        clear hs hcl hOA hBA hkA hx hB hO hvA hxv hglt
        go_wp2_with fail
        refine HCL.out.mono ?_
        rintro e w2 ⟨rfl, hb2⟩
        have hO2 := own_below HOA.out hb2
        have hB2 := HBA.out.trans (hb2.mono HBA.out.size)
        have hs3 : wr.heap.size + 1 ≤ w2.heap.size := by have := hb2.size; simpa using this
        have HO2 := Lib.hid hO2; have HB2 := Lib.hid hB2
        clear hO2 hB2 hb2 HCL HOA HBA
        go_wp2
        go_roundg gf
        case measure => omega
        case rel => exact ⟨i + 1, by go_num, by omega, HB2.out, by omega, by rw [HS.out]; exact HO2.out⟩
set_option maxHeartbeats 2000000 in
theorem pOut_any (w : World) (n v : Int) (A : Option Addr) (c : Nat) (l : List Edg) (h : Rs edgC 3 w A l) (hl : l.length ≤ 1000000000) :
    Calls Tryd.prog 14 #[.agg #[.int .i64 n, .slice A l.length c], .int .i64 v] w fun e w' => ∃ r, e = .returned r ∧ w'.ownsRow w.heap.size 35 3 r (outL l v).length (rcs edgC (outL l v)) ∧ Below w.heap.size w w' := by
  have hB := ((Below.refl w.heap.size w).alloc (Nat.le_refl _) (.cells #[.int .i64 n, .slice A l.length c] 25)).alloc (by simp) (.cells #[.int .i64 v] 3)
  have hc := someOut_any ((w.alloc (.cells #[.int .i64 n, .slice A l.length c] 25)).alloc (.cells #[.int .i64 v] 3)) n v A c (w.heap.size + 1) l ((h.alloc _).alloc _) hl (by simp) (by
    have := (Blk.new (w.alloc (.cells #[.int .i64 n, .slice A l.length c] 25)) 3 #[.int .i64 v]).cell 0
    rw [show (w.alloc (.cells #[.int .i64 n, .slice A l.length c] 25)).heap.size = w.heap.size + 1 from by simp] at this
    exact this)
  have HC := Lib.hid hc; have HB := Lib.hid hB
  clear hc hB h
  go_enter Tryd.func14, Tryd.ntmps14
  go_wp2_with fail
  refine HC.out.mono ?_
  rintro e w2 ⟨r, rfl, ho, hb⟩
  have HO := Lib.hid ho; have HB2 := Lib.hid (HB.out.trans (hb.mono HB.out.size))
  clear ho hb
  go_wp2
  go_ret
  exact ⟨_, rfl, own_mono HO.out (by simp; omega), HB2.out⟩
set_option maxRecDepth 100000 in
set_option maxHeartbeats 4000000 in
theorem refOut_any (w : World) (n v : Int) (A : Option Addr) (c : Nat) (l : List Edg) (h : Rs edgC 3 w A l) (hl : l.length ≤ 1000000000) :
    Calls Tryd.prog 17 #[.agg #[.int .i64 n, .slice A l.length c], .int .i64 v] w fun e w' => ∃ r, e = .returned r ∧ w'.ownsRow w.heap.size 35 3 r (outL l v).length (rcs edgC (outL l v)) ∧ Below w.heap.size w w' := by
  obtain ⟨i0, hi0, hz0, hz1, hz2, -⟩ := parts infoE
  have hB := (Below.refl w.heap.size w).alloc (Nat.le_refl _) (.cells #[.int .i64 n, .slice A l.length c] 25)
  have hK := Blk.new w 25 #[.int .i64 n, .slice A l.length c]
  have HR := Lib.hid h; have HB := Lib.hid hB; have HI0 := Lib.hid hi0; have HZ0 := Lib.hid hz0; have HK := Lib.hid hK
  clear h hB hi0 hz0 hK
  go_enter Tryd.func17, Tryd.ntmps17
  go_wp2
  go_loopg [5, 6] l.length (fun gf vo vi wr => ∃ i : Nat, vi = .int .i64 i ∧ i + gf = l.length ∧ Below w.heap.size w wr ∧ Blk wr w.heap.size 25 #[.int .i64 n, .slice A l.length c] ∧ wr.ownsRow (w.heap.size + 1) 35 3 vo (outL (l.take i) v).length (rcs edgC (outL (l.take i) v)))
  case atStart => exact ⟨0, rfl, by omega, HB.out, HK.out, World.ownsRow_nil _ _ _ _⟩
  case round =>
    clear HB HK
    obtain ⟨i, rfl, hi, hB, hK, hO⟩ := hrel
    have kg := hK.cell 1
    simp only [List.getElem?_toArray, List.getElem?_cons_zero, List.getElem?_cons_succ] at kg
    cases gk with
    | zero =>
      obtain rfl : i = l.length := by omega
      rw [List.take_length] at hO
      have HB := Lib.hid hB; have HO := Lib.hid hO
      clear hB hO hK
      go_wp2
      go_ret
      exact ⟨_, rfl, own_mono HO.out (by omega), HB.out⟩
    | succ gf =>
      have hiI : (i : Int) < (l.length : Int) := by omega
      obtain ⟨b, oo, x, rfl, hb, hx, x1, x2, x3⟩ := edg_at (HR.out.below hB) (i := i) (by omega)
      have hs := outL_snoc hx v
      have hle := Nat.le_trans (outL_len (l.take i) v) (by rw [List.length_take]; exact Nat.min_le_left _ _)
      obtain ⟨Ao, co, rfl, _⟩ := own_parts hO
      have hlt0 := hK.lt
      by_cases hxv : x.1 = v
      · rw [if_pos hxv] at hs
        have ht : (x.1 == v) = true := by simp [hxv]
        have HS := Lib.hid hs; have HO := Lib.hid hO; have HB := Lib.hid hB; have HK := Lib.hid hK
        clear hs hx hB hO hxv hK
        go_wp2_with (at_builtin; refine wpList_app _ wr rfl (.tmp 22) (.tmp 28) 23 rfl (w.heap.size + 1) 35 i0 (.agg #[.int .i64 0, .int .i64 0, .int .i64 0]) 3 24 Tryd.underlying23 HI0.out HZ0.out hz1 hz2 rfl (by decide) (by decide) _ (outL (l.take i) v).length _ rfl HO [.int .i64 x.1, .int .i64 x.2.1, .int .i64 x.2.2] rfl rfl rfl _ rfl rfl (by omega) (by omega) ?_; intro v3 w3 h2 h3 h4; have HO3 := Lib.hid h2.out; have HB3 := Lib.hid h4.out; clear h2 h3 h4)
        go_roundg gf
        case measure => omega
        case rel =>
          refine ⟨i + 1, by go_num, by omega, HB.out.trans (HB3.out.mono (by omega)), HK.out.below HB3.out (by omega), ?_⟩
          rw [HS.out, rcs_append, List.length_append]
          exact HO3.out
      · rw [if_neg hxv, List.append_nil] at hs
        have ht : (x.1 == v) = false := by simp [hxv]
        have HS := Lib.hid hs; have HO := Lib.hid hO; have HB := Lib.hid hB; have HK := Lib.hid hK
        clear hs hx hB hO hxv hK
        go_wp2
        go_roundg gf
        case measure => omega
        case rel => exact ⟨i + 1, by go_num, by omega, HB.out, HK.out, by rw [HS.out]; exact HO.out⟩
set_option maxHeartbeats 1000000 in
theorem cloBack_any (x : Edg) (v : Int) (g : Nat) (w : World) (hg : g < w.heap.size) (hv : w.cell? ⟨g, 0, none⟩ = some (.int .i64 v)) : Calls Tryd.prog 39 #[.agg #[.int .i64 x.1, .int .i64 x.2.1, .int .i64 x.2.2], .pointer (some ⟨g, 0, none⟩)] w fun e w' => e = .returned (.bool (decide (x.2.1 = v))) ∧ Below w.heap.size w w' := by
  have hv2 : (w.alloc (.cells #[.int .i64 x.1, .int .i64 x.2.1, .int .i64 x.2.2] 35)).cell? ⟨g, 0, none⟩ = some (.int .i64 v) := (World.cell?_alloc_lt w _ ⟨g, 0, none⟩ hg).trans hv
  clear hv
  go_enter Tryd.func39, Tryd.ntmps39
  go_wp2
  go_ret
  refine ⟨ret_bool ?_, (Below.refl _ _).alloc (Nat.le_refl _) _⟩
  by_cases h : x.2.1 = v <;> simp [h]
set_option maxRecDepth 100000 in
set_option maxHeartbeats 4000000 in
theorem someBack_any (w : World) (n v : Int) (A : Option Addr) (c g : Nat) (l : List Edg) (h : Rs edgC 3 w A l) (hl : l.length ≤ 1000000000) (hg : g < w.heap.size) (hv : w.cell? ⟨g, 0, none⟩ = some (.int .i64 v)) :
    Calls Tryd.prog 37 #[.agg #[.int .i64 n, .slice A l.length c], .func (.func 39) #[] #[.pointer (some ⟨g, 0, none⟩)]] w fun e w' => ∃ r, e = .returned r ∧ w'.ownsRow w.heap.size 35 3 r (backL l v).length (rcs edgC (backL l v)) ∧ Below w.heap.size w w' := by
  obtain ⟨i0, hi0, hz0, hz1, hz2, -⟩ := parts infoE
  have hB := (Below.refl w.heap.size w).alloc (Nat.le_refl _) (.cells #[.int .i64 n, .slice A l.length c] 25)
  have HR := Lib.hid h; have HB := Lib.hid hB; have HI0 := Lib.hid hi0; have HZ0 := Lib.hid hz0; have HV := Lib.hid hv; have HG := Lib.hid hg
  clear h hB hi0 hz0 hv hg
  go_enter Tryd.func37, Tryd.ntmps37
  go_wp2
  go_loopg [5, 11] l.length (fun gf vo vi wr => ∃ i : Nat, vi = .int .i64 i ∧ i + gf = l.length ∧ Below w.heap.size w wr ∧ w.heap.size + 1 ≤ wr.heap.size ∧ wr.ownsRow w.heap.size 35 3 vo (backL (l.take i) v).length (rcs edgC (backL (l.take i) v)))
  case atStart => exact ⟨0, rfl, by omega, HB.out, by simp, World.ownsRow_nil _ _ _ _⟩
  case round =>
    clear HB
    obtain ⟨i, rfl, hi, hB, hsz, hO⟩ := hrel
    cases gk with
    | zero =>
      obtain rfl : i = l.length := by omega
      rw [List.take_length] at hO
      have HB := Lib.hid hB; have HO := Lib.hid hO
      clear hB hO
      go_wp2
      go_ret
      exact ⟨_, rfl, HO.out, HB.out⟩
    | succ gf =>
      have hiI : (i : Int) < (l.length : Int) := by omega
      obtain ⟨b, oo, x, rfl, hb, hx, x1, x2, x3⟩ := edg_at (HR.out.below hB) (i := i) (by omega)
      have hs := backL_snoc hx v
      have hle := Nat.le_trans (backL_len (l.take i) v) (by rw [List.length_take]; exact Nat.min_le_left _ _)
      obtain ⟨Ao, co, rfl, _⟩ := own_parts hO
      have hOA := hO.alloc (.cells #[.int .i64 x.1, .int .i64 x.2.1, .int .i64 x.2.2] 35)
      have hBA := hB.alloc hB.size (.cells #[.int .i64 x.1, .int .i64 x.2.1, .int .i64 x.2.2] 35)
      have hglt : g < wr.heap.size := Nat.lt_of_lt_of_le HG.out hB.size
      have hvA : (wr.alloc (.cells #[.int .i64 x.1, .int .i64 x.2.1, .int .i64 x.2.2] 35)).cell? ⟨g, 0, none⟩ = some (.int .i64 v) := (World.cell?_alloc_lt wr _ ⟨g, 0, none⟩ hglt).trans ((hB.cell (p := ⟨g, 0, none⟩) HG.out).trans HV.out)
      have hkA := Blk.new wr 35 #[.int .i64 x.1, .int .i64 x.2.1, .int .i64 x.2.2]
      have hcl := cloBack_any x v g _ (by simp; omega) hvA
      by_cases hxv : x.2.1 = v
      · rw [decide_eq_true hxv] at hcl
        rw [if_pos hxv] at hs
        have HS := Lib.hid hs; have HCL := Lib.hid hcl; have HOA := Lib.hid hOA; have HBA := Lib.hid hBA; have HKA := Lib.hid hkA
        clear hs hcl hOA hBA hkA hx hB hO hvA hxv hglt
        go_wp2_with fail
        refine HCL.out.mono ?_
        rintro e w2 ⟨rfl, hb2⟩
        have hO2 := own_below HOA.out hb2
        have hk2 := HKA.out.below hb2 (by simp)
        have k0 := hk2.cell 0; have k1 := hk2.cell 1; have k2 := hk2.cell 2
        simp only [List.getElem?_toArray, List.getElem?_cons_zero, List.getElem?_cons_succ] at k0 k1 k2
        have hB2 := HBA.out.trans (hb2.mono HBA.out.size)
        have hs2 := hB2.size
        have hs3 : wr.heap.size + 1 ≤ w2.heap.size := by have := hb2.size; simpa using this
        have HO2 := Lib.hid hO2; have HB2 := Lib.hid hB2
        clear hO2 hB2 hk2 hb2 HCL HOA HBA HKA
        go_wp2_with (at_builtin; refine wpList_app _ w2 rfl (.tmp 18) (.tmp 20) 23 rfl w.heap.size 35 i0 (.agg #[.int .i64 0, .int .i64 0, .int .i64 0]) 3 24 Tryd.underlying23 HI0.out HZ0.out hz1 hz2 rfl (by decide) (by decide) _ (backL (l.take i) v).length _ rfl HO2 [.int .i64 x.1, .int .i64 x.2.1, .int .i64 x.2.2] rfl rfl rfl _ rfl rfl (by omega) (by omega) ?_; intro v3 w3 h2 h3 h4; have HO3 := Lib.hid h2.out; have HB3 := Lib.hid h4.out; clear h2 h3 h4)
        go_roundg gf
        case measure => omega
        case rel =>
          refine ⟨i + 1, by go_num, by omega, HB2.out.trans HB3.out, Nat.le_trans (Nat.le_trans (by omega) hs3) HB3.out.size, ?_⟩
          rw [HS.out, rcs_append, List.length_append]
          exact HO3.out
      · rw [decide_eq_false hxv] at hcl
        rw [if_neg hxv, List.append_nil] at hs
        have HS := Lib.hid hs; have HCL := Lib.hid hcl; have HOA := Lib.hid hOA; have HBA := Lib.hid hBA
        clear hs hcl hOA hBA hkA hx hB hO hvA hxv hglt
        go_wp2_with fail
        refine HCL.out.mono ?_
        rintro e w2 ⟨rfl, hb2⟩
        have hO2 := own_below HOA.out hb2
        have hB2 := HBA.out.trans (hb2.mono HBA.out.size)
        have hs3 : wr.heap.size + 1 ≤ w2.heap.size := by have := hb2.size; simpa using this
        have HO2 := Lib.hid hO2; have HB2 := Lib.hid hB2
        clear hO2 hB2 hb2 HCL HOA HBA
        go_wp2
        go_roundg gf
        case measure => omega
        case rel => exact ⟨i + 1, by go_num, by omega, HB2.out, by omega, by rw [HS.out]; exact HO2.out⟩
set_option maxHeartbeats 2000000 in
theorem pBack_any (w : World) (n v : Int) (A : Option Addr) (c : Nat) (l : List Edg) (h : Rs edgC 3 w A l) (hl : l.length ≤ 1000000000) :
    Calls Tryd.prog 15 #[.agg #[.int .i64 n, .slice A l.length c], .int .i64 v] w fun e w' => ∃ r, e = .returned r ∧ w'.ownsRow w.heap.size 35 3 r (backL l v).length (rcs edgC (backL l v)) ∧ Below w.heap.size w w' := by
  have hB := ((Below.refl w.heap.size w).alloc (Nat.le_refl _) (.cells #[.int .i64 n, .slice A l.length c] 25)).alloc (by simp) (.cells #[.int .i64 v] 3)
  have hc := someBack_any ((w.alloc (.cells #[.int .i64 n, .slice A l.length c] 25)).alloc (.cells #[.int .i64 v] 3)) n v A c (w.heap.size + 1) l ((h.alloc _).alloc _) hl (by simp) (by
    have := (Blk.new (w.alloc (.cells #[.int .i64 n, .slice A l.length c] 25)) 3 #[.int .i64 v]).cell 0
    rw [show (w.alloc (.cells #[.int .i64 n, .slice A l.length c] 25)).heap.size = w.heap.size + 1 from by simp] at this
    exact this)
  have HC := Lib.hid hc; have HB := Lib.hid hB
  clear hc hB h
  go_enter Tryd.func15, Tryd.ntmps15
  go_wp2_with fail
  refine HC.out.mono ?_
  rintro e w2 ⟨r, rfl, ho, hb⟩
  have HO := Lib.hid ho; have HB2 := Lib.hid (HB.out.trans (hb.mono HB.out.size))
  clear ho hb
  go_wp2
  go_ret
  exact ⟨_, rfl, own_mono HO.out (by simp; omega), HB2.out⟩
set_option maxRecDepth 100000 in
set_option maxHeartbeats 4000000 in
theorem refBack_any (w : World) (n v : Int) (A : Option Addr) (c : Nat) (l : List Edg) (h : Rs edgC 3 w A l) (hl : l.length ≤ 1000000000) :
    Calls Tryd.prog 18 #[.agg #[.int .i64 n, .slice A l.length c], .int .i64 v] w fun e w' => ∃ r, e = .returned r ∧ w'.ownsRow w.heap.size 35 3 r (backL l v).length (rcs edgC (backL l v)) ∧ Below w.heap.size w w' := by
  obtain ⟨i0, hi0, hz0, hz1, hz2, -⟩ := parts infoE
  have hB := (Below.refl w.heap.size w).alloc (Nat.le_refl _) (.cells #[.int .i64 n, .slice A l.length c] 25)
  have hK := Blk.new w 25 #[.int .i64 n, .slice A l.length c]
  have HR := Lib.hid h; have HB := Lib.hid hB; have HI0 := Lib.hid hi0; have HZ0 := Lib.hid hz0; have HK := Lib.hid hK
  clear h hB hi0 hz0 hK
  go_enter Tryd.func18, Tryd.ntmps18
  go_wp2
  go_loopg [5, 6] l.length (fun gf vo vi wr => ∃ i : Nat, vi = .int .i64 i ∧ i + gf = l.length ∧ Below w.heap.size w wr ∧ Blk wr w.heap.size 25 #[.int .i64 n, .slice A l.length c] ∧ wr.ownsRow (w.heap.size + 1) 35 3 vo (backL (l.take i) v).length (rcs edgC (backL (l.take i) v)))
  case atStart => exact ⟨0, rfl, by omega, HB.out, HK.out, World.ownsRow_nil _ _ _ _⟩
  case round =>
    clear HB HK
    obtain ⟨i, rfl, hi, hB, hK, hO⟩ := hrel
    have kg := hK.cell 1
    simp only [List.getElem?_toArray, List.getElem?_cons_zero, List.getElem?_cons_succ] at kg
    cases gk with
    | zero =>
      obtain rfl : i = l.length := by omega
      rw [List.take_length] at hO
      have HB := Lib.hid hB; have HO := Lib.hid hO
      clear hB hO hK
      go_wp2
      go_ret
      exact ⟨_, rfl, own_mono HO.out (by omega), HB.out⟩
    | succ gf =>
      have hiI : (i : Int) < (l.length : Int) := by omega
      obtain ⟨b, oo, x, rfl, hb, hx, x1, x2, x3⟩ := edg_at (HR.out.below hB) (i := i) (by omega)
      have hs := backL_snoc hx v
      have hle := Nat.le_trans (backL_len (l.take i) v) (by rw [List.length_take]; exact Nat.min_le_left _ _)
      obtain ⟨Ao, co, rfl, _⟩ := own_parts hO
      have hlt0 := hK.lt
      by_cases hxv : x.2.1 = v
      · rw [if_pos hxv] at hs
        have ht : (x.2.1 == v) = true := by simp [hxv]
        have HS := Lib.hid hs; have HO := Lib.hid hO; have HB := Lib.hid hB; have HK := Lib.hid hK
        clear hs hx hB hO hxv hK
        go_wp2_with (at_builtin; refine wpList_app _ wr rfl (.tmp 22) (.tmp 28) 23 rfl (w.heap.size + 1) 35 i0 (.agg #[.int .i64 0, .int .i64 0, .int .i64 0]) 3 24 Tryd.underlying23 HI0.out HZ0.out hz1 hz2 rfl (by decide) (by decide) _ (backL (l.take i) v).length _ rfl HO [.int .i64 x.1, .int .i64 x.2.1, .int .i64 x.2.2] rfl rfl rfl _ rfl rfl (by omega) (by omega) ?_; intro v3 w3 h2 h3 h4; have HO3 := Lib.hid h2.out; have HB3 := Lib.hid h4.out; clear h2 h3 h4)
        go_roundg gf
        case measure => omega
        case rel =>
          refine ⟨i + 1, by go_num, by omega, HB.out.trans (HB3.out.mono (by omega)), HK.out.below HB3.out (by omega), ?_⟩
          rw [HS.out, rcs_append, List.length_append]
          exact HO3.out
      · rw [if_neg hxv, List.append_nil] at hs
        have ht : (x.2.1 == v) = false := by simp [hxv]
        have HS := Lib.hid hs; have HO := Lib.hid hO; have HB := Lib.hid hB; have HK := Lib.hid hK
        clear hs hx hB hO hxv hK
        go_wp2
        go_roundg gf
        case measure => omega
        case rel => exact ⟨i + 1, by go_num, by omega, HB.out, HK.out, by rw [HS.out]; exact HO.out⟩
end Go.Proofs.YtknigkjbnaoldaaDoor
