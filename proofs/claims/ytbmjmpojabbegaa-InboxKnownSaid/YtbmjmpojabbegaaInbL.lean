/- A box of mail: a map by vertices; put. -/
import Derived.Test.YtbmjmpojabbegaaInbK
namespace Go.Proofs.Ytbmjmpojabbegaa
open Go.RowKit Go.Maps

theorem lawK : Keyed Try.prog 3 := int_keyed Try.underlying3
/-- how an element reads -/
def mailE : Value → Option (DataW Unit × List MemPlace)
  | .agg cs => match cs.toList with
    | [.bool b, .int .i64 n] => some (.agg [.lit (.bool b), .lit (.int .i64 n)], [])
    | _ => none
  | _ => none
theorem mailE_mk (b : Bool) (n : Int) : mailE (.agg #[.bool b, .int .i64 n]) = some (.agg [.lit (.bool b), .lit (.int .i64 n)], []) := rfl
theorem mailE_inv {v : Value} {z : DataW Unit × List MemPlace} (h : mailE v = some z) : ∃ b n, v = .agg #[.bool b, .int .i64 n] ∧ z = (.agg [.lit (.bool b), .lit (.int .i64 n)], []) := by
  unfold mailE at h
  split at h
  · rename_i cs
    split at h
    · rename_i b n hcs
      injection h with h
      refine ⟨b, n, ?_, h.symm⟩
      congr 1
      cases cs; simp_all
    · cases h
  · cases h
theorem zeroMail (w : World) : (zeroValue 43).run Try.prog w = .ok (.agg #[.bool false, .int .i64 0]) w := by kernel_rfl
/-- a box: of each vertex what came of some messages -/
def BoxIs (w : World) (b : Nat) (k : Int) (p : List (Int × Int)) : Prop :=
  ∃ D, w.ownsMap Try.prog 3 mailE b p.length D ∧ ∀ v : Int, (Lit.int .i64 v).wf = true → Maps.has D (.int .i64 v) = (mailL k v p).1 ∧ ((mailL k v p).1 = true → ∀ z, D.atKey (.int .i64 v) z = .agg [.lit (.bool true), .lit (.int .i64 (mailL k v p).2)])
theorem BoxIs.made (w : World) (k : Int) : BoxIs (w.alloc (.map #[] 0)) w.heap.size k [] :=
  ⟨.map [], World.ownsMap_made _ _ _ _, fun v _ => ⟨rfl, fun h => by cases h⟩⟩
theorem BoxIs.kept {w w' : World} {b : Nat} {k : Int} {p : List (Int × Int)} {row : Option Nat} (h : BoxIs w b k p) (hg : w.grownBy w' row) (hr : some b ≠ row) : BoxIs w' b k p := by
  obtain ⟨D, h1, h2⟩ := h
  exact ⟨D, h1.kept hg hr, h2⟩
theorem BoxIs.below {w w' : World} {b : Nat} {k : Int} {p : List (Int × Int)} (h : BoxIs w b k p) (hb : Below w.heap.size w w') : BoxIs w' b k p := h.kept (only_of_below hb none) (by simp)
theorem BoxIs.lt {w : World} {b : Nat} {k : Int} {p : List (Int × Int)} (h : BoxIs w b k p) : b < w.heap.size := by
  obtain ⟨D, h1, _⟩ := h
  exact h1.lt
theorem mailL_one (k v : Int) (p : List (Int × Int)) (x : Int × Int) : mailL k v (p ++ [x]) = mailS k v (mailL k v p) x := by
  unfold mailL; rw [List.foldl_append]; rfl
/-- a message more -/
theorem BoxIs.put {w w' : World} {b : Nat} {k : Int} {p : List (Int × Int)} {x : Int × Int} {D : DataW Unit} {n : Int}
    (h2 : ∀ v : Int, (Lit.int .i64 v).wf = true → Maps.has D (.int .i64 v) = (mailL k v p).1 ∧ ((mailL k v p).1 = true → ∀ z, D.atKey (.int .i64 v) z = .agg [.lit (.bool true), .lit (.int .i64 (mailL k v p).2)]))
    (ho : w'.ownsMap Try.prog 3 mailE b (p.length + 1) (D.put (.int .i64 x.1) (.agg [.lit (.bool true), .lit (.int .i64 n)]))) (hD : w.ownsMap Try.prog 3 mailE b p.length D) (hn : n = (mailL k x.1 (p ++ [x])).2) : BoxIs w' b k (p ++ [x]) := by
  refine ⟨_, by rw [List.length_append]; exact ho, fun v hv => ?_⟩
  rw [mailL_one]
  by_cases hx : x.1 = v
  · subst hx
    have hm : (mailS k x.1 (mailL k x.1 p) x).1 = true := by unfold mailS; rw [if_pos rfl]
    rw [hm]
    refine ⟨Maps.has_put_same (k := .int .i64 x.1) hD.isMap trivial _, fun _ z => ?_⟩
    rw [Maps.atKey_put_same (k := .int .i64 x.1) hD.isMap trivial, hn, mailL_one]
  · have hne : (Lit.int .i64 v) ≠ (Lit.int .i64 x.1) := fun e => by injection e with _ e; exact hx e.symm
    have hm : mailS k v (mailL k v p) x = mailL k v p := by unfold mailS; rw [if_neg hx]
    rw [hm]
    obtain ⟨h3, h4⟩ := h2 v hv
    refine ⟨by rw [Maps.has_put_other hne]; exact h3, fun ht z => ?_⟩
    rw [Maps.atKey_put_other hne]
    exact h4 ht z
theorem grown_below {a b c : World} {row : Option Nat} (h : a.grownBy b row) (hb : Below b.heap.size b c) : a.grownBy c row :=
  h.andThen (only_of_below hb none) (by intro j hj; cases hj)
set_option maxRecDepth 100000 in
set_option maxHeartbeats 4000000 in
theorem put_any (w : World) (b : Nat) (k s o d e' : Int) (p : List (Int × Int)) (x : Int × Int) (h : BoxIs w b k p) (hwf : (Lit.int .i64 x.1).wf = true) (hp : p.length ≤ 1000000000) :
    Calls Try.prog 19 #[.map (some b), .agg #[.int .u8 k, .int .i64 s, .int .i64 o, .int .i64 d, .int .i64 e'], .agg #[.int .i64 x.1, .int .i64 x.2]] w fun e w' => e = .returned (.tuple #[]) ∧ BoxIs w' b k (p ++ [x]) ∧ w.grownBy w' (some b) := by
  have hlt := h.lt
  obtain ⟨D, hD, hA⟩ := h
  obtain ⟨hh, ha⟩ := hA x.1 hwf
  have hkey := keyOf_int_mk (P := Try.prog) (k := 3) Try.underlying3 hwf
  obtain ⟨w0, hw0⟩ : ∃ w0, w0 = (w.alloc (.cells #[.int .u8 k, .int .i64 s, .int .i64 o, .int .i64 d, .int .i64 e'] 23)).alloc (.cells #[.int .i64 x.1, .int .i64 x.2] 29) := ⟨_, rfl⟩
  have hB0 : Below w.heap.size w w0 := by rw [hw0]; exact ((Below.refl _ _).alloc (Nat.le_refl _) _).alloc (by simp) _
  have hz0 : w0.heap.size = w.heap.size + 2 := by rw [hw0]; simp
  have hkJ : Blk w0 w.heap.size 23 #[.int .u8 k, .int .i64 s, .int .i64 o, .int .i64 d, .int .i64 e'] := by rw [hw0]; exact (Blk.new w _ _).alloc _
  have hkM : Blk w0 (w.heap.size + 1) 29 #[.int .i64 x.1, .int .i64 x.2] := by
    have := Blk.new (w.alloc (.cells #[.int .u8 k, .int .i64 s, .int .i64 o, .int .i64 d, .int .i64 e'] 23)) 29 #[.int .i64 x.1, .int .i64 x.2]
    rw [show (w.alloc (.cells #[.int .u8 k, .int .i64 s, .int .i64 o, .int .i64 d, .int .i64 e'] 23)).heap.size = w.heap.size + 1 from by simp] at this
    rw [hw0]; exact this
  have hD0 := hD.kept (only_of_below hB0 none) (by simp)
  obtain ⟨v, ps, hrun, hv⟩ := hD0.look_ok lawK (t := 45) Try.underlying45 (zeroMail w0) (mailE_mk false 0) hkey
  obtain ⟨vb, vn, rfl, hz⟩ := mailE_inv hv
  simp only [Prod.mk.injEq] at hz
  rw [hh, hw0] at hrun
  have m0 := hkM.cell 0; have m1 := hkM.cell 1
  simp only [List.getElem?_toArray, List.getElem?_cons_zero, List.getElem?_cons_succ] at m0 m1
  have HD := Lib.hid hD; have HD0 := Lib.hid hD0; have HA := Lib.hid hA; have HW := Lib.hid hw0; have HB0 := Lib.hid hB0; have HZ := Lib.hid hz.1; have HHA := Lib.hid ha; have HKEY := Lib.hid hkey; have HKJ := Lib.hid hkJ; have HKM := Lib.hid hkM
  obtain ⟨⟨mb, mv⟩, hm⟩ : ∃ m, mailL k x.1 p = m := ⟨_, rfl⟩
  rw [hm] at hrun
  have HM := Lib.hid hm
  clear hD hD0 hA hw0 hB0 hz ha hkey hkJ hkM hv hm hh
  have hz0' : w.heap.size + 2 ≤ w0.heap.size := by omega
  clear hz0
  cases mb with
  | true =>
    go_enter Try.func19, Try.ntmps19
    go_wp2_with fail
    rw [← HW.out]
    have hvn : vn = mv := by
      have h1 := HHA.out (by rw [HM.out])
      rw [HM.out] at h1
      have h2 := HZ.out
      rw [h1] at h2
      injection h2 with h2
      simp at h2
      exact h2.2.symm
    subst hvn
    refine (comb_any _ _ _ _ _ _ _ _).mono ?_
    rintro e w2 ⟨rfl, hb2⟩
    have hkM2 := (HKM.out.alloc (.cells #[.bool vb, .int .i64 vn] 43)).below hb2 (HKM.out.alloc (.cells #[.bool vb, .int .i64 vn] 43)).lt
    have q0 := hkM2.cell 0; have q1 := hkM2.cell 1; have g1 := hkM2.frozen 1
    simp only [List.getElem?_toArray, List.getElem?_cons_zero, List.getElem?_cons_succ] at q0 q1
    have hD2 := (((HD0.out.alloc (.cells #[.bool vb, .int .i64 vn] 43)).kept (only_of_below hb2 none) (by simp)).setCell (a := ⟨w.heap.size + 1, 1, none⟩) (by show b ≠ w.heap.size + 1; omega) (.int .i64 (combD k vn x.2)))
    have hg2 : w.grownBy (w2.setCell ⟨w.heap.size + 1, 1, none⟩ (.int .i64 (combD k vn x.2))) (some b) := by
      have h1 : Below w.heap.size w w2 := (HB0.out.alloc HB0.out.size _).trans (hb2.mono (by simp; omega))
      have h2 := h1.setCell (p := ⟨w.heap.size + 1, 1, none⟩) (by show w.heap.size ≤ w.heap.size + 1; omega) (.int .i64 (combD k vn x.2))
      exact only_of_below h2 _
    have HD2 := Lib.hid hD2; have HG2 := Lib.hid hg2
    clear hkM2 hD2 hg2 hb2 m0 m1 hrun
    go_wp2_with (at_mapUpdate; refine wpList_mapUpdate_own _ rfl _ _ _ 45 rfl 3 43 lawK Try.underlying45 mailE b p.length D rfl HD2.out (by unfold maxLen; omega) _ _ _ rfl rfl HKEY.out _ [] (mailE_mk true (combD k vn x.2)) ?_; intro w5 h5 h6; have HO5 := Lib.hid h5; have HG5 := Lib.hid h6; clear h5 h6)
    go_end0
    exact ⟨rfl, BoxIs.put HA.out HO5.out HD.out (by rw [mailL_one, HM.out]; unfold mailS; rw [if_pos rfl]; rfl), HG2.out.andThen HG5.out (fun j hj => .inr hj)⟩
  | false =>
    have hD2 := (HD0.out.alloc (.cells #[.bool vb, .int .i64 vn] 43))
    rw [HW.out] at hD2
    have hg2 : w.grownBy (((w.alloc (.cells #[.int .u8 k, .int .i64 s, .int .i64 o, .int .i64 d, .int .i64 e'] 23)).alloc (.cells #[.int .i64 x.1, .int .i64 x.2] 29)).alloc (.cells #[.bool vb, .int .i64 vn] 43)) (some b) := only_of_below (HW.out ▸ (HB0.out.alloc HB0.out.size _)) _
    have HD2 := Lib.hid hD2; have HG2 := Lib.hid hg2
    clear hD2 hg2
    have lt1 : w.heap.size + 1 < w0.heap.size := by omega
    go_enter Try.func19, Try.ntmps19
    go_wp2_with (at_mapUpdate; refine wpList_mapUpdate_own _ rfl _ _ _ 45 rfl 3 43 lawK Try.underlying45 mailE b p.length D rfl HD2.out (by unfold maxLen; omega) _ _ _ rfl rfl HKEY.out _ [] (mailE_mk true x.2) ?_; intro w5 h5 h6; have HO5 := Lib.hid h5; have HG5 := Lib.hid h6; clear h5 h6)
    go_end0
    exact ⟨rfl, BoxIs.put HA.out HO5.out HD.out (by rw [mailL_one, HM.out]; unfold mailS; rw [if_pos rfl]; rfl), HG2.out.andThen HG5.out (fun j hj => .inr hj)⟩
end Go.Proofs.Ytbmjmpojabbegaa
