/- The program's Merge. -/
import Derived.Test.YtbmjmpojabbegaaInbL
namespace Go.Proofs.Ytbmjmpojabbegaa
open Go.RowKit Go.Maps

theorem mailL_none {k v : Int} {p : List (Int × Int)} (h : (mailL k v p).1 = false) : mailL k v p = (false, 0) := by
  have key : ∀ (p : List (Int × Int)) (m : Bool × Int), (m.1 = false → m = (false, 0)) → (p.foldl (mailS k v) m).1 = false → p.foldl (mailS k v) m = (false, 0) := by
    intro p
    induction p with
    | nil => intro m h0 h1; exact h0 h1
    | cons x p ih =>
      intro m h0 h1
      rw [List.foldl_cons] at h1 ⊢
      refine ih _ (fun h2 => ?_) h1
      unfold mailS at h2 ⊢
      split
      · rename_i hx; rw [if_pos hx] at h2; cases h2
      · rename_i hx; rw [if_neg hx] at h2; exact h0 h2
  exact key p (false, 0) (fun _ => rfl) h
theorem BoxIs.look {w : World} {b : Nat} {k : Int} {p : List (Int × Int)} (h : BoxIs w b k p) {v : Int} (hv : (Lit.int .i64 v).wf = true) :
    (Instr.lookup 45 (.map (some b)) (.int .i64 v) false).run Try.prog w = .ok (.agg #[.bool (mailL k v p).1, .int .i64 (mailL k v p).2]) w := by
  obtain ⟨D, hD, hA⟩ := h
  obtain ⟨hh, ha⟩ := hA v hv
  obtain ⟨x, ps, hrun, hx⟩ := hD.lookup lawK (t := 45) Try.underlying45 (zeroMail w) (mailE_mk false 0) (keyOf_int_mk (P := Try.prog) (k := 3) Try.underlying3 hv)
  obtain ⟨vb, vn, rfl, hz⟩ := mailE_inv hx
  simp only [Prod.mk.injEq] at hz
  have hz := hz.1
  rw [hrun]
  cases hm : (mailL k v p).1 with
  | true =>
    rw [ha hm] at hz
    injection hz with hz
    simp at hz
    rw [← hz.1, hz.2]
  | false =>
    rw [hm] at hh
    rw [Maps.atKey_of_not_has hh] at hz
    injection hz with hz
    simp at hz
    rw [mailL_none hm]
    rw [← hz.1, ← hz.2]
attribute [local go_sem ↓] Go.wp_at_zero Go.wp_at_succ
set_option maxRecDepth 100000 in
set_option maxHeartbeats 4000000 in
theorem merge_any (w : World) (k s o d e' : Int) (A A2 : Option Addr) (c c2 : Nat) (own : List Int) (L : List (List (Int × Int))) (h1 : Rs intC 1 w A own) (h : RsRs w A2 L) (hl1 : own.length ≤ 1000000000) (hl : L.length ≤ 1000000000) (hlf : L.flatten.length ≤ 1000000000)
    (hwo : ∀ v ∈ own, (Lit.int .i64 v).wf = true) (hwm : ∀ l ∈ L, ∀ x ∈ l, (Lit.int .i64 x.1).wf = true) :
    Calls Try.prog 14 #[.agg #[.int .u8 k, .int .i64 s, .int .i64 o, .int .i64 d, .int .i64 e'], .slice A own.length c, .slice A2 L.length c2] w fun e w' => ∃ g, e = .returned (.slice (some ⟨g, 0, none⟩) own.length own.length) ∧ w'.ownsRow w.heap.size 43 2 (.slice (some ⟨g, 0, none⟩) own.length own.length) own.length (rcs mailC (mergeL k own L)) ∧ Below w.heap.size w w' := by
  obtain ⟨i0, hi0, hz0, hz1, hz2, -⟩ := parts infoL
  have hmm := @run_makeMap Try.prog
  have hmk : ∀ w, (Instr.makeSlice 35 (.int .i64 (own.length : Int)) (.int .i64 (own.length : Int))).run Try.prog w = .ok (.slice (some ⟨w.heap.size, 0, none⟩) own.length own.length) (w.alloc (.cells (List.replicate own.length [Value.bool false, Value.int .i64 0]).flatten.toArray 43)) := fun w => by
    have h := run_make_rowN (P := Try.prog) 35 43 i0 (.agg #[.bool false, .int .i64 0]) Try.underlying35 hi0 hz0 .i64 .i64 own.length own.length (Nat.le_refl _) (by rw [hz2]; omega) (by omega) w
    rw [hz1] at h
    have e : (Value.agg #[.bool false, .int .i64 0]).cells = #[.bool false, .int .i64 0] := rfl
    rw [e, made_two] at h
    exact h
  have HR1 := Lib.hid h1; have HR := Lib.hid h; have HWO := Lib.hid hwo; have HWM := Lib.hid hwm; have HMK := Lib.hid hmk
  have hJ := (Blk.new w 23 #[.int .u8 k, .int .i64 s, .int .i64 o, .int .i64 d, .int .i64 e']).alloc (.map #[] 0)
  have hB := ((Below.refl w.heap.size w).alloc (Nat.le_refl _) (.cells #[.int .u8 k, .int .i64 s, .int .i64 o, .int .i64 d, .int .i64 e'] 23)).alloc (by simp) (.map #[] 0)
  have hX := BoxIs.made (w.alloc (.cells #[.int .u8 k, .int .i64 s, .int .i64 o, .int .i64 d, .int .i64 e'] 23)) k
  rw [show (w.alloc (.cells #[.int .u8 k, .int .i64 s, .int .i64 o, .int .i64 d, .int .i64 e'] 23)).heap.size = w.heap.size + 1 from by simp] at hX
  have HJ := Lib.hid hJ; have HB := Lib.hid hB; have HX := Lib.hid hX
  clear h h1 hwo hwm hJ hB hX hi0 hz0 hz1 hz2 hmk
  go_enter Try.func14, Try.ntmps14
  go_wp2
  clear hmm
  go_loopg [18] L.length (fun gf vi wr => ∃ i : Nat, vi = .int .i64 i ∧ i + gf = L.length ∧ Below w.heap.size w wr ∧ Blk wr w.heap.size 23 #[.int .u8 k, .int .i64 s, .int .i64 o, .int .i64 d, .int .i64 e'] ∧ BoxIs wr (w.heap.size + 1) k (L.take i).flatten)
  case atStart => exact ⟨0, rfl, by omega, HB.out, HJ.out, HX.out⟩
  case round =>
    clear HB HJ HX
    obtain ⟨i, rfl, hi, hB, hJ, hX⟩ := hrel
    cases gk with
    | succ gf =>
      have hiI : (i : Int) < (L.length : Int) := by omega
      obtain ⟨b, oo, l, A', c', rfl, hb, hx, hcc, hr, hcell0⟩ := HR.out.at_ (i := i) (by omega)
      have hcell := (hB.cell (p := ⟨b, oo + i, none⟩) hb).trans hcell0
      have htk : (L.take (i + 1)).flatten = (L.take i).flatten ++ l := by rw [take_snoc_ hx]; simp
      have hfl : (L.take (i + 1)).flatten.length ≤ L.flatten.length := by
        conv => rhs; rw [← List.take_append_drop (i + 1) L, List.flatten_append, List.length_append]
        omega
      rw [htk, List.length_append] at hfl
      have hwl := HWM.out l (List.mem_of_getElem? hx)
      obtain ⟨p, hp⟩ : ∃ p, (L.take i).flatten = p := ⟨_, rfl⟩
      rw [hp] at hX htk hfl
      obtain ⟨w1, rfl⟩ : ∃ w1 : World, w1 = wr := ⟨_, rfl⟩
      have H1 := Lib.hid (And.intro hB (And.intro hJ hX)); have HTK := Lib.hid htk; have HRL := Lib.hid hr; have HWL := Lib.hid hwl
      have hszB := hB.size
      clear hx htk hr hp hwl hB hJ hX hcc hcell0
      go_wp2
      go_loopg [24] l.length (fun gf vi wr => ∃ j : Nat, vi = .int .i64 j ∧ j + gf = l.length ∧ Below w.heap.size w wr ∧ Blk wr w.heap.size 23 #[.int .u8 k, .int .i64 s, .int .i64 o, .int .i64 d, .int .i64 e'] ∧ BoxIs wr (w.heap.size + 1) k (p ++ l.take j))
      case atStart => exact ⟨0, rfl, by omega, H1.out.1, H1.out.2.1, by simpa using H1.out.2.2⟩
      case round =>
        clear H1 hcell
        obtain ⟨j, rfl, hj, hB, hJ, hX⟩ := hrel
        cases gk with
        | zero =>
          obtain rfl : j = l.length := by omega
          rw [List.take_length] at hX
          have H2 := Lib.hid (And.intro hB (And.intro hJ hX))
          clear hB hJ hX
          go_wp2
          go_roundg gf
          case measure => omega
          case rel => exact ⟨i + 1, by go_num, by omega, H2.out.1, H2.out.2.1, by rw [HTK.out]; exact H2.out.2.2⟩
        | succ gf2 =>
          have hjI : (j : Int) < (l.length : Int) := by omega
          obtain ⟨b2, o2, x, rfl, _, hx, x1, x2⟩ := msg_at (HRL.out.below hB) (i := j) (by omega)
          have hwf := HWL.out x (List.mem_of_getElem? hx)
          have hlt0 : w.heap.size < wr.heap.size := hJ.lt
          have j0 := hJ.cell 0; have j1 := hJ.cell 1; have j2 := hJ.cell 2; have j3 := hJ.cell 3; have j4 := hJ.cell 4
          simp only [List.getElem?_toArray, List.getElem?_cons_zero, List.getElem?_cons_succ] at j0 j1 j2 j3 j4
          have hXA := hX.below ((Below.refl _ _).alloc (Nat.le_refl _) (.cells #[.int .i64 x.1, .int .i64 x.2] 29))
          have hc := put_any _ _ k s o d e' _ x hXA hwf (by rw [List.length_append, List.length_take]; omega)
          have htk2 : p ++ l.take (j + 1) = p ++ l.take j ++ [x] := by rw [take_snoc_ hx, List.append_assoc]
          have HC := Lib.hid hc; have HB := Lib.hid hB; have HJ := Lib.hid hJ; have HTK2 := Lib.hid htk2
          clear hx hwf hB hJ hX hXA hc htk2
          go_wp2_with fail
          refine HC.out.mono ?_
          rintro e w2 ⟨rfl, hX2, hg2⟩
          have hB2 : Below w.heap.size w w2 := (HB.out.alloc HB.out.size _).grown hg2 (by have := HB.out.size; simp; omega) (fun k hk => by injection hk with hk; omega)
          have hJ2 := (HJ.out.alloc (.cells #[.int .i64 x.1, .int .i64 x.2] 29)).grown hg2 (by intro e; injection e with e; omega)
          have H2 := Lib.hid (And.intro hB2 (And.intro hJ2 hX2))
          clear hB2 hJ2 hX2 hg2 j0 j1 j2 j3 j4 x1 x2
          go_wp2
          go_roundg gf2
          case measure => omega
          case rel => exact ⟨j + 1, by go_num, by omega, H2.out.1, H2.out.2.1, by rw [HTK2.out]; exact H2.out.2.2⟩
    | zero =>
      obtain rfl : i = L.length := by omega
      rw [List.take_length] at hX
      obtain ⟨w1, rfl⟩ : ∃ w1 : World, w1 = wr := ⟨_, rfl⟩
      have hs1 := hB.size
      have hmk := HMK.out w1
      have h0 : ((w1.alloc (.cells (List.replicate own.length [Value.bool false, Value.int .i64 0]).flatten.toArray 43)).ownsRow w.heap.size 43 2 (.slice (some ⟨w1.heap.size, 0, none⟩) own.length own.length) own.length (rcs mailC (List.replicate own.length (false, 0)))) := by
        have e1 : rcs mailC (List.replicate own.length (false, 0)) = (List.replicate own.length [Value.bool false, Value.int .i64 0]).flatten := by
          unfold rcs
          rw [List.flatMap_replicate]; rfl
        have hl : (List.replicate own.length [Value.bool false, Value.int .i64 0]).flatten.length = own.length * 2 := by simp
        rw [e1]
        exact ⟨hl, .inr ⟨_, _, _, rfl, hs1, heap_alloc_new w1 _, Nat.le_refl _, by unfold maxLen; omega, by simp, by rw [List.take_of_length_le (by simp)]⟩⟩
      have hBA := hB.alloc hs1 (.cells (List.replicate own.length [Value.bool false, Value.int .i64 0]).flatten.toArray 43)
      have hXA := hX.below ((Below.refl _ _).alloc (Nat.le_refl _) (.cells (List.replicate own.length [Value.bool false, Value.int .i64 0]).flatten.toArray 43))
      have hlt1 := hX.lt
      have H2 := Lib.hid (And.intro hBA (And.intro h0 hXA))
      clear hB hJ hX h0 hBA hXA
      go_wp2
      clear hmk
      go_loopg [39] own.length (fun gf vi wr => ∃ i : Nat, vi = .int .i64 i ∧ i + gf = own.length ∧ Below w.heap.size w wr ∧ wr.ownsRow w.heap.size 43 2 (.slice (some ⟨w1.heap.size, 0, none⟩) own.length own.length) own.length (rcs mailC (mergeL k (own.take i) L ++ List.replicate (own.length - i) (false, 0))) ∧ BoxIs wr (w.heap.size + 1) k L.flatten)
      case atStart => exact ⟨0, rfl, by omega, H2.out.1, by simpa [mergeL] using H2.out.2.1, H2.out.2.2⟩
      case round =>
        clear H2
        obtain ⟨i, rfl, hi, hB, hO, hX⟩ := hrel
        cases gk with
        | zero =>
          obtain rfl : i = own.length := by omega
          rw [List.take_length, Nat.sub_self, List.replicate_zero, List.append_nil] at hO
          have H3 := Lib.hid (And.intro hO hB)
          clear hO hB hX
          go_wp2
          go_ret
          exact ⟨_, rfl, H3.out.1, H3.out.2⟩
        | succ gf2 =>
          have hiI : (i : Int) < (own.length : Int) := by omega
          obtain ⟨b, oo, v, rfl, hb, hx, hc0⟩ := int_at HR1.out (i := i) (by omega)
          have hc1 := (hB.cell (p := ⟨b, oo + i, none⟩) hb).trans hc0
          have hrun := hX.look (HWO.out v (List.mem_of_getElem? hx))
          have hml : (mergeL k (own.take i) L).length = i := by rw [mergeL_len, List.length_take]; omega
          have hset := own_set2 (enc := mailC) mailC_len hO (i := i) (y := mailL k v L.flatten) (by rw [List.length_append, List.length_replicate, hml]; omega) (a := .bool (mailL k v L.flatten).1) (b := .int .i64 (mailL k v L.flatten).2) rfl
          have hlist : (mergeL k (own.take i) L ++ List.replicate (own.length - i) (false, 0)).set i (mailL k v L.flatten) = mergeL k (own.take (i + 1)) L ++ List.replicate (own.length - (i + 1)) (false, 0) := by
            rw [mergeL_snoc hx, List.set_append_right _ _ (by rw [hml]; exact Nat.le_refl _), hml, Nat.sub_self, show own.length - i = (own.length - (i + 1)) + 1 by omega, List.replicate_succ, List.set_cons_zero, List.append_assoc]; rfl
          rw [hlist] at hset
          obtain ⟨cur, hblk, hgB⟩ := own_blk hO
          have hcs : i * 2 + 1 < cur.size := by
            rcases hO.2 with ⟨hv, _⟩ | ⟨g', cap', cur', hv, _, hh, _, _, hcs, _⟩
            · cases hv
            · simp only [Value.slice.injEq, Option.some.injEq, Addr.mk.injEq, and_true, true_and] at hv
              obtain ⟨rfl, rfl⟩ := hv
              have e : (cur : Array Value) = cur' := by
                unfold Blk at hblk
                rw [hh] at hblk
                injection hblk with h1
                injection h1 with h1 _ _
                exact h1.symm
              rw [e, hcs]; omega
          have q0 := hblk.cell (i * 2); have q1 := hblk.cell (i * 2 + 1); have f0 := hblk.frozen (i * 2); have f1 := hblk.frozen (i * 2 + 1)
          rw [Array.getElem?_eq_getElem (by omega)] at q0 q1
          obtain ⟨z0, hz0⟩ : ∃ z, cur[i * 2] = z := ⟨_, rfl⟩
          obtain ⟨z1, hz1⟩ : ∃ z, cur[i * 2 + 1] = z := ⟨_, rfl⟩
          rw [hz0] at q0; rw [hz1] at q1
          have hbx : w1.heap.size ≠ w.heap.size + 1 := by omega
          have hX2 : BoxIs ((wr.setCell ⟨w1.heap.size, i * 2, none⟩ (.bool (mailL k v L.flatten).1)).setCell ⟨w1.heap.size, i * 2 + 1, none⟩ (.int .i64 (mailL k v L.flatten).2)) (w.heap.size + 1) k L.flatten := by
            obtain ⟨D, h1, h2⟩ := hX
            exact ⟨D, (h1.setCell (a := ⟨w1.heap.size, i * 2, none⟩) (fun e => hbx e.symm) _).setCell (a := ⟨w1.heap.size, i * 2 + 1, none⟩) (fun e => hbx e.symm) _, h2⟩
          have hB2 := (hB.setCell (p := ⟨w1.heap.size, i * 2, none⟩) hgB (.bool (mailL k v L.flatten).1)).setCell (p := ⟨w1.heap.size, i * 2 + 1, none⟩) hgB (.int .i64 (mailL k v L.flatten).2)
          have H3 := Lib.hid (And.intro hB2 (And.intro hset hX2))
          clear hB hO hX hx hc0 hml hset hlist hblk hX2 hB2 hz0 hz1 hbx
          go_wp2
          go_roundg gf2
          case measure => omega
          case rel => exact ⟨i + 1, by go_num, by omega, H3.out.1, H3.out.2.1, H3.out.2.2⟩
end Go.Proofs.Ytbmjmpojabbegaa
