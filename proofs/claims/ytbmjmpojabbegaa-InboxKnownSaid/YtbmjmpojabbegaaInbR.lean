/- The program's Fold. -/
import Derived.Test.YtbmjmpojabbegaaInbQ
import Derived.Shelf.SlSortCmp.NoneTotal
namespace Go.Proofs.Ytbmjmpojabbegaa
open Go.RowKit Go.Maps Go.Sort

theorem sortNone_any (w : World) (A : Option Addr) (cap : Nat) (fv : Value) : Calls Try.prog 20 #[.slice A 0 cap, fv] w fun e w' => e = .returned (.tuple #[]) ∧ w' = w :=
  AnyF.slices_SortFunc_none Try.sortMsg A cap fv w
theorem ranges_cnt {w : World} {P : Program} {k : TypeId} {R : Value → Option (DataW Unit × List MemPlace)} {b r n : Nat} {D : DataW Unit} {left : Lit → Bool} {cnt : Nat} (h : w.ranges P k R b r n D left cnt) : cnt ≤ n := by
  obtain ⟨es, clock, since, seen, c0, _, _, hs, _, _, _, hc, _⟩ := h
  have : (leftOf es seen).size ≤ es.size := by unfold leftOf; exact Array.size_filter_le
  omega
theorem row_ne_map {w : World} {P : Program} {k : TypeId} {R : Value → Option (DataW Unit × List MemPlace)} {b n : Nat} {D : DataW Unit} {base : Nat} {e : TypeId} {size : Nat} {v : Value} {m : Nat} {xs : List Value}
    (h : w.ownsRow base e size v m xs) (hr : w.ownsMap P k R b n D) : some b ≠ v.ownBlock := by
  obtain ⟨es, clock, hb0, _⟩ := hr
  rcases h.2 with ⟨rfl, _⟩ | ⟨g, cap, cur, rfl, _, hb, _⟩
  · simp [Value.ownBlock]
  · intro e1
    have : b = g := by simpa [Value.ownBlock] using e1
    subst this
    rw [hb0] at hb
    cases hb
theorem own_iter {w w' : World} {P : Program} {k : TypeId} {R : Value → Option (DataW Unit × List MemPlace)} {b r n : Nat} {D : DataW Unit} {left : Lit → Bool} {cnt base : Nat} {e : TypeId} {size : Nat} {v : Value} {m : Nat} {xs : List Value}
    (h : w.ownsRow base e size v m xs) (hr : w.ranges P k R b r n D left cnt) (hg : w.grownBy w' (some r)) : w'.ownsRow base e size v m xs :=
  own_keep h fun g _ _ hh => hg.block g (Array.getElem?_eq_some_iff.1 hh).1 (fun e => by
    injection e with e
    subst e
    obtain ⟨_, _, _, _, _, _, _, _, _, hit, _⟩ := hr
    rw [hit] at hh
    cases hh)
theorem has_of_at {D : DataW Unit} {kl : Lit} {y : DataW Unit} (h : ∀ zd, D.atKey kl zd = y) : Maps.has D kl = true := by
  cases hh : Maps.has D kl with
  | true => rfl
  | false =>
    have h1 := h .nil
    have h2 := h (.agg [])
    rw [Maps.atKey_of_not_has hh] at h1 h2
    rw [← h1] at h2
    cases h2
attribute [local go_sem ↓] Go.wp_at_zero Go.wp_at_succ
set_option maxRecDepth 100000 in
set_option maxHeartbeats 4000000 in
theorem fold_any (w : World) (k s o d e' : Int) (A : Option Addr) (c : Nat) (l : List (Int × Int)) (h : Rs msgC 2 w A l) (hl : l.length ≤ 1000000000) (hwm : ∀ x ∈ l, (Lit.int .i64 x.1).wf = true) :
    Calls Try.prog 9 #[.agg #[.int .u8 k, .int .i64 s, .int .i64 o, .int .i64 d, .int .i64 e'], .slice A l.length c] w fun e w' => ∃ v, e = .returned v ∧ w'.ownsRow w.heap.size 29 2 v (foldL k l).length (rcs msgC (foldL k l)) ∧ Below w.heap.size w w' := by
  obtain ⟨i0, hi0, hz0, hz1, hz2, -⟩ := parts infoM
  have hmm := @run_makeMap Try.prog
  have HR := Lib.hid h; have HWM := Lib.hid hwm
  have hJ := (Blk.new w 23 #[.int .u8 k, .int .i64 s, .int .i64 o, .int .i64 d, .int .i64 e']).alloc (.map #[] 0)
  have hB := ((Below.refl w.heap.size w).alloc (Nat.le_refl _) (.cells #[.int .u8 k, .int .i64 s, .int .i64 o, .int .i64 d, .int .i64 e'] 23)).alloc (by simp) (.map #[] 0)
  have hX := BoxIs.made (w.alloc (.cells #[.int .u8 k, .int .i64 s, .int .i64 o, .int .i64 d, .int .i64 e'] 23)) k
  rw [show (w.alloc (.cells #[.int .u8 k, .int .i64 s, .int .i64 o, .int .i64 d, .int .i64 e'] 23)).heap.size = w.heap.size + 1 from by simp] at hX
  have HJ := Lib.hid hJ; have HB := Lib.hid hB; have HX := Lib.hid hX; have HI0 := Lib.hid hi0; have HZ0 := Lib.hid hz0
  clear h hwm hJ hB hX hi0 hz0
  go_enter Try.func9, Try.ntmps9
  go_wp2
  clear hmm
  go_loopg [14] l.length (fun gf vi wr => ∃ j : Nat, vi = .int .i64 j ∧ j + gf = l.length ∧ Below w.heap.size w wr ∧ Blk wr w.heap.size 23 #[.int .u8 k, .int .i64 s, .int .i64 o, .int .i64 d, .int .i64 e'] ∧ BoxIs wr (w.heap.size + 1) k (l.take j))
  case atStart => exact ⟨0, rfl, by omega, HB.out, HJ.out, HX.out⟩
  case round =>
    clear HB HJ HX
    obtain ⟨j, rfl, hj, hB, hJ, hX⟩ := hrel
    cases gk with
    | succ gf2 =>
      have hjI : (j : Int) < (l.length : Int) := by omega
      obtain ⟨b2, o2, x, rfl, _, hx, x1, x2⟩ := msg_at (HR.out.below hB) (i := j) (by omega)
      have hwf := HWM.out x (List.mem_of_getElem? hx)
      have hlt0 : w.heap.size < wr.heap.size := hJ.lt
      have j0 := hJ.cell 0; have j1 := hJ.cell 1; have j2 := hJ.cell 2; have j3 := hJ.cell 3; have j4 := hJ.cell 4
      simp only [List.getElem?_toArray, List.getElem?_cons_zero, List.getElem?_cons_succ] at j0 j1 j2 j3 j4
      have hXA := hX.below ((Below.refl _ _).alloc (Nat.le_refl _) (.cells #[.int .i64 x.1, .int .i64 x.2] 29))
      have hc := put_any _ _ k s o d e' _ x hXA hwf (by rw [List.length_take]; omega)
      have htk2 : l.take (j + 1) = l.take j ++ [x] := take_snoc_ hx
      have HC := Lib.hid hc; have HB := Lib.hid hB; have HJ := Lib.hid hJ; have HTK2 := Lib.hid htk2
      clear hx hwf hB hJ hX hXA hc htk2
      go_wp2_with fail
      refine HC.out.mono ?_
      rintro e w2 ⟨rfl, hX2, hg2⟩
      have hB2 : Below w.heap.size w w2 := (HB.out.alloc HB.out.size _).grown hg2 (by have := HB.out.size; simp; omega) (fun k hk => by injection hk with hk; omega)
      have hJ2 := (HJ.out.alloc (.cells #[.int .i64 x.1, .int .i64 x.2] 29)).grown hg2 (by intro e; injection e with e; omega)
      have H2 := Lib.hid (And.intro hB2 (And.intro hJ2 hX2))
      clear hB2 hJ2 hX2 hg2 j0 j1 j2 j3 j4 x1 x2
      go_wp2
      go_roundg gf2
      case measure => omega
      case rel => exact ⟨j + 1, by go_num, by omega, H2.out.1, H2.out.2.1, by rw [HTK2.out]; exact H2.out.2.2⟩
    | zero =>
      obtain rfl : j = l.length := by omega
      rw [List.take_length] at hX
      obtain ⟨D, hD, hA⟩ := hX
      obtain ⟨w1, rfl⟩ : ∃ w1 : World, w1 = wr := ⟨_, rfl⟩
      have HB := Lib.hid hB; have HA := Lib.hid hA; have HD := Lib.hid hD
      have hsz := hB.size
      clear hB hJ hA hD
      go_wp2_with (first
        | (at_range; refine wpList_range_own _ rfl _ 45 rfl 3 43 lawK Try.underlying45 _ (w.heap.size + 1) l.length _ rfl HD.out ?_; intro w0 hrg0 hg0 hs0; have HRG := Lib.hid hrg0; have HG := Lib.hid hg0; clear hrg0 hg0)
        | go_in)
      go_frame
      go_loopw [8] (fun vo wr => ∃ (left : Lit → Bool) (cnt : Nat) (q : List (Int × Int)), wr.ranges Try.prog 3 mailE (w.heap.size + 1) w1.heap.size l.length D left cnt ∧ GotSt k l left q ∧ q.length + cnt ≤ l.length ∧ wr.ownsRow w.heap.size 29 2 vo q.length (rcs msgC q) ∧ Below w.heap.size w wr)
        (fun _ wr => wr.rangeLeft (w.heap.size + 1) w1.heap.size)
      case atStart =>
        refine ⟨_, _, [], HRG.out, GotSt.start fun x hx => (HA.out x hx).1, ?_, World.ownsRow_nil _ _ _ _, ?_⟩
        · have := ranges_cnt HRG.out; simp; exact this
        · exact HB.out.grown HG.out hsz (fun k hk => by cases hk)
      case round =>
        obtain ⟨left, cnt, q, hrg, hgot, hln, hO, hBw⟩ := hrel
        obtain ⟨A', c', rfl, hc'⟩ := own_parts hO
        have H2 := Lib.hid (And.intro hrg (And.intro hgot (And.intro hO hBw)))
        clear HRG HG HB hrg hgot hO hBw
        clear hs0
        go_wp2_with (first
          | (at_next; refine wpList_next_ranges _ rfl _ rfl 3 lawK mailE (Value.int .i64) (fun c : Value => c) (fun key kl hk => by obtain ⟨x, hx, _⟩ := Maps.keyOf_int_inv Try.underlying3 hk; exact ⟨x, hx⟩) (fun v y hv => ⟨v, rfl⟩) (w.heap.size + 1) w1.heap.size l.length D left cnt rfl H2.out.1 ?_ ?_)
          | go_in)
        · intro _ hl0
          have HL0 := Lib.hid hl0
          clear hl0
          rcases Nat.eq_zero_or_pos q.length with h0 | h0
          · have hq : q = [] := List.eq_nil_of_length_eq_zero h0
            subst hq
            go_wp2_with fail
            refine (sortNone_any _ _ _ _).mono ?_
            rintro e w2 ⟨rfl, rfl⟩
            go_wp2
            go_ret
            have e1 : ([] : List (Int × Int)) = foldL k l := H2.out.2.1.end_ HL0.out HWM.out List.Pairwise.nil (fun p => Iff.rfl)
            exact ⟨_, rfl, by rw [← e1]; exact H2.out.2.2.1, H2.out.2.2.2⟩
          · obtain ⟨g, cap, hv, hg1, hg2⟩ := H2.out.2.2.1.form h0
            simp only [Value.slice.injEq, true_and] at hv
            obtain ⟨rfl, rfl⟩ := hv
            have hs := sortMsg_any _ _ _ _ _ H2.out.2.2.1 (by omega) H2.out.2.1.once
            have HS := Lib.hid hs
            clear hs
            go_wp2_with fail
            refine HS.out.mono ?_
            rintro e w2 ⟨rfl, m, hm1, hm2, hm3, hm4, hm5⟩
            have H3 := Lib.hid (And.intro hm1 (And.intro hm2 (And.intro hm3 (And.intro hm4 hm5))))
            clear hm1 hm2 hm3 hm4 hm5
            go_wp2
            go_ret
            obtain ⟨hm1, hm2, hm3, hm4, hm5⟩ := H3.out
            have e1 : m = foldL k l := H2.out.2.1.end_ HL0.out HWM.out hm2 hm3
            have hB3 := H2.out.2.2.2
            exact ⟨_, rfl, by rw [← e1, hm1]; exact hm4, hB3.grown hm5 hB3.size (fun k hk => by injection hk with hk; omega)⟩
        · intro x cc kl y1 y2 w2 cnt2 hkey hlk hv hat hrg2 hlt hg2 hs2 hen
          obtain ⟨x', ex, rfl, hwx⟩ := Maps.keyOf_int_inv Try.underlying3 hkey
          cases ex
          obtain ⟨vb, vn, rfl, hz⟩ := mailE_inv hv
          simp only [Prod.mk.injEq] at hz
          obtain ⟨rfl, rfl⟩ := hz
          obtain ⟨a1, a2⟩ := HA.out x hwx
          have a3 := has_of_at hat
          rw [a3] at a1
          have a4 := (a2 a1.symm .nil).symm.trans (hat .nil)
          simp only [DataW.agg.injEq, List.cons.injEq, DataW.lit.injEq, Lit.bool.injEq, Lit.int.injEq, true_and, and_true] at a4
          have hgot2 := H2.out.2.1.more hwx a1.symm a4.2 hlk
          have hO2 := own_iter H2.out.2.2.1 H2.out.1 hg2
          have hB2 := H2.out.2.2.2.grown hg2 H2.out.2.2.2.size (fun k hk => by injection hk with hk; omega)
          have H3 := Lib.hid (And.intro hgot2 (And.intro hO2 (And.intro hrg2 hB2)))
          have HO2 := Lib.hid (hO2.alloc (.cells #[.bool vb, .int .i64 vn] 43))
          have hsz2 := hB2.size
          clear hkey hlk hv hat hrg2 hg2 hgot2 hO2 hB2 a1 a2 a3 a4
          have hsz3 : w.heap.size ≤ (w2.alloc (.cells #[.bool vb, .int .i64 vn] 43)).heap.size := by simp; omega
          have hql : q.length ≤ 1000000000000 := by omega
          have hsg : (w2.alloc (.cells #[.bool vb, .int .i64 vn] 43)).heap.size = wr.heap.size + 1 := by simp; exact hs2
          have HSG := Lib.hid hsg
          clear hsg
          go_wp2_with (at_builtin; refine wpList_app _ (w2.alloc (.cells #[.bool vb, .int .i64 vn] 43)) rfl (.tmp 30) (.tmp 35) 24 rfl w.heap.size 29 i0 (.agg #[.int .i64 0, .int .i64 0]) 2 16 Try.underlying24 HI0.out HZ0.out hz1 hz2 rfl (by decide) (by decide) _ q.length _ rfl HO2 [.int .i64 x, .int .i64 vn] rfl rfl rfl (wr.heap.size + 1) HSG.out rfl hql hsz3 ?_; intro v3 w3 h2 h3 h4; have HO3 := Lib.hid h2.out; have HG3 := Lib.hid h3.out; have HB3 := Lib.hid h4.out; clear h2 h3 h4)
          have hrg3 := ((H3.out.2.2.1.alloc (.cells #[.bool vb, .int .i64 vn] 43)).alloc (.cells [Value.int .i64 x, Value.int .i64 vn].toArray 29)).kept HG3.out (row_ne_map HO2.out (H3.out.2.2.1.alloc (.cells #[.bool vb, .int .i64 vn] 43)).owns) (Go.row_ne_iter HO2.out (H3.out.2.2.1.alloc (.cells #[.bool vb, .int .i64 vn] 43)))
          have HRG3 := Lib.hid hrg3
          clear hrg3
          go_roundw
          case rel =>
            refine ⟨_, cnt2, q ++ [(x, vn)], HRG3.out, H3.out.1, by simp; omega, ?_, ?_⟩
            · rw [List.length_append, rcs_append, rcs_one]; exact HO3.out
            · exact (H3.out.2.2.2.alloc H3.out.2.2.2.size _).trans HB3.out
          case measure => rw [HRG3.out.left_eq, H2.out.1.left_eq]; exact hlt
end Go.Proofs.Ytbmjmpojabbegaa
