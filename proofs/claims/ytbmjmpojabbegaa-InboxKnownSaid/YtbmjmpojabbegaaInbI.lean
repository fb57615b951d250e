/- The reference's Split. -/
import Derived.Test.YtbmjmpojabbegaaInbC
import Derived.Test.YtbmjmpojabbegaaInbH
import Derived.Test.YtbmjmpojabbegaaRec2
namespace Go.Proofs.Ytbmjmpojabbegaa
open Go.RowKit

/-- the messages of a worker -/
def rowL (l : List (Int × Int)) (n : Nat) (u : Nat) : List (Int × Int) := l.filter fun x => ofD x.1 n == u
/-- messages by their workers -/
def splitL (l : List (Int × Int)) (n : Nat) : List (List (Int × Int)) := (List.range n).map (rowL l n)
theorem rowL_snoc {l : List (Int × Int)} {n u i : Nat} {x : Int × Int} (h : l[i]? = some x) : rowL (l.take (i + 1)) n u = if ofD x.1 n = u then rowL (l.take i) n u ++ [x] else rowL (l.take i) n u := by
  unfold rowL
  rw [take_snoc_ h, List.filter_append]
  by_cases hx : ofD x.1 n = u
  · rw [if_pos hx]; simp [hx]
  · rw [if_neg hx]; simp [hx]
theorem rowL_len (l : List (Int × Int)) (n u : Nat) : (rowL l n u).length ≤ l.length := List.length_filter_le _ _
/-- slices of messages, each in a row of its own from a block on -/
structure RowsO (w : World) (B : Nat) (vs : List Value) (L : List (List (Int × Int))) : Prop where
  len : vs.length = L.length
  own : ∀ (i : Nat) (v : Value) (l : List (Int × Int)), vs[i]? = some v → L[i]? = some l → w.ownsRow B 29 2 v l.length (rcs msgC l)
theorem RowsO.below {w w' : World} {B : Nat} {vs : List Value} {L : List (List (Int × Int))} (h : RowsO w B vs L) (hb : Below w.heap.size w w') : RowsO w' B vs L :=
  ⟨h.len, fun i v l hv hl => own_below (h.own i v l hv hl) hb⟩
theorem RowsO.keep {w w' : World} {B : Nat} {vs : List Value} {L : List (List (Int × Int))} (h : RowsO w B vs L) (hk : ∀ (g : Nat) cs fz, w.heap[g]? = some (.cells cs 29 fz) → w'.heap[g]? = w.heap[g]?) : RowsO w' B vs L :=
  ⟨h.len, fun i v l hv hl => own_keep (h.own i v l hv hl) hk⟩
theorem RowsO.snoc {w : World} {B : Nat} {vs : List Value} {L : List (List (Int × Int))} (h : RowsO w B vs L) {v : Value} {l : List (Int × Int)} (ho : w.ownsRow B 29 2 v l.length (rcs msgC l)) : RowsO w B (vs ++ [v]) (L ++ [l]) := by
  refine ⟨by rw [List.length_append, List.length_append, h.len]; rfl, fun i v' l' hv hl => ?_⟩
  rw [List.getElem?_append] at hv hl
  rw [h.len] at hv
  split at hv
  · rename_i hlt
    rw [if_pos hlt] at hl
    exact h.own i v' l' hv hl
  · rename_i hlt
    rw [if_neg hlt] at hl
    rw [List.getElem?_singleton] at hv hl
    split at hv
    · rename_i h0
      rw [if_pos h0] at hl
      injection hv with hv; injection hl with hl
      subst hv hl
      exact ho
    · cases hv
theorem RowsO.rs {w : World} {B b : Nat} {t : TypeId} {A : Option Addr} {c : Nat} {vs : List Value} {L : List (List (Int × Int))} (h : RowsO w B vs L) (ho : w.ownsRow b t 1 (.slice A L.length c) L.length vs) : RsRs w A L := by
  refine ⟨vs, Sl.of_own ho, fun i l hl => ?_⟩
  have hlt := (List.getElem?_eq_some_iff.1 hl).1
  obtain ⟨v, hv⟩ : ∃ v, vs[i]? = some v := ⟨_, List.getElem?_eq_getElem (by rw [h.len]; exact hlt)⟩
  have h1 := h.own i _ l hv hl
  obtain ⟨A', c', rfl, hc⟩ := own_parts h1
  exact ⟨A', c', hv, hc, Rs.of_own h1⟩
theorem splitL_len (l : List (Int × Int)) (n : Nat) : (splitL l n).length = n := by simp [splitL]
theorem splitL_take (l : List (Int × Int)) {n u : Nat} (h : u < n) : (splitL l n).take (u + 1) = (splitL l n).take u ++ [rowL l n u] := by
  rw [take_snoc_]
  unfold splitL
  rw [List.getElem?_map, List.getElem?_range h]; rfl
theorem infoR : (Try.prog.info? 24).map (fun i => (i.zero, i.size, i.bytes)) = some (some (.slice none 0 0), 1, 24) := by kernel_rfl
attribute [local go_sem ↓] Go.wp_at_zero Go.wp_at_succ
set_option maxRecDepth 100000 in
set_option maxHeartbeats 4000000 in
theorem refSplit_any (w : World) (A : Option Addr) (c n : Nat) (l : List (Int × Int)) (h : Rs msgC 2 w A l) (hl : l.length ≤ 1000000000) (hn : 1 ≤ n) (hn2 : n ≤ 64) :
    Calls Try.prog 13 #[.slice A l.length c, .int .i64 n] w fun e w' => ∃ v vs, e = .returned v ∧ w'.ownsRow w.heap.size 24 1 v n vs ∧ RowsO w' w.heap.size vs (splitL l n) ∧ Below w.heap.size w w' := by
  obtain ⟨i0, hi0, hz0, hz1, hz2, -⟩ := parts infoR
  obtain ⟨j0, hj0, hy0, hy1, hy2, -⟩ := parts infoM
  have h1I : ¬ (n : Int) < 1 := by omega
  have h2I : ¬ (64 : Int) < (n : Int) := by omega
  have HR := Lib.hid h; have HI0 := Lib.hid hi0; have HZ0 := Lib.hid hz0; have HJ0 := Lib.hid hj0; have HY0 := Lib.hid hy0
  clear h hi0 hz0 hj0 hy0
  go_enter Try.func13, Try.ntmps13
  go_wp2
  go_loopg [5, 6] n (fun gf vo vi wr => ∃ (u : Nat) (vs : List Value), vi = .int .i64 u ∧ u + gf = n ∧ Below w.heap.size w wr ∧ wr.ownsRow w.heap.size 24 1 vo u vs ∧ RowsO wr w.heap.size vs ((splitL l n).take u))
  case atStart => exact ⟨0, [], rfl, by omega, Below.refl _ _, World.ownsRow_nil _ _ _ _, ⟨rfl, by simp⟩⟩
  case round =>
    obtain ⟨u, vs, rfl, hu, hB, hO, hV⟩ := hrel
    cases gk with
    | zero =>
      obtain rfl : u = n := by omega
      rw [List.take_of_length_le (by rw [splitL_len]; exact Nat.le_refl _)] at hV
      have HB := Lib.hid hB; have HO := Lib.hid hO; have HV := Lib.hid hV
      clear hB hO hV
      go_wp2
      go_ret
      exact ⟨_, vs, rfl, HO.out, HV.out, HB.out⟩
    | succ gf =>
      have huI : (u : Int) < (n : Int) := by omega
      obtain ⟨Ao, co, rfl, _⟩ := own_parts hO
      obtain ⟨w1, rfl⟩ : ∃ w1 : World, w1 = wr := ⟨_, rfl⟩
      have hws := hB.size
      have HB := Lib.hid hB; have HO := Lib.hid hO; have HV := Lib.hid hV
      clear hB hO hV
      go_wp2
      go_loopg [7, 8] l.length (fun gf vr vi wr => ∃ i : Nat, vi = .int .i64 i ∧ i + gf = l.length ∧ Below w1.heap.size w1 wr ∧ wr.ownsRow w1.heap.size 29 2 vr (rowL (l.take i) n u).length (rcs msgC (rowL (l.take i) n u)))
      case atStart => exact ⟨0, rfl, by omega, Below.refl _ _, World.ownsRow_nil _ _ _ _⟩
      case round =>
        obtain ⟨i, rfl, hi, hB2, hO2⟩ := hrel
        obtain ⟨Ar, cr, rfl, _⟩ := own_parts hO2
        cases gk with
        | zero =>
          obtain rfl : i = l.length := by omega
          rw [List.take_length] at hO2
          have hlen := rowL_len l n u
          have hw1 := hB2.size
          have hOW := own_below HO.out hB2
          have HOW := Lib.hid hOW; have HB2 := Lib.hid hB2; have HO2 := Lib.hid hO2
          clear hOW hB2 hO2
          go_wp2_with (at_builtin; refine wpList_app _ wr rfl (.tmp 42) (.tmp 44) 31 rfl w.heap.size 24 i0 (.slice none 0 0) 1 24 Try.underlying31 HI0.out HZ0.out hz1 hz2 rfl (by decide) (by decide) _ u _ rfl HOW [.slice Ar (rowL l n u).length cr] rfl rfl rfl _ rfl rfl (by omega) (by omega) ?_; intro v3 w3 h2 h3 h4; have HO3 := Lib.hid h2.out; have HG3 := Lib.hid h3.out; have HB3 := Lib.hid h4.out; clear h2 h3 h4)
          go_roundg gf
          case measure => omega
          case rel =>
            have hk := type_grown (t := 29) HOW HG3.out (by decide)
            refine ⟨u + 1, _, by go_num, by omega, (HB.out.trans (HB2.out.mono hws)).trans HB3.out, HO3.out, ?_⟩
            rw [splitL_take l (by omega)]
            exact ((HV.out.below HB2.out).keep hk).snoc (own_mono (own_keep HO2.out hk) hws)
        | succ gf2 =>
          have hiI : (i : Int) < (l.length : Int) := by omega
          obtain ⟨b, oo, x, rfl, _, hx, x1, x2⟩ := msg_at (HR.out.below (HB.out.trans (hB2.mono hws))) (i := i) (by omega)
          have hs := rowL_snoc (n := n) (u := u) hx
          have hlen := Nat.le_trans (rowL_len (l.take i) n u) (by rw [List.length_take]; exact Nat.min_le_left _ _)
          have hw1 := hB2.size
          have HS := Lib.hid hs; have HB2 := Lib.hid hB2; have HO2 := Lib.hid hO2
          clear hx hs hB2 hO2
          by_cases hxu : ofD x.1 n = u
          · have ht : (ofD x.1 n == (u : Int)) = true := by simp [hxu]
            have HX := Lib.hid hxu
            clear hxu
            go_wp2_with fail
            refine (refOf_calls _ _ _).mono ?_
            rintro e w2 ⟨rfl, rfl⟩
            go_wp2_with (at_builtin; refine wpList_app _ w2 rfl (.tmp 35) (.tmp 40) 24 rfl w1.heap.size 29 j0 (.agg #[.int .i64 0, .int .i64 0]) 2 16 Try.underlying24 HJ0.out HY0.out hy1 hy2 rfl (by decide) (by decide) _ (rowL (l.take i) n u).length _ rfl HO2 [.int .i64 x.1, .int .i64 x.2] rfl rfl rfl _ rfl rfl (by omega) (by omega) ?_; intro v3 w3 h2 h3 h4; have HO3 := Lib.hid h2.out; have HB3 := Lib.hid h4.out; clear h2 h3 h4)
            go_roundg gf2
            case measure => omega
            case rel =>
              refine ⟨i + 1, by go_num, by omega, HB2.out.trans HB3.out, ?_⟩
              rw [HS.out, if_pos HX.out, List.length_append, rcs_append, rcs_one]
              exact HO3.out
          · have ht : (ofD x.1 n == (u : Int)) = false := by simp [hxu]
            have HX := Lib.hid hxu
            clear hxu
            go_wp2_with fail
            refine (refOf_calls _ _ _).mono ?_
            rintro e w2 ⟨rfl, rfl⟩
            go_wp2
            go_roundg gf2
            case measure => omega
            case rel =>
              refine ⟨i + 1, by go_num, by omega, HB2.out, ?_⟩
              rw [HS.out, if_neg HX.out]
              exact HO2.out
end Go.Proofs.Ytbmjmpojabbegaa
