/- The program's Split. -/
import Derived.Test.YtbmjmpojabbegaaInbI
import Derived.Deep.RegionLaw
namespace Go.Proofs.Ytbmjmpojabbegaa
open Go.RowKit

/-- rows of messages of the call's own, no two in one block -/
structure SplitSt (w wr : World) (g n : Nat) (vs : List Value) (L : List (List (Int × Int))) : Prop where
  below : Below w.heap.size w wr
  own : wr.ownsRow w.heap.size 24 1 (.slice (some ⟨g, 0, none⟩) n n) n vs
  rows : RowsO wr w.heap.size vs L
  apart : ∀ (i j : Nat) (a b : Value), i ≠ j → vs[i]? = some a → vs[j]? = some b → a.ownBlock = none ∨ a.ownBlock ≠ b.ownBlock
theorem SplitSt.step {w wr w' : World} {g n : Nat} {vs : List Value} {L : List (List (Int × Int))} (h : SplitSt w wr g n vs L) (hb : Below wr.heap.size wr w') : SplitSt w w' g n vs L :=
  ⟨h.below.trans (hb.mono h.below.size), own_below h.own hb, h.rows.below hb, h.apart⟩
theorem SplitSt.made (w : World) (n : Nat) (hn : n ≤ 64) : SplitSt w (w.alloc (.cells (List.replicate n (Value.slice none 0 0)).toArray 24)) w.heap.size n (List.replicate n (Value.slice none 0 0)) (splitL [] n) := by
  refine ⟨(Below.refl _ _).alloc (Nat.le_refl _) _, own_made (Nat.le_refl _) (by unfold maxLen; omega), ⟨by rw [splitL_len]; simp, fun i v l hv hl => ?_⟩, fun i j a b _ ha _ => ?_⟩
  · rw [List.getElem?_replicate] at hv
    split at hv
    · injection hv with hv
      subst hv
      unfold splitL at hl
      rw [List.getElem?_map, Option.map_eq_some_iff] at hl
      obtain ⟨u, _, rfl⟩ := hl
      exact World.ownsRow_nil _ _ _ _
    · cases hv
  · rw [List.getElem?_replicate] at ha
    split at ha
    · injection ha with ha
      subst ha
      exact .inl rfl
    · cases ha
/-- a message more -/
theorem SplitSt.put {w wr w5 : World} {g n u : Nat} {vs : List Value} {L : List (List (Int × Int))} {o : Obj} {v v5 : Value} {l : List (Int × Int)} {x : Int × Int} (h : SplitSt w wr g n vs L) (hv : vs[u]? = some v) (hl : L[u]? = some l)
    (ho : w5.ownsRow w.heap.size 29 2 v5 (l.length + 1) (rcs msgC l ++ msgC x)) (hg : (wr.alloc o).grownBy w5 v.ownBlock) (hb : v5.ownBlock = v.ownBlock ∨ v5.ownBlock = some (wr.alloc o).heap.size) :
    SplitSt w (w5.setCell ⟨g, u, none⟩ v5) g n (vs.set u v5) (L.set u (l ++ [x])) := by
  have hOv := h.rows.own u v l hv hl
  have hkO := type_grown (t := 24) hOv hg (by decide)
  have hown5 := own_keep h.own hkO
  obtain ⟨cur, hblk, hgB⟩ := own_blk hown5
  have hkM := type_set (i := u) (t := 29) hblk (by decide) v5
  have hb5 : Below w.heap.size wr w5 := ((Below.refl w.heap.size wr).alloc h.below.size o).grown hg (by have := h.below.size; simp; omega) (fun k hk => (hOv.lt k hk).1)
  refine ⟨(h.below.trans hb5).setCell (p := ⟨g, u, none⟩) hgB _, own_set1 hown5 v5, ⟨by rw [List.length_set, List.length_set]; exact h.rows.len, fun i a m ha hm => ?_⟩, fun i j a b hij ha hb' => ?_⟩
  · rw [List.getElem?_set] at ha hm
    split at ha
    · rename_i hui
      rw [if_pos hui] at hm
      split at ha
      · split at hm
        · injection ha with ha; injection hm with hm
          subst ha hm
          refine own_keep ?_ hkM
          rw [List.length_append, rcs_append, rcs_one]
          exact ho
        · cases hm
      · cases ha
    · rename_i hui
      rw [if_neg hui] at hm
      have h1 := h.rows.own i a m ha hm
      exact own_keep ((h1.alloc o).kept hg (h.apart i u a v (fun e => hui e.symm) ha hv)) hkM
  · have hfar : ∀ (k : Nat) (c : Value) (m : List (Int × Int)), vs[k]? = some c → L[k]? = some m → k ≠ u → (v5.ownBlock = none ∨ v5.ownBlock ≠ c.ownBlock) ∧ (c.ownBlock = none ∨ c.ownBlock ≠ v5.ownBlock) := by
      intro k c m hc hm hku
      rcases hb with hb | hb
      · rw [hb]
        exact ⟨h.apart u k v c (fun e => hku e.symm) hv hc, h.apart k u c v hku hc hv⟩
      · have hlt := (h.rows.own k c m hc hm).lt
        rw [hb]
        refine ⟨.inr fun e => ?_, .inr fun e => ?_⟩
        · have := (hlt _ e.symm).2
          simp at this; omega
        · have := (hlt _ e).2
          simp at this; omega
    have hLk : ∀ (k : Nat) (c : Value), vs[k]? = some c → ∃ m, L[k]? = some m := fun k c hc => ⟨_, List.getElem?_eq_getElem (by rw [← h.rows.len]; exact (List.getElem?_eq_some_iff.1 hc).1)⟩
    rw [List.getElem?_set] at ha hb'
    split at ha
    · rename_i hui
      split at ha
      · injection ha with ha
        subst ha
        rw [if_neg (fun e => hij (hui.symm.trans e))] at hb'
        obtain ⟨m, hm⟩ := hLk j b hb'
        exact (hfar j b m hb' hm (fun e => hij (hui.symm.trans e.symm))).1
      · cases ha
    · rename_i hui
      split at hb'
      · rename_i huj
        split at hb'
        · injection hb' with hb'
          subst hb'
          obtain ⟨m, hm⟩ := hLk i a ha
          exact (hfar i a m ha hm (fun e => hui e.symm)).2
        · cases hb'
      · exact h.apart i j a b hij ha hb'
theorem splitL_put {l : List (Int × Int)} {n u i : Nat} {x : Int × Int} (h : l[i]? = some x) (hu : ofD x.1 n = u) (hlt : u < n) : splitL (l.take (i + 1)) n = (splitL (l.take i) n).set u (rowL (l.take i) n u ++ [x]) := by
  apply List.ext_getElem?
  intro k
  rw [List.getElem?_set]
  unfold splitL
  rw [List.getElem?_map, List.getElem?_map, List.length_map, List.length_range]
  by_cases hk : k < n
  · rw [List.getElem?_range hk, Option.map_some, Option.map_some, rowL_snoc h]
    by_cases huk : u = k
    · subst huk
      rw [if_pos rfl, if_pos hu, if_pos hlt]
    · rw [if_neg huk, if_neg (by omega)]
  · rw [List.getElem?_eq_none (by simp; omega)]
    by_cases huk : u = k
    · omega
    · rw [if_neg huk]; rfl
theorem splitL_skip {l : List (Int × Int)} {n i : Nat} {x : Int × Int} (h : l[i]? = some x) (hu : ofD x.1 n = -1) : splitL (l.take (i + 1)) n = splitL (l.take i) n := by
  unfold splitL
  refine List.map_congr_left fun u _ => ?_
  rw [rowL_snoc h, if_neg (by omega)]
attribute [local go_sem ↓] Go.wp_at_zero Go.wp_at_succ
set_option maxRecDepth 100000 in
set_option maxHeartbeats 4000000 in
theorem split_any (w : World) (A : Option Addr) (c n : Nat) (l : List (Int × Int)) (h : Rs msgC 2 w A l) (hl : l.length ≤ 1000000000) (hn : 1 ≤ n) (hn2 : n ≤ 64) :
    Calls Try.prog 12 #[.slice A l.length c, .int .i64 n] w fun e w' => ∃ g vs, e = .returned (.slice (some ⟨g, 0, none⟩) n n) ∧ SplitSt w w' g n vs (splitL l n) := by
  obtain ⟨i0, hi0, hz0, hz1, hz2, -⟩ := parts infoR
  obtain ⟨j0, hj0, hy0, hy1, hy2, -⟩ := parts infoM
  have h1I : ¬ (n : Int) < 1 := by omega
  have h2I : ¬ (64 : Int) < (n : Int) := by omega
  have hmk := run_make_one (P := Try.prog) 31 24 i0 (.slice none 0 0) Try.underlying31 hi0 hz0 rfl hz1 n (by rw [hz2]; omega) (by omega)
  have h0 := SplitSt.made w n hn2
  have HR := Lib.hid h; have HI0 := Lib.hid hi0; have HZ0 := Lib.hid hz0; have HJ0 := Lib.hid hj0; have HY0 := Lib.hid hy0; have H0 := Lib.hid h0
  clear h hi0 hz0 hj0 hy0 h0
  go_enter Try.func12, Try.ntmps12
  go_wp2
  clear hmk
  go_loopg [19] l.length (fun gf vi wr => ∃ (i : Nat) (vs : List Value), vi = .int .i64 i ∧ i + gf = l.length ∧ SplitSt w wr w.heap.size n vs (splitL (l.take i) n))
  case atStart => exact ⟨0, _, rfl, by omega, H0.out⟩
  case round =>
    clear H0
    obtain ⟨i, vs, rfl, hi, hst⟩ := hrel
    cases gk with
    | zero =>
      obtain rfl : i = l.length := by omega
      rw [List.take_length] at hst
      have HST := Lib.hid hst
      clear hst
      go_wp2
      go_ret
      exact ⟨_, vs, rfl, HST.out⟩
    | succ gf =>
      have hiI : (i : Int) < (l.length : Int) := by omega
      obtain ⟨b, oo, x, rfl, _, hx, x1, x2⟩ := msg_at (HR.out.below hst.below) (i := i) (by omega)
      have hx' : l[i]? = some (x.1, x.2) := hx
      by_cases hbad : x.1 < 0 ∨ 512 ≤ x.1
      · have hd : ofD x.1 n = -1 := by unfold ofD; rw [if_pos (by omega)]
        have hs := splitL_skip (n := n) hx hd
        have hsA := hst.step ((Below.refl _ _).alloc (Nat.le_refl _) (.cells #[.int .i64 x.1, .int .i64 x.2] 29))
        have HS := Lib.hid hs; have HSA := Lib.hid hsA; have HD := Lib.hid hd
        clear hx hx' hbad hs hsA hd hst
        go_wp2_with fail
        refine (of_calls _ _ _).mono ?_
        rintro e w2 ⟨rfl, rfl⟩
        rw [HD.out]
        go_wp2
        go_roundg gf
        case measure => omega
        case rel => exact ⟨i + 1, vs, by go_num, by omega, by rw [HS.out]; exact HSA.out⟩
      · have hbd := ofD_bd x.1 n (by omega)
        obtain ⟨u, hu⟩ : ∃ u : Nat, ofD x.1 n = u := ⟨(ofD x.1 n).toNat, by omega⟩
        have hun : u < n := by omega
        have hs := splitL_put hx hu hun
        have hvl : vs.length = n := by rw [hst.rows.len, splitL_len]
        obtain ⟨v, hv⟩ : ∃ v, vs[u]? = some v := ⟨_, List.getElem?_eq_getElem (by omega)⟩
        have hlu : (splitL (l.take i) n)[u]? = some (rowL (l.take i) n u) := by unfold splitL; rw [List.getElem?_map, List.getElem?_range hun]; rfl
        have hOu := hst.rows.own u v _ hv hlu
        obtain ⟨Au, cu, rfl, _⟩ := own_parts hOu
        have hlen := Nat.le_trans (rowL_len (l.take i) n u) (by rw [List.length_take]; exact Nat.min_le_left _ _)
        obtain ⟨wA, hwA⟩ : ∃ wA, wA = wr.alloc (.cells #[.int .i64 x.1, .int .i64 x.2] 29) := ⟨_, rfl⟩
        have hsA := hst.step ((Below.refl _ _).alloc (Nat.le_refl _) (.cells #[.int .i64 x.1, .int .i64 x.2] 29))
        have hkA := Blk.new wr 29 #[.int .i64 x.1, .int .i64 x.2]
        have hzA : wA.heap.size = wr.heap.size + 1 := by rw [hwA]; simp
        have hszr := hst.below.size
        rw [← hwA] at hsA hkA
        have a0 := hkA.cell 0; have a1 := hkA.cell 1
        simp only [List.getElem?_toArray, List.getElem?_cons_zero, List.getElem?_cons_succ] at a0 a1
        have p0 : wA.cell? ⟨w.heap.size, u, none⟩ = some (.slice Au (rowL (l.take i) n u).length cu) := (hsA.own.cellAt u (by omega)).trans hv
        have hown := World.ownsRow.alloc (hsA.rows.own u _ _ hv hlu) (.cells #[.int .i64 x.1, .int .i64 x.2] 29)
        have hrd := (Sl.new wA [.int .i64 x.1, .int .i64 x.2] 29 2 1 rfl wA.heap.size rfl).rd
        have hq : ∀ w5 : World, (wA.alloc (.cells #[.int .i64 x.1, .int .i64 x.2] 29)).drew.grownBy w5 (Value.slice Au (rowL (l.take i) n u).length cu).ownBlock → w5.cell? ⟨w.heap.size, u, none⟩ = some (.slice Au (rowL (l.take i) n u).length cu) ∧ w5.frozen? ⟨w.heap.size, u, none⟩ = false := fun w5 hg5 => by
          have hk := type_grown (t := 24) (hsA.rows.own u _ _ hv hlu) (o := .cells #[.int .i64 x.1, .int .i64 x.2] 29) ⟨hg5.os, hg5.tape, hg5.output, hg5.size, hg5.block⟩ (by decide)
          have ho5 := own_keep hsA.own hk
          obtain ⟨cur, hb5, _⟩ := own_blk ho5
          exact ⟨(ho5.cellAt u (by omega)).trans hv, hb5.frozen u⟩
        have HQ := Lib.hid hq; have HOWN := Lib.hid hown; have HRD := Lib.hid hrd; have HSA := Lib.hid hsA; have HWA := Lib.hid hwA; have HV := Lib.hid hv; have HLU := Lib.hid hlu; have HU := Lib.hid hu; have HS := Lib.hid hs; have HZA := Lib.hid hzA; have HX := Lib.hid hx'
        have hunI : (u : Int) < (n : Int) := by omega
        have hlu1 : u < n := hun
        have hszA : w.heap.size < wA.heap.size := by omega
        have hszB : wr.heap.size < wA.heap.size := by omega
        clear hq hown hrd hsA hwA hv hlu hu hs hx hx' hbad hbd hkA hst hOu hvl hzA
        go_wp2_with fail
        refine (of_calls _ _ _).mono ?_
        rintro e w2 ⟨rfl, rfl⟩
        rw [HU.out, ← HWA.out]
        go_wp2_with fail
        go_region_law (first | (refine step_append_any _ rfl (.tmp 34) (.tmp 36) 24 rfl w.heap.size 29 j0 (.agg #[.int .i64 0, .int .i64 0]) 2 16 Try.underlying24 HJ0.out HY0.out hy1 hy2 rfl (by decide) (.slice Au (rowL (l.take i) n u).length cu) (rowL (l.take i) n u).length (rcs msgC (rowL (l.take i) n u)) (by simp [Act.eval]) HOWN.out _ (some ⟨wA.heap.size, 0, none⟩) 1 1 [.int .i64 x.1, .int .i64 x.2] (by simp [Act.eval]) HRD.out (by simp [Value.oneCell']) (by unfold maxLen; omega) (by omega) (by simp; omega) ?_; intro v5 w5 h2 h3 h4; obtain ⟨A5, c5, rfl, _⟩ := own_parts h2; obtain ⟨q1, q2⟩ := HQ.out w5 h3; have HO5 := Lib.hid h2; have HG5 := Lib.hid h3; have HB5 := Lib.hid h4; clear h2 h3 h4))
        all_goals
          go_wp2
          go_roundg gf
          case measure => omega
          case rel =>
            refine ⟨i + 1, vs.set u (.slice A5 ((rowL (l.take i) n u).length + 1) c5), by go_num, by omega, ?_⟩
            rw [HS.out]
            have hg := HG5.out
            exact HSA.out.put (x := x) HV.out HLU.out HO5.out (o := .cells #[.int .i64 x.1, .int .i64 x.2] 29) ⟨hg.os, hg.tape, hg.output, hg.size, hg.block⟩ HB5.out
end Go.Proofs.Ytbmjmpojabbegaa
