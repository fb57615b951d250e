/- The reference's Merge and Same. -/
import Derived.Test.YtbmjmpojabbegaaInbG
namespace Go.Proofs.Ytbmjmpojabbegaa
open Go.RowKit

/-- ints, and mail -/
def intC (n : Int) : List Value := [.int .i64 n]
theorem intC_len (n : Int) : (intC n).length = 1 := rfl
def mailC (m : Bool × Int) : List Value := [.bool m.1, .int .i64 m.2]
theorem mailC_len (m : Bool × Int) : (mailC m).length = 2 := rfl
theorem mailC_one (l : List (Bool × Int)) : ∀ u ∈ rcs mailC l, u.oneCell' = true := by
  intro u hu
  obtain ⟨m, _, hu⟩ := List.mem_flatMap.1 hu
  simp only [mailC, List.mem_cons, List.not_mem_nil, or_false] at hu
  rcases hu with rfl | rfl <;> rfl
theorem int_at {w : World} {A : Option Addr} {l : List Int} (h : Rs intC 1 w A l) {i : Nat} (hi : i < l.length) : ∃ b o m, A = some ⟨b, o, none⟩ ∧ b < w.heap.size ∧ l[i]? = some m ∧ w.cell? ⟨b, o + i, none⟩ = some (.int .i64 m) := by
  obtain ⟨b, o, m, hA, hb, hm, hc⟩ := Rs.at_ intC_len h hi
  have := hc 0 (by decide)
  rw [Nat.mul_one, Nat.add_zero] at this
  exact ⟨b, o, m, hA, hb, hm, this⟩
theorem mail_at {w : World} {A : Option Addr} {l : List (Bool × Int)} (h : Rs mailC 2 w A l) {i : Nat} (hi : i < l.length) : ∃ b o m, A = some ⟨b, o, none⟩ ∧ b < w.heap.size ∧ l[i]? = some m ∧
    w.cell? ⟨b, o + i * 2, none⟩ = some (.bool m.1) ∧ w.cell? ⟨b, o + i * 2 + 1, none⟩ = some (.int .i64 m.2) := by
  obtain ⟨b, o, m, hA, hb, hm, hc⟩ := Rs.at_ mailC_len h hi
  exact ⟨b, o, m, hA, hb, hm, hc 0 (by decide), hc 1 (by decide)⟩
theorem infoL : (Try.prog.info? 43).map (fun i => (i.zero, i.size, i.bytes)) = some (some (.agg #[.bool false, .int .i64 0]), 2, 16) := by kernel_rfl
/-- the mail of vertices -/
def mergeL (k : Int) (own : List Int) (L : List (List (Int × Int))) : List (Bool × Int) := own.map fun v => mailL k v L.flatten
theorem mergeL_len (k : Int) (own : List Int) (L : List (List (Int × Int))) : (mergeL k own L).length = own.length := by simp [mergeL]
theorem mergeL_snoc {k : Int} {own : List Int} {L : List (List (Int × Int))} {i : Nat} {v : Int} (h : own[i]? = some v) : mergeL k (own.take (i + 1)) L = mergeL k (own.take i) L ++ [mailL k v L.flatten] := by
  unfold mergeL
  rw [take_snoc_ h, List.map_append]; rfl
attribute [local go_sem ↓] Go.wp_at_zero Go.wp_at_succ
set_option maxRecDepth 100000 in
set_option maxHeartbeats 4000000 in
theorem refMerge_any (w : World) (k s o d e' : Int) (A A2 : Option Addr) (c c2 : Nat) (own : List Int) (L : List (List (Int × Int))) (h1 : Rs intC 1 w A own) (h : RsRs w A2 L) (hl1 : own.length ≤ 1000000000) (hl : L.length ≤ 1000000000) (hll : ∀ l ∈ L, l.length ≤ 1000000000) :
    Calls Try.prog 15 #[.agg #[.int .u8 k, .int .i64 s, .int .i64 o, .int .i64 d, .int .i64 e'], .slice A own.length c, .slice A2 L.length c2] w fun e w' => ∃ v, e = .returned v ∧ w'.ownsRow w.heap.size 43 2 v own.length (rcs mailC (mergeL k own L)) ∧ Below w.heap.size w w' := by
  obtain ⟨i0, hi0, hz0, hz1, hz2, -⟩ := parts infoL
  have HR1 := Lib.hid h1; have HR := Lib.hid h; have HLL := Lib.hid hll
  have hJ := Blk.new w 23 #[.int .u8 k, .int .i64 s, .int .i64 o, .int .i64 d, .int .i64 e']
  have hB := (Below.refl w.heap.size w).alloc (Nat.le_refl _) (.cells #[.int .u8 k, .int .i64 s, .int .i64 o, .int .i64 d, .int .i64 e'] 23)
  have HJ := Lib.hid hJ; have HB := Lib.hid hB; have HI0 := Lib.hid hi0; have HZ0 := Lib.hid hz0
  clear h h1 hll hJ hB hi0 hz0
  go_enter Try.func15, Try.ntmps15
  go_wp2
  go_loopg [7, 8] own.length (fun gf vo vi wr => ∃ i : Nat, vi = .int .i64 i ∧ i + gf = own.length ∧ Below w.heap.size w wr ∧ Blk wr w.heap.size 23 #[.int .u8 k, .int .i64 s, .int .i64 o, .int .i64 d, .int .i64 e'] ∧ wr.ownsRow (w.heap.size + 1) 43 2 vo i (rcs mailC (mergeL k (own.take i) L)))
  case atStart => exact ⟨0, rfl, by omega, HB.out, HJ.out, World.ownsRow_nil _ _ _ _⟩
  case round =>
    clear HB HJ
    obtain ⟨i, rfl, hi, hB, hJ, hO⟩ := hrel
    cases gk with
    | zero =>
      obtain rfl : i = own.length := by omega
      rw [List.take_length] at hO
      have HB := Lib.hid hB; have HO := Lib.hid hO
      clear hB hJ hO
      go_wp2
      go_ret
      exact ⟨_, rfl, own_mono HO.out (show w.heap.size ≤ w.heap.size + 1 by omega), HB.out⟩
    | succ gf =>
      have hiI : (i : Int) < (own.length : Int) := by omega
      obtain ⟨b, oo, y, rfl, hb, hx, hc⟩ := int_at HR1.out (i := i) (by omega)
      have x1 := (hB.cell (p := ⟨b, oo + i, none⟩) hb).trans hc
      have hs := mergeL_snoc (k := k) (L := L) hx
      have j0 := hJ.cell 0; have j1 := hJ.cell 1; have j2 := hJ.cell 2; have j3 := hJ.cell 3; have j4 := hJ.cell 4
      simp only [List.getElem?_toArray, List.getElem?_cons_zero, List.getElem?_cons_succ] at j0 j1 j2 j3 j4
      obtain ⟨A', c', rfl, hc'⟩ := own_parts hO
      have lt0 : w.heap.size < wr.heap.size := hJ.lt
      have ltb : b < wr.heap.size := Nat.lt_of_lt_of_le hb hB.size
      have ltb2 : b < w.heap.size + 1 := by omega
      have lt4 : w.heap.size < w.heap.size + 1 := by omega
      have HM := Lib.hid (fun (m : Nat) => refMail_any (wr.drewN m) k s o d e' y A2 c2 L (HR.out.below (below_drewN hB m)) hl HLL.out)
      have HS := Lib.hid hs; have HB := Lib.hid hB; have HJ := Lib.hid hJ; have HO := Lib.hid hO
      clear hx hc hs hB hJ hO hc'
      go_wp2_with fail
      go_region_held3 (fun w' => w'.cell? ⟨w.heap.size, 0, none⟩ = some (.int .u8 k) ∧ w'.cell? ⟨w.heap.size, 1, none⟩ = some (.int .i64 s) ∧ w'.cell? ⟨w.heap.size, 2, none⟩ = some (.int .i64 o) ∧ w'.cell? ⟨w.heap.size, 3, none⟩ = some (.int .i64 d) ∧ w'.cell? ⟨w.heap.size, 4, none⟩ = some (.int .i64 e') ∧ w'.cell? ⟨b, oo + i, none⟩ = some (.int .i64 y)) (go_keep) (first | (go_at_call 26; refine (HM.out 1).mono ?_; rintro e w2 ⟨rfl, hb2⟩; have hcb : ∀ bb o2, bb < wr.heap.size → w2.cell? ⟨bb, o2, none⟩ = wr.cell? ⟨bb, o2, none⟩ := (fun bb o2 h => hb2.cell (p := ⟨bb, o2, none⟩) h); have HB2 := Lib.hid hb2; have HOX := Lib.hid ((own_below (by exact HO.out) hb2).alloc (.cells #[.bool (mailL k y L.flatten).1, .int .i64 (mailL k y L.flatten).2] 43)); have HRX := Lib.hid (Sl.new w2 [.bool (mailL k y L.flatten).1, .int .i64 (mailL k y L.flatten).2] 43 2 1 rfl w2.heap.size rfl).rd; have hsx := Nat.le_trans (show w.heap.size + 1 ≤ wr.heap.size by omega) hb2.size; clear hb2) | (refine step_append_any _ rfl (.tmp 15) (.tmp 23) 35 rfl (w.heap.size + 1) 43 i0 (.agg #[.bool false, .int .i64 0]) 2 16 Try.underlying35 HI0.out HZ0.out hz1 hz2 rfl (by decide) (.slice A' i c') i (rcs mailC (mergeL k (own.take i) L)) (by simp [Act.eval]) HOX.out _ (some ⟨w2.heap.size, 0, none⟩) 1 1 [.bool (mailL k y L.flatten).1, .int .i64 (mailL k y L.flatten).2] (by simp [Act.eval]) HRX.out (by simp [Value.oneCell']) (by unfold maxLen; omega) (by omega) (by simp; omega) ?_; intro v3 w3 h2 h3 h4; have hb3 := ((Below.refl (w.heap.size + 1) w2).alloc hsx (.cells #[.bool (mailL k y L.flatten).1, .int .i64 (mailL k y L.flatten).2] 43)).grown ⟨h3.os, h3.tape, h3.output, h3.size, h3.block⟩ (by simp; omega) (fun k hk => (HOX.out.lt k hk).1); have hcc : ∀ bb o2, bb < w.heap.size + 1 → w3.cell? ⟨bb, o2, none⟩ = w2.cell? ⟨bb, o2, none⟩ := (fun bb o2 h => hb3.cell (p := ⟨bb, o2, none⟩) h); have HO3 := Lib.hid h2; have HB3 := Lib.hid hb3; clear h2 h3 h4 hb3))
      clear hcb hcc j0 j1 j2 j3 j4 x1
      go_wp2
      go_roundg gf
      case measure => omega
      case rel =>
        have hb2 : Below w.heap.size w w2 := Below.trans (by exact below_drewN HB.out 1) (HB2.out.mono (B' := w.heap.size) (by show _ ≤ wr.heap.size; omega))
        have hb23 : Below (w.heap.size + 1) (wr.drewN 1) w3 := Below.trans (HB2.out.mono (by show _ ≤ wr.heap.size; omega)) HB3.out
        refine ⟨i + 1, by go_num, by omega, hb2.trans (HB3.out.mono (by omega)), Blk.below (w := wr.drewN 1) HJ.out hb23 (by omega), ?_⟩
        rw [HS.out, rcs_append, rcs_one]
        exact HO3.out
/-- is mail the same? -/
def sameM (x y : Bool × Int) : Bool := x.1 == y.1 && (!x.1 || x.2 == y.2)
def sameL (a b : List (Bool × Int)) : Bool := decide (a.length = b.length) && (a.zip b).all fun p => sameM p.1 p.2
theorem sameL_ne {a b : List (Bool × Int)} (h : a.length ≠ b.length) : sameL a b = false := by unfold sameL; rw [decide_eq_false h]; rfl
theorem sameL_no {a b : List (Bool × Int)} {i : Nat} {x y : Bool × Int} (hx : a[i]? = some x) (hy : b[i]? = some y) (h : sameM x y = false) : sameL a b = false := by
  unfold sameL
  rw [Bool.and_eq_false_iff]
  right
  rw [List.all_eq_false]
  exact ⟨(x, y), List.mem_of_getElem? (i := i) (by rw [List.getElem?_zip_eq_some]; exact ⟨hx, hy⟩), by rw [h]; decide⟩
theorem sameL_yes {a b : List (Bool × Int)} (hl : a.length = b.length) (h : ∀ (i : Nat) (x y : Bool × Int), a[i]? = some x → b[i]? = some y → sameM x y = true) : sameL a b = true := by
  unfold sameL
  rw [decide_eq_true hl, Bool.true_and, List.all_eq_true]
  intro p hp
  obtain ⟨i, hi⟩ := List.mem_iff_getElem?.1 hp
  rw [List.getElem?_zip_eq_some] at hi
  exact h i _ _ hi.1 hi.2
attribute [local go_sem ↓] Go.wp_at_zero Go.wp_at_succ
set_option maxRecDepth 100000 in
set_option maxHeartbeats 4000000 in
theorem refSame_any (w : World) (A B : Option Addr) (c d : Nat) (xs ys : List (Bool × Int)) (ha : Rs mailC 2 w A xs) (hb : Rs mailC 2 w B ys) (hn : xs.length ≤ 1000000000) :
    Calls Try.prog 16 #[.slice A xs.length c, .slice B ys.length d] w fun e w' => e = .returned (.bool (sameL xs ys)) ∧ ∃ q, w' = w.drewN q := by
  have HA := Lib.hid ha; have HB := Lib.hid hb
  clear ha hb
  by_cases hnm : xs.length = ys.length
  · have hneq : ((xs.length : Int) != (ys.length : Int)) = false := by rw [hnm]; simp
    have hlI : xs.length ≤ ys.length := by omega
    have HNM := Lib.hid hnm
    clear hnm
    go_enter Try.func16, Try.ntmps16
    go_wp2
    go_loopg [5] xs.length (fun gf vi wr => ∃ i q : Nat, vi = .int .i64 i ∧ i + gf = xs.length ∧ wr = w.drewN q ∧ ∀ (j : Nat) (x y : Bool × Int), j < i → xs[j]? = some x → ys[j]? = some y → sameM x y = true)
    case atStart => exact ⟨0, 0, rfl, by omega, rfl, by intro j x y h; omega⟩
    case round =>
      obtain ⟨i, q, rfl, hi, rfl, heq⟩ := hrel
      have HE := Lib.hid heq
      clear heq
      cases gk with
      | zero =>
        obtain rfl : i = xs.length := by omega
        go_wp2
        go_ret
        exact ⟨ret_bool (sameL_yes HNM.out fun j x y hx hy => HE.out j x y (List.getElem?_eq_some_iff.1 hx).1 hx hy).symm, q, rfl⟩
      | succ gf =>
        have hiI : (i : Int) < (xs.length : Int) := by omega
        have hiJ : (i : Int) < (ys.length : Int) := by omega
        obtain ⟨b, o, ⟨xb, xv⟩, rfl, _, hx, x1, x2⟩ := mail_at HA.out (i := i) (by omega)
        obtain ⟨b', o', ⟨yb, yv⟩, rfl, _, hy, y1, y2⟩ := mail_at HB.out (i := i) (by omega)
        simp only at x1 x2 y1 y2
        have H1 := Lib.hid hx; have H2 := Lib.hid hy
        clear hx hy
        by_cases hxy : sameM (xb, xv) (yb, yv) = true
        · have HXY := Lib.hid hxy
          have hfin : ∀ (j : Nat) (x y : Bool × Int), j < i + 1 → xs[j]? = some x → ys[j]? = some y → sameM x y = true := by
            intro j x y hj hjx hjy
            rcases Nat.lt_or_ge j i with hlt | hge
            · exact HE.out j x y hlt hjx hjy
            · obtain rfl : j = i := by omega
              obtain rfl := Option.some.inj (hjx.symm.trans H1.out)
              obtain rfl := Option.some.inj (hjy.symm.trans H2.out)
              exact HXY.out
          have HF := Lib.hid hfin
          clear hfin
          cases xb with
          | true =>
            cases yb with
            | true =>
              have hv : (xv != yv) = false := by
                have : (xv == yv) = true := by simpa [sameM] using hxy
                simpa using this
              clear hxy
              go_wp2_with fail
              go_quiet (fail)
              go_wp2
              go_roundg gf
              case measure => omega
              case rel => exact ⟨i + 1, q + nq, by go_num, by omega, rfl, HF.out⟩
            | false => simp [sameM] at hxy
          | false =>
            cases yb with
            | true => simp [sameM] at hxy
            | false =>
              clear hxy
              go_wp2_with fail
              go_quiet (fail)
              go_wp2
              go_roundg gf
              case measure => omega
              case rel => exact ⟨i + 1, q + nq, by go_num, by omega, rfl, HF.out⟩
        · rw [Bool.not_eq_true] at hxy
          have hno := Lib.hid (sameL_no H1.out H2.out hxy)
          cases xb with
          | true =>
            cases yb with
            | true =>
              have hv : (xv != yv) = true := by
                have : (xv == yv) = false := by simpa [sameM] using hxy
                simpa using this
              clear hxy
              go_wp2_with fail
              go_quiet (fail)
              go_wp2
              go_ret
              exact ⟨ret_bool hno.out.symm, q + nq, by rw [World.drewN_drewN]⟩
            | false =>
              clear hxy
              go_wp2_with fail
              go_quiet (fail)
              go_wp2
              go_ret
              exact ⟨ret_bool hno.out.symm, q + nq, by rw [World.drewN_drewN]⟩
          | false =>
            cases yb with
            | true =>
              clear hxy
              go_wp2_with fail
              go_quiet (fail)
              go_wp2
              go_ret
              exact ⟨ret_bool hno.out.symm, q + nq, by rw [World.drewN_drewN]⟩
            | false => simp [sameM] at hxy
  · have hne := sameL_ne hnm
    have hneq : ((xs.length : Int) != (ys.length : Int)) = true := by rw [bne_iff_ne]; omega
    have HN := Lib.hid hne
    clear hnm hne
    go_enter Try.func16, Try.ntmps16
    go_wp2
    go_ret
    exact ⟨ret_bool HN.out.symm, 0, rfl⟩
end Go.Proofs.Ytbmjmpojabbegaa
