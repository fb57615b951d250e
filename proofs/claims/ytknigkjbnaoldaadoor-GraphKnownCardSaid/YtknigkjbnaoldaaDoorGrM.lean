/- The reference's Parse. -/
import Derived.Test.YtknigkjbnaoldaaDoorGrL
import Derived.Test.YtknigkjbnaoldaaDoorGrK
import Derived.Test.YtknigkjbnaoldaaDoorWordsG
import Derived.Test.YtknigkjbnaoldaaDoorLinesA
namespace Go.Proofs.YtknigkjbnaoldaaDoor
open Go.RowKit Go.Maps

/-- the reference's line: what it answers -/
theorem rline_any (w : World) (n : Int) (A : Option Addr) (c : Nat) (l : List Edg) (h : Rs edgC 3 w A l) (hc : l.length ≤ c) (Aw : Option Addr) (cw Bw : Nat) (ws : List ByteArray) (hw : w.ownsRow Bw 9 1 (.slice Aw ws.length cw) ws.length (ws.map Value.string)) (hs : ∀ s ∈ ws, s.size ≤ 4294967296) (hn0 : n ≠ 0) :
    Calls Tryd.prog 36 #[.agg #[.int .i64 n, .slice A l.length c], .slice Aw ws.length cw] w (RLineP w n (lineR numW (n, l) ws)) := by
  match ws, hw, hs with
  | [x, y, z], hw, hs =>
    by_cases hx : x = wEdge
    · subst hx
      have e : lineR numW (n, l) [wEdge, y, z] = if (numW y).2 = 0 ∧ (numW z).2 = 0 ∧ (numW y).1 < 512 ∧ (numW z).1 < 512 then edgeR n l false ((numW y).1, (numW z).1, 1) else none := by unfold lineR; rw [if_neg hn0]; simp; rfl
      rw [e]
      exact rline_edge3 w n A c l Aw cw Bw y z hw (hs y (by simp)) (hs z (by simp)) h hc
    · by_cases hx2 : x = wBoth
      · subst hx2
        have e : lineR numW (n, l) [wBoth, y, z] = if (numW y).2 = 0 ∧ (numW z).2 = 0 ∧ (numW y).1 < 512 ∧ (numW z).1 < 512 then edgeR n l true ((numW y).1, (numW z).1, 1) else none := by unfold lineR; rw [if_neg hn0]; simp
        rw [e]
        exact rline_both3 w n A c l Aw cw Bw y z hw (hs y (by simp)) (hs z (by simp)) h hc
      · have e : lineR numW (n, l) [x, y, z] = none := by unfold lineR; rw [if_neg hn0]; simp [hx, hx2]
        rw [e]
        exact rline_word3 w n A c l Aw cw Bw x y z hw hx hx2
  | [x, y, z, u], hw, hs =>
    by_cases hx : x = wEdge
    · subst hx
      have e : lineR numW (n, l) [wEdge, y, z, u] = if (numW y).2 = 0 ∧ (numW z).2 = 0 ∧ (numW u).2 = 0 ∧ (numW y).1 < 512 ∧ (numW z).1 < 512 then edgeR n l false ((numW y).1, (numW z).1, (numW u).1) else none := by unfold lineR; rw [if_neg hn0]; simp; rfl
      rw [e]
      exact rline_edge4 w n A c l Aw cw Bw y z u hw (hs y (by simp)) (hs z (by simp)) (hs u (by simp)) h hc
    · by_cases hx2 : x = wBoth
      · subst hx2
        have e : lineR numW (n, l) [wBoth, y, z, u] = if (numW y).2 = 0 ∧ (numW z).2 = 0 ∧ (numW u).2 = 0 ∧ (numW y).1 < 512 ∧ (numW z).1 < 512 then edgeR n l true ((numW y).1, (numW z).1, (numW u).1) else none := by unfold lineR; rw [if_neg hn0]; simp
        rw [e]
        exact rline_both4 w n A c l Aw cw Bw y z u hw (hs y (by simp)) (hs z (by simp)) (hs u (by simp)) h hc
      · have e : lineR numW (n, l) [x, y, z, u] = none := by unfold lineR; rw [if_neg hn0]; simp [hx, hx2]
        rw [e]
        exact rline_word4 w n A c l Aw cw Bw x y z u hw hx hx2
  | [], hw, hs =>
    have e : lineR numW (n, l) [] = none := by unfold lineR; rw [if_neg hn0]
    rw [e]
    exact rline_len w n A c l Aw cw 0 (by decide) (by decide)
  | [x], hw, hs =>
    have e : lineR numW (n, l) [x] = none := by unfold lineR; rw [if_neg hn0]
    rw [e]
    exact rline_len w n A c l Aw cw 1 (by decide) (by decide)
  | [x, y], hw, hs =>
    have e : lineR numW (n, l) [x, y] = none := by unfold lineR; rw [if_neg hn0]
    rw [e]
    exact rline_len w n A c l Aw cw 2 (by decide) (by decide)
  | x :: y :: z :: u :: t :: ws, hw, hs =>
    have e : lineR numW (n, l) (x :: y :: z :: u :: t :: ws) = none := by unfold lineR; rw [if_neg hn0]
    rw [e]
    exact rline_len w n A c l Aw cw _ (by simp) (by simp)
/-- what the reference's Parse hands back -/
def RParseP (w : World) (T : Gr × Nat × Int) (R : Ending) (w' : World) : Prop :=
  Below w.heap.size w w' ∧ ∃ (A : Option Addr) (c : Nat), R = .returned (.tuple #[.agg #[.int .i64 T.1.1, .slice A T.1.2.length c], .int .i64 T.2.1, .int .i64 T.2.2]) ∧ T.1.2.length ≤ c ∧ w'.ownsRow w.heap.size 35 3 (.slice A T.1.2.length c) T.1.2.length (rcs edgC T.1.2)
theorem rparse_err {w w' : World} {i : Nat} {k : Int} {R : Ending} (hb : Below w.heap.size w w') (hR : R = .returned (.tuple #[.agg #[.int .i64 0, .slice none 0 0], .int .i64 i, .int .i64 k])) : RParseP w ((0, []), i, k) R w' :=
  ⟨hb, none, 0, hR, by simp, World.ownsRow_nil _ _ _ _⟩
/-- a state of the reference's Parse -/
structure RSt (w wr : World) (ls : List ByteArray) (vl : Value) (i : Nat) (n : Int) (A : Option Addr) (c : Nat) (l : List Edg) : Prop where
  below : Below w.heap.size w wr
  box : Blk wr (w.heap.size + 1) 25 #[.int .i64 n, .slice A l.length c]
  own : wr.ownsRow w.heap.size 35 3 (.slice A l.length c) l.length (rcs edgC l)
  cap : l.length ≤ c
  res : Blk wr w.heap.size 25 zeroG
  lines : wr.ownsRow w.heap.size 9 1 vl ls.length (ls.map Value.string)
  at_ : goL wordsP (lineR numW) 0 (0, []) ls = goL wordsP (lineR numW) i (n, l) (ls.drop i)
set_option maxRecDepth 100000 in
set_option maxHeartbeats 8000000 in
theorem rparse_any (s : ByteArray) (w : World) (hs : s.size ≤ 262144) :
    Calls Tryd.prog 11 #[.string s] w (RParseP w (textL wordsP (lineR numW) (linesP s))) := by
  have hsI : ¬ (262144 : Int) < (s.size : Int) := by omega
  have hB1 : Below w.heap.size w ((w.alloc (.cells #[.int .i64 0, .slice none 0 0] 25)).alloc (.cells #[.int .i64 0, .slice none 0 0] 25)) := ((Below.refl _ _).alloc (Nat.le_refl _) _).alloc (by simp) _
  have hK1 : Blk ((w.alloc (.cells #[.int .i64 0, .slice none 0 0] 25)).alloc (.cells #[.int .i64 0, .slice none 0 0] 25)) w.heap.size 25 zeroG := (Blk.new w 25 zeroG).alloc _
  have hK2 := Blk.new (w.alloc (.cells #[.int .i64 0, .slice none 0 0] 25)) 25 #[.int .i64 0, .slice none 0 0]
  rw [show (w.alloc (.cells #[.int .i64 0, .slice none 0 0] 25)).heap.size = w.heap.size + 1 from by simp] at hK2
  have hll := lines_few s hs
  have hlsz : ∀ x ∈ linesP s, x.size ≤ 1000000000 := lines_small s hs
  have hlc := linesR_any s ((w.alloc (.cells #[.int .i64 0, .slice none 0 0] 25)).alloc (.cells #[.int .i64 0, .slice none 0 0] 25)) (by omega)
  rw [← lines_eq] at hlc
  generalize linesP s = ls at *
  have HB1 := Lib.hid hB1; have HK1 := Lib.hid hK1; have HK2 := Lib.hid hK2; have HLC := Lib.hid hlc; have HLS := Lib.hid hlsz
  clear hB1 hK1 hK2 hlc hlsz
  go_enter Tryd.func11, Tryd.ntmps11
  go_wp2_with fail
  refine HLC.out.mono ?_
  clear HLC
  rintro R w2 ⟨vl, rfl, hol, hb2⟩
  obtain ⟨Al, cl, rfl, _⟩ := own_parts hol
  have hst : RSt w w2 ls (.slice Al ls.length cl) 0 0 none 0 [] := ⟨HB1.out.trans (hb2.mono HB1.out.size), HK2.out.below hb2 (by simp), World.ownsRow_nil _ _ _ _, by simp, HK1.out.below hb2 (by simp; omega), own_mono hol (by simp; omega), rfl⟩
  have HST := Lib.hid hst
  clear hst hol hb2 HB1 HK1 HK2
  go_wp2
  go_loopg [7] ls.length (fun gf vi wr => ∃ (i : Nat) (n : Int) (A : Option Addr) (c : Nat) (l : List Edg), vi = .int .i64 i ∧ i + gf = ls.length ∧ RSt w wr ls (.slice Al ls.length cl) i n A c l)
  case atStart => exact ⟨0, 0, none, 0, [], rfl, by omega, HST.out⟩
  case round =>
    clear HST
    obtain ⟨i, n, A, c, l, rfl, hi, hst⟩ := hrel
    have r0 := hst.res.cell 0; have r1 := hst.res.cell 1; have f0 := hst.res.frozen 0; have f1 := hst.res.frozen 1; have zr := hst.res.lt
    have g0 := hst.box.cell 0; have g1 := hst.box.cell 1; have y0 := hst.box.frozen 0; have y1 := hst.box.frozen 1; have zg := hst.box.lt
    unfold zeroG at r0 r1
    simp only [List.getElem?_toArray, List.getElem?_cons_zero, List.getElem?_cons_succ] at r0 r1 g0 g1
    cases gk with
    | zero =>
      obtain rfl : i = ls.length := by omega
      have hat := hst.at_
      rw [List.drop_length] at hat
      by_cases hn0 : n = 0
      · subst hn0
        have HT := Lib.hid (textL_none hat rfl); have HST := Lib.hid hst
        clear hat hst
        go_wp2
        have d0 := (HST.out.res.set_ 0 (.int .i64 0)).set_ 1 (.slice none 0 0)
        have d1 := d0.cell 0; have d2 := d0.cell 1
        unfold zeroG at d1 d2
        simp only [List.getElem?_toArray, List.setIfInBounds_toArray, List.set_cons_zero, List.set_cons_succ, List.getElem?_cons_zero, List.getElem?_cons_succ] at d1 d2
        refine bodyPost_ret (v := .tuple #[.agg #[.int .i64 0, .slice none 0 0], .int .i64 ((ls.length : Int) + 1), .int .i64 41]) (by simp [results, Tryd.results11, go_sem, d1, d2]) rfl ?_
        rw [HT.out]
        exact rparse_err (i := ls.length + 1) ((HST.out.below.setCell (p := ⟨w.heap.size, 0, none⟩) (Nat.le_refl _) _).setCell (p := ⟨w.heap.size, 1, none⟩) (Nat.le_refl _) _) (by go_num)
      · have hnb : (n == 0) = false := by simp [hn0]
        have HT := Lib.hid (textL_some hat hn0); have HST := Lib.hid hst
        clear hat hst hn0
        go_wp2
        have d0 := (HST.out.res.set_ 0 (.int .i64 n)).set_ 1 (.slice A l.length c)
        have d1 := d0.cell 0; have d2 := d0.cell 1
        unfold zeroG at d1 d2
        simp only [List.getElem?_toArray, List.setIfInBounds_toArray, List.set_cons_zero, List.set_cons_succ, List.getElem?_cons_zero, List.getElem?_cons_succ] at d1 d2
        have ho7 := own_keep (own_keep HST.out.own (type_set (i := 0) HST.out.res (by decide) (.int .i64 n))) (type_set (i := 1) (HST.out.res.set_ 0 (.int .i64 n)) (by decide) (.slice A l.length c))
        refine bodyPost_ret (v := .tuple #[.agg #[.int .i64 n, .slice A l.length c], .int .i64 0, .int .i64 0]) (by simp [results, Tryd.results11, go_sem, d1, d2]) rfl ?_
        rw [HT.out]
        exact ⟨(HST.out.below.setCell (p := ⟨w.heap.size, 0, none⟩) (Nat.le_refl _) _).setCell (p := ⟨w.heap.size, 1, none⟩) (Nat.le_refl _) _, A, c, rfl, HST.out.cap, ho7⟩
    | succ gf =>
      have hiI : (i : Int) < (ls.length : Int) := by omega
      obtain ⟨x, hx⟩ : ∃ x, ls[i]? = some x := ⟨_, List.getElem?_eq_getElem (by omega)⟩
      obtain ⟨b, cs, rfl, hb, hbs, hcell⟩ := words_own (ws := ls) hst.lines (by omega)
      have hxc := hcell i x hx
      have hxs := HLS.out x (List.mem_of_getElem? hx)
      have hcon := wordsR_any x wr (by omega)
      rw [← words_eq] at hcon
      have hat := hst.at_.trans (goL_at hx (n, l))
      have HC := Lib.hid hcon; have HAT := Lib.hid hat; have HST := Lib.hid hst
      clear hcon hat hst hx hcell hbs
      go_wp2_with fail
      refine HC.out.mono ?_
      clear HC r0 r1 f0 f1 zr g0 g1 y0 y1 zg
      rintro R w3 ⟨vw, rfl, how, hb3⟩
      obtain ⟨Aw, cw, rfl, _⟩ := own_parts how
      have hB3 := HST.out.below.trans (hb3.mono HST.out.below.size)
      have hres3 := HST.out.res.below hb3 HST.out.res.lt
      have hbox3 := HST.out.box.below hb3 HST.out.box.lt
      have how3 := own_below HST.out.own hb3
      have hli3 := own_below HST.out.lines hb3
      have r0 := hres3.cell 0; have r1 := hres3.cell 1; have f0 := hres3.frozen 0; have f1 := hres3.frozen 1; have zr := hres3.lt
      have g0 := hbox3.cell 0; have g1 := hbox3.cell 1; have y0 := hbox3.frozen 0; have y1 := hbox3.frozen 1; have zg := hbox3.lt
      unfold zeroG at r0 r1
      simp only [List.getElem?_toArray, List.getElem?_cons_zero, List.getElem?_cons_succ] at r0 r1 g0 g1
      have HB3 := Lib.hid hB3; have HRES := Lib.hid hres3; have HBOX := Lib.hid hbox3; have HOW := Lib.hid how3; have HLI := Lib.hid hli3
      clear hB3 hres3 hbox3 how3 hli3 hb3
      cases hwp : wordsP x with
      | none =>
        have hat := HAT.out
        rw [hwp] at hat
        have HT := Lib.hid (textL_err hat)
        clear hat hwp how
        simp only [Option.isSome_none, Bool.false_eq_true, if_false, Option.getD_none, List.length_nil]
        go_wp2
        have d0 := (HRES.out.set_ 0 (.int .i64 0)).set_ 1 (.slice none 0 0)
        have d1 := d0.cell 0; have d2 := d0.cell 1
        unfold zeroG at d1 d2
        simp only [List.getElem?_toArray, List.setIfInBounds_toArray, List.set_cons_zero, List.set_cons_succ, List.getElem?_cons_zero, List.getElem?_cons_succ] at d1 d2
        refine bodyPost_ret (v := .tuple #[.agg #[.int .i64 0, .slice none 0 0], .int .i64 ((i : Int) + 1), .int .i64 41]) (by simp [results, Tryd.results11, go_sem, d1, d2]) rfl ?_
        rw [HT.out]
        exact rparse_err (i := i + 1) ((HB3.out.setCell (p := ⟨w.heap.size, 0, none⟩) (Nat.le_refl _) _).setCell (p := ⟨w.heap.size, 1, none⟩) (Nat.le_refl _) _) (by go_num)
      | some ws =>
        rw [hwp] at how
        simp only [Option.getD_some] at how
        simp only [Option.isSome_some, if_true, Option.getD_some]
        have hsm := words_small hwp hxs
        cases ws with
        | nil =>
          have hat := HAT.out
          rw [hwp] at hat
          have HP : Hid (RSt w w3 ls (.slice (some ⟨b, 0, none⟩) ls.length cl) (i + 1) n A c l) := Lib.hid ⟨HB3.out, HBOX.out, HOW.out, HST.out.cap, HRES.out, HLI.out, hat⟩
          clear hat hwp how hsm
          simp only [List.length_nil]
          go_wp2
          go_roundg gf
          case measure => omega
          case rel => exact ⟨i + 1, n, A, c, l, by go_num, by omega, HP.out⟩
        | cons y ws =>
          have hat := HAT.out
          rw [hwp] at hat
          dsimp only at hat
          have hlenb : (((y :: ws).length : Int) == 0) = false := by simp; omega
          by_cases hn0 : n = 0
          · subst hn0
            have hvl : lineR numW (0, l) (y :: ws) = match y :: ws with
                | [a, b] => if a = wVertices ∧ (numW b).2 = 0 ∧ 1 ≤ (numW b).1 ∧ (numW b).1 ≤ 512 then some ((numW b).1, l) else none
                | _ => none := by unfold lineR; rw [if_pos rfl]; rfl
            match ws, how, hsm, hlenb, hat, hvl with
            | [z], how, hsm, hlenb, hat, hvl =>
              obtain ⟨bw, csw, rfl, hbw, _, hcw⟩ := words_own (ws := [y, z]) how (by simp)
              have c0 := hcw 0 y rfl
              have c1 := hcw 1 z rfl
              by_cases hy : y = wVertices
              · subst hy
                unfold wVertices at c0
                have hcn := refNumber_b z w3 (hsm z (by simp))
                dsimp only at hvl
                obtain ⟨p, ep, hpe⟩ : ∃ a b, numW z = (a, b) := ⟨_, _, rfl⟩
                rw [hpe] at hcn hvl
                dsimp only at hcn hvl
                have HC := Lib.hid hcn; have HAT2 := Lib.hid hat; have HVL := Lib.hid hvl
                clear hcn hat hvl hpe how hsm hcw hwp
                simp only [List.length_cons, List.length_nil]
                by_cases hep : ep = 0
                · subst hep
                  by_cases h1 : 1 ≤ p
                  · by_cases h2 : p ≤ 512
                    · have hat := HAT2.out
                      have hvl := HVL.out
                      rw [if_pos ⟨rfl, rfl, h1, h2⟩] at hvl
                      rw [hvl] at hat
                      have HAT3 := Lib.hid hat
                      clear hat hvl
                      go_wp2_with fail
                      refine HC.out.mono ?_
                      clear HC r0 r1 f0 f1 zr g0 g1 y0 y1 zg
                      rintro R w4 ⟨rfl, hb4⟩
                      have hB4 := HB3.out.trans (hb4.mono HB3.out.size)
                      have hres4 := HRES.out.below hb4 HRES.out.lt
                      have hbox4 := HBOX.out.below hb4 HBOX.out.lt
                      have hli4 := own_below HLI.out hb4
                      have how4 := own_below HOW.out hb4
                      have r0 := hres4.cell 0; have r1 := hres4.cell 1; have f0 := hres4.frozen 0; have f1 := hres4.frozen 1; have zr := hres4.lt
                      have g0 := hbox4.cell 0; have g1 := hbox4.cell 1; have y0 := hbox4.frozen 0; have y1 := hbox4.frozen 1; have zg := hbox4.lt
                      unfold zeroG at r0 r1
                      simp only [List.getElem?_toArray, List.getElem?_cons_zero, List.getElem?_cons_succ] at r0 r1 g0 g1
                      have HB4 := Lib.hid hB4; have HRES4 := Lib.hid hres4; have HBOX4 := Lib.hid hbox4; have HLI4 := Lib.hid hli4; have HOW4 := Lib.hid how4
                      clear hB4 hres4 hbox4 hli4 hb4 how4 c0 c1
                      have hr5 := HRES4.out.far (p := ⟨w.heap.size + 1, 0, none⟩) (by show w.heap.size ≠ w.heap.size + 1; omega) (.int .i64 p)
                      have hb5 := HB4.out.setCell (p := ⟨w.heap.size + 1, 0, none⟩) (Nat.le_succ _) (.int .i64 p)
                      have hx5 := HBOX4.out.set_ 0 (.int .i64 p)
                      have ho5 := own_keep HOW4.out (type_set (i := 0) HBOX4.out (by decide) (.int .i64 p))
                      have hl5 := own_keep HLI4.out (type_set (i := 0) HBOX4.out (by decide) (.int .i64 p))
                      have HP : Hid (RSt w (w4.setCell ⟨w.heap.size + 1, 0, none⟩ (.int .i64 p)) ls (.slice (some ⟨b, 0, none⟩) ls.length cl) (i + 1) p A c l) := Lib.hid ⟨hb5, hx5, ho5, HST.out.cap, hr5, hl5, HAT3.out⟩
                      clear hr5 hb5 hx5 ho5 hl5
                      go_wp2
                      go_roundg gf
                      case measure => omega
                      case rel => exact ⟨i + 1, p, A, c, l, by go_num, by omega, HP.out⟩
                    · have hat := HAT2.out
                      have hvl := HVL.out
                      rw [if_neg (fun h => h2 h.2.2.2)] at hvl
                      rw [hvl] at hat
                      have hd2 : decide (p ≤ 512) = false := decide_eq_false h2
                      have HT := Lib.hid (textL_err hat)
                      clear hat hvl
                      go_wp2_with fail
                      refine HC.out.mono ?_
                      clear HC r0 r1 f0 f1 zr g0 g1 y0 y1 zg
                      rintro R w4 ⟨rfl, hb4⟩
                      have hB4 := HB3.out.trans (hb4.mono HB3.out.size)
                      have hres4 := HRES.out.below hb4 HRES.out.lt
                      have hbox4 := HBOX.out.below hb4 HBOX.out.lt
                      have hli4 := own_below HLI.out hb4
                      have how4 := own_below HOW.out hb4
                      have r0 := hres4.cell 0; have r1 := hres4.cell 1; have f0 := hres4.frozen 0; have f1 := hres4.frozen 1; have zr := hres4.lt
                      have g0 := hbox4.cell 0; have g1 := hbox4.cell 1; have y0 := hbox4.frozen 0; have y1 := hbox4.frozen 1; have zg := hbox4.lt
                      unfold zeroG at r0 r1
                      simp only [List.getElem?_toArray, List.getElem?_cons_zero, List.getElem?_cons_succ] at r0 r1 g0 g1
                      have HB4 := Lib.hid hB4; have HRES4 := Lib.hid hres4; have HBOX4 := Lib.hid hbox4; have HLI4 := Lib.hid hli4; have HOW4 := Lib.hid how4
                      clear hB4 hres4 hbox4 hli4 hb4 how4 c0 c1
                      go_wp2
                      have d0 := (HRES4.out.set_ 0 (.int .i64 0)).set_ 1 (.slice none 0 0)
                      have d1 := d0.cell 0; have d2 := d0.cell 1
                      unfold zeroG at d1 d2
                      simp only [List.getElem?_toArray, List.setIfInBounds_toArray, List.set_cons_zero, List.set_cons_succ, List.getElem?_cons_zero, List.getElem?_cons_succ] at d1 d2
                      refine bodyPost_ret (v := .tuple #[.agg #[.int .i64 0, .slice none 0 0], .int .i64 ((i : Int) + 1), .int .i64 41]) (by simp [results, Tryd.results11, go_sem, d1, d2]) rfl ?_
                      rw [HT.out]
                      exact rparse_err (i := i + 1) ((HB4.out.setCell (p := ⟨w.heap.size, 0, none⟩) (Nat.le_refl _) _).setCell (p := ⟨w.heap.size, 1, none⟩) (Nat.le_refl _) _) (by go_num)
                  · have hat := HAT2.out
                    have hvl := HVL.out
                    rw [if_neg (fun h => h1 h.2.2.1)] at hvl
                    rw [hvl] at hat
                    have HT := Lib.hid (textL_err hat)
                    clear hat hvl
                    go_wp2_with fail
                    refine HC.out.mono ?_
                    clear HC r0 r1 f0 f1 zr g0 g1 y0 y1 zg
                    rintro R w4 ⟨rfl, hb4⟩
                    have hB4 := HB3.out.trans (hb4.mono HB3.out.size)
                    have hres4 := HRES.out.below hb4 HRES.out.lt
                    have hbox4 := HBOX.out.below hb4 HBOX.out.lt
                    have hli4 := own_below HLI.out hb4
                    have how4 := own_below HOW.out hb4
                    have r0 := hres4.cell 0; have r1 := hres4.cell 1; have f0 := hres4.frozen 0; have f1 := hres4.frozen 1; have zr := hres4.lt
                    have g0 := hbox4.cell 0; have g1 := hbox4.cell 1; have y0 := hbox4.frozen 0; have y1 := hbox4.frozen 1; have zg := hbox4.lt
                    unfold zeroG at r0 r1
                    simp only [List.getElem?_toArray, List.getElem?_cons_zero, List.getElem?_cons_succ] at r0 r1 g0 g1
                    have HB4 := Lib.hid hB4; have HRES4 := Lib.hid hres4; have HBOX4 := Lib.hid hbox4; have HLI4 := Lib.hid hli4; have HOW4 := Lib.hid how4
                    clear hB4 hres4 hbox4 hli4 hb4 how4 c0 c1
                    go_wp2
                    have d0 := (HRES4.out.set_ 0 (.int .i64 0)).set_ 1 (.slice none 0 0)
                    have d1 := d0.cell 0; have d2 := d0.cell 1
                    unfold zeroG at d1 d2
                    simp only [List.getElem?_toArray, List.setIfInBounds_toArray, List.set_cons_zero, List.set_cons_succ, List.getElem?_cons_zero, List.getElem?_cons_succ] at d1 d2
                    refine bodyPost_ret (v := .tuple #[.agg #[.int .i64 0, .slice none 0 0], .int .i64 ((i : Int) + 1), .int .i64 41]) (by simp [results, Tryd.results11, go_sem, d1, d2]) rfl ?_
                    rw [HT.out]
                    exact rparse_err (i := i + 1) ((HB4.out.setCell (p := ⟨w.heap.size, 0, none⟩) (Nat.le_refl _) _).setCell (p := ⟨w.heap.size, 1, none⟩) (Nat.le_refl _) _) (by go_num)
                · have hat := HAT2.out
                  have hvl := HVL.out
                  rw [if_neg (fun h => hep h.2.1)] at hvl
                  rw [hvl] at hat
                  have HT := Lib.hid (textL_err hat)
                  have heb : (ep == 0) = false := by simp [hep]
                  clear hat hvl hep
                  go_wp2_with fail
                  refine HC.out.mono ?_
                  clear HC r0 r1 f0 f1 zr g0 g1 y0 y1 zg
                  rintro R w4 ⟨rfl, hb4⟩
                  have hB4 := HB3.out.trans (hb4.mono HB3.out.size)
                  have hres4 := HRES.out.below hb4 HRES.out.lt
                  have hbox4 := HBOX.out.below hb4 HBOX.out.lt
                  have hli4 := own_below HLI.out hb4
                  have how4 := own_below HOW.out hb4
                  have r0 := hres4.cell 0; have r1 := hres4.cell 1; have f0 := hres4.frozen 0; have f1 := hres4.frozen 1; have zr := hres4.lt
                  have g0 := hbox4.cell 0; have g1 := hbox4.cell 1; have y0 := hbox4.frozen 0; have y1 := hbox4.frozen 1; have zg := hbox4.lt
                  unfold zeroG at r0 r1
                  simp only [List.getElem?_toArray, List.getElem?_cons_zero, List.getElem?_cons_succ] at r0 r1 g0 g1
                  have HB4 := Lib.hid hB4; have HRES4 := Lib.hid hres4; have HBOX4 := Lib.hid hbox4; have HLI4 := Lib.hid hli4; have HOW4 := Lib.hid how4
                  clear hB4 hres4 hbox4 hli4 hb4 how4 c0 c1
                  go_wp2
                  have d0 := (HRES4.out.set_ 0 (.int .i64 0)).set_ 1 (.slice none 0 0)
                  have d1 := d0.cell 0; have d2 := d0.cell 1
                  unfold zeroG at d1 d2
                  simp only [List.getElem?_toArray, List.setIfInBounds_toArray, List.set_cons_zero, List.set_cons_succ, List.getElem?_cons_zero, List.getElem?_cons_succ] at d1 d2
                  refine bodyPost_ret (v := .tuple #[.agg #[.int .i64 0, .slice none 0 0], .int .i64 ((i : Int) + 1), .int .i64 41]) (by simp [results, Tryd.results11, go_sem, d1, d2]) rfl ?_
                  rw [HT.out]
                  exact rparse_err (i := i + 1) ((HB4.out.setCell (p := ⟨w.heap.size, 0, none⟩) (Nat.le_refl _) _).setCell (p := ⟨w.heap.size, 1, none⟩) (Nat.le_refl _) _) (by go_num)
              · have hyb : (y.toList == [118, 101, 114, 116, 105, 99, 101, 115]) = false := by rw [← wV_list, bytes_ne_ hy]
                have hno : lineR numW (0, l) [y, z] = none := by rw [hvl]; simp [hy]
                rw [hno] at hat
                have HT := Lib.hid (textL_err hat)
                clear hat hwp how hsm hvl hno hcw hy
                simp only [List.length_cons, List.length_nil]
                go_wp2
                have d0 := (HRES.out.set_ 0 (.int .i64 0)).set_ 1 (.slice none 0 0)
                have d1 := d0.cell 0; have d2 := d0.cell 1
                unfold zeroG at d1 d2
                simp only [List.getElem?_toArray, List.setIfInBounds_toArray, List.set_cons_zero, List.set_cons_succ, List.getElem?_cons_zero, List.getElem?_cons_succ] at d1 d2
                refine bodyPost_ret (v := .tuple #[.agg #[.int .i64 0, .slice none 0 0], .int .i64 ((i : Int) + 1), .int .i64 41]) (by simp [results, Tryd.results11, go_sem, d1, d2]) rfl ?_
                rw [HT.out]
                exact rparse_err (i := i + 1) ((HB3.out.setCell (p := ⟨w.heap.size, 0, none⟩) (Nat.le_refl _) _).setCell (p := ⟨w.heap.size, 1, none⟩) (Nat.le_refl _) _) (by go_num)
            | [], how, hsm, hlenb, hat, hvl =>
              dsimp only at hvl
              rw [hvl] at hat
              have HT := Lib.hid (textL_err hat)
              clear hat hwp how hsm hvl
              simp only [List.length_cons, List.length_nil]
              go_wp2
              have d0 := (HRES.out.set_ 0 (.int .i64 0)).set_ 1 (.slice none 0 0)
              have d1 := d0.cell 0; have d2 := d0.cell 1
              unfold zeroG at d1 d2
              simp only [List.getElem?_toArray, List.setIfInBounds_toArray, List.set_cons_zero, List.set_cons_succ, List.getElem?_cons_zero, List.getElem?_cons_succ] at d1 d2
              refine bodyPost_ret (v := .tuple #[.agg #[.int .i64 0, .slice none 0 0], .int .i64 ((i : Int) + 1), .int .i64 41]) (by simp [results, Tryd.results11, go_sem, d1, d2]) rfl ?_
              rw [HT.out]
              exact rparse_err (i := i + 1) ((HB3.out.setCell (p := ⟨w.heap.size, 0, none⟩) (Nat.le_refl _) _).setCell (p := ⟨w.heap.size, 1, none⟩) (Nat.le_refl _) _) (by go_num)
            | z :: u :: ws, how, hsm, hlenb, hat, hvl =>
              dsimp only at hvl
              rw [hvl] at hat
              have HT := Lib.hid (textL_err hat)
              have hl2 : (((y :: z :: u :: ws).length : Int) == 2) = false := by simp; omega
              obtain ⟨q, hq⟩ : ∃ q, (y :: z :: u :: ws).length = q := ⟨_, rfl⟩
              rw [hq] at hl2 hlenb ⊢
              clear hat hwp how hsm hvl hq
              go_wp2
              have d0 := (HRES.out.set_ 0 (.int .i64 0)).set_ 1 (.slice none 0 0)
              have d1 := d0.cell 0; have d2 := d0.cell 1
              unfold zeroG at d1 d2
              simp only [List.getElem?_toArray, List.setIfInBounds_toArray, List.set_cons_zero, List.set_cons_succ, List.getElem?_cons_zero, List.getElem?_cons_succ] at d1 d2
              refine bodyPost_ret (v := .tuple #[.agg #[.int .i64 0, .slice none 0 0], .int .i64 ((i : Int) + 1), .int .i64 41]) (by simp [results, Tryd.results11, go_sem, d1, d2]) rfl ?_
              rw [HT.out]
              exact rparse_err (i := i + 1) ((HB3.out.setCell (p := ⟨w.heap.size, 0, none⟩) (Nat.le_refl _) _).setCell (p := ⟨w.heap.size, 1, none⟩) (Nat.le_refl _) _) (by go_num)
          · have hnb : (n == 0) = false := by simp [hn0]
            have hcon := rline_any w3 n A c l (Rs.of_own HOW.out) HST.out.cap Aw cw _ (y :: ws) how hsm hn0
            obtain ⟨q, hq⟩ : ∃ q, (y :: ws).length = q := ⟨_, rfl⟩
            rw [hq] at hcon hlenb ⊢
            have HC := Lib.hid hcon; have HAT2 := Lib.hid hat
            clear hcon hat hwp how hsm hq
            go_wp2_with fail
            refine HC.out.mono ?_
            clear HC r0 r1 f0 f1 zr g0 g1 y0 y1 zg
            rintro R w4 ⟨hb4, h4⟩
            have hB4 := HB3.out.trans (hb4.mono HB3.out.size)
            have hres4 := HRES.out.below hb4 HRES.out.lt
            have hbox4 := HBOX.out.below hb4 HBOX.out.lt
            have hli4 := own_below HLI.out hb4
            have r0 := hres4.cell 0; have r1 := hres4.cell 1; have f0 := hres4.frozen 0; have f1 := hres4.frozen 1; have zr := hres4.lt
            have g0 := hbox4.cell 0; have g1 := hbox4.cell 1; have y0 := hbox4.frozen 0; have y1 := hbox4.frozen 1; have zg := hbox4.lt
            unfold zeroG at r0 r1
            simp only [List.getElem?_toArray, List.getElem?_cons_zero, List.getElem?_cons_succ] at r0 r1 g0 g1
            have HB4 := Lib.hid hB4; have HRES4 := Lib.hid hres4; have HBOX4 := Lib.hid hbox4; have HLI4 := Lib.hid hli4
            clear hB4 hres4 hbox4 hli4 hb4
            have hzz : w.heap.size + 1 ≠ w.heap.size := by omega
            cases hlr : lineR numW (n, l) (y :: ws) with
            | none =>
              have hat := HAT2.out
              rw [hlr] at hat h4
              obtain ⟨A', k', c', rfl⟩ := h4
              have HT := Lib.hid (textL_err hat)
              have hr5 := (HRES4.out.far (p := ⟨w.heap.size + 1, 0, none⟩) (by show w.heap.size ≠ w.heap.size + 1; omega) (.int .i64 n)).far (p := ⟨w.heap.size + 1, 1, none⟩) (by show w.heap.size ≠ w.heap.size + 1; omega) (.slice A' k' c')
              have hb5 := (HB4.out.setCell (p := ⟨w.heap.size + 1, 0, none⟩) (Nat.le_succ _) (.int .i64 n)).setCell (p := ⟨w.heap.size + 1, 1, none⟩) (Nat.le_succ _) (.slice A' k' c')
              have HR5 := Lib.hid hr5; have HB5 := Lib.hid hb5
              clear hat hlr hr5 hb5
              go_wp2
              have d0 := (HR5.out.set_ 0 (.int .i64 0)).set_ 1 (.slice none 0 0)
              have d1 := d0.cell 0; have d2 := d0.cell 1
              unfold zeroG at d1 d2
              simp only [List.getElem?_toArray, List.setIfInBounds_toArray, List.set_cons_zero, List.set_cons_succ, List.getElem?_cons_zero, List.getElem?_cons_succ] at d1 d2
              refine bodyPost_ret (v := .tuple #[.agg #[.int .i64 0, .slice none 0 0], .int .i64 ((i : Int) + 1), .int .i64 41]) (by simp [results, Tryd.results11, go_sem, d1, d2]) rfl ?_
              rw [HT.out]
              exact rparse_err (i := i + 1) ((HB5.out.setCell (p := ⟨w.heap.size, 0, none⟩) (Nat.le_refl _) _).setCell (p := ⟨w.heap.size, 1, none⟩) (Nat.le_refl _) _) (by go_num)
            | some g =>
              have hat := HAT2.out
              rw [hlr] at hat h4
              obtain ⟨A', c', rfl, hc4, ho4⟩ := h4
              have hr5 := (HRES4.out.far (p := ⟨w.heap.size + 1, 0, none⟩) (by show w.heap.size ≠ w.heap.size + 1; omega) (.int .i64 g.1)).far (p := ⟨w.heap.size + 1, 1, none⟩) (by show w.heap.size ≠ w.heap.size + 1; omega) (.slice A' g.2.length c')
              have hb5 := (HB4.out.setCell (p := ⟨w.heap.size + 1, 0, none⟩) (Nat.le_succ _) (.int .i64 g.1)).setCell (p := ⟨w.heap.size + 1, 1, none⟩) (Nat.le_succ _) (.slice A' g.2.length c')
              have hx5 := (HBOX4.out.set_ 0 (.int .i64 g.1)).set_ 1 (.slice A' g.2.length c')
              have ho5 := own_keep (own_keep (own_mono ho4 (show w.heap.size ≤ w3.heap.size from HB3.out.size)) (type_set (i := 0) HBOX4.out (by decide) (.int .i64 g.1))) (type_set (i := 1) (HBOX4.out.set_ 0 (.int .i64 g.1)) (by decide) (.slice A' g.2.length c'))
              have hl5 := own_keep (own_keep HLI4.out (type_set (i := 0) HBOX4.out (by decide) (.int .i64 g.1))) (type_set (i := 1) (HBOX4.out.set_ 0 (.int .i64 g.1)) (by decide) (.slice A' g.2.length c'))
              have HP : Hid (RSt w ((w4.setCell ⟨w.heap.size + 1, 0, none⟩ (.int .i64 g.1)).setCell ⟨w.heap.size + 1, 1, none⟩ (.slice A' g.2.length c')) ls (.slice (some ⟨b, 0, none⟩) ls.length cl) (i + 1) g.1 A' c' g.2) := Lib.hid ⟨hb5, hx5, ho5, hc4, hr5, hl5, hat⟩
              clear hat hlr hr5 hb5 hx5 ho5 hl5 ho4 hc4
              go_wp2
              go_roundg gf
              case measure => omega
              case rel => exact ⟨i + 1, g.1, A', c', g.2, by go_num, by omega, HP.out⟩
end Go.Proofs.YtknigkjbnaoldaaDoor
