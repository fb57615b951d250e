/- The program's Parse. -/
import Derived.Test.YtknigkjbnaoldaaDoorGrJ
import Derived.Test.YtknigkjbnaoldaaDoorWordsV
import Derived.Test.YtknigkjbnaoldaaDoorWordsM
import Derived.Test.YtknigkjbnaoldaaDoorLinesL
namespace Go.Proofs.YtknigkjbnaoldaaDoor
open Go.RowKit Go.Maps

/-- what is left of a text's lines, behind some of them -/
theorem goL_at {words : ByteArray → Option (List ByteArray)} {line : Gr → List ByteArray → Option Gr} {ls : List ByteArray} {i : Nat} {s : ByteArray} (h : ls[i]? = some s) (g : Gr) :
    goL words line i g (ls.drop i) = match words s with
      | none => .inl (i + 1)
      | some [] => goL words line (i + 1) g (ls.drop (i + 1))
      | some w => match line g w with
        | none => .inl (i + 1)
        | some g' => goL words line (i + 1) g' (ls.drop (i + 1)) := by
  have hlt := (List.getElem?_eq_some_iff.1 h).1
  have hd : ls.drop i = s :: ls.drop (i + 1) := by
    rw [List.drop_eq_getElem_cons hlt]
    rw [List.getElem?_eq_getElem hlt] at h
    injection h with h
    rw [h]
  rw [hd]
  conv => lhs; unfold goL
  cases words s with
  | none => rfl
  | some w => cases w with
    | nil => rfl
    | cons x w => rfl
theorem sum_ge {l : List ByteArray} {x : ByteArray} (hx : x ∈ l) : x.size + 1 ≤ (l.map fun w => w.size + 1).sum := by
  induction l with
  | nil => cases hx
  | cons a l ih =>
    rcases List.mem_cons.1 hx with rfl | hx
    · simp
    · have := ih hx; simp at this ⊢; omega
theorem lines_small (s : ByteArray) (hs : s.size ≤ 262144) : ∀ x ∈ linesP s, x.size ≤ 1000000000 := by
  intro x hx
  have h1 := sum_ge hx
  have h4 := lin_size s.data.toList []
  have h5 : ((linesP s).map fun w => w.size + 1).sum = ((lin s.data.toList []).map fun g => g.length + 1).sum := by
    rw [linesP_eq, List.map_map]
    congr 2
  rw [h5] at h1
  have h6 : s.data.toList.length = s.size := by simp
  simp at h4
  omega
theorem lines_few (s : ByteArray) (hs : s.size ≤ 262144) : (linesP s).length ≤ 1000000 := by
  have h4 := lin_size s.data.toList []
  have h5 : ((linesP s).map fun w => w.size + 1).sum = ((lin s.data.toList []).map fun g => g.length + 1).sum := by
    rw [linesP_eq, List.map_map]
    congr 2
  have h6 : s.data.toList.length = s.size := by simp
  have h7 : ∀ l : List ByteArray, l.length ≤ (l.map fun w => w.size + 1).sum := by
    intro l
    induction l with
    | nil => simp
    | cons a l ih => simp at ih ⊢; omega
  have := h7 (linesP s)
  simp at h4
  omega
/-- which words there are in a line are no greater than it -/
theorem words_small {s : ByteArray} {ws : List ByteArray} (h : wordsP s = some ws) (hs : s.size ≤ 1000000000) : ∀ x ∈ ws, x.size ≤ 4294967296 := by
  intro x hx
  have h1 := words_size s ws h
  have h2 := sum_ge hx
  omega
theorem Stay.own {w w' : World} {B r mb b n size : Nat} {nn : Int} {v v' : Value} {l : List Edg} {e : TypeId} {xs : List Value} (h : Stay r mb v.ownBlock w w') (hr : RdrIs w B r mb nn v l) (he : e ≠ 49) (he2 : e ≠ 35) (ho : w.ownsRow b e size v' n xs) : w'.ownsRow b e size v' n xs := by
  refine own_keep ho fun g cs fz hg => h.block g (Array.getElem?_eq_some_iff.1 hg).1 (fun e' => ?_) (fun e' => ?_) (fun e' => ?_)
  · subst e'
    have h8 := hr.blk
    unfold Blk at h8
    rw [h8] at hg
    injection hg with hg
    injection hg with _ h9
    exact he h9.symm
  · exact hr.seen.no_cells hg e'.symm
  · rcases hr.own.2 with ⟨h1, _⟩ | ⟨g', cap, cur, h1, _, hg', _⟩
    · rw [h1] at e'; cases e'
    · rw [h1] at e'
      simp only [Value.ownBlock, Option.some.injEq] at e'
      subst e'
      rw [hg'] at hg
      injection hg with hg
      injection hg with _ h9
      exact he2 h9.symm
theorem Stay.blk' {w w' : World} {B r mb g : Nat} {nn : Int} {v : Value} {l : List Edg} {t : TypeId} {cs : Array Value} (h : Stay r mb v.ownBlock w w') (hr : RdrIs w B r mb nn v l) (hg : g < B) (hb : Blk w g t cs) : Blk w' g t cs :=
  h.blk hb (fun e => by have := hr.r; omega) (fun e => by have := hr.mb; omega) (fun e => by have := (hr.own.lt g e.symm).1; omega)
/-- which graphs a text's lines come to -/
theorem lineP_few {g g' : Gr} {ws : List ByteArray} (h : lineP numW g ws = some g') (hn : 0 ≤ g.1 ∧ g.1 ≤ 512) (hl : g.2.length ≤ 8192) : (0 ≤ g'.1 ∧ g'.1 ≤ 512) ∧ g'.2.length ≤ 8192 := by
  have hadd : ∀ {n : Int} {l m : List Edg} {e : Edg}, l.length ≤ 8192 → addP n l e = some m → m.length ≤ 8192 := fun hl h => by
    obtain ⟨rfl, h8⟩ := addP_some h
    simp; omega
  have hedge : ∀ {n : Int} {l : List Edg} {bt : Bool} {e : Edg}, 0 ≤ n ∧ n ≤ 512 → l.length ≤ 8192 → edgeP n l bt e = some g' → (0 ≤ g'.1 ∧ g'.1 ≤ 512) ∧ g'.2.length ≤ 8192 := by
    intro n l bt e hn hl h
    unfold edgeP at h
    cases h1 : addP n l e with
    | none => rw [h1] at h; cases h
    | some m =>
      rw [h1] at h
      dsimp only at h
      split at h
      · rw [Option.map_eq_some_iff] at h
        obtain ⟨m2, h2, rfl⟩ := h
        exact ⟨hn, hadd (hadd hl h1) h2⟩
      · injection h with h
        subst h
        exact ⟨hn, hadd hl h1⟩
  unfold lineP at h
  split at h
  · split at h
    · split at h
      · rename_i y hy
        injection h with h
        subst h
        refine ⟨⟨Int.le_of_lt hy.2, ?_⟩, hl⟩
        have h3 := hy.2
        dsimp only
        unfold numB at h3 ⊢
        split
        · omega
        · rename_i h4; omega
      · cases h
    · cases h
  · split at h
    · split at h
      · exact hedge hn hl h
      · cases h
    · split at h
      · exact hedge hn hl h
      · cases h
    · cases h
def zeroG : Array Value := #[.int .i64 0, .slice none 0 0]
/-- what Parse hands back -/
def ParseP (w : World) (T : Gr × Nat × Int) (R : Ending) (w' : World) : Prop :=
  Below w.heap.size w w' ∧ ∃ (A : Option Addr) (c : Nat) (l : List Edg), R = .returned (.tuple #[.agg #[.int .i64 T.1.1, .slice A l.length c], .int .i64 T.2.1, .int .i64 T.2.2]) ∧ l.length ≤ c ∧ w'.ownsRow w.heap.size 35 3 (.slice A l.length c) l.length (rcs edgC l) ∧ SortedE l ∧ ∀ p, p ∈ l ↔ p ∈ T.1.2
theorem parse_err {w w' : World} {i : Nat} {k : Int} {R : Ending} (hb : Below w.heap.size w w') (hR : R = .returned (.tuple #[.agg #[.int .i64 0, .slice none 0 0], .int .i64 i, .int .i64 k])) : ParseP w ((0, []), i, k) R w' :=
  ⟨hb, none, 0, [], hR, by simp, World.ownsRow_nil _ _ _ _, List.Pairwise.nil, fun p => Iff.rfl⟩
theorem textL_err {words : ByteArray → Option (List ByteArray)} {line : Gr → List ByteArray → Option Gr} {ls : List ByteArray} {i : Nat} (h : goL words line 0 (0, []) ls = .inl i) : textL words line ls = ((0, []), i, 41) := by unfold textL; rw [h]
theorem textL_none {words : ByteArray → Option (List ByteArray)} {line : Gr → List ByteArray → Option Gr} {ls : List ByteArray} {g : Gr} (h : goL words line 0 (0, []) ls = .inr g) (h0 : g.1 = 0) : textL words line ls = ((0, []), ls.length + 1, 41) := by unfold textL; rw [h]; simp [h0]
theorem textL_some {words : ByteArray → Option (List ByteArray)} {line : Gr → List ByteArray → Option Gr} {ls : List ByteArray} {g : Gr} (h : goL words line 0 (0, []) ls = .inr g) (h0 : g.1 ≠ 0) : textL words line ls = (g, 0, 0) := by unfold textL; rw [h]; simp [h0]
theorem goL_apart {ls : List ByteArray} {g : Gr} (h : goL wordsP (lineP numW) 0 (0, []) ls = .inr g) : g.2.Pairwise fun x y => sameE x y = false := by
  have h0 : GrRel (0, []) (0, []) := ⟨rfl, .refl _, List.Pairwise.nil, by simp⟩
  rcases goL_rel numW wordsP ls 0 h0 with ⟨j, h1, _⟩ | ⟨a, b, h1, _, h3⟩
  · rw [h1] at h; cases h
  · rw [h1] at h
    injection h with h
    subst h
    exact rel_apart h3
/-- a state of Parse -/
structure PSt (w wr : World) (ls : List ByteArray) (vl : Value) (i : Nat) (n : Int) (v : Value) (l : List Edg) : Prop where
  below : Below w.heap.size w wr
  rdr : RdrIs wr (w.heap.size + 1) (w.heap.size + 2) (w.heap.size + 1) n v l
  res : Blk wr w.heap.size 25 zeroG
  lines : wr.ownsRow w.heap.size 9 1 vl ls.length (ls.map Value.string)
  at_ : goL wordsP (lineP numW) 0 (0, []) ls = goL wordsP (lineP numW) i (n, l) (ls.drop i)
  n0 : 0 ≤ n ∧ n ≤ 512
  few : l.length ≤ 8192
set_option maxRecDepth 100000 in
set_option maxHeartbeats 8000000 in
theorem parse_any (s : ByteArray) (w : World) (hs : s.size ≤ 262144) (hF : Firsts w) :
    Calls Tryd.prog 10 #[.string s] w (ParseP w (textL wordsP (lineP numW) (linesP s))) := by
  have hsI : ¬ (262144 : Int) < (s.size : Int) := by omega
  have hz := firsts_lt hF
  have hmm := @run_makeMap Tryd.prog
  -- the reader
  have hB1 : Below w.heap.size w (((w.alloc (.cells #[.int .i64 0, .slice none 0 0] 25)).alloc (.map #[] 0)).alloc (.cells #[.int .i64 0, .slice none 0 0, .map (some (w.heap.size + 1))] 49)) := (((Below.refl _ _).alloc (Nat.le_refl _) _).alloc (by simp) _).alloc (by simp; omega) _
  have hK1 : Blk (((w.alloc (.cells #[.int .i64 0, .slice none 0 0] 25)).alloc (.map #[] 0)).alloc (.cells #[.int .i64 0, .slice none 0 0, .map (some (w.heap.size + 1))] 49)) w.heap.size 25 zeroG := ((Blk.new w 25 zeroG).alloc _).alloc _
  have hM1 := SeenIs.made (w.alloc (.cells #[.int .i64 0, .slice none 0 0] 25))
  rw [show (w.alloc (.cells #[.int .i64 0, .slice none 0 0] 25)).heap.size = w.heap.size + 1 from by simp] at hM1
  have hR0 := Blk.new ((w.alloc (.cells #[.int .i64 0, .slice none 0 0] 25)).alloc (.map #[] 0)) 49 #[.int .i64 0, .slice none 0 0, .map (some (w.heap.size + 1))]
  rw [show ((w.alloc (.cells #[.int .i64 0, .slice none 0 0] 25)).alloc (.map #[] 0)).heap.size = w.heap.size + 2 from by simp] at hR0
  have hR1 : RdrIs (((w.alloc (.cells #[.int .i64 0, .slice none 0 0] 25)).alloc (.map #[] 0)).alloc (.cells #[.int .i64 0, .slice none 0 0, .map (some (w.heap.size + 1))] 49)) (w.heap.size + 1) (w.heap.size + 2) (w.heap.size + 1) 0 (.slice none 0 0) [] :=
    ⟨hR0, World.ownsRow_nil _ _ _ _, hM1.kept (Below.heap_alloc _ _ _ (by simp)), by omega, by omega⟩
  have hll := lines_few s hs
  have hlsz : ∀ x ∈ linesP s, x.size ≤ 1000000000 := lines_small s hs
  have hlc := linesP_any s (((w.alloc (.cells #[.int .i64 0, .slice none 0 0] 25)).alloc (.map #[] 0)).alloc (.cells #[.int .i64 0, .slice none 0 0, .map (some (w.heap.size + 1))] 49)) (by omega)
  generalize linesP s = ls at *
  have HB1 := Lib.hid hB1; have HK1 := Lib.hid hK1; have HR1 := Lib.hid hR1; have HLC := Lib.hid hlc; have HLS := Lib.hid hlsz; have HF := Lib.hid hF
  clear hB1 hK1 hM1 hR0 hR1 hlc hlsz hF
  go_enter Tryd.func10, Tryd.ntmps10
  go_wp2_with fail
  refine HLC.out.mono ?_
  clear HLC hmm
  rintro R w2 ⟨vl, rfl, hol, hb2⟩
  obtain ⟨Al, cl, rfl, _⟩ := own_parts hol
  have hst : PSt w w2 ls (.slice Al ls.length cl) 0 0 (.slice none 0 0) [] := ⟨HB1.out.trans (hb2.mono HB1.out.size), HR1.out.below hb2, HK1.out.below hb2 (by simp; omega), own_mono hol (by simp; omega), rfl, by omega, by simp⟩
  have HST := Lib.hid hst
  clear hst hol hb2 HB1 HK1 HR1
  go_wp2
  go_loopg [22] ls.length (fun gf vi wr => ∃ (i : Nat) (n : Int) (v : Value) (l : List Edg), vi = .int .i64 i ∧ i + gf = ls.length ∧ PSt w wr ls (.slice Al ls.length cl) i n v l)
  case atStart => exact ⟨0, 0, .slice none 0 0, [], rfl, by omega, HST.out⟩
  case round =>
    clear HST
    obtain ⟨i, n, v, l, rfl, hi, hst⟩ := hrel
    have hzw : w.heap.size < wr.heap.size := hst.res.lt
    have hzr : w.heap.size + 2 < wr.heap.size := hst.rdr.blk.lt
    have g0 := hst.rdr.blk.cell 0; have g1 := hst.rdr.blk.cell 1
    have r0 := hst.res.cell 0; have r1 := hst.res.cell 1; have f0 := hst.res.frozen 0; have f1 := hst.res.frozen 1
    unfold zeroG at r0 r1
    simp only [List.getElem?_toArray, List.getElem?_cons_zero, List.getElem?_cons_succ] at g0 g1 r0 r1
    cases gk with
    | zero =>
      obtain rfl : i = ls.length := by omega
      have hat := hst.at_
      rw [List.drop_length] at hat
      by_cases hn0 : n = 0
      · subst hn0
        have HT := Lib.hid (textL_none hat rfl); have HST := Lib.hid hst
        clear hat hst
        go_wp2
        have d0 := (HST.out.res.set_ 0 (.int .i64 0)).set_ 1 (.slice none 0 0)
        have d1 := d0.cell 0; have d2 := d0.cell 1
        unfold zeroG at d1 d2
        simp only [List.getElem?_toArray, List.setIfInBounds_toArray, List.set_cons_zero, List.set_cons_succ, List.getElem?_cons_zero, List.getElem?_cons_succ] at d1 d2
        refine bodyPost_ret (v := .tuple #[.agg #[.int .i64 0, .slice none 0 0], .int .i64 ((ls.length : Int) + 1), .int .i64 41]) (by simp [results, Tryd.results10, go_sem, d1, d2]) rfl ?_
        rw [HT.out]
        exact parse_err (i := ls.length + 1) ((HST.out.below.setCell (p := ⟨w.heap.size, 0, none⟩) (Nat.le_refl _) _).setCell (p := ⟨w.heap.size, 1, none⟩) (Nat.le_refl _) _) (by go_num)
      · obtain ⟨A, c, rfl, hc⟩ := own_parts hst.rdr.own
        have hcon := sortEdg_any wr (w.heap.size + 1) A c l hst.rdr.own (by have := hst.few; omega) (goL_apart (g := (n, l)) hat)
        have hnb : (n == 0) = false := by simp [hn0]
        have HT := Lib.hid (textL_some hat hn0); have HST := Lib.hid hst; have HC := Lib.hid hcon; have HCC := Lib.hid hc
        clear hat hst hcon hn0 hc
        go_wp2_with fail
        refine HC.out.mono ?_
        clear HC
        rintro R w3 ⟨rfl, m, hml, hms, hmm, hmo, hmg⟩
        have hrn : (Value.slice A l.length c).ownBlock ≠ some (w.heap.size + 2) := HST.out.rdr.own_r
        have hkr := HST.out.rdr.blk.grown hmg (fun e' => hrn e'.symm)
        have hkw := HST.out.res.grown hmg (fun e' => by have := (HST.out.rdr.own.lt _ e'.symm).1; omega)
        have g0' := hkr.cell 0; have g1' := hkr.cell 1
        have r0' := hkw.cell 0; have r1' := hkw.cell 1; have f0' := hkw.frozen 0; have f1' := hkw.frozen 1
        unfold zeroG at r0' r1'
        simp only [List.getElem?_toArray, List.getElem?_cons_zero, List.getElem?_cons_succ] at g0' g1' r0' r1'
        have hz3 := hkr.lt
        have hz4 := hkw.lt
        have hB3 : Below w.heap.size w w3 := HST.out.below.grown hmg (Nat.le_of_lt hzw) (fun k hk => by have := (HST.out.rdr.own.lt k hk).1; omega)
        have d0 := (hkw.set_ 0 (.int .i64 n)).set_ 1 (.slice A l.length c)
        have d1 := d0.cell 0; have d2 := d0.cell 1
        unfold zeroG at d1 d2
        simp only [List.getElem?_toArray, List.setIfInBounds_toArray, List.set_cons_zero, List.set_cons_succ, List.getElem?_cons_zero, List.getElem?_cons_succ] at d1 d2
        have hne : ∀ (g : Nat) cs fz, w3.heap[g]? = some (.cells cs 35 fz) → g ≠ w.heap.size := fun g cs fz hg e' => by
          subst e'
          have := hkw
          unfold Blk at this
          rw [this] at hg
          injection hg with hg
          injection hg with _ ht
          exact absurd ht (by decide)
        have hmo7 : ((w3.setCell ⟨w.heap.size, 0, none⟩ (.int .i64 n)).setCell ⟨w.heap.size, 1, none⟩ (.slice A l.length c)).ownsRow w.heap.size 35 3 (.slice A m.length c) m.length (rcs edgC m) := by
          rw [hml]
          exact own_mono (own_keep hmo fun g cs fz hg => by rw [Below.heap_setCell _ _ _ _ (hne g cs fz hg), Below.heap_setCell _ _ _ _ (hne g cs fz hg)]) (Nat.le_succ _)
        have hB7 := (hB3.setCell (p := ⟨w.heap.size, 0, none⟩) (Nat.le_refl _) (.int .i64 n)).setCell (p := ⟨w.heap.size, 1, none⟩) (Nat.le_refl _) (.slice A l.length c)
        have HFIN : Hid (ParseP w ((n, l), 0, 0) (.returned (.tuple #[.agg #[.int .i64 n, .slice A l.length c], .int .i64 0, .int .i64 0])) ((w3.setCell ⟨w.heap.size, 0, none⟩ (.int .i64 n)).setCell ⟨w.heap.size, 1, none⟩ (.slice A l.length c))) :=
          Lib.hid ⟨hB7, A, c, m, by rw [hml]; rfl, by rw [hml]; exact HCC.out, hmo7, hms, hmm⟩
        have HD := Lib.hid (And.intro d1 d2)
        clear hkr hkw hB3 d0 d1 d2 hne hmo7 hB7 hmo hmg hms hmm hml g0 g1 r0 r1 f0 f1
        go_wp2
        obtain ⟨d1, d2⟩ := HD.out
        refine bodyPost_ret (v := .tuple #[.agg #[.int .i64 n, .slice A l.length c], .int .i64 0, .int .i64 0]) (by simp [results, Tryd.results10, go_sem, d1, d2]) rfl ?_
        rw [HT.out]
        exact HFIN.out
    | succ gf =>
      have hiI : (i : Int) < (ls.length : Int) := by omega
      obtain ⟨x, hx⟩ : ∃ x, ls[i]? = some x := ⟨_, List.getElem?_eq_getElem (by omega)⟩
      obtain ⟨b, cs, rfl, hb, hbs, hcell⟩ := words_own (ws := ls) hst.lines (by omega)
      have hxc := hcell i x hx
      have hxs := HLS.out x (List.mem_of_getElem? hx)
      have hcon := wordsP_any x wr (by omega)
      have hat := hst.at_.trans (goL_at hx (n, l))
      have HC := Lib.hid hcon; have HAT := Lib.hid hat; have HST := Lib.hid hst; have HX := Lib.hid hx
      clear hcon hat hst hx hcell hbs
      go_wp2_with fail
      refine HC.out.mono ?_
      clear HC
      rintro R w3 ⟨vw, rfl, how, hb3⟩
      obtain ⟨Aw, cw, rfl, _⟩ := own_parts how
      have hkw := HST.out.res.below hb3 hzw
      have r0' := hkw.cell 0; have r1' := hkw.cell 1; have f0' := hkw.frozen 0; have f1' := hkw.frozen 1
      unfold zeroG at r0' r1'
      simp only [List.getElem?_toArray, List.getElem?_cons_zero, List.getElem?_cons_succ] at r0' r1'
      have hz3 := hkw.lt
      have hB3 := HST.out.below.trans (hb3.mono HST.out.below.size)
      cases hwp : wordsP x with
      | none =>
        have hat := HAT.out
        rw [hwp] at hat how
        have HT := Lib.hid (textL_err hat); have HKW := Lib.hid hkw; have HB3 := Lib.hid hB3
        clear hat hkw hb3 hwp how hB3 g0 g1 r0 r1 f0 f1
        simp only [Option.isSome_none, Bool.false_eq_true, if_false, Option.getD_none, List.length_nil]
        go_wp2
        have d0 := (HKW.out.set_ 0 (.int .i64 0)).set_ 1 (.slice none 0 0)
        have d1 := d0.cell 0; have d2 := d0.cell 1
        unfold zeroG at d1 d2
        simp only [List.getElem?_toArray, List.setIfInBounds_toArray, List.set_cons_zero, List.set_cons_succ, List.getElem?_cons_zero, List.getElem?_cons_succ] at d1 d2
        refine bodyPost_ret (v := .tuple #[.agg #[.int .i64 0, .slice none 0 0], .int .i64 ((i : Int) + 1), .int .i64 41]) (by simp [results, Tryd.results10, go_sem, d1, d2]) rfl ?_
        rw [HT.out]
        exact parse_err (i := i + 1) ((HB3.out.setCell (p := ⟨w.heap.size, 0, none⟩) (Nat.le_refl _) _).setCell (p := ⟨w.heap.size, 1, none⟩) (Nat.le_refl _) _) (by go_num)
      | some ws =>
        rw [hwp] at how
        simp only [Option.getD_some] at how
        simp only [Option.isSome_some, if_true, Option.getD_some]
        have hsm := words_small hwp hxs
        have hr3 := HST.out.rdr.below hb3
        have hl3 := own_below HST.out.lines hb3
        cases ws with
        | nil =>
          have hat := HAT.out
          rw [hwp] at hat
          have HP : Hid (PSt w w3 ls (.slice (some ⟨b, 0, none⟩) ls.length cl) (i + 1) n v l) := Lib.hid ⟨hB3, hr3, hkw, hl3, hat, HST.out.n0, HST.out.few⟩
          clear hat hkw hb3 hwp how hB3 g0 g1 r0 r1 f0 f1 r0' r1' f0' f1' hsm hr3 hl3
          simp only [List.length_nil]
          go_wp2
          go_roundg gf
          case measure => omega
          case rel => exact ⟨i + 1, n, v, l, by go_num, by omega, HP.out⟩
        | cons y ws =>
          have hfr := firsts_below HF.out hB3 hz
          have hcon := line_any w3 (w.heap.size + 1) (w.heap.size + 2) (w.heap.size + 1) n v l hr3 Aw cw _ (y :: ws) how hsm hfr HST.out.n0.2 HST.out.few
          have hlen : decide ((0 : Int) < ((y :: ws).length : Int)) = true := by simp
          have hlenI : (0 : Int) < ((y :: ws).length : Int) := by simp
          have hat := HAT.out
          rw [hwp] at hat
          dsimp only at hat
          have HC := Lib.hid hcon; have HAT2 := Lib.hid hat
          obtain ⟨q, hq⟩ : ∃ q, (y :: ws).length = q := ⟨_, rfl⟩
          rw [hq] at HC hlen hlenI ⊢
          have hqn : 0 < q := by omega
          have hlen2 : decide (0 < q) = true := by simp; omega
          have HR3 := Lib.hid hr3; have HL3 := Lib.hid hl3; have HKW := Lib.hid hkw; have HB3 := Lib.hid hB3
          clear hat hkw hb3 hwp how hB3 g0 g1 r0 r1 f0 f1 hsm hr3 hl3 hcon hfr hq r0' r1' f0' f1'
          go_wp2_with fail
          refine HC.out.mono ?_
          clear HC
          rintro R w4 ⟨hb4, h4⟩
          have hkw4 := HKW.out.below hb4 (Nat.lt_succ_self _)
          have r0 := hkw4.cell 0; have r1 := hkw4.cell 1; have f0 := hkw4.frozen 0; have f1 := hkw4.frozen 1
          unfold zeroG at r0 r1
          simp only [List.getElem?_toArray, List.getElem?_cons_zero, List.getElem?_cons_succ] at r0 r1
          have hz4 := hkw4.lt
          have hB4 := HB3.out.trans (hb4.mono (Nat.le_succ _))
          cases hlp : lineP numW (n, l) (y :: ws) with
          | none =>
            have hat := HAT2.out
            rw [hlp] at hat h4
            obtain rfl := h4
            have HT := Lib.hid (textL_err hat); have HKW4 := Lib.hid hkw4; have HB4 := Lib.hid hB4
            clear hat hkw4 hb4 hB4 hlp
            go_wp2
            have d0 := (HKW4.out.set_ 0 (.int .i64 0)).set_ 1 (.slice none 0 0)
            have d1 := d0.cell 0; have d2 := d0.cell 1
            unfold zeroG at d1 d2
            simp only [List.getElem?_toArray, List.setIfInBounds_toArray, List.set_cons_zero, List.set_cons_succ, List.getElem?_cons_zero, List.getElem?_cons_succ] at d1 d2
            refine bodyPost_ret (v := .tuple #[.agg #[.int .i64 0, .slice none 0 0], .int .i64 ((i : Int) + 1), .int .i64 41]) (by simp [results, Tryd.results10, go_sem, d1, d2]) rfl ?_
            rw [HT.out]
            exact parse_err (i := i + 1) ((HB4.out.setCell (p := ⟨w.heap.size, 0, none⟩) (Nat.le_refl _) _).setCell (p := ⟨w.heap.size, 1, none⟩) (Nat.le_refl _) _) (by go_num)
          | some g =>
            have hat := HAT2.out
            rw [hlp] at hat h4
            obtain ⟨rfl, v4, hr4, _, hs4⟩ := h4
            have hl4 := hs4.own HR3.out (by decide) (by decide) HL3.out
            obtain ⟨f1n, f2n⟩ := lineP_few hlp HST.out.n0 HST.out.few
            have HP : Hid (PSt w w4 ls (.slice (some ⟨b, 0, none⟩) ls.length cl) (i + 1) g.1 v4 g.2) := Lib.hid ⟨hB4, hr4, hkw4, hl4, hat, f1n, f2n⟩
            clear hat hkw4 hb4 hB4 hlp hr4 hs4 hl4 f1n f2n r0 r1 f0 f1
            go_wp2
            go_roundg gf
            case measure => omega
            case rel => exact ⟨i + 1, g.1, v4, g.2, by go_num, by omega, HP.out⟩
end Go.Proofs.YtknigkjbnaoldaaDoor
