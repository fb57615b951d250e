/- The reference's disk: On. -/
import Derived.Test.YthmcimpdehgaoaaGreatDoorPk21
import Derived.Test.YthmcimpdehgaoaaGreatDoorRkE
import Derived.Laws.Tables
namespace Go.Proofs.YthmcimpdehgaoaaGreatDoor
open Go.RowKit Go.Maps

/-- how many bytes stay, which files -/
def rkeepN (sl : Nat) (b : ByteArray) (k : Option Int) : Nat := match k with
  | none => sl
  | some k => sl + (k % ((b.size - sl : Nat) + 1 : Int)).toNat
def rkeepL (S : List (ByteArray × ByteArray)) (x : ByteArray × ByteArray) (k : Option Int) : List (ByteArray × ByteArray) :=
  if (getP S x.1).isSome = true ∨ 0 < rkeepN ((getP S x.1).getD ByteArray.empty).size x.2 k then [(x.1, x.2.extract 0 (rkeepN ((getP S x.1).getD ByteArray.empty).size x.2 k))] else []
def ronGo (S : List (ByteArray × ByteArray)) : List (ByteArray × ByteArray) → List Int → List (ByteArray × ByteArray)
  | [], _ => []
  | x :: l, ks => rkeepL S x ks.head? ++ ronGo S l ks.tail
theorem ronGo_take (S : List (ByteArray × ByteArray)) : ∀ (L : List (ByteArray × ByteArray)) (ks : List Int) (i : Nat) (f : ByteArray × ByteArray), L[i]? = some f → ronGo S (L.take (i + 1)) ks = ronGo S (L.take i) ks ++ rkeepL S f ks[i]? := by
  intro L
  induction L with
  | nil => intro ks i f h; cases h
  | cons x L ih =>
    intro ks i f h
    cases i with
    | zero =>
      simp at h
      subst h
      simp [ronGo, List.head?_eq_getElem?]
    | succ i =>
      rw [List.getElem?_cons_succ] at h
      rw [List.take_succ_cons, List.take_succ_cons, ronGo, ronGo, ih ks.tail i f h, List.append_assoc, List.getElem?_tail]
def RDisk.on (R : RDisk) (ks : List Int) : RDisk := if R.gone = true then { R with left := -1, gone := false, files := ronGo R.safe R.files ks, safe := ronGo R.safe R.files ks } else { R with left := -1 }
def SafeR (R : RDisk) : Prop := ∀ x ∈ R.files, ((getP R.safe x.1).getD ByteArray.empty).size ≤ x.2.size
theorem rkeepN_le {sl : Nat} {b : ByteArray} (h : sl ≤ b.size) (k : Option Int) : rkeepN sl b k ≤ b.size := by
  unfold rkeepN
  split
  · exact h
  · rename_i k
    have h1 := Int.emod_nonneg k (show ((b.size - sl : Nat) + 1 : Int) ≠ 0 by omega)
    have h2 := Int.emod_lt_of_pos k (show (0 : Int) < ((b.size - sl : Nat) + 1 : Int) by omega)
    omega
theorem rkeepN_ge (sl : Nat) (b : ByteArray) (k : Option Int) : sl ≤ rkeepN sl b k := by
  unfold rkeepN
  split
  · exact Nat.le_refl _
  · exact Nat.le_add_right _ _
theorem infoRkS : (Tryz.prog.info? 100).map (·.size) = some 2 := by kernel_rfl
theorem bt_cut {w : World} {A : Option Addr} {c : Nat} {s : ByteArray} (h : Bt w (.slice A s.size c) s) {n : Nat} (hn : n ≤ s.size) {c' : Nat} (hc : n ≤ c') : ∃ s', s' = s.extract 0 n ∧ s'.size = n ∧ Bt w (.slice A s'.size c') s' := by
  have hsz : (s.extract 0 n).size = n := by rw [ByteArray.size_extract]; omega
  refine ⟨s.extract 0 n, rfl, hsz, ?_⟩
  obtain ⟨A', c0, he, _, hx⟩ := h
  injection he with h1 _ _
  subst h1
  refine ⟨A, c', rfl, by omega, fun h0 => ?_⟩
  obtain ⟨blk, off, cs, fz, hA, hh, hcs⟩ := hx (by omega)
  refine ⟨blk, off, cs, fz, hA, hh, fun j hj => ?_⟩
  rw [hcs j (by omega)]
  congr 3
  rw [hsz] at hj
  have e1 : (s.extract 0 n).get! j = s.get! j := by
    unfold ByteArray.get!
    simp [ByteArray.data_extract, getElem!_def, Array.getElem?_extract]
    rw [if_pos (by omega)]
  rw [e1]
section
variable (w : World) (B p : Nat) (R : RDisk) (h : RkIs w B p R) (hf : RFit R) (hso : SafeR R)
include h hf hso
set_option maxRecDepth 100000 in
set_option maxHeartbeats 8000000 in
theorem ron_any (A : Option Addr) (c : Nat) (keep : List Int) (hk : Rd w 1 A keep.length (keep.map (Value.int .i64))) (hkp : 0 < keep.length → ∀ ad, A = some ad → ad.block ≠ p) (hkl : keep.length ≤ 100000000) :
    Calls Tryz.prog 27 #[.pointer (some ⟨p, 0, none⟩), .slice A keep.length c] w fun e w' => e = .returned (.tuple #[]) ∧ RkOut B w w' p (R.on keep) := by
  obtain ⟨-, vf, vs, hb, hfl, hs⟩ := id h
  have c4 := hb.cell 4; have f4 := hb.frozen 4; have c5 := hb.cell 5; have f5 := hb.frozen 5
  simp only [List.getElem?_toArray, List.getElem?_cons_zero, List.getElem?_cons_succ] at c4 c5
  have hpl := h.lt
  cases hgn : R.gone with
  | false =>
    rw [hgn] at c5
    have ho := h.put (R' := { R with left := -1 }) (Moved.set_ w p 4 none (.int .i64 (-1))) (hb.set_ 4 (.int .i64 (-1))) hfl hs
    have hon : R.on keep = { R with left := -1 } := by unfold RDisk.on; rw [if_neg (by simp [hgn])]
    rw [hon]
    have HO := Lib.hid ho
    clear ho h hb hfl hs hf hso hk hkp hon hgn
    go_enter Tryz.func27, Tryz.ntmps27
    go_wp2
    refine bodyPost_ret (results_none rfl _ _ _) rfl ?_
    exact ⟨rfl, HO.out⟩
  | true =>
    rw [hgn] at c5
    have hon : R.on keep = { R with left := -1, gone := false, files := ronGo R.safe R.files keep, safe := ronGo R.safe R.files keep } := by unfold RDisk.on; rw [if_pos hgn]
    rw [hon]
    have hm3 := (Moved.set_ w p 4 none (.int .i64 (-1))).trans (Moved.set_ (w.setCell ⟨p, 4, none⟩ (.int .i64 (-1))) p 5 none (.bool false)) (.inl rfl)
    have ho := h.put (R' := { R with left := -1, gone := false }) hm3 ((hb.set_ 4 (.int .i64 (-1))).set_ 5 (.bool false)) hfl hs
    have HO := Lib.hid ho; have HF := Lib.hid hf; have HSO := Lib.hid hso; have HK := Lib.hid hk; have HKP := Lib.hid hkp; have H := Lib.hid h
    clear ho h hb hfl hs hf hso hk hkp hon hgn hm3
    go_enter Tryz.func27, Tryz.ntmps27
    go_upto_region 4 with (fail)
    obtain ⟨w3, hw3⟩ : ∃ w3, (w.setCell ⟨p, 4, none⟩ (.int .i64 (-1))).setCell ⟨p, 5, none⟩ (.bool false) = w3 := ⟨_, rfl⟩
    rw [hw3] at HO ⊢
    clear hw3 c4 c5 f4 f5
    have hO0 : w3.ownsRow w3.heap.size 100 2 (.slice none 0 0) 0 [] := World.ownsRow_nil _ _ _ _
    have HO0 := Lib.hid hO0
    clear hO0
    go_wp2
    go_loopg [4, 5] R.files.length (fun gf vl vi wr => ∃ (i : Nat) (rows : List RF), vi = .int .i64 i ∧ i + gf = R.files.length ∧ wr.ownsRow w3.heap.size 100 2 vl rows.length (rcs rfC rows) ∧ (∀ x ∈ rows, Bt wr x.2.1 x.2.2) ∧ rows.map rpr = ronGo R.safe (R.files.take i) keep ∧ rows.length ≤ i ∧ Below w3.heap.size w3 wr)
    case atStart => exact ⟨0, [], rfl, by omega, HO0.out, by simp, rfl, Nat.le_refl _, Below.refl _ _⟩
    case round =>
      clear HO0
      obtain ⟨i, rows1, rfl, hi, hown, hbts, hmap, hrl, hB⟩ := hrel
      have hlen := HF.out.len
      have hrk := HO.out.below hB
      obtain ⟨-, vf, vs, hb, ⟨rows, hrr, hre⟩, ⟨srows, hsr, hse⟩⟩ := hrk.is
      have hrl2 : rows.length = R.files.length := by rw [← hre]; simp
      have hsl1 : srows.length = R.safe.length := by rw [← hse]; simp
      have hsl2 : srows.length ≤ 100000000 := by have h1 := HF.out.slen; omega
      obtain ⟨Af, cf, rfl, -⟩ := id hrr
      obtain ⟨Al, cl, rfl, -⟩ := own_parts hown
      have c0 := hb.cell 0; have c1 := hb.cell 1
      simp only [List.getElem?_toArray, List.getElem?_cons_zero, List.getElem?_cons_succ] at c0 c1
      rw [hrl2] at c0
      have HRK := Lib.hid hrk; have HB := Lib.hid hB; have HOWN := Lib.hid hown; have HBTS := Lib.hid hbts; have HMAP := Lib.hid hmap
      cases gk with
      | zero =>
        obtain rfl : i = R.files.length := by omega
        rw [List.take_length] at hmap
        have hRR : RRow wr (.slice Al rows1.length cl) rows1 := RRow.of_own hown hbts
        have hk1 := hrk.trans (hrk.is.setF (l := ronGo R.safe R.files keep) ⟨rows1, hRR, hmap⟩)
        have hRR4 := hRR.keep (keepF_moved hb (Moved.set_ wr p 0 none (.slice Al rows1.length cl)) (by decide) (by decide))
        have f0 := hb.frozen 0
        have HR4 := Lib.hid hRR4
        have HK1 := Lib.hid hk1; have HRR := Lib.hid hRR; have HM2 := Lib.hid hmap
        clear hk1 hRR hRR4 hmap hown hbts hrk hb hB hrr hsr hre hse hrl2 hsl1 hsl2 c1
        go_upto_region 16 with (fail)
        obtain ⟨w4, hw4⟩ : ∃ w4, wr.setCell ⟨p, 0, none⟩ (.slice Al rows1.length cl) = w4 := ⟨_, rfl⟩
        rw [hw4] at HK1 HR4 ⊢
        clear hw4 c0 f0
        obtain ⟨i0, hi0, hz0, hz1, hz2⟩ := parts infoRk
        have hb4 := (Below.refl w4.heap.size w4).alloc (Nat.le_refl _) (.cells #[] 100)
        have hown : Hid ((w4.alloc (.cells #[] 100)).ownsRow w4.heap.size 100 2 (.slice (some ⟨w4.heap.size, 0, none⟩) 0 0) 0 []) := Lib.hid ⟨by simp, .inr ⟨w4.heap.size, 0, #[], rfl, Nat.le_refl _, heap_alloc_new w4 _, Nat.le_refl _, by unfold maxLen; omega, rfl, by simp⟩⟩
        obtain ⟨_, _, hle, _, hrs, _, -⟩ := HR4.out.keep (KeepF.of_below hb4)
        injection hle with e1 _ _
        subst e1
        have hs1 := rcs_shapes HR4.out rows1 fun x hx => hx
        have hr1 : rows1.length ≤ 100000000 := by omega
        have HI0 := Lib.hid hi0; have HZ0 := Lib.hid hz0; have HRS := Lib.hid hrs; have HS1 := Lib.hid hs1; have HB4 := Lib.hid hb4
        clear hi0 hz0 hrs hs1 hb4
        go_wp2_with (at_builtin; refine wpList_cat (w4.alloc (.cells #[] 100)) rfl (.tmp 95) (.tmp 96) 92 rfl w4.heap.size 100 i0 (.agg #[.string ⟨#[]⟩, .slice none 0 0]) 2 40 Tryz.underlying92 HI0.out HZ0.out hz1 hz2 rfl (by decide) (by decide) _ 0 _ rfl hown _ rows1.length _ (rcs rfC rows1) rfl HRS HS1.out (by omega) (by simp) ?_; intro v5 w5 h2 h3 h4; obtain ⟨A5, c5, rfl, _⟩ := own_parts h2.out; have HO5 := Lib.hid h2.out; have HB5 := Lib.hid (HB4.out.trans h4.out); have hxk := (HK1.out.below (HB4.out.trans h4.out)).is.blk; obtain ⟨vfx, vsx, hbx⟩ := hxk; have x1 := hbx.cell 1; have f1 := hbx.frozen 1; simp only [List.getElem?_toArray, List.getElem?_cons_zero, List.getElem?_cons_succ] at x1; clear h2 h3 h4 hbx)
        refine bodyPost_end (results_none rfl _ _ _) rfl ⟨rfl, ?_⟩
        have ho5 := HK1.out.below HB5.out
        have hown5 := HO5.out
        rw [Nat.zero_add, List.nil_append] at hown5
        have hrf : RFs w5 (.slice A5 rows1.length c5) (ronGo R.safe R.files keep) := ⟨rows1, RRow.of_own hown5 fun x hx => (let ⟨_, _, _, _, _, _, hB⟩ := HR4.out; (hB x hx).1.below HB5.out), HM2.out⟩
        exact ho5.trans (ho5.is.setS hrf)
      | succ gf =>
        have hiI : (i : Int) < (R.files.length : Int) := by omega
        obtain ⟨b, oo, rfl, hlt, nm, A', c', bb, hx, x0, x1, hbt⟩ := hrr.at_ (i := i) (by omega)
        have hfi : R.files[i]? = some (nm, bb) := by rw [← hre, List.getElem?_map, hx]; rfl
        have hsob := HSO.out (nm, bb) (List.mem_of_getElem? hfi)
        have hgt := rget_rows wr vs srows hsr hsl2 nm
        have hgvb := (rkV_bt hsr nm).1
        rw [hse] at hgt hgvb
        obtain ⟨gb, hgb⟩ : ∃ gb, (getP R.safe nm).isSome = gb := ⟨_, rfl⟩
        obtain ⟨gd, hgd⟩ : ∃ gd, (getP R.safe nm).getD ByteArray.empty = gd := ⟨_, rfl⟩
        have hsob : gd.size ≤ bb.size := by rw [← hgd]; exact hsob
        obtain ⟨gv, hgv⟩ : ∃ gv, rkV srows nm = gv := ⟨_, rfl⟩
        have hbl : bb.size ≤ 1000000000000 := Nat.le_trans (le_sum_mem (List.mem_map_of_mem (f := fun x : ByteArray × ByteArray => x.2.size) (List.mem_of_getElem? hfi))) HF.out.long
        rw [hgb, hgv] at hgt
        rw [hgd, hgv] at hgvb
        obtain ⟨Ag, cg, rfl, -⟩ := id hgvb
        obtain ⟨N, hN⟩ : ∃ N, rkeepN gd.size bb keep[i]? = N := ⟨_, rfl⟩
        have hNle : N ≤ bb.size := by rw [← hN]; exact rkeepN_le hsob _
        have hkl' : rkeepL R.safe (nm, bb) keep[i]? = if gb = true ∨ 0 < N then [(nm, bb.extract 0 N)] else [] := by unfold rkeepL; dsimp only; rw [hgb, hgd, hN]
        have hsn := ronGo_take R.safe R.files keep i (nm, bb) hfi
        rw [hkl'] at hsn
        have hk9 := Blk.new wr 100 #[.string nm, .slice A' bb.size c']
        have hb8 := (Below.refl wr.heap.size wr).alloc (Nat.le_refl _) (.cells #[.string nm, .slice A' bb.size c'] 100)
        have hgt4 : ∀ w4, Below wr.heap.size wr w4 → ∀ n, Calls Tryz.prog 61 #[vs, .string nm] (w4.drewN n) fun e w' => e = .returned (.tuple #[.slice Ag gd.size cg, .bool gb]) ∧ w' = w4.drewN n := fun w4 hb4 n => by
          have h1 := rget_rows (w4.drewN n) vs srows ((hsr.keep (KeepF.of_below hb4)).keep (keepF_drew n)) hsl2 nm
          rw [hse, hgb, hgv] at h1
          exact h1.mono fun _ _ ⟨e1, e2⟩ => ⟨e1, e2.symm⟩
        obtain ⟨OP, hOP⟩ : ∃ OP, bb.size = gd.size + OP := ⟨bb.size - gd.size, by omega⟩
        have hNge : gd.size ≤ N := by rw [← hN]; exact rkeepN_ge _ _ _
        obtain ⟨M, hM⟩ : ∃ M, N = gd.size + M := ⟨N - gd.size, by omega⟩
        have HK9 := Lib.hid hk9; have HB8 := Lib.hid hb8; have HGT := Lib.hid hgt4; have HSN := Lib.hid hsn; have HN := Lib.hid hN; have HM := Lib.hid hM; have HOP := Lib.hid hOP; have HBT := Lib.hid hbt; have HPL := Lib.hid (show p < wr.heap.size from HRK.out.is.lt)
        have hBs := hB.size
        clear hk9 hb8 hgt4 hsn hN hkl' hbt hgt hgvb hgb hgd hgv hfi hx hrr hre hsr hse hb hrk hB hown hbts hmap hM hOP hsob hrl2
        go_upto_region 8 with (fail)
        obtain ⟨w4, hw4⟩ : ∃ w4, wr.alloc (.cells #[.string nm, .slice A' bb.size c'] 100) = w4 := ⟨_, rfl⟩
        obtain ⟨g, hg⟩ : ∃ g, wr.heap.size = g := ⟨_, rfl⟩
        rw [hw4] at HK9 HB8 ⊢
        have hgt := HGT.out w4 HB8.out
        have d1 : w4.cell? ⟨p, 1, none⟩ = some vs := (HB8.out.cell (p := ⟨p, 1, none⟩) HPL.out).trans c1
        have d0 : w4.cell? ⟨p, 0, none⟩ = some (.slice (some ⟨b, oo, none⟩) R.files.length cf) := (HB8.out.cell (p := ⟨p, 0, none⟩) HPL.out).trans c0
        have g0 := HK9.out.cell 0; have g1 := HK9.out.cell 1
        simp only [List.getElem?_toArray, List.getElem?_cons_zero, List.getElem?_cons_succ] at g0 g1
        have hg4 : wr.heap.size < w4.heap.size := HK9.out.lt
        rw [hg] at g0 g1 hg4 ⊢
        have HGT4 := Lib.hid hgt; have HG := Lib.hid hg
        clear hgt HGT hw4 hg c0 c1 x0 x1 d0
        go_quiet ((go_at_call 61; exact Calls.quiet_of_same (HGT4.out _)))
        obtain ⟨w5, hw5⟩ : ∃ w5, w4.drewN nq = w5 := ⟨_, rfl⟩
        have e0 : w5.cell? ⟨g, 0, none⟩ = some (.string nm) := by rw [← hw5]; exact g0
        have e1 : w5.cell? ⟨g, 1, none⟩ = some (.slice A' bb.size c') := by rw [← hw5]; exact g1
        have hb5 : Below wr.heap.size wr w5 := by rw [← hw5]; exact below_drewN HB8.out _
        have hw5' : w5.heap.size = w4.heap.size := by rw [← hw5]; rfl
        rw [hw5]
        have HB5 := Lib.hid hb5
        clear hw5 hb5 g0 g1 d1 HGT4 HK9 HB8
        have hwr : IntKind.i64.wrap ((bb.size : Int) - (gd.size : Int)) = (OP : Int) := by rw [IntWalk.i64_in _ (by omega), HOP.out]; omega
        go_upto_region 9 with (fail)
        go_quiet (fail)
        clear hwr
        obtain ⟨w6, hw6⟩ : ∃ w6, w5.drewN nq = w6 := ⟨_, rfl⟩
        have g0 : w6.cell? ⟨g, 0, none⟩ = some (.string nm) := by rw [← hw6]; exact e0
        have g1 : w6.cell? ⟨g, 1, none⟩ = some (.slice A' bb.size c') := by rw [← hw6]; exact e1
        have hb6 : Below wr.heap.size wr w6 := by rw [← hw6]; exact below_drewN HB5.out _
        have hgl : g < w6.heap.size := by rw [← hw6, ← HG.out]; show wr.heap.size < w5.heap.size; rw [← HG.out] at hg4; rw [hw5']; exact hg4
        rw [hw6]
        have HB6 := Lib.hid hb6; have HGL := Lib.hid hgl
        clear hw6 hb6 e0 e1 HB5 hg4 hgl hw5'
        go_upto_if 57 with (fail)
        go_cut [9] (fun s9 wx => s9 = .int .i64 (M : Nat) ∧ w6 = wx)
        case first =>
          by_cases hik : i < keep.length
          · have hikI : (i : Int) < (keep.length : Int) := by omega
            obtain ⟨ad, u, rfl, hu, hcu⟩ := HK.out.at_ hik
            rw [List.getElem?_map, List.getElem?_eq_getElem hik, Option.map_some] at hu
            injection hu with hu
            obtain ⟨kv, hkv⟩ : ∃ kv, keep[i] = kv := ⟨_, rfl⟩
            rw [hkv] at hu
            subst hu
            have hadp : ad.block ≠ p := HKP.out (by omega) ad rfl
            have hadl : ad.block < w.heap.size := by
              obtain ⟨_, e, hb', _⟩ := HK.out.2 (by omega)
              injection e with e; subst e; exact hb'
            have hk6 : w6.cell? (ad.add i) = some (.int .i64 kv) := by
              have h1 : (ad.add i).block = ad.block := block_of_add ad i
              have hmw := HRK.out.moved
              have hz := hmw.size
              rw [World.cell?_of_block (HB6.out.block (ad.add i).block (by rw [h1]; omega)), World.cell?_of_block (hmw.block (ad.add i).block (by rw [h1]; exact hadl) (by rw [h1]; exact hadp) (by simp)), hcu]
            have hOPb : (OP : Int) ≤ 1000000000000 := by have := HOP.out; omega
            have hmp : (0 : Int) < (OP : Int) + 1 := by omega
            obtain ⟨hT1, hT2⟩ := tmod_bounds kv _ hmp
            have hE := tmod_round kv _ hmp
            have hE1 := Int.emod_nonneg kv (show (OP : Int) + 1 ≠ 0 by omega)
            have hMe : (kv.tmod ((OP : Int) + 1) + (OP : Int) + 1) % ((OP : Int) + 1) = (M : Int) := by
              rw [Int.add_assoc, hE]
              have hN := HN.out
              rw [List.getElem?_eq_getElem hik, hkv] at hN
              unfold rkeepN at hN
              dsimp only at hN
              rw [show bb.size - gd.size = OP by have := HOP.out; omega] at hN
              have := HM.out
              omega
            have hP : 0 ≤ kv.tmod ((OP : Int) + 1) + (OP : Int) + 1 := by omega
            have hne : ¬ (OP : Int) + 1 = 0 := by omega
            have hneb : ((OP : Int) + 1 == 0) = false := beq_eq_false_iff_ne.2 hne
            have HME := Lib.hid hMe
            clear hMe hE hE1 hcu hkv
            go_wp2
            go_meet
            exact ⟨by rw [HME.out], rfl⟩
          · have hikI : ¬ (i : Int) < (keep.length : Int) := by omega
            have hN := HN.out
            rw [List.getElem?_eq_none (by omega)] at hN
            have hN : gd.size = N := hN
            have hM0 : M = 0 := by have := HM.out; omega
            have HM0 := Lib.hid hM0
            clear hN hM0
            go_wp2
            go_meet
            exact ⟨by rw [HM0.out]; rfl, rfl⟩
        case rest =>
        obtain ⟨rfl, rfl⟩ := hcut
        go_upto_region 12 with (fail)
        go_cut [9] (fun s9 wx => s9 = .int .i64 (N : Nat) ∧ w6 = wx)
        case first =>
          have hMb : M ≤ 1000000000000 := by have := HM.out; omega
          go_wp2
          go_meet
          exact ⟨by rw [HM.out]; go_num, rfl⟩
        case rest =>
        obtain ⟨rfl, rfl⟩ := hcut
        go_upto_region 13 with (fail)
        go_cut [79] (fun s79 wx => s79 = .bool (gb || decide (0 < N)) ∧ w6 = wx)
        case first =>
          by_cases hn0 : 0 < N
          · have hn0I : (0 : Int) < (N : Int) := by omega
            have hdI : decide ((0 : Int) < (N : Int)) = true := decide_eq_true hn0I
            have HD : Hid (decide (0 < N) = true) := Lib.hid (decide_eq_true hn0)
            clear hn0
            cases gb
            all_goals
              go_wp2
              go_meet
              exact ⟨by rw [HD.out]; rfl, rfl⟩
          · have hn0I : ¬ (0 : Int) < (N : Int) := by omega
            have hdI : decide ((0 : Int) < (N : Int)) = false := decide_eq_false hn0I
            have HD : Hid (decide (0 < N) = false) := Lib.hid (decide_eq_false hn0)
            clear hn0
            cases gb
            all_goals
              go_wp2
              go_meet
              exact ⟨by rw [HD.out]; rfl, rfl⟩
        case rest =>
        obtain ⟨rfl, rfl⟩ := hcut
        obtain ⟨K, hK⟩ : ∃ K, (gb || decide (0 < N)) = K := ⟨_, rfl⟩
        have hsn := HSN.out
        have hKK : (if gb = true ∨ 0 < N then [(nm, bb.extract 0 N)] else []) = if K = true then [(nm, bb.extract 0 N)] else [] := by
          rw [← hK]
          simp
        rw [hKK] at hsn
        rw [hK]
        clear hK hKK
        cases K with
        | false =>
          rw [if_neg (by simp), List.append_nil] at hsn
          have HSN := Lib.hid hsn
          clear hsn
          go_wp2
          go_roundg gf
          case measure => omega
          case rel => exact ⟨i + 1, rows1, by go_num, by omega, own_below HOWN.out HB6.out, (fun x hx => (HBTS.out x hx).below HB6.out), by rw [HSN.out]; exact HMAP.out, by omega, HB.out.trans (HB6.out.mono HB.out.size)⟩
        | true =>
          rw [if_pos rfl] at hsn
          have HSN := Lib.hid hsn
          have hNc : N ≤ c' := by obtain ⟨_, _, he, hc, _⟩ := HBT.out; injection he with _ _ h3; omega
          have hNI : (N : Int) ≤ (c' : Int) := by omega
          clear hsn
          have hss : ∀ wx, Below w6.heap.size w6 wx → wx.cell? ⟨g, 0, none⟩ = some (.string nm) ∧ wx.cell? ⟨g, 1, none⟩ = some (.slice A' bb.size c') := fun wx hx => ⟨(hx.cell (p := ⟨g, 0, none⟩) HGL.out).trans g0, (hx.cell (p := ⟨g, 1, none⟩) HGL.out).trans g1⟩
          have HSS := Lib.hid hss
          obtain ⟨i0, hi0, hz0, hz1, hz2⟩ := parts infoRk
          obtain ⟨y, hy⟩ : ∃ y : RF, y = (nm, .slice A' N c', bb.extract 0 N) := ⟨_, rfl⟩
          have hyc : rfC y = [.string nm, .slice A' N c'] := by rw [hy]; rfl
          obtain ⟨s', hs', hsz', hbt'⟩ := bt_cut HBT.out hNle hNc
          have hybt : Bt w6 y.2.1 y.2.2 := by rw [hy]; dsimp only; rw [← hs', ← hsz']; exact hbt'.below HB6.out
          have ho6 := own_below HOWN.out HB6.out
          have hown1 : (w6.alloc (.cells #[.string nm, .slice A' N c'] 100)).drew.ownsRow w3.heap.size 100 2 (.slice Al rows1.length cl) rows1.length (rcs rfC rows1) := World.ownsRow.alloc ho6 (.cells #[.string nm, .slice A' N c'] 100)
          have hrd : Reads (w6.alloc (.cells #[.string nm, .slice A' N c'] 100)).drew (w6.heap.size + 1) 2 (some ⟨w6.heap.size, 0, none⟩) 1 (rfC y) := by
            rw [hyc]
            exact ⟨rfl, fun _ => ⟨_, rfl, by show w6.heap.size < _; omega, cells_new w6 [.string nm, .slice A' N c'] 100 w6.heap.size rfl⟩⟩
          have h1y : ∀ u ∈ rfC y, u.oneCell' = true := by
            rw [hyc]
            intro u hu
            simp only [List.mem_cons, List.not_mem_nil, or_false] at hu
            rcases hu with rfl | rfl <;> rfl
          have hog : ∀ k, (Value.slice Al rows1.length cl).ownBlock = some k → k < g := fun k hk => by rw [← HG.out]; exact (HOWN.out.lt k hk).2
          have hq : ∀ w7 : World, (w6.alloc (.cells #[.string nm, .slice A' N c'] 100)).drew.grownBy w7 (Value.slice Al rows1.length cl).ownBlock → (w7.cell? ⟨g, 0, none⟩ = some (.string nm) ∧ w7.cell? ⟨g, 1, none⟩ = some (.slice A' bb.size c')) ∧ Below w3.heap.size w3 w7 ∧ ∀ x ∈ rows1 ++ [y], Bt w7 x.2.1 x.2.2 := by
            intro w7 h7
            have hgb : w7.heap[g]? = w6.heap[g]? := (h7.block g (Nat.lt_succ_of_lt HGL.out |> fun h => by simpa using h) (fun e => by have := hog g e.symm; omega)).trans (Below.heap_alloc w6 _ g HGL.out)
            have hty : ∀ (k : Nat) cs fz, w6.heap[k]? = some (.cells cs 5 fz) → w7.heap[k]? = w6.heap[k]? := type_grown ho6 (o := .cells #[.string nm, .slice A' N c'] 100) ⟨h7.os, h7.tape, h7.output, h7.size, h7.block⟩ (by decide)
            refine ⟨⟨(cell_of_block hgb 0).trans g0, (cell_of_block hgb 1).trans g1⟩, ?_, fun x hx => ?_⟩
            · have hb36 : Below w3.heap.size w3 w6 := HB.out.trans (HB6.out.mono HB.out.size)
              exact ((hb36.alloc hb36.size (.cells #[.string nm, .slice A' N c'] 100)).drew).grown h7 (by have := hb36.size; simp; omega) fun k hk => (ho6.lt k hk).1
            · rcases List.mem_append.1 hx with hx | hx
              · exact ((HBTS.out x hx).below HB6.out).keep hty
              · rw [List.mem_singleton.1 hx]; exact hybt.keep hty
          have hmapy : (rows1 ++ [y]).map rpr = ronGo R.safe (R.files.take (i + 1)) keep := by rw [List.map_append, HSN.out, HMAP.out, hy]; rfl
          have hbs36 : w3.heap.size ≤ w6.heap.size := (HB.out.trans (HB6.out.mono HB.out.size)).size
          have hr1 : rows1.length ≤ 100000000 := by omega
          have HI0 := Lib.hid hi0; have HZ0 := Lib.hid hz0; have HOWN1 := Lib.hid hown1; have HRD := Lib.hid hrd; have H1Y := Lib.hid h1y; have HQ := Lib.hid hq; have HMY := Lib.hid hmapy
          clear hss hi0 hz0 hy hyc hs' hsz' hbt' hybt ho6 hown1 hrd h1y hog hq hmapy
          go_upto_region 14 with (fail)
          refine wp_region_held_drew (S := (fun wq => wq.cell? ⟨g, 0, none⟩ = some (.string nm) ∧ wq.cell? ⟨g, 1, none⟩ = some (.slice A' bb.size c'))) (by kernel_rfl) ?_ (fun hHeld => ?_)
          · exact HSS.out _ (below_drewN (Below.refl _ _) 1)
          refine wpT (i := 0) (v := ?v0g1_) rfl (Or.inl ⟨by rfl, ?y0g1_⟩) (by assumption) ?r0g1_
          case y0g1_ => (intro w hSw; (try dsimp only at hSw); go_simp; try with_reducible rfl)
          change wpAnyH _ _ _ _ _ _ _ (Act.put _ (some 80) _) _; simp only [Act.put, List.setIfInBounds_toArray, List.set_cons_zero, List.set_cons_succ]
          refine wpT (i := 1) (v := ?v1g1_) rfl (Or.inl ⟨by rfl, ?y1g1_⟩) (by assumption) ?r1g1_
          case y1g1_ => (intro w hSw; (try dsimp only at hSw); go_simp; try with_reducible rfl)
          change wpAnyH _ _ _ _ _ _ _ (Act.put _ (some 81) _) _; simp only [Act.put, List.setIfInBounds_toArray, List.set_cons_zero, List.set_cons_succ]
          refine wpT (i := 2) (v := ?v2g1_) rfl (Or.inl ⟨by rfl, ?y2g1_⟩) (by assumption) ?r2g1_
          case y2g1_ => (intro w hSw; (try dsimp only at hSw); obtain ⟨hs0, hs1⟩ := hSw; go_simp; try with_reducible rfl)
          change wpAnyH _ _ _ _ _ _ _ (Act.put _ (some 82) _) _; simp only [Act.put, List.setIfInBounds_toArray, List.set_cons_zero, List.set_cons_succ]
          refine wpT (i := 3) (v := ?v3g1_) rfl (Or.inl ⟨by rfl, ?y3g1_⟩) (by assumption) ?r3g1_
          case y3g1_ => (intro w hSw; (try dsimp only at hSw); go_simp; try with_reducible rfl)
          change wpAnyH _ _ _ _ _ _ _ (Act.put _ (some 83) _) _; simp only [Act.put, List.setIfInBounds_toArray, List.set_cons_zero, List.set_cons_succ]
          refine wpT (i := 4) (v := ?v4g1_) rfl (Or.inl ⟨by rfl, ?y4g1_⟩) (by assumption) ?r4g1_
          case y4g1_ => (intro w hSw; (try dsimp only at hSw); obtain ⟨hs0, hs1⟩ := hSw; go_simp; try with_reducible rfl)
          change wpAnyH _ _ _ _ _ _ _ (Act.put _ (some 84) _) _; simp only [Act.put, List.setIfInBounds_toArray, List.set_cons_zero, List.set_cons_succ]
          refine wpT (i := 5) (v := ?v5g1_) rfl (Or.inl ⟨by rfl, ?y5g1_⟩) (by assumption) ?r5g1_
          case y5g1_ => (intro w hSw; (try dsimp only at hSw); go_simp; try with_reducible rfl)
          change wpAnyH _ _ _ _ _ _ _ (Act.put _ (some 85) _) _; simp only [Act.put, List.setIfInBounds_toArray, List.set_cons_zero, List.set_cons_succ]
          refine wpT (i := 6) (v := ?v6g1_) rfl (Or.inl ⟨by rfl, ?y6g1_⟩) (by assumption) ?r6g1_
          case y6g1_ => (intro w hSw; (try dsimp only at hSw); go_simp; try with_reducible rfl)
          change wpAnyH _ _ _ _ _ _ _ (Act.put _ (some 86) _) _; simp only [Act.put, List.setIfInBounds_toArray, List.set_cons_zero, List.set_cons_succ]
          refine wpT (i := 7) (v := ?v7g1_) rfl (Or.inl ⟨by rfl, ?y7g1_⟩) (by assumption) ?r7g1_
          case y7g1_ => (intro w hSw; (try dsimp only at hSw); go_simp; try with_reducible rfl)
          change wpAnyH _ _ _ _ _ _ _ (Act.put _ (some 87) _) _; simp only [Act.put, List.setIfInBounds_toArray, List.set_cons_zero, List.set_cons_succ]
          refine wpAnyH_ready (rs := [8]) (by kernel_rfl) (by simp) ?_
          refine AllReadyH.cons rfl (fun K hK => ?_) AllReadyH.nil
          go_simp
          refine hK.out _ _ ?_ (fun hHeld => ?_)
          · exact HSS.out _ (((Below.refl _ _).alloc (Nat.le_refl _) _).drew)
          clear hK K
          try simp only [Act.put, List.setIfInBounds_toArray, List.set_cons_zero, List.set_cons_succ]
          refine wpAnyH_ready (rs := [9]) (by kernel_rfl) (by simp) ?_
          refine AllReadyH.cons rfl (fun K hK => ?_) AllReadyH.nil
          refine step_append_any _ rfl (.tmp 80) (.tmp 88) 92 rfl w3.heap.size 100 i0 (.agg #[.string ⟨#[]⟩, .slice none 0 0]) 2 40 Tryz.underlying92 HI0.out HZ0.out hz1 hz2 rfl (by decide) (.slice Al rows1.length cl) rows1.length (rcs rfC rows1) (by simp [Act.eval]) HOWN1.out _ (some ⟨w6.heap.size, 0, none⟩) 1 1 (rfC y) (by simp [Act.eval]) HRD.out H1Y.out (by unfold maxLen; omega) (by omega) (by simp; omega) ?_
          intro v7 w7 h2 h3 h4
          obtain ⟨A7, c7, rfl, _⟩ := own_parts h2
          obtain ⟨q1, q2, q3⟩ := HQ.out w7 h3
          have HO7 := Lib.hid h2; have HQ1 := Lib.hid q1; have HQ2 := Lib.hid q2; have HQ3 := Lib.hid q3
          clear h2 h3 h4 q1 q2 q3
          refine hK.out _ _ ?_ (fun hHeld => ?_)
          · exact HQ1.out
          clear hK K
          try simp only [Act.put]
          refine wpT (i := 10) (v := ?v10g1_) rfl (Or.inl ⟨by rfl, ?y10g1_⟩) (by assumption) ?r10g1_
          case y10g1_ => (intro w hSw; (try dsimp only at hSw); go_simp; try with_reducible rfl)
          change wpAnyH _ _ _ _ _ _ _ (Act.put _ (some 4) _) _; simp only [Act.put]
          refine wpAnyH_done (by kernel_rfl) ?_ _
          go_wp2
          go_roundg gf
          case measure => omega
          case rel =>
            refine ⟨i + 1, rows1 ++ [y], by go_num, by omega, ?_, HQ3.out, HMY.out, by rw [List.length_append]; show rows1.length + 1 ≤ _; omega, HQ2.out⟩
            rw [List.length_append, rcs_append, rcs_one]
            exact HO7.out
end
end Go.Proofs.YthmcimpdehgaoaaGreatDoor
