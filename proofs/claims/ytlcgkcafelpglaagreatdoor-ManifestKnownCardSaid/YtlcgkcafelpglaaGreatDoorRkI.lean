/- The reference's store of manifests: Open. -/
import Derived.Test.YtlcgkcafelpglaaGreatDoorRkH
import Derived.Test.YtlcgkcafelpglaaGreatDoorMaW
namespace Go.Proofs.YtlcgkcafelpglaaGreatDoor
open Go.RowKit Go.Maps

theorem scan_stepR_ok {S : StD} (h : StOk S) (x : PF) : StOk (scanStepR S x) := by
  unfold scanStepR
  cases hg : getM x.2 with
  | none => exact h
  | some m =>
    dsimp only
    have hgm := getM_some hg
    split
    · exact ⟨fun _ => ⟨hgm.2.2.1, hgm.2.1⟩, fun e => by cases e⟩
    · exact h
theorem scanR_ok : ∀ (l : List PF) {S : StD}, StOk S → StOk (scanR l S) := by
  intro l
  induction l with
  | nil => intro S h; exact h
  | cons x l ih =>
    intro S h
    have e : scanR (x :: l) S = scanR l (if prefN x.1 = true then scanStepR S x else S) := rfl
    rw [e]
    apply ih
    split
    · exact scan_stepR_ok h x
    · exact h
theorem newestR_ok (R : RDisk) : StOk (newestR R) := scanR_ok _ ⟨(fun h => by cases h), fun _ => rfl⟩
theorem scanR_snoc (l : List PF) (x : PF) (S : StD) : scanR (l ++ [x]) S = if prefN x.1 = true then scanStepR (scanR l S) x else scanR l S := by
  unfold scanR
  rw [List.foldl_append, List.foldl_cons, List.foldl_nil]
/-- the state of Open's scan -/
structure OpR (w : World) (p base : Nat) (wr : World) (vf : Value) (fs : List ByteArray) (S : StD) : Prop where
  below : Below w.heap.size w wr
  st : RSt wr w.heap.size p S
  own : wr.ownsRow base 9 1 vf fs.length (fs.map Value.string)
  gb : w.heap.size < base
  bz : base ≤ wr.heap.size
section
variable {w wr w2 : World} {p base : Nat} {fs : List ByteArray} {vf vf' : Value} {S S2 : StD}
theorem OpR.below_ (a : OpR w p base wr vf fs S) (hb : Below wr.heap.size wr w2) : OpR w p base w2 vf fs S :=
  ⟨a.below.trans (hb.mono a.below.size), Blk.below a.st hb (Blk.lt a.st), own_below_ a.own hb, a.gb, Nat.le_trans a.bz hb.size⟩
theorem OpR.app (a : OpR w p base wr vf fs S) {t : ByteArray} (ho : w2.ownsRow base 9 1 vf' (fs.length + 1) (fs.map Value.string ++ [.string t])) (hb : Below base wr w2) : OpR w p base w2 vf' (fs ++ [t]) S :=
  ⟨a.below.trans (hb.mono (Nat.le_of_lt a.gb)), Blk.below a.st hb a.gb, by rw [List.length_append, List.map_append]; exact ho, a.gb, Nat.le_trans a.bz hb.size⟩
theorem OpR.put (a : OpR w p base wr vf fs S) (hm : Moved wr w2 w.heap.size none) (hs : RSt w2 w.heap.size p S2) : OpR w p base w2 vf fs S2 := by
  refine ⟨a.below.trans (hm.below (Nat.le_refl _) (by simp) a.below.size), hs, ?_, a.gb, Nat.le_trans a.bz hm.size⟩
  refine ⟨a.own.1, ?_⟩
  rcases a.own.2 with hn | ⟨g, cap, cur, hv, hg, hh, rest⟩
  · exact .inl hn
  · exact .inr ⟨g, cap, cur, hv, hg, (hm.block g (Array.getElem?_eq_some_iff.1 hh).1 (by have := a.gb; omega) (by simp)).trans hh, rest⟩
theorem OpR.start {w1 : World} (hb : Below w.heap.size w w1) (hs : RSt w1 w.heap.size p ⟨zeroM, false⟩) : OpR w p w1.heap.size w1 (.slice none 0 0) [] ⟨zeroM, false⟩ :=
  ⟨hb, hs, World.ownsRow_nil _ _ _ _, Blk.lt hs, Nat.le_refl _⟩
end
theorem prefN_eq {nm : ByteArray} : prefN nm = decide (nm.extract 0 3 = ⟨#[109, 102, 46]⟩) := by
  unfold prefN Lib.hasPrefix
  rw [Bool.eq_iff_iff, decide_eq_true_eq, List.isPrefixOf_iff_prefix]
  have he : (nm.extract 0 3).data.toList = nm.data.toList.take 3 := by
    simp [ByteArray.data_extract]
  constructor
  · intro hp
    obtain ⟨r, hr⟩ := hp
    apply ByteArray.ext
    apply Array.toList_inj.1
    rw [he, ← hr]
    rfl
  · intro e
    have e2 : (nm.extract 0 3).data.toList = [109, 102, 46] := by rw [e]
    rw [he] at e2
    rw [← e2]
    exact List.take_prefix _ _
theorem prefN_short {nm : ByteArray} (h : nm.size < 3) : prefN nm = false := by
  unfold prefN Lib.hasPrefix
  rw [Bool.eq_false_iff]
  intro e
  have := (List.isPrefixOf_iff_prefix.1 e).length_le
  have hl : nm.data.toList.length = nm.size := Array.length_toList
  simp only [List.length_cons, List.length_nil] at this
  omega
/-- what Open answers -/
def OpenRP (B : Nat) (w : World) (p : Nat) (R : RDisk) (e : Ending) (w' : World) : Prop :=
  RkOut B w w' p (openR R).2 ∧ ((openR R).1 ≠ 0 ∧ e = .returned (.tuple #[.pointer none, .int .i64 (openR R).1]) ∨ (openR R).1 = 0 ∧ ∃ gs, e = .returned (.tuple #[.pointer (some ⟨gs, 0, none⟩), .int .i64 0]) ∧ w.heap.size ≤ gs ∧ RSt w' gs p (newestR R))
section
variable (w : World) (B p : Nat) (D : DiskD) (R : RDisk) (h : RkIs w B p R)
include h
set_option maxHeartbeats 4000000 in
theorem ropen_off (ho : R.gone = true) : Calls Tryz.prog 10 #[.pointer (some ⟨p, 0, none⟩)] w (OpenRP B w p R) := by
  obtain ⟨-, vf, vs, hb, -, -⟩ := id h
  have c5 := hb.cell 5
  simp only [List.getElem?_toArray, List.getElem?_cons_zero, List.getElem?_cons_succ] at c5
  rw [ho] at c5
  have hop : openR R = (160, R) := by unfold openR; rw [if_pos ho]
  have HOP := Lib.hid hop; have HO := Lib.hid (RkOut.same h)
  clear hop ho h hb
  go_enter Tryz.func10, Tryz.ntmps10
  go_wp2
  go_ret2
  exact ⟨by rw [HOP.out]; exact HO.out, .inl (by rw [HOP.out]; exact ⟨(by decide : (160 : Int) ≠ 0), rfl⟩)⟩
set_option maxRecDepth 100000 in
set_option maxHeartbeats 16000000 in
theorem ropen_on (ho : R.gone = false) (hsim : Sim D R) (hf : FitN D (D.files.length + 1)) : Calls Tryz.prog 10 #[.pointer (some ⟨p, 0, none⟩)] w (OpenRP B w p R) := by
  obtain ⟨i0, hi0, hz0, hz1, hz2⟩ := parts infoS
  obtain ⟨hBp, vf, vs, hb, ⟨rows, hrr, hre⟩, -⟩ := id h
  have hrl2 : rows.length = R.files.length := by rw [← hre]; simp
  obtain ⟨Af, cf, rfl, -⟩ := id hrr
  have c0 := hb.cell 0; have c5 := hb.cell 5
  simp only [List.getElem?_toArray, List.getElem?_cons_zero, List.getElem?_cons_succ] at c0 c5
  rw [ho] at c5
  rw [hrl2] at c0 hrr
  have hop : openR R = dropR (newestR R) R (mfR R) := by unfold openR; rw [if_neg (by simp [ho])]
  have hz7 : sCells p ⟨zeroM, false⟩ = #[.pointer (some ⟨p, 0, none⟩), .int .i64 0, .int .i64 0, .int .i64 0, .int .i64 0, .int .i64 0, .bool false, .int .u32 0, .bool false] := rfl
  have hb0 := (Below.refl w.heap.size w).alloc (Nat.le_refl _) (.cells (sCells p ⟨zeroM, false⟩) 49)
  have hk0 := Blk.new w 49 (sCells p ⟨zeroM, false⟩)
  have hs0 := OpR.start hb0 hk0
  have hfr := sim_fit hsim hf
  have hlen : R.files.length = D.files.length := by rw [hsim.files]; unfold seenL; rw [List.length_map]
  rw [← hlen] at hf
  obtain ⟨N, hN⟩ : ∃ N, R.files.length = N := ⟨_, rfl⟩
  have hNl : N ≤ 100000000 := by rw [← hN]; exact hfr.len
  rw [hN] at hf hrr c0 hrl2
  rw [hz7] at hs0
  have hpl := h.lt
  have HOP := Lib.hid hop; have HS0 := Lib.hid hs0; have HH := Lib.hid h; have HF := Lib.hid hf; have HSIM := Lib.hid hsim; have HI0 := Lib.hid hi0; have HZ0 := Lib.hid hz0; have HN := Lib.hid hN; have HRR := Lib.hid hrr; have HRE := Lib.hid hre; have HRL := Lib.hid hrl2; have HC0 := Lib.hid c0
  clear hop hb0 hk0 h hf hsim ho hi0 hz0 hN hz7 hs0 hrr hre hrl2 hb hlen hfr
  go_enter Tryz.func10, Tryz.ntmps10
  go_upto_region 5 with (fail)
  obtain ⟨w1, hw1⟩ : ∃ w1, w.alloc (.cells #[.pointer (some ⟨p, 0, none⟩), .int .i64 0, .int .i64 0, .int .i64 0, .int .i64 0, .int .i64 0, .bool false, .int .u32 0, .bool false] 49) = w1 := ⟨_, rfl⟩
  rw [hw1] at HS0 ⊢
  obtain ⟨base, hbase⟩ : ∃ base, w1.heap.size = base := ⟨_, rfl⟩
  rw [hbase] at HS0
  clear hw1 hbase c0 c5
  go_wp2
  go_loopg [5, 6] N (fun gf vf vi wr => ∃ i : Nat, vi = .int .i64 i ∧ i + gf = N ∧ OpR w p base wr vf (((R.files.map (·.1)).take i).filter prefN) (scanR (R.files.take i) ⟨zeroM, false⟩))
  case atStart => exact ⟨0, rfl, by omega, by rw [List.take_zero, List.take_zero]; exact HS0.out⟩
  case round =>
    clear HS0
    obtain ⟨i, rfl, hi, hst⟩ := hrel
    have c0 : wr.cell? ⟨p, 0, none⟩ = some (.slice Af N cf) := (hst.below.cell (p := ⟨p, 0, none⟩) hpl).trans HC0.out
    obtain ⟨Av, cv, rfl⟩ := own_shape hst.own
    cases gk with
    | zero =>
      obtain rfl : i = N := by omega
      have hmf : ((R.files.map (·.1)).take i).filter prefN = mfR R := by
        rw [List.take_of_length_le (by rw [List.length_map, HN.out]; exact Nat.le_refl _)]; rfl
      have hsc0 : scanR (R.files.take i) ⟨zeroM, false⟩ = newestR R := by
        rw [List.take_of_length_le (by rw [HN.out]; exact Nat.le_refl _)]; rfl
      rw [hmf, hsc0] at hst
      rw [hmf] at *
      obtain ⟨fs, hfs⟩ : ∃ fs, mfR R = fs := ⟨_, rfl⟩
      have hfl2 : fs.length ≤ i := by
        rw [← hfs, ← HN.out]
        unfold mfR
        exact Nat.le_trans (List.length_filter_le _ _) (by rw [List.length_map]; exact Nat.le_refl _)
      have hsok := newestR_ok R
      obtain ⟨S, hS⟩ : ∃ S, newestR R = S := ⟨_, rfl⟩
      have hop := HOP.out
      rw [hfs, hS] at hop
      rw [hfs, hS] at hst
      rw [hS] at hsok
      rw [hfs]
      have HOP2 := Lib.hid hop; have HS2 := Lib.hid hS; have HSOK := Lib.hid hsok
      have hrow : ∀ k t, fs[k]? = some t → ∃ g cur, Av = some ⟨g, 0, none⟩ ∧ Blk wr g 9 cur ∧ cur[k]? = some (Value.string t) := fun k t hk => by
        have hkl := (List.getElem?_eq_some_iff.1 hk).1
        rcases hst.own.2 with ⟨_, h0⟩ | ⟨g, cap, cur, hv, _, hh, _, _, _, htk⟩
        · omega
        · injection hv with hv
          refine ⟨g, cur, hv, hh, ?_⟩
          have : (cur.toList.take (fs.length * 1))[k]? = (fs.map Value.string)[k]? := by rw [htk]
          rw [List.getElem?_map, hk, List.getElem?_take, if_pos (by omega), Array.getElem?_toList] at this
          exact this
      have HROW := Lib.hid hrow
      have HSTW := Lib.hid hst
      obtain ⟨w2, hw2⟩ : ∃ w2, w2 = wr := ⟨_, rfl⟩
      subst hw2
      have HO2 := Lib.hid (RkOut.same (HH.out.below hst.below))
      have HBASE := Lib.hid ((RkOut.same HH.out).below hst.below)
      have hf2 : FitN D (fs.length + 1) := HF.out.less (by omega)
      have HF2 := Lib.hid hf2
      have hlw : w.heap.size < w2.heap.size := Blk.lt hst.st
      clear hmf hsc0 hfs hop hS hst hrow hf2 HOP HN HF HI0 HZ0 hi hsok HRR HRE HRL HC0
      go_wp2
      go_loopg [10] fs.length (fun gf vi wr => ∃ (i : Nat) (D1 : DiskD) (R1 : RDisk), vi = .int .i64 i ∧ i + gf = fs.length ∧ RkOut B w2 wr p R1 ∧ dropR S R fs = dropR S R1 (fs.drop i) ∧ Sim D1 R1 ∧ FitN D1 (gf + 1))
      case atStart => exact ⟨0, D, R, rfl, by omega, HO2.out, by rw [List.drop_zero], HSIM.out, HF2.out⟩
      case round =>
        clear HF2 c0
        obtain ⟨i, D1, R1, rfl, hi, ho, hd, hsim1, hf1⟩ := hrel
        cases gk with
        | zero =>
          obtain rfl : i = fs.length := by omega
          rw [List.drop_length] at hd
          have hst9 := ho.keep_blk HO2.out.is HSTW.out.st (by decide)
          have HST9 := Lib.hid hst9; have HOE := Lib.hid (HBASE.out.trans ho)
          have hop : openR R = (0, R1) := by rw [HOP2.out, hd]; rfl
          have HOP3 := Lib.hid hop
          clear hd hst9 ho hop hf1 hsim1
          go_wp2
          go_ret2
          exact ⟨by rw [HOP3.out]; exact HOE.out, .inr ⟨by rw [HOP3.out], w.heap.size, rfl, Nat.le_refl _, by rw [HS2.out]; exact HST9.out⟩⟩
        | succ gf =>
          have hil : i < fs.length := by omega
          have hiI : (i : Int) < (fs.length : Int) := by omega
          obtain ⟨t, ht⟩ : ∃ t, fs[i]? = some t := ⟨_, List.getElem?_eq_getElem hil⟩
          have hdr : fs.drop i = t :: fs.drop (i + 1) := by
            rw [List.drop_eq_getElem_cons hil]
            congr 1
            rw [List.getElem?_eq_getElem hil] at ht
            injection ht
          rw [hdr] at hd
          obtain ⟨g, cur, rfl, hblk, hcu⟩ := HROW.out i t ht
          have hrw := ho.keep_blk HO2.out.is hblk (by decide)
          have hcell : wr.cell? ⟨g, i, none⟩ = some (.string t) := (hrw.cell i).trans hcu
          have hst9 := ho.keep_blk HO2.out.is HSTW.out.st (by decide)
          have c1 := Blk.cell hst9 1; have c8 := Blk.cell hst9 8
          simp only [sCells, List.getElem?_toArray, List.getElem?_cons_zero, List.getElem?_cons_succ] at c1 c8
          have hrm := rremove_any wr B p R1 ho.is (sim_fit hsim1 hf1) t
          obtain ⟨hes, hsim2⟩ := sim_remove hsim1 t
          have hf2 : FitN (D1.step 3 t t 0 true).2 (gf + 1) := hf1.step _ _ _ _ _
          have HO3 := Lib.hid ho; have HRM := Lib.hid hrm; have HSIM2 := Lib.hid hsim2; have HF2 := Lib.hid hf2; have HSIM1 := Lib.hid hsim1; have HF1 := Lib.hid (hf1.less (by omega) : FitN D1 (gf + 1)); have HHD := Lib.hid hd
          obtain ⟨nn0, nn1⟩ := HSOK.out.nn
          have HNMC := Lib.hid (fun W : World => rname_any W S.m.n (by omega) (by omega))
          clear ht hdr hblk hcu hst9 ho hrm hsim2 hf2 hsim1 hf1 hes hd
          have hkq : keptS S t = (S.some && decide (t = nameM S.m.n)) := rfl
          obtain ⟨nm, hnmq⟩ : ∃ nm, nameM S.m.n = nm := ⟨_, rfl⟩
          rw [hnmq] at HNMC hkq
          clear hnmq
          go_upto_region 18 with (fail)
          go_cut [111] (fun s111 wx => s111 = .bool (keptS S t) ∧ Below wr.heap.size wr wx)
          case first =>
            cases hsm : S.some with
            | false =>
              rw [hsm] at c8 hkq
              have HKP := Lib.hid (show keptS S t = false from hkq)
              clear hsm hkq
              refine wp_region_noPanic ?_
              refine wp_region_held_drew (S := (fun wq => wq.cell? ⟨w.heap.size, 8, none⟩ = some (.bool false))) (by kernel_rfl) ?_ (fun hHeld => ?_)
              · exact c8
              refine wpT (i := 0) (v := ?v0g5_) rfl (Or.inl ⟨by rfl, ?y0g5_⟩) (by assumption) ?r0g5_
              case y0g5_ => (intro w hSw; (try dsimp only at hSw); go_simp; try with_reducible rfl)
              change wpAnyH _ _ _ _ _ _ _ (Act.put _ (some 95) _) _; simp only [Act.put, List.setIfInBounds_toArray, List.set_cons_zero, List.set_cons_succ]
              refine wpT (i := 1) (v := ?v1g5_) rfl (Or.inl ⟨by rfl, ?y1g5_⟩) (by assumption) ?r1g5_
              case y1g5_ => (intro w hSw; (try dsimp only at hSw); go_simp; try with_reducible rfl)
              change wpAnyH _ _ _ _ _ _ _ (Act.put _ (some 96) _) _; simp only [Act.put, List.setIfInBounds_toArray, List.set_cons_zero, List.set_cons_succ]
              refine wpT (i := 2) (v := ?v2g5_) rfl (Or.inl ⟨by rfl, ?y2g5_⟩) (by assumption) ?r2g5_
              case y2g5_ => (intro w hSw; (try dsimp only at hSw); go_simp; try with_reducible rfl)
              change wpAnyH _ _ _ _ _ _ _ (Act.put _ (some 97) _) _; simp only [Act.put, List.setIfInBounds_toArray, List.set_cons_zero, List.set_cons_succ]
              refine wpT (i := 3) (v := ?v3g5_) rfl (Or.inl ⟨by rfl, ?y3g5_⟩) (by assumption) ?r3g5_
              case y3g5_ => (intro w hSw; (try dsimp only at hSw); go_simp; try with_reducible rfl)
              change wpAnyH _ _ _ _ _ _ _ (Act.put _ (some 98) _) _; simp only [Act.put, List.setIfInBounds_toArray, List.set_cons_zero, List.set_cons_succ]
              refine wpT (i := 4) (v := ?v4g5_) rfl (Or.inl ⟨by rfl, ?y4g5_⟩) (by assumption) ?r4g5_
              case y4g5_ => (intro w hSw; (try dsimp only at hSw); go_simp; try with_reducible rfl)
              change wpAnyH _ _ _ _ _ _ _ (Act.put _ (some 99) _) _; simp only [Act.put, List.setIfInBounds_toArray, List.set_cons_zero, List.set_cons_succ]
              refine wpT (i := 5) (v := undef) rfl (Or.inr ⟨by rfl, rfl⟩) (by assumption) ?_
              change wpAnyH _ _ _ _ _ _ _ (Act.put _ (some 100) _) _; simp only [Act.put, List.setIfInBounds_toArray, List.set_cons_zero, List.set_cons_succ]
              refine wpT (i := 6) (v := undef) rfl (Or.inr ⟨by rfl, rfl⟩) (by assumption) ?_
              change wpAnyH _ _ _ _ _ _ _ (Act.put _ (some 101) _) _; simp only [Act.put, List.setIfInBounds_toArray, List.set_cons_zero, List.set_cons_succ]
              refine wpT (i := 7) (v := undef) rfl (Or.inr ⟨by rfl, rfl⟩) (by assumption) ?_
              change wpAnyH _ _ _ _ _ _ _ (Act.put _ (some 102) _) _; simp only [Act.put, List.setIfInBounds_toArray, List.set_cons_zero, List.set_cons_succ]
              refine wpT (i := 8) (v := undef) rfl (Or.inr ⟨by rfl, rfl⟩) (by assumption) ?_
              change wpAnyH _ _ _ _ _ _ _ (Act.put _ (some 103) _) _; simp only [Act.put, List.setIfInBounds_toArray, List.set_cons_zero, List.set_cons_succ]
              refine wpT (i := 9) (v := undef) rfl (Or.inr ⟨by rfl, rfl⟩) (by assumption) ?_
              change wpAnyH _ _ _ _ _ _ _ (Act.put _ (some 104) _) _; simp only [Act.put, List.setIfInBounds_toArray, List.set_cons_zero, List.set_cons_succ]
              refine wpT (i := 10) (v := undef) rfl (Or.inr ⟨by rfl, rfl⟩) (by assumption) ?_
              change wpAnyH _ _ _ _ _ _ _ (Act.put _ (some 105) _) _; simp only [Act.put, List.setIfInBounds_toArray, List.set_cons_zero, List.set_cons_succ]
              refine wpT (i := 11) (v := undef) rfl (Or.inr ⟨by rfl, rfl⟩) (by assumption) ?_
              change wpAnyH _ _ _ _ _ _ _ (Act.put _ (some 106) _) _; simp only [Act.put, List.setIfInBounds_toArray, List.set_cons_zero, List.set_cons_succ]
              refine wpT (i := 12) (v := undef) rfl (Or.inr ⟨by rfl, rfl⟩) (by assumption) ?_
              change wpAnyH _ _ _ _ _ _ _ (Act.put _ (some 107) _) _; simp only [Act.put, List.setIfInBounds_toArray, List.set_cons_zero, List.set_cons_succ]
              refine wpT (i := 13) (v := undef) rfl (Or.inr ⟨by rfl, rfl⟩) (by assumption) ?_
              change wpAnyH _ _ _ _ _ _ _ (Act.put _ (some 108) _) _; simp only [Act.put, List.setIfInBounds_toArray, List.set_cons_zero, List.set_cons_succ]
              refine wpT (i := 14) (v := undef) rfl (Or.inr ⟨by rfl, rfl⟩) (by assumption) ?_
              change wpAnyH _ _ _ _ _ _ _ (Act.put _ (some 109) _) _; simp only [Act.put, List.setIfInBounds_toArray, List.set_cons_zero, List.set_cons_succ]
              refine wpT (i := 15) (v := undef) rfl (Or.inr ⟨by rfl, rfl⟩) (by assumption) ?_
              change wpAnyH _ _ _ _ _ _ _ (Act.put _ (some 110) _) _; simp only [Act.put, List.setIfInBounds_toArray, List.set_cons_zero, List.set_cons_succ]
              refine wpT (i := 16) (v := ?v16g5_) rfl (Or.inl ⟨by rfl, ?y16g5_⟩) (by assumption) ?r16g5_
              case y16g5_ => (intro w hSw; (try dsimp only at hSw); go_simp; try with_reducible rfl)
              change wpAnyH _ _ _ _ _ _ _ (Act.put _ (some 111) _) _; simp only [Act.put, List.setIfInBounds_toArray, List.set_cons_zero, List.set_cons_succ]
              refine wpAnyH_done (by kernel_rfl) ?_ _
              refine NoPanic.normal ?_
              go_wp2_with fail
              go_meet
              exact ⟨congrArg Value.bool HKP.out.symm, below_drewN (Below.refl _ _) 1⟩
            | true =>
              rw [hsm, Bool.true_and] at hkq
              rw [hsm] at c8
              have hqb : (t.toList == nm.toList) = decide (t = nm) := mbeq_ _ _
              obtain ⟨bq, hbq⟩ : ∃ bq, decide (t = nm) = bq := ⟨_, rfl⟩
              rw [hbq] at hqb hkq
              have HKP := Lib.hid hkq
              clear hsm hkq hbq
              refine wp_region_noPanic ?_
              refine wp_region_held_drew (S := (fun wq => wq.cell? ⟨w.heap.size, 8, none⟩ = some (.bool true) ∧ wq.cell? ⟨w.heap.size, 1, none⟩ = some (.int .i64 S.m.n) ∧ wq.cell? ⟨g, i, none⟩ = some (.string t))) (by kernel_rfl) ?_ (fun hHeld => ?_)
              · exact ⟨c8, c1, hcell⟩
              refine wpT (i := 0) (v := ?v0g6_) rfl (Or.inl ⟨by rfl, ?y0g6_⟩) (by assumption) ?r0g6_
              case y0g6_ => (intro w hSw; (try dsimp only at hSw); go_simp; try with_reducible rfl)
              change wpAnyH _ _ _ _ _ _ _ (Act.put _ (some 95) _) _; simp only [Act.put, List.setIfInBounds_toArray, List.set_cons_zero, List.set_cons_succ]
              refine wpT (i := 1) (v := ?v1g6_) rfl (Or.inl ⟨by rfl, ?y1g6_⟩) (by assumption) ?r1g6_
              case y1g6_ => (intro w hSw; (try dsimp only at hSw); go_simp; try with_reducible rfl)
              change wpAnyH _ _ _ _ _ _ _ (Act.put _ (some 96) _) _; simp only [Act.put, List.setIfInBounds_toArray, List.set_cons_zero, List.set_cons_succ]
              refine wpT (i := 2) (v := ?v2g6_) rfl (Or.inl ⟨by rfl, ?y2g6_⟩) (by assumption) ?r2g6_
              case y2g6_ => (intro w hSw; (try dsimp only at hSw); go_simp; try with_reducible rfl)
              change wpAnyH _ _ _ _ _ _ _ (Act.put _ (some 97) _) _; simp only [Act.put, List.setIfInBounds_toArray, List.set_cons_zero, List.set_cons_succ]
              refine wpT (i := 3) (v := ?v3g6_) rfl (Or.inl ⟨by rfl, ?y3g6_⟩) (by assumption) ?r3g6_
              case y3g6_ => (intro w hSw; (try dsimp only at hSw); go_simp; try with_reducible rfl)
              change wpAnyH _ _ _ _ _ _ _ (Act.put _ (some 98) _) _; simp only [Act.put, List.setIfInBounds_toArray, List.set_cons_zero, List.set_cons_succ]
              refine wpT (i := 4) (v := ?v4g6_) rfl (Or.inl ⟨by rfl, ?y4g6_⟩) (by assumption) ?r4g6_
              case y4g6_ => (intro w hSw; (try dsimp only at hSw); go_simp; try with_reducible rfl)
              change wpAnyH _ _ _ _ _ _ _ (Act.put _ (some 99) _) _; simp only [Act.put, List.setIfInBounds_toArray, List.set_cons_zero, List.set_cons_succ]
              refine wpT (i := 5) (v := ?v5g6_) rfl (Or.inl ⟨by rfl, ?y5g6_⟩) (by assumption) ?r5g6_
              case y5g6_ => (intro w hSw; (try dsimp only at hSw); go_simp; try with_reducible rfl)
              change wpAnyH _ _ _ _ _ _ _ (Act.put _ (some 100) _) _; simp only [Act.put, List.setIfInBounds_toArray, List.set_cons_zero, List.set_cons_succ]
              refine wpT (i := 6) (v := ?v6g6_) rfl (Or.inl ⟨by rfl, ?y6g6_⟩) (by assumption) ?r6g6_
              case y6g6_ => (intro w hSw; (try dsimp only at hSw); go_simp; try with_reducible rfl)
              change wpAnyH _ _ _ _ _ _ _ (Act.put _ (some 101) _) _; simp only [Act.put, List.setIfInBounds_toArray, List.set_cons_zero, List.set_cons_succ]
              refine wpT (i := 7) (v := ?v7g6_) rfl (Or.inl ⟨by rfl, ?y7g6_⟩) (by assumption) ?r7g6_
              case y7g6_ => (intro w hSw; (try dsimp only at hSw); go_simp; try with_reducible rfl)
              change wpAnyH _ _ _ _ _ _ _ (Act.put _ (some 102) _) _; simp only [Act.put, List.setIfInBounds_toArray, List.set_cons_zero, List.set_cons_succ]
              refine wpT (i := 8) (v := ?v8g6_) rfl (Or.inl ⟨by rfl, ?y8g6_⟩) (by assumption) ?r8g6_
              case y8g6_ => (intro w hSw; (try dsimp only at hSw); go_simp; try with_reducible rfl)
              change wpAnyH _ _ _ _ _ _ _ (Act.put _ (some 103) _) _; simp only [Act.put, List.setIfInBounds_toArray, List.set_cons_zero, List.set_cons_succ]
              refine wpT (i := 9) (v := ?v9g6_) rfl (Or.inl ⟨by rfl, ?y9g6_⟩) (by assumption) ?r9g6_
              case y9g6_ => (intro w hSw; (try dsimp only at hSw); go_simp; try with_reducible rfl)
              change wpAnyH _ _ _ _ _ _ _ (Act.put _ (some 104) _) _; simp only [Act.put, List.setIfInBounds_toArray, List.set_cons_zero, List.set_cons_succ]
              refine wpT (i := 10) (v := ?v10g6_) rfl (Or.inl ⟨by rfl, ?y10g6_⟩) (by assumption) ?r10g6_
              case y10g6_ => (intro w hSw; (try dsimp only at hSw); go_simp; try with_reducible rfl)
              change wpAnyH _ _ _ _ _ _ _ (Act.put _ (some 105) _) _; simp only [Act.put, List.setIfInBounds_toArray, List.set_cons_zero, List.set_cons_succ]
              refine wpT (i := 11) (v := ?v11g6_) rfl (Or.inl ⟨by rfl, ?y11g6_⟩) (by assumption) ?r11g6_
              case y11g6_ => (intro w hSw; (try dsimp only at hSw); go_simp; try with_reducible rfl)
              change wpAnyH _ _ _ _ _ _ _ (Act.put _ (some 106) _) _; simp only [Act.put, List.setIfInBounds_toArray, List.set_cons_zero, List.set_cons_succ]
              refine wpT (i := 12) (v := ?v12g6_) rfl (Or.inl ⟨by rfl, ?y12g6_⟩) (by assumption) ?r12g6_
              case y12g6_ => (intro w hSw; (try dsimp only at hSw); go_simp; try with_reducible rfl)
              change wpAnyH _ _ _ _ _ _ _ (Act.put _ (some 107) _) _; simp only [Act.put, List.setIfInBounds_toArray, List.set_cons_zero, List.set_cons_succ]
              refine wpT (i := 13) (v := ?v13g6_) rfl (Or.inl ⟨by rfl, ?y13g6_⟩) (by assumption) ?r13g6_
              case y13g6_ => (intro w hSw; (try dsimp only at hSw); go_simp; try with_reducible rfl)
              change wpAnyH _ _ _ _ _ _ _ (Act.put _ (some 108) _) _; simp only [Act.put, List.setIfInBounds_toArray, List.set_cons_zero, List.set_cons_succ]
              refine wpAnyH_ready (rs := [14]) (by kernel_rfl) (by simp) ?_
              refine AllReadyH.cons rfl (fun K hK => ?_) AllReadyH.nil
              go_simp
              refine (HNMC.out _).mono ?_
              rintro e w7 ⟨rfl, rfl⟩
              dsimp only
              refine hK.out _ _ ?_ (fun hHeld => ?_)
              · exact ⟨c8, c1, hcell⟩
              clear hK K
              try simp only [Act.put, List.setIfInBounds_toArray, List.set_cons_zero, List.set_cons_succ]
              refine wpT (i := 15) (v := ?v15g6_) rfl (Or.inl ⟨by rfl, ?y15g6_⟩) (by assumption) ?r15g6_
              case y15g6_ => (intro w hSw; (try dsimp only at hSw); go_simp; try with_reducible rfl)
              change wpAnyH _ _ _ _ _ _ _ (Act.put _ (some 110) _) _; simp only [Act.put, List.setIfInBounds_toArray, List.set_cons_zero, List.set_cons_succ]
              refine wpT (i := 16) (v := ?v16g6_) rfl (Or.inl ⟨by rfl, ?y16g6_⟩) (by assumption) ?r16g6_
              case y16g6_ => (intro w hSw; (try dsimp only at hSw); go_simp; try with_reducible rfl)
              change wpAnyH _ _ _ _ _ _ _ (Act.put _ (some 111) _) _; simp only [Act.put, List.setIfInBounds_toArray, List.set_cons_zero, List.set_cons_succ]
              refine wpAnyH_done (by kernel_rfl) ?_ _
              refine NoPanic.normal ?_
              go_wp2_with fail
              go_meet
              exact ⟨congrArg Value.bool HKP.out.symm, below_drewN (Below.refl _ _) 1⟩
          case rest =>
          obtain ⟨rfl, hbx⟩ := hcut
          obtain ⟨wy, hwy⟩ : ∃ wy, wy = wc := ⟨_, rfl⟩
          subst hwy
          have HBX := Lib.hid hbx
          clear hbx c1 c8 hkq
          cases hkp : keptS S t with
          | true =>
            have hd2 := HHD.out
            rw [dropR, if_pos hkp] at hd2
            have HD2 := Lib.hid hd2; have HOX := Lib.hid (HO3.out.below HBX.out)
            clear hd2 hkp
            go_wp2
            go_roundg gf
            case measure => omega
            case rel => exact ⟨i + 1, D1, R1, by go_num, by omega, HOX.out, HD2.out, HSIM1.out, HF1.out⟩
          | false =>
            have hd2 := HHD.out
            rw [dropR, if_neg (by rw [hkp]; simp)] at hd2
            have hox := HO3.out.below HBX.out
            have hrm := rremove_any wy B p R1 hox.is (sim_fit HSIM1.out HF1.out) t
            have hs2 := HSIM2.out
            have hcell2 : wy.cell? ⟨g, i, none⟩ = some (.string t) := (HBX.out.cell (p := ⟨g, i, none⟩) hrw.lt).trans hcell
            obtain ⟨x2, hx2⟩ : ∃ x2, R1.remove t = x2 := ⟨_, rfl⟩
            rw [hx2] at hrm hs2 hd2
            obtain ⟨E, R2⟩ := x2
            have HRM2 := Lib.hid hrm; have HS3 := Lib.hid hs2; have HD2 := Lib.hid hd2; have HOX := Lib.hid hox
            clear hrm hs2 hd2 hox hx2 hkp hcell HRM HSIM2
            go_wp2_with fail
            refine HRM2.out.mono ?_
            rintro e w5 ⟨rfl, o5⟩
            have HO5 := Lib.hid (HOX.out.trans o5)
            clear o5 HRM2 HOX hcell2
            by_cases hE : E = 0
            case neg =>
              have hd2 := HD2.out
              rw [if_pos hE] at hd2
              have hop : openR R = (E, R2) := by rw [HOP2.out, hd2]
              have HOP3 := Lib.hid hop; have HOE := Lib.hid (HBASE.out.trans HO5.out); have HE := Lib.hid hE
              have hEb : (E != 0) = true := by simpa using hE
              clear hd2 hop hE HD2
              go_wp2
              go_ret2
              exact ⟨by rw [HOP3.out]; exact HOE.out, .inl (by rw [HOP3.out]; exact ⟨HE.out, rfl⟩)⟩
            subst hE
            have hd2 := HD2.out
            rw [if_neg (by simp)] at hd2
            have HD3 := Lib.hid hd2
            clear hd2 HD2
            go_wp2
            go_roundg gf
            case measure => omega
            case rel => exact ⟨i + 1, _, R2, by go_num, by omega, HO5.out, HD3.out, HS3.out, HF2.out⟩
    | succ gf =>
      have hiN : i < N := by omega
      have hiI : (i : Int) < (N : Int) := by omega
      have hrr := HRR.out
      rw [← HRL.out] at hrr
      obtain ⟨b, oo, rfl, hltb, nm, A', c', bb, hx, x0, x1, hbt⟩ := hrr.at_ (i := i) (by rw [HRL.out]; exact hiN)
      have hfi : R.files[i]? = some (nm, bb) := by rw [← HRE.out, List.getElem?_map, hx]; rfl
      have y0 : wr.cell? ⟨b, oo + i * 2, none⟩ = some (.string nm) := (hst.below.cell (p := ⟨b, oo + i * 2, none⟩) hltb).trans x0
      have y1 : wr.cell? ⟨b, oo + i * 2 + 1, none⟩ = some (.slice A' bb.size c') := (hst.below.cell (p := ⟨b, oo + i * 2 + 1, none⟩) hltb).trans x1
      have htk : ((R.files.map (·.1)).take (i + 1)).filter prefN = ((R.files.map (·.1)).take i).filter prefN ++ (if prefN nm = true then [nm] else []) := by
        rw [List.take_add_one, List.getElem?_map, hfi, List.filter_append]
        congr 1
        simp only [Option.map_some, Option.toList, List.filter_cons, List.filter_nil]
      have hsn : scanR (R.files.take (i + 1)) ⟨zeroM, false⟩ = if prefN nm = true then scanStepR (scanR (R.files.take i) ⟨zeroM, false⟩) (nm, bb) else scanR (R.files.take i) ⟨zeroM, false⟩ := by
        rw [List.take_add_one, hfi]
        exact scanR_snoc _ _ _
      have hk9 := Blk.new wr 78 #[.string nm, .slice A' bb.size c']
      have hb8 := (Below.refl wr.heap.size wr).alloc (Nat.le_refl _) (.cells #[.string nm, .slice A' bb.size c'] 78)
      have hst4 := hst.below_ hb8
      have HK9 := Lib.hid hk9; have HST4 := Lib.hid hst4; have HTK := Lib.hid htk; have HSN := Lib.hid hsn; have HBT := Lib.hid hbt; have HST := Lib.hid hst
      have hlo := fun k hk => (hst.own.lt k hk)
      have HLO := Lib.hid hlo
      clear hk9 hb8 hst4 htk hsn hbt hst hfi hx hrr x0 x1 hlo
      go_upto_region 9 with (fail)
      obtain ⟨w4, hw4⟩ : ∃ w4, wr.alloc (.cells #[.string nm, .slice A' bb.size c'] 78) = w4 := ⟨_, rfl⟩
      obtain ⟨g, hg⟩ : ∃ g, wr.heap.size = g := ⟨_, rfl⟩
      rw [hw4] at HK9 HST4 ⊢
      rw [hg] at HK9 ⊢
      have g0 := HK9.out.cell 0; have g1 := HK9.out.cell 1
      simp only [List.getElem?_toArray, List.getElem?_cons_zero, List.getElem?_cons_succ] at g0 g1
      have HG := Lib.hid hg
      clear hw4 hg y0 y1 c0
      by_cases hsz : nm.size < 3
      · have hszI : (nm.size : Int) < 3 := by omega
        have hp := prefN_short hsz
        have htk := HTK.out; have hsn := HSN.out
        rw [hp] at htk hsn
        rw [if_neg (by simp), List.append_nil] at htk
        rw [if_neg (by simp)] at hsn
        have HTK2 := Lib.hid htk; have HSN2 := Lib.hid hsn
        clear hp htk hsn HTK HSN hsz
        go_wp2
        go_roundg gf
        case measure => omega
        case rel => exact ⟨i + 1, by go_num, by omega, by rw [HTK2.out, HSN2.out]; exact HST4.out⟩
      have hszI : ¬ (nm.size : Int) < 3 := by omega
      have hpq := prefN_eq (nm := nm)
      have hqb : ((nm.extract 0 3).toList == (⟨#[109, 102, 46]⟩ : ByteArray).toList) = decide (nm.extract 0 3 = ⟨#[109, 102, 46]⟩) := mbeq_ _ _
      rw [← hpq] at hqb
      rw [show (⟨#[109, 102, 46]⟩ : ByteArray).toList = [109, 102, 46] from by rw [ByteArray.toList_eq]] at hqb
      have hs3 : 3 ≤ nm.size := by omega
      clear hpq hsz
      cases hp : prefN nm with
      | false =>
        have htk := HTK.out; have hsn := HSN.out
        rw [hp] at htk hsn hqb
        rw [if_neg (by simp), List.append_nil] at htk
        rw [if_neg (by simp)] at hsn
        have HTK2 := Lib.hid htk; have HSN2 := Lib.hid hsn
        clear hp htk hsn HTK HSN
        go_wp2
        go_roundg gf
        case measure => omega
        case rel => exact ⟨i + 1, by go_num, by omega, by rw [HTK2.out, HSN2.out]; exact HST4.out⟩
      | true =>
        have htk := HTK.out; have hsn := HSN.out
        rw [hp] at htk hsn hqb
        rw [if_pos rfl] at htk hsn
        have hst4 := HST4.out
        obtain ⟨fs, hfs⟩ : ∃ fs, ((R.files.map (·.1)).take i).filter prefN = fs := ⟨_, rfl⟩
        have hfl2 : fs.length ≤ 100000000 := by
          rw [← hfs]
          refine Nat.le_trans (List.length_filter_le _ _) (Nat.le_trans (List.length_take_le _ _) ?_)
          omega
        obtain ⟨S, hS⟩ : ∃ S, scanR (R.files.take i) ⟨zeroM, false⟩ = S := ⟨_, rfl⟩
        have hlo := HLO.out
        have hstr := HST.out
        rw [hfs] at htk hst4 hstr ⊢
        rw [hS] at hsn hst4 hstr
        rw [hfs] at hlo
        have hown := Lib.hid hst4.own
        have hbz := hst4.bz
        have HTK2 := Lib.hid htk; have HSN2 := Lib.hid hsn; have HST5 := Lib.hid hst4; have HLO2 := Lib.hid hlo
        clear hp htk hsn HTK HSN hst4 hfs hS HST4 hlo HLO HST hstr
        go_upto_region 11 with (at_builtin; refine wpList_app _ w4 rfl (.tmp 45) (.tmp 48) 60 rfl base 9 i0 (.string ⟨#[]⟩) 1 16 Tryz.underlying60 HI0.out HZ0.out hz1 hz2 rfl (by decide) (by decide) _ fs.length _ rfl hown [.string nm] rfl rfl rfl w4.heap.size rfl rfl (by omega) hbz ?_; intro v3 w3 h2 h3 h4; have HST6 := Lib.hid (HST5.out.app h2.out h4.out); have HK6 := Lib.hid ((HK9.out.below ((Below.refl w4.heap.size w4).alloc (Nat.le_refl _) (.cells [Value.string nm].toArray 9)) HK9.out.lt).grown h3.out (fun e => by have h9 := (HLO2.out g e.symm).2; have h8 := HG.out; omega)); clear h2 h3 h4)
        have hbt3 := HBT.out.below HST6.out.below
        have hget := rfGet_any w3 _ bb hbt3.btr
        have g1' := HK6.out.cell 1
        simp only [List.getElem?_toArray, List.getElem?_cons_zero, List.getElem?_cons_succ] at g1'
        have HGET := Lib.hid hget
        clear hbt3 hget hown hbz g0 g1 hqb HK9 HST5 HLO2
        obtain ⟨A3, c3, rfl⟩ := own_shape HST6.out.own
        go_wp2_with fail
        refine HGET.out.mono ?_
        rintro e w5 ⟨rfl, hb5⟩
        have hst5 := HST6.out.below_ hb5
        have hkg := HK6.out.below hb5 HK6.out.lt
        have hk0 := Blk.new w5 46 (mCells zeroM)
        have hb6 := (Below.refl w5.heap.size w5).alloc (Nat.le_refl _) (.cells (mCells zeroM) 46)
        have hm7 : mCells zeroM = #[.int .i64 0, .int .i64 0, .int .i64 0, .int .i64 0, .int .i64 0, .bool false, .int .u32 0] := rfl
        clear HGET hb5 HST6 HK6 g1'
        cases ho : getM bb with
        | none =>
          have hsn2 := HSN2.out
          rw [show scanStepR S (nm, bb) = S from by unfold scanStepR; dsimp only; rw [ho]] at hsn2
          have hk6 := hk0.setRow (mCells zeroM)
          have hone := mCells_oneA zeroM
          have hst6 := hst5.below_ (below_row hb6 (Nat.le_refl _) (mCells zeroM))
          rw [hm7] at hk0 hk6 hone hst6
          have HK0 := Lib.hid hk0; have HK6 := Lib.hid hk6; have HONE := Lib.hid hone; have HST6 := Lib.hid hst6; have HSN3 := Lib.hid hsn2
          clear hk0 hk6 hone hst6 hst5 hb6 hsn2 ho HSN2 hkg
          rw [show getV (none : Option ManM) = zeroM from rfl, show getB (none : Option ManM) = false from rfl, hm7]
          clear hm7
          go_upto_region 12 with (first | (refine wpList_store_row rfl 46 (.tmp 8) (.tmp 54) rfl w5.heap.size #[.int .i64 0, .int .i64 0, .int .i64 0, .int .i64 0, .int .i64 0, .bool false, .int .u32 0] rfl rfl 46 _ HK0.out infoRf rfl HONE.out ?_))
          obtain ⟨w6, hw6⟩ : ∃ w6, (w5.alloc (.cells #[.int .i64 0, .int .i64 0, .int .i64 0, .int .i64 0, .int .i64 0, .bool false, .int .u32 0] 46)).setRow w5.heap.size #[.int .i64 0, .int .i64 0, .int .i64 0, .int .i64 0, .int .i64 0, .bool false, .int .u32 0] = w6 := ⟨_, rfl⟩
          rw [hw6] at HK6 HST6 ⊢
          clear hw6
          go_cut [81] (fun s81 wx => s81 = .bool false ∧ Below w6.heap.size w6 wx)
          case first =>
            refine wp_region_noPanic ?_
            refine wp_region_held_drew (S := (fun _ => True)) (by kernel_rfl) ?_ (fun hHeld => ?_)
            · exact trivial
            refine wpT (i := 0) (v := ?v0g1_) rfl (Or.inl ⟨by rfl, ?y0g1_⟩) (by assumption) ?r0g1_
            case y0g1_ => (intro w hSw; (try dsimp only at hSw); go_simp; try with_reducible rfl)
            change wpAnyH _ _ _ _ _ _ _ (Act.put _ (some 56) _) _; simp only [Act.put, List.setIfInBounds_toArray, List.set_cons_zero, List.set_cons_succ]
            refine wpT (i := 1) (v := ?v1g1_) rfl (Or.inl ⟨by rfl, ?y1g1_⟩) (by assumption) ?r1g1_
            case y1g1_ => (intro w hSw; (try dsimp only at hSw); go_simp; try with_reducible rfl)
            change wpAnyH _ _ _ _ _ _ _ (Act.put _ (some 57) _) _; simp only [Act.put, List.setIfInBounds_toArray, List.set_cons_zero, List.set_cons_succ]
            refine wpT (i := 2) (v := undef) rfl (Or.inr ⟨by rfl, rfl⟩) (by assumption) ?_
            change wpAnyH _ _ _ _ _ _ _ (Act.put _ (some 58) _) _; simp only [Act.put, List.setIfInBounds_toArray, List.set_cons_zero, List.set_cons_succ]
            refine wpT (i := 3) (v := undef) rfl (Or.inr ⟨by rfl, rfl⟩) (by assumption) ?_
            change wpAnyH _ _ _ _ _ _ _ (Act.put _ (some 59) _) _; simp only [Act.put, List.setIfInBounds_toArray, List.set_cons_zero, List.set_cons_succ]
            refine wpT (i := 4) (v := undef) rfl (Or.inr ⟨by rfl, rfl⟩) (by assumption) ?_
            change wpAnyH _ _ _ _ _ _ _ (Act.put _ (some 60) _) _; simp only [Act.put, List.setIfInBounds_toArray, List.set_cons_zero, List.set_cons_succ]
            refine wpT (i := 5) (v := undef) rfl (Or.inr ⟨by rfl, rfl⟩) (by assumption) ?_
            change wpAnyH _ _ _ _ _ _ _ (Act.put _ (some 61) _) _; simp only [Act.put, List.setIfInBounds_toArray, List.set_cons_zero, List.set_cons_succ]
            refine wpT (i := 6) (v := undef) rfl (Or.inr ⟨by rfl, rfl⟩) (by assumption) ?_
            change wpAnyH _ _ _ _ _ _ _ (Act.put _ (some 62) _) _; simp only [Act.put, List.setIfInBounds_toArray, List.set_cons_zero, List.set_cons_succ]
            refine wpT (i := 7) (v := undef) rfl (Or.inr ⟨by rfl, rfl⟩) (by assumption) ?_
            change wpAnyH _ _ _ _ _ _ _ (Act.put _ (some 63) _) _; simp only [Act.put, List.setIfInBounds_toArray, List.set_cons_zero, List.set_cons_succ]
            refine wpT (i := 8) (v := ?v8g1_) rfl (Or.inl ⟨by rfl, ?y8g1_⟩) (by assumption) ?r8g1_
            case y8g1_ => (intro w hSw; (try dsimp only at hSw); go_simp; try with_reducible rfl)
            change wpAnyH _ _ _ _ _ _ _ (Act.put _ (some 64) _) _; simp only [Act.put, List.setIfInBounds_toArray, List.set_cons_zero, List.set_cons_succ]
            refine wpT (i := 9) (v := ?v9g1_) rfl (Or.inl ⟨by rfl, ?y9g1_⟩) (by assumption) ?r9g1_
            case y9g1_ => (intro w hSw; (try dsimp only at hSw); go_simp; try with_reducible rfl)
            change wpAnyH _ _ _ _ _ _ _ (Act.put _ (some 65) _) _; simp only [Act.put, List.setIfInBounds_toArray, List.set_cons_zero, List.set_cons_succ]
            refine wpT (i := 10) (v := undef) rfl (Or.inr ⟨by rfl, rfl⟩) (by assumption) ?_
            change wpAnyH _ _ _ _ _ _ _ (Act.put _ (some 66) _) _; simp only [Act.put, List.setIfInBounds_toArray, List.set_cons_zero, List.set_cons_succ]
            refine wpT (i := 11) (v := undef) rfl (Or.inr ⟨by rfl, rfl⟩) (by assumption) ?_
            change wpAnyH _ _ _ _ _ _ _ (Act.put _ (some 67) _) _; simp only [Act.put, List.setIfInBounds_toArray, List.set_cons_zero, List.set_cons_succ]
            refine wpT (i := 12) (v := undef) rfl (Or.inr ⟨by rfl, rfl⟩) (by assumption) ?_
            change wpAnyH _ _ _ _ _ _ _ (Act.put _ (some 68) _) _; simp only [Act.put, List.setIfInBounds_toArray, List.set_cons_zero, List.set_cons_succ]
            refine wpT (i := 13) (v := undef) rfl (Or.inr ⟨by rfl, rfl⟩) (by assumption) ?_
            change wpAnyH _ _ _ _ _ _ _ (Act.put _ (some 69) _) _; simp only [Act.put, List.setIfInBounds_toArray, List.set_cons_zero, List.set_cons_succ]
            refine wpT (i := 14) (v := undef) rfl (Or.inr ⟨by rfl, rfl⟩) (by assumption) ?_
            change wpAnyH _ _ _ _ _ _ _ (Act.put _ (some 70) _) _; simp only [Act.put, List.setIfInBounds_toArray, List.set_cons_zero, List.set_cons_succ]
            refine wpT (i := 15) (v := undef) rfl (Or.inr ⟨by rfl, rfl⟩) (by assumption) ?_
            change wpAnyH _ _ _ _ _ _ _ (Act.put _ (some 71) _) _; simp only [Act.put, List.setIfInBounds_toArray, List.set_cons_zero, List.set_cons_succ]
            refine wpT (i := 16) (v := undef) rfl (Or.inr ⟨by rfl, rfl⟩) (by assumption) ?_
            change wpAnyH _ _ _ _ _ _ _ (Act.put _ (some 72) _) _; simp only [Act.put, List.setIfInBounds_toArray, List.set_cons_zero, List.set_cons_succ]
            refine wpT (i := 17) (v := undef) rfl (Or.inr ⟨by rfl, rfl⟩) (by assumption) ?_
            change wpAnyH _ _ _ _ _ _ _ (Act.put _ (some 73) _) _; simp only [Act.put, List.setIfInBounds_toArray, List.set_cons_zero, List.set_cons_succ]
            refine wpT (i := 18) (v := undef) rfl (Or.inr ⟨by rfl, rfl⟩) (by assumption) ?_
            change wpAnyH _ _ _ _ _ _ _ (Act.put _ (some 74) _) _; simp only [Act.put, List.setIfInBounds_toArray, List.set_cons_zero, List.set_cons_succ]
            refine wpT (i := 19) (v := undef) rfl (Or.inr ⟨by rfl, rfl⟩) (by assumption) ?_
            change wpAnyH _ _ _ _ _ _ _ (Act.put _ (some 75) _) _; simp only [Act.put, List.setIfInBounds_toArray, List.set_cons_zero, List.set_cons_succ]
            refine wpT (i := 20) (v := undef) rfl (Or.inr ⟨by rfl, rfl⟩) (by assumption) ?_
            change wpAnyH _ _ _ _ _ _ _ (Act.put _ (some 76) _) _; simp only [Act.put, List.setIfInBounds_toArray, List.set_cons_zero, List.set_cons_succ]
            refine wpT (i := 21) (v := undef) rfl (Or.inr ⟨by rfl, rfl⟩) (by assumption) ?_
            change wpAnyH _ _ _ _ _ _ _ (Act.put _ (some 77) _) _; simp only [Act.put, List.setIfInBounds_toArray, List.set_cons_zero, List.set_cons_succ]
            refine wpT (i := 22) (v := undef) rfl (Or.inr ⟨by rfl, rfl⟩) (by assumption) ?_
            change wpAnyH _ _ _ _ _ _ _ (Act.put _ (some 78) _) _; simp only [Act.put, List.setIfInBounds_toArray, List.set_cons_zero, List.set_cons_succ]
            refine wpT (i := 23) (v := undef) rfl (Or.inr ⟨by rfl, rfl⟩) (by assumption) ?_
            change wpAnyH _ _ _ _ _ _ _ (Act.put _ (some 79) _) _; simp only [Act.put, List.setIfInBounds_toArray, List.set_cons_zero, List.set_cons_succ]
            refine wpT (i := 24) (v := undef) rfl (Or.inr ⟨by rfl, rfl⟩) (by assumption) ?_
            change wpAnyH _ _ _ _ _ _ _ (Act.put _ (some 80) _) _; simp only [Act.put, List.setIfInBounds_toArray, List.set_cons_zero, List.set_cons_succ]
            refine wpT (i := 25) (v := ?v25g1_) rfl (Or.inl ⟨by rfl, ?y25g1_⟩) (by assumption) ?r25g1_
            case y25g1_ => (intro w hSw; (try dsimp only at hSw); go_simp; try with_reducible rfl)
            change wpAnyH _ _ _ _ _ _ _ (Act.put _ (some 81) _) _; simp only [Act.put, List.setIfInBounds_toArray, List.set_cons_zero, List.set_cons_succ]
            refine wpAnyH_done (by kernel_rfl) ?_ _
            refine NoPanic.normal ?_
            go_wp2_with fail
            go_meet
            exact ⟨rfl, below_drewN (Below.refl _ _) 1⟩
          case rest =>
          obtain ⟨rfl, hbx⟩ := hcut
          have HSTX := Lib.hid (HST6.out.below_ hbx)
          clear hbx HST6
          go_wp2
          go_roundg gf
          case measure => omega
          case rel => exact ⟨i + 1, by go_num, by omega, by rw [HTK2.out, HSN3.out]; simpa only [List.length_append, List.length_cons, List.length_nil, Nat.zero_add] using HSTX.out⟩
        | some m =>
          have hgm := getM_some ho
          have hmpos := Good.pos ⟨hgm.2.2.1, hgm.2.1⟩
          have hmn : In64 m.n := hgm.2.2.1.n
          obtain ⟨hmn0, hmn1⟩ := hmn
          have hsn2 := HSN2.out
          have hst3 : scanStepR S (nm, bb) = if nameM m.n = nm ∧ (S.some = false ∨ S.m.n < m.n) then ⟨m, true⟩ else S := by unfold scanStepR; dsimp only; rw [ho]
          rw [hst3] at hsn2
          have hm8 : mCells m = #[.int .i64 m.n, .int .i64 m.epoch, .int .i64 m.step, .int .i64 m.sum, .int .i64 m.most, .bool m.done, .int .u32 m.job] := rfl
          have hk6 := hk0.setRow (mCells m)
          have hone := mCells_oneA m
          have hb67 := below_row hb6 (Nat.le_refl _) (mCells m)
          have hst6 := hst5.below_ hb67
          have hkg6 := hkg.below hb67 hkg.lt
          have hnmc := fun (W : World) => rname_any W m.n (by omega) (by omega)
          rw [hm7] at hk0 hk6 hst6 hkg6
          rw [hm8] at hk6 hone hst6 hkg6
          have HK0 := Lib.hid hk0; have HK6 := Lib.hid hk6; have HONE := Lib.hid hone; have HST6 := Lib.hid hst6; have HHM := Lib.hid hm8; have HNMC := Lib.hid hnmc; have HKG := Lib.hid hkg6
          clear hk0 hk6 hone hst6 hst5 hb6 ho HSN2 hgm hmn0 hmn1 hnmc hst3 hmpos hkg hkg6 hb67
          rw [show getV (some m) = m from rfl, show getB (some m) = true from rfl, hm8]
          clear hm7 hm8
          go_upto_region 12 with (first | (refine wpList_store_row rfl 46 (.tmp 8) (.tmp 54) rfl w5.heap.size #[.int .i64 m.n, .int .i64 m.epoch, .int .i64 m.step, .int .i64 m.sum, .int .i64 m.most, .bool m.done, .int .u32 m.job] rfl rfl 46 _ HK0.out infoRf rfl HONE.out ?_))
          obtain ⟨w6, hw6⟩ : ∃ w6, (w5.alloc (.cells #[.int .i64 0, .int .i64 0, .int .i64 0, .int .i64 0, .int .i64 0, .bool false, .int .u32 0] 46)).setRow w5.heap.size #[.int .i64 m.n, .int .i64 m.epoch, .int .i64 m.step, .int .i64 m.sum, .int .i64 m.most, .bool m.done, .int .u32 m.job] = w6 := ⟨_, rfl⟩
          rw [hw6] at HK6 HST6 HKG ⊢
          clear hw6
          have hcl : ∀ wx, Below w6.heap.size w6 wx → wx.cell? ⟨w5.heap.size, 0, none⟩ = some (.int .i64 m.n) ∧ wx.cell? ⟨w.heap.size, 1, none⟩ = some (.int .i64 S.m.n) ∧ wx.cell? ⟨w.heap.size, 8, none⟩ = some (.bool S.some) ∧ wx.cell? ⟨g, 0, none⟩ = some (.string nm) := fun wx hx => ⟨(HK6.out.below hx HK6.out.lt).cell 0, Blk.cell (HST6.out.below_ hx).st 1, Blk.cell (HST6.out.below_ hx).st 8, (HKG.out.below hx HKG.out.lt).cell 0⟩
          have HCL := Lib.hid hcl
          clear hcl
          obtain ⟨nq, hnmq⟩ : ∃ nq, nameM m.n = nq := ⟨_, rfl⟩
          have HNMC := HNMC.out
          rw [hnmq] at HNMC hsn2
          have HNMC := Lib.hid HNMC
          clear hnmq
          by_cases hq : nq = nm
          case neg =>
            rw [if_neg (fun e => hq e.1)] at hsn2
            have HSN3 := Lib.hid hsn2
            have hqb : (nq.toList == nm.toList) = false := by rw [mbeq_]; exact decide_eq_false hq
            clear hq hsn2 HHM HONE HK0
            go_cut [81] (fun s81 wx => s81 = .bool false ∧ Below w6.heap.size w6 wx)
            case first =>
              refine wp_region_noPanic ?_
              refine wp_region_held_drew (S := (fun wq => wq.cell? ⟨w5.heap.size, 0, none⟩ = some (.int .i64 m.n) ∧ wq.cell? ⟨w.heap.size, 1, none⟩ = some (.int .i64 S.m.n) ∧ wq.cell? ⟨w.heap.size, 8, none⟩ = some (.bool S.some) ∧ wq.cell? ⟨g, 0, none⟩ = some (.string nm))) (by kernel_rfl) ?_ (fun hHeld => ?_)
              · exact HCL.out _ (below_drewN (Below.refl _ _) 1)
              refine wpT (i := 0) (v := ?v0g2_) rfl (Or.inl ⟨by rfl, ?y0g2_⟩) (by assumption) ?r0g2_
              case y0g2_ => (intro w hSw; (try dsimp only at hSw); go_simp; try with_reducible rfl)
              change wpAnyH _ _ _ _ _ _ _ (Act.put _ (some 56) _) _; simp only [Act.put, List.setIfInBounds_toArray, List.set_cons_zero, List.set_cons_succ]
              refine wpT (i := 1) (v := ?v1g2_) rfl (Or.inl ⟨by rfl, ?y1g2_⟩) (by assumption) ?r1g2_
              case y1g2_ => (intro w hSw; (try dsimp only at hSw); go_simp; try with_reducible rfl)
              change wpAnyH _ _ _ _ _ _ _ (Act.put _ (some 57) _) _; simp only [Act.put, List.setIfInBounds_toArray, List.set_cons_zero, List.set_cons_succ]
              refine wpT (i := 2) (v := ?v2g2_) rfl (Or.inl ⟨by rfl, ?y2g2_⟩) (by assumption) ?r2g2_
              case y2g2_ => (intro w hSw; (try dsimp only at hSw); go_simp; try with_reducible rfl)
              change wpAnyH _ _ _ _ _ _ _ (Act.put _ (some 58) _) _; simp only [Act.put, List.setIfInBounds_toArray, List.set_cons_zero, List.set_cons_succ]
              refine wpT (i := 3) (v := ?v3g2_) rfl (Or.inl ⟨by rfl, ?y3g2_⟩) (by assumption) ?r3g2_
              case y3g2_ => (intro w hSw; (try dsimp only at hSw); go_simp; try with_reducible rfl)
              change wpAnyH _ _ _ _ _ _ _ (Act.put _ (some 59) _) _; simp only [Act.put, List.setIfInBounds_toArray, List.set_cons_zero, List.set_cons_succ]
              refine wpT (i := 5) (v := ?v5g2_) rfl (Or.inl ⟨by rfl, ?y5g2_⟩) (by assumption) ?r5g2_
              case y5g2_ => (intro w hSw; (try dsimp only at hSw); go_simp; try with_reducible rfl)
              change wpAnyH _ _ _ _ _ _ _ (Act.put _ (some 61) _) _; simp only [Act.put, List.setIfInBounds_toArray, List.set_cons_zero, List.set_cons_succ]
              refine wpT (i := 6) (v := ?v6g2_) rfl (Or.inl ⟨by rfl, ?y6g2_⟩) (by assumption) ?r6g2_
              case y6g2_ => (intro w hSw; (try dsimp only at hSw); go_simp; try with_reducible rfl)
              change wpAnyH _ _ _ _ _ _ _ (Act.put _ (some 62) _) _; simp only [Act.put, List.setIfInBounds_toArray, List.set_cons_zero, List.set_cons_succ]
              refine wpAnyH_ready (rs := [4]) (by kernel_rfl) (by simp) ?_
              refine AllReadyH.cons rfl (fun K hK => ?_) AllReadyH.nil
              go_simp
              refine (HNMC.out _).mono ?_
              rintro e w7 ⟨rfl, rfl⟩
              dsimp only
              refine hK.out _ _ ?_ (fun hHeld => ?_)
              · exact HCL.out _ (below_drewN (Below.refl _ _) 1)
              clear hK K
              try simp only [Act.put, List.setIfInBounds_toArray, List.set_cons_zero, List.set_cons_succ]
              refine wpT (i := 7) (v := ?v7g2_) rfl (Or.inl ⟨by rfl, ?y7g2_⟩) (by assumption) ?r7g2_
              case y7g2_ => (intro w hSw; (try dsimp only at hSw); go_simp; try with_reducible rfl)
              change wpAnyH _ _ _ _ _ _ _ (Act.put _ (some 63) _) _; simp only [Act.put, List.setIfInBounds_toArray, List.set_cons_zero, List.set_cons_succ]
              refine wpT (i := 8) (v := ?v8g2_) rfl (Or.inl ⟨by rfl, ?y8g2_⟩) (by assumption) ?r8g2_
              case y8g2_ => (intro w hSw; (try dsimp only at hSw); go_simp; try with_reducible rfl)
              change wpAnyH _ _ _ _ _ _ _ (Act.put _ (some 64) _) _; simp only [Act.put, List.setIfInBounds_toArray, List.set_cons_zero, List.set_cons_succ]
              refine wpT (i := 9) (v := ?v9g2_) rfl (Or.inl ⟨by rfl, ?y9g2_⟩) (by assumption) ?r9g2_
              case y9g2_ => (intro w hSw; (try dsimp only at hSw); go_simp; try with_reducible rfl)
              change wpAnyH _ _ _ _ _ _ _ (Act.put _ (some 65) _) _; simp only [Act.put, List.setIfInBounds_toArray, List.set_cons_zero, List.set_cons_succ]
              refine wpT (i := 10) (v := undef) rfl (Or.inr ⟨by rfl, rfl⟩) (by assumption) ?_
              change wpAnyH _ _ _ _ _ _ _ (Act.put _ (some 66) _) _; simp only [Act.put, List.setIfInBounds_toArray, List.set_cons_zero, List.set_cons_succ]
              refine wpT (i := 11) (v := undef) rfl (Or.inr ⟨by rfl, rfl⟩) (by assumption) ?_
              change wpAnyH _ _ _ _ _ _ _ (Act.put _ (some 67) _) _; simp only [Act.put, List.setIfInBounds_toArray, List.set_cons_zero, List.set_cons_succ]
              refine wpT (i := 12) (v := undef) rfl (Or.inr ⟨by rfl, rfl⟩) (by assumption) ?_
              change wpAnyH _ _ _ _ _ _ _ (Act.put _ (some 68) _) _; simp only [Act.put, List.setIfInBounds_toArray, List.set_cons_zero, List.set_cons_succ]
              refine wpT (i := 13) (v := undef) rfl (Or.inr ⟨by rfl, rfl⟩) (by assumption) ?_
              change wpAnyH _ _ _ _ _ _ _ (Act.put _ (some 69) _) _; simp only [Act.put, List.setIfInBounds_toArray, List.set_cons_zero, List.set_cons_succ]
              refine wpT (i := 14) (v := undef) rfl (Or.inr ⟨by rfl, rfl⟩) (by assumption) ?_
              change wpAnyH _ _ _ _ _ _ _ (Act.put _ (some 70) _) _; simp only [Act.put, List.setIfInBounds_toArray, List.set_cons_zero, List.set_cons_succ]
              refine wpT (i := 15) (v := undef) rfl (Or.inr ⟨by rfl, rfl⟩) (by assumption) ?_
              change wpAnyH _ _ _ _ _ _ _ (Act.put _ (some 71) _) _; simp only [Act.put, List.setIfInBounds_toArray, List.set_cons_zero, List.set_cons_succ]
              refine wpT (i := 16) (v := undef) rfl (Or.inr ⟨by rfl, rfl⟩) (by assumption) ?_
              change wpAnyH _ _ _ _ _ _ _ (Act.put _ (some 72) _) _; simp only [Act.put, List.setIfInBounds_toArray, List.set_cons_zero, List.set_cons_succ]
              refine wpT (i := 17) (v := undef) rfl (Or.inr ⟨by rfl, rfl⟩) (by assumption) ?_
              change wpAnyH _ _ _ _ _ _ _ (Act.put _ (some 73) _) _; simp only [Act.put, List.setIfInBounds_toArray, List.set_cons_zero, List.set_cons_succ]
              refine wpT (i := 18) (v := undef) rfl (Or.inr ⟨by rfl, rfl⟩) (by assumption) ?_
              change wpAnyH _ _ _ _ _ _ _ (Act.put _ (some 74) _) _; simp only [Act.put, List.setIfInBounds_toArray, List.set_cons_zero, List.set_cons_succ]
              refine wpT (i := 19) (v := undef) rfl (Or.inr ⟨by rfl, rfl⟩) (by assumption) ?_
              change wpAnyH _ _ _ _ _ _ _ (Act.put _ (some 75) _) _; simp only [Act.put, List.setIfInBounds_toArray, List.set_cons_zero, List.set_cons_succ]
              refine wpT (i := 20) (v := undef) rfl (Or.inr ⟨by rfl, rfl⟩) (by assumption) ?_
              change wpAnyH _ _ _ _ _ _ _ (Act.put _ (some 76) _) _; simp only [Act.put, List.setIfInBounds_toArray, List.set_cons_zero, List.set_cons_succ]
              refine wpT (i := 21) (v := undef) rfl (Or.inr ⟨by rfl, rfl⟩) (by assumption) ?_
              change wpAnyH _ _ _ _ _ _ _ (Act.put _ (some 77) _) _; simp only [Act.put, List.setIfInBounds_toArray, List.set_cons_zero, List.set_cons_succ]
              refine wpT (i := 22) (v := undef) rfl (Or.inr ⟨by rfl, rfl⟩) (by assumption) ?_
              change wpAnyH _ _ _ _ _ _ _ (Act.put _ (some 78) _) _; simp only [Act.put, List.setIfInBounds_toArray, List.set_cons_zero, List.set_cons_succ]
              refine wpT (i := 23) (v := undef) rfl (Or.inr ⟨by rfl, rfl⟩) (by assumption) ?_
              change wpAnyH _ _ _ _ _ _ _ (Act.put _ (some 79) _) _; simp only [Act.put, List.setIfInBounds_toArray, List.set_cons_zero, List.set_cons_succ]
              refine wpT (i := 24) (v := undef) rfl (Or.inr ⟨by rfl, rfl⟩) (by assumption) ?_
              change wpAnyH _ _ _ _ _ _ _ (Act.put _ (some 80) _) _; simp only [Act.put, List.setIfInBounds_toArray, List.set_cons_zero, List.set_cons_succ]
              refine wpT (i := 25) (v := ?v25g2_) rfl (Or.inl ⟨by rfl, ?y25g2_⟩) (by assumption) ?r25g2_
              case y25g2_ => (intro w hSw; (try dsimp only at hSw); go_simp; try with_reducible rfl)
              change wpAnyH _ _ _ _ _ _ _ (Act.put _ (some 81) _) _; simp only [Act.put, List.setIfInBounds_toArray, List.set_cons_zero, List.set_cons_succ]
              refine wpAnyH_done (by kernel_rfl) ?_ _
              refine NoPanic.normal ?_
              go_wp2_with fail
              go_meet
              exact ⟨rfl, below_drewN (Below.refl _ _) 1⟩
            case rest =>
            obtain ⟨rfl, hbx⟩ := hcut
            have HSTX := Lib.hid (HST6.out.below_ hbx)
            clear hbx HST6 hqb
            go_wp2
            go_roundg gf
            case measure => omega
            case rel => exact ⟨i + 1, by go_num, by omega, by rw [HTK2.out, HSN3.out]; simpa only [List.length_append, List.length_cons, List.length_nil, Nat.zero_add] using HSTX.out⟩
          have hqb : (nq.toList == nm.toList) = true := by rw [mbeq_]; exact decide_eq_true hq
          go_cut [81] (fun s81 wx => s81 = .bool (decide (S.some = false ∨ S.m.n < m.n)) ∧ Below w6.heap.size w6 wx)
          case first =>
            clear hsn2 HHM HONE HK0 hq
            cases hsm : S.some with
            | false =>
              rw [hsm] at HCL
              have HKP := Lib.hid (show decide (S.some = false ∨ S.m.n < m.n) = true from decide_eq_true (.inl hsm))
              clear hsm
              refine wp_region_noPanic ?_
              refine wp_region_held_drew (S := (fun wq => wq.cell? ⟨w5.heap.size, 0, none⟩ = some (.int .i64 m.n) ∧ wq.cell? ⟨w.heap.size, 1, none⟩ = some (.int .i64 S.m.n) ∧ wq.cell? ⟨w.heap.size, 8, none⟩ = some (.bool false) ∧ wq.cell? ⟨g, 0, none⟩ = some (.string nm))) (by kernel_rfl) ?_ (fun hHeld => ?_)
              · exact HCL.out _ (below_drewN (Below.refl _ _) 1)
              refine wpT (i := 0) (v := ?v0g3_) rfl (Or.inl ⟨by rfl, ?y0g3_⟩) (by assumption) ?r0g3_
              case y0g3_ => (intro w hSw; (try dsimp only at hSw); go_simp; try with_reducible rfl)
              change wpAnyH _ _ _ _ _ _ _ (Act.put _ (some 56) _) _; simp only [Act.put, List.setIfInBounds_toArray, List.set_cons_zero, List.set_cons_succ]
              refine wpT (i := 1) (v := ?v1g3_) rfl (Or.inl ⟨by rfl, ?y1g3_⟩) (by assumption) ?r1g3_
              case y1g3_ => (intro w hSw; (try dsimp only at hSw); go_simp; try with_reducible rfl)
              change wpAnyH _ _ _ _ _ _ _ (Act.put _ (some 57) _) _; simp only [Act.put, List.setIfInBounds_toArray, List.set_cons_zero, List.set_cons_succ]
              refine wpT (i := 2) (v := ?v2g3_) rfl (Or.inl ⟨by rfl, ?y2g3_⟩) (by assumption) ?r2g3_
              case y2g3_ => (intro w hSw; (try dsimp only at hSw); go_simp; try with_reducible rfl)
              change wpAnyH _ _ _ _ _ _ _ (Act.put _ (some 58) _) _; simp only [Act.put, List.setIfInBounds_toArray, List.set_cons_zero, List.set_cons_succ]
              refine wpT (i := 3) (v := ?v3g3_) rfl (Or.inl ⟨by rfl, ?y3g3_⟩) (by assumption) ?r3g3_
              case y3g3_ => (intro w hSw; (try dsimp only at hSw); go_simp; try with_reducible rfl)
              change wpAnyH _ _ _ _ _ _ _ (Act.put _ (some 59) _) _; simp only [Act.put, List.setIfInBounds_toArray, List.set_cons_zero, List.set_cons_succ]
              refine wpT (i := 5) (v := ?v5g3_) rfl (Or.inl ⟨by rfl, ?y5g3_⟩) (by assumption) ?r5g3_
              case y5g3_ => (intro w hSw; (try dsimp only at hSw); go_simp; try with_reducible rfl)
              change wpAnyH _ _ _ _ _ _ _ (Act.put _ (some 61) _) _; simp only [Act.put, List.setIfInBounds_toArray, List.set_cons_zero, List.set_cons_succ]
              refine wpT (i := 6) (v := ?v6g3_) rfl (Or.inl ⟨by rfl, ?y6g3_⟩) (by assumption) ?r6g3_
              case y6g3_ => (intro w hSw; (try dsimp only at hSw); go_simp; try with_reducible rfl)
              change wpAnyH _ _ _ _ _ _ _ (Act.put _ (some 62) _) _; simp only [Act.put, List.setIfInBounds_toArray, List.set_cons_zero, List.set_cons_succ]
              refine wpAnyH_ready (rs := [4]) (by kernel_rfl) (by simp) ?_
              refine AllReadyH.cons rfl (fun K hK => ?_) AllReadyH.nil
              go_simp
              refine (HNMC.out _).mono ?_
              rintro e w7 ⟨rfl, rfl⟩
              dsimp only
              refine hK.out _ _ ?_ (fun hHeld => ?_)
              · exact HCL.out _ (below_drewN (Below.refl _ _) 1)
              clear hK K
              try simp only [Act.put, List.setIfInBounds_toArray, List.set_cons_zero, List.set_cons_succ]
              refine wpT (i := 7) (v := ?v7g3_) rfl (Or.inl ⟨by rfl, ?y7g3_⟩) (by assumption) ?r7g3_
              case y7g3_ => (intro w hSw; (try dsimp only at hSw); go_simp; try with_reducible rfl)
              change wpAnyH _ _ _ _ _ _ _ (Act.put _ (some 63) _) _; simp only [Act.put, List.setIfInBounds_toArray, List.set_cons_zero, List.set_cons_succ]
              refine wpT (i := 8) (v := ?v8g3_) rfl (Or.inl ⟨by rfl, ?y8g3_⟩) (by assumption) ?r8g3_
              case y8g3_ => (intro w hSw; (try dsimp only at hSw); go_simp; try with_reducible rfl)
              change wpAnyH _ _ _ _ _ _ _ (Act.put _ (some 64) _) _; simp only [Act.put, List.setIfInBounds_toArray, List.set_cons_zero, List.set_cons_succ]
              refine wpT (i := 9) (v := ?v9g3_) rfl (Or.inl ⟨by rfl, ?y9g3_⟩) (by assumption) ?r9g3_
              case y9g3_ => (intro w hSw; (try dsimp only at hSw); go_simp; try with_reducible rfl)
              change wpAnyH _ _ _ _ _ _ _ (Act.put _ (some 65) _) _; simp only [Act.put, List.setIfInBounds_toArray, List.set_cons_zero, List.set_cons_succ]
              refine wpT (i := 10) (v := ?v10g3_) rfl (Or.inl ⟨by rfl, ?y10g3_⟩) (by assumption) ?r10g3_
              case y10g3_ => (intro w hSw; (try dsimp only at hSw); go_simp; try with_reducible rfl)
              change wpAnyH _ _ _ _ _ _ _ (Act.put _ (some 66) _) _; simp only [Act.put, List.setIfInBounds_toArray, List.set_cons_zero, List.set_cons_succ]
              refine wpT (i := 11) (v := ?v11g3_) rfl (Or.inl ⟨by rfl, ?y11g3_⟩) (by assumption) ?r11g3_
              case y11g3_ => (intro w hSw; (try dsimp only at hSw); go_simp; try with_reducible rfl)
              change wpAnyH _ _ _ _ _ _ _ (Act.put _ (some 67) _) _; simp only [Act.put, List.setIfInBounds_toArray, List.set_cons_zero, List.set_cons_succ]
              refine wpT (i := 12) (v := ?v12g3_) rfl (Or.inl ⟨by rfl, ?y12g3_⟩) (by assumption) ?r12g3_
              case y12g3_ => (intro w hSw; (try dsimp only at hSw); go_simp; try with_reducible rfl)
              change wpAnyH _ _ _ _ _ _ _ (Act.put _ (some 68) _) _; simp only [Act.put, List.setIfInBounds_toArray, List.set_cons_zero, List.set_cons_succ]
              refine wpT (i := 13) (v := ?v13g3_) rfl (Or.inl ⟨by rfl, ?y13g3_⟩) (by assumption) ?r13g3_
              case y13g3_ => (intro w hSw; (try dsimp only at hSw); go_simp; try with_reducible rfl)
              change wpAnyH _ _ _ _ _ _ _ (Act.put _ (some 69) _) _; simp only [Act.put, List.setIfInBounds_toArray, List.set_cons_zero, List.set_cons_succ]
              refine wpT (i := 14) (v := ?v14g3_) rfl (Or.inl ⟨by rfl, ?y14g3_⟩) (by assumption) ?r14g3_
              case y14g3_ => (intro w hSw; (try dsimp only at hSw); go_simp; try with_reducible rfl)
              change wpAnyH _ _ _ _ _ _ _ (Act.put _ (some 70) _) _; simp only [Act.put, List.setIfInBounds_toArray, List.set_cons_zero, List.set_cons_succ]
              refine wpT (i := 15) (v := ?v15g3_) rfl (Or.inl ⟨by rfl, ?y15g3_⟩) (by assumption) ?r15g3_
              case y15g3_ => (intro w hSw; (try dsimp only at hSw); go_simp; try with_reducible rfl)
              change wpAnyH _ _ _ _ _ _ _ (Act.put _ (some 71) _) _; simp only [Act.put, List.setIfInBounds_toArray, List.set_cons_zero, List.set_cons_succ]
              refine wpT (i := 16) (v := undef) rfl (Or.inr ⟨by rfl, rfl⟩) (by assumption) ?_
              change wpAnyH _ _ _ _ _ _ _ (Act.put _ (some 72) _) _; simp only [Act.put, List.setIfInBounds_toArray, List.set_cons_zero, List.set_cons_succ]
              refine wpT (i := 17) (v := undef) rfl (Or.inr ⟨by rfl, rfl⟩) (by assumption) ?_
              change wpAnyH _ _ _ _ _ _ _ (Act.put _ (some 73) _) _; simp only [Act.put, List.setIfInBounds_toArray, List.set_cons_zero, List.set_cons_succ]
              refine wpT (i := 18) (v := undef) rfl (Or.inr ⟨by rfl, rfl⟩) (by assumption) ?_
              change wpAnyH _ _ _ _ _ _ _ (Act.put _ (some 74) _) _; simp only [Act.put, List.setIfInBounds_toArray, List.set_cons_zero, List.set_cons_succ]
              refine wpT (i := 19) (v := undef) rfl (Or.inr ⟨by rfl, rfl⟩) (by assumption) ?_
              change wpAnyH _ _ _ _ _ _ _ (Act.put _ (some 75) _) _; simp only [Act.put, List.setIfInBounds_toArray, List.set_cons_zero, List.set_cons_succ]
              refine wpT (i := 20) (v := undef) rfl (Or.inr ⟨by rfl, rfl⟩) (by assumption) ?_
              change wpAnyH _ _ _ _ _ _ _ (Act.put _ (some 76) _) _; simp only [Act.put, List.setIfInBounds_toArray, List.set_cons_zero, List.set_cons_succ]
              refine wpT (i := 21) (v := undef) rfl (Or.inr ⟨by rfl, rfl⟩) (by assumption) ?_
              change wpAnyH _ _ _ _ _ _ _ (Act.put _ (some 77) _) _; simp only [Act.put, List.setIfInBounds_toArray, List.set_cons_zero, List.set_cons_succ]
              refine wpT (i := 22) (v := undef) rfl (Or.inr ⟨by rfl, rfl⟩) (by assumption) ?_
              change wpAnyH _ _ _ _ _ _ _ (Act.put _ (some 78) _) _; simp only [Act.put, List.setIfInBounds_toArray, List.set_cons_zero, List.set_cons_succ]
              refine wpT (i := 23) (v := undef) rfl (Or.inr ⟨by rfl, rfl⟩) (by assumption) ?_
              change wpAnyH _ _ _ _ _ _ _ (Act.put _ (some 79) _) _; simp only [Act.put, List.setIfInBounds_toArray, List.set_cons_zero, List.set_cons_succ]
              refine wpT (i := 24) (v := ?v24g3_) rfl (Or.inl ⟨by rfl, ?y24g3_⟩) (by assumption) ?r24g3_
              case y24g3_ => (intro w hSw; (try dsimp only at hSw); go_simp; try with_reducible rfl)
              change wpAnyH _ _ _ _ _ _ _ (Act.put _ (some 80) _) _; simp only [Act.put, List.setIfInBounds_toArray, List.set_cons_zero, List.set_cons_succ]
              refine wpT (i := 25) (v := ?v25g3_) rfl (Or.inl ⟨by rfl, ?y25g3_⟩) (by assumption) ?r25g3_
              case y25g3_ => (intro w hSw; (try dsimp only at hSw); go_simp; try with_reducible rfl)
              change wpAnyH _ _ _ _ _ _ _ (Act.put _ (some 81) _) _; simp only [Act.put, List.setIfInBounds_toArray, List.set_cons_zero, List.set_cons_succ]
              refine wpAnyH_done (by kernel_rfl) ?_ _
              refine NoPanic.normal ?_
              go_wp2_with fail
              go_meet
              exact ⟨congrArg Value.bool HKP.out.symm, below_drewN (Below.refl _ _) 1⟩
            | true =>
              rw [hsm] at HCL
              have HKP := Lib.hid (show decide (S.some = false ∨ S.m.n < m.n) = decide (S.m.n < m.n) from by simp [hsm])
              clear hsm
              refine wp_region_noPanic ?_
              refine wp_region_held_drew (S := (fun wq => wq.cell? ⟨w5.heap.size, 0, none⟩ = some (.int .i64 m.n) ∧ wq.cell? ⟨w.heap.size, 1, none⟩ = some (.int .i64 S.m.n) ∧ wq.cell? ⟨w.heap.size, 8, none⟩ = some (.bool true) ∧ wq.cell? ⟨g, 0, none⟩ = some (.string nm))) (by kernel_rfl) ?_ (fun hHeld => ?_)
              · exact HCL.out _ (below_drewN (Below.refl _ _) 1)
              refine wpT (i := 0) (v := ?v0g4_) rfl (Or.inl ⟨by rfl, ?y0g4_⟩) (by assumption) ?r0g4_
              case y0g4_ => (intro w hSw; (try dsimp only at hSw); go_simp; try with_reducible rfl)
              change wpAnyH _ _ _ _ _ _ _ (Act.put _ (some 56) _) _; simp only [Act.put, List.setIfInBounds_toArray, List.set_cons_zero, List.set_cons_succ]
              refine wpT (i := 1) (v := ?v1g4_) rfl (Or.inl ⟨by rfl, ?y1g4_⟩) (by assumption) ?r1g4_
              case y1g4_ => (intro w hSw; (try dsimp only at hSw); go_simp; try with_reducible rfl)
              change wpAnyH _ _ _ _ _ _ _ (Act.put _ (some 57) _) _; simp only [Act.put, List.setIfInBounds_toArray, List.set_cons_zero, List.set_cons_succ]
              refine wpT (i := 2) (v := ?v2g4_) rfl (Or.inl ⟨by rfl, ?y2g4_⟩) (by assumption) ?r2g4_
              case y2g4_ => (intro w hSw; (try dsimp only at hSw); go_simp; try with_reducible rfl)
              change wpAnyH _ _ _ _ _ _ _ (Act.put _ (some 58) _) _; simp only [Act.put, List.setIfInBounds_toArray, List.set_cons_zero, List.set_cons_succ]
              refine wpT (i := 3) (v := ?v3g4_) rfl (Or.inl ⟨by rfl, ?y3g4_⟩) (by assumption) ?r3g4_
              case y3g4_ => (intro w hSw; (try dsimp only at hSw); go_simp; try with_reducible rfl)
              change wpAnyH _ _ _ _ _ _ _ (Act.put _ (some 59) _) _; simp only [Act.put, List.setIfInBounds_toArray, List.set_cons_zero, List.set_cons_succ]
              refine wpT (i := 5) (v := ?v5g4_) rfl (Or.inl ⟨by rfl, ?y5g4_⟩) (by assumption) ?r5g4_
              case y5g4_ => (intro w hSw; (try dsimp only at hSw); go_simp; try with_reducible rfl)
              change wpAnyH _ _ _ _ _ _ _ (Act.put _ (some 61) _) _; simp only [Act.put, List.setIfInBounds_toArray, List.set_cons_zero, List.set_cons_succ]
              refine wpT (i := 6) (v := ?v6g4_) rfl (Or.inl ⟨by rfl, ?y6g4_⟩) (by assumption) ?r6g4_
              case y6g4_ => (intro w hSw; (try dsimp only at hSw); go_simp; try with_reducible rfl)
              change wpAnyH _ _ _ _ _ _ _ (Act.put _ (some 62) _) _; simp only [Act.put, List.setIfInBounds_toArray, List.set_cons_zero, List.set_cons_succ]
              refine wpAnyH_ready (rs := [4]) (by kernel_rfl) (by simp) ?_
              refine AllReadyH.cons rfl (fun K hK => ?_) AllReadyH.nil
              go_simp
              refine (HNMC.out _).mono ?_
              rintro e w7 ⟨rfl, rfl⟩
              dsimp only
              refine hK.out _ _ ?_ (fun hHeld => ?_)
              · exact HCL.out _ (below_drewN (Below.refl _ _) 1)
              clear hK K
              try simp only [Act.put, List.setIfInBounds_toArray, List.set_cons_zero, List.set_cons_succ]
              refine wpT (i := 7) (v := ?v7g4_) rfl (Or.inl ⟨by rfl, ?y7g4_⟩) (by assumption) ?r7g4_
              case y7g4_ => (intro w hSw; (try dsimp only at hSw); go_simp; try with_reducible rfl)
              change wpAnyH _ _ _ _ _ _ _ (Act.put _ (some 63) _) _; simp only [Act.put, List.setIfInBounds_toArray, List.set_cons_zero, List.set_cons_succ]
              refine wpT (i := 8) (v := ?v8g4_) rfl (Or.inl ⟨by rfl, ?y8g4_⟩) (by assumption) ?r8g4_
              case y8g4_ => (intro w hSw; (try dsimp only at hSw); go_simp; try with_reducible rfl)
              change wpAnyH _ _ _ _ _ _ _ (Act.put _ (some 64) _) _; simp only [Act.put, List.setIfInBounds_toArray, List.set_cons_zero, List.set_cons_succ]
              refine wpT (i := 9) (v := ?v9g4_) rfl (Or.inl ⟨by rfl, ?y9g4_⟩) (by assumption) ?r9g4_
              case y9g4_ => (intro w hSw; (try dsimp only at hSw); go_simp; try with_reducible rfl)
              change wpAnyH _ _ _ _ _ _ _ (Act.put _ (some 65) _) _; simp only [Act.put, List.setIfInBounds_toArray, List.set_cons_zero, List.set_cons_succ]
              refine wpT (i := 10) (v := ?v10g4_) rfl (Or.inl ⟨by rfl, ?y10g4_⟩) (by assumption) ?r10g4_
              case y10g4_ => (intro w hSw; (try dsimp only at hSw); go_simp; try with_reducible rfl)
              change wpAnyH _ _ _ _ _ _ _ (Act.put _ (some 66) _) _; simp only [Act.put, List.setIfInBounds_toArray, List.set_cons_zero, List.set_cons_succ]
              refine wpT (i := 11) (v := ?v11g4_) rfl (Or.inl ⟨by rfl, ?y11g4_⟩) (by assumption) ?r11g4_
              case y11g4_ => (intro w hSw; (try dsimp only at hSw); go_simp; try with_reducible rfl)
              change wpAnyH _ _ _ _ _ _ _ (Act.put _ (some 67) _) _; simp only [Act.put, List.setIfInBounds_toArray, List.set_cons_zero, List.set_cons_succ]
              refine wpT (i := 12) (v := ?v12g4_) rfl (Or.inl ⟨by rfl, ?y12g4_⟩) (by assumption) ?r12g4_
              case y12g4_ => (intro w hSw; (try dsimp only at hSw); go_simp; try with_reducible rfl)
              change wpAnyH _ _ _ _ _ _ _ (Act.put _ (some 68) _) _; simp only [Act.put, List.setIfInBounds_toArray, List.set_cons_zero, List.set_cons_succ]
              refine wpT (i := 13) (v := ?v13g4_) rfl (Or.inl ⟨by rfl, ?y13g4_⟩) (by assumption) ?r13g4_
              case y13g4_ => (intro w hSw; (try dsimp only at hSw); go_simp; try with_reducible rfl)
              change wpAnyH _ _ _ _ _ _ _ (Act.put _ (some 69) _) _; simp only [Act.put, List.setIfInBounds_toArray, List.set_cons_zero, List.set_cons_succ]
              refine wpT (i := 14) (v := ?v14g4_) rfl (Or.inl ⟨by rfl, ?y14g4_⟩) (by assumption) ?r14g4_
              case y14g4_ => (intro w hSw; (try dsimp only at hSw); go_simp; try with_reducible rfl)
              change wpAnyH _ _ _ _ _ _ _ (Act.put _ (some 70) _) _; simp only [Act.put, List.setIfInBounds_toArray, List.set_cons_zero, List.set_cons_succ]
              refine wpT (i := 15) (v := ?v15g4_) rfl (Or.inl ⟨by rfl, ?y15g4_⟩) (by assumption) ?r15g4_
              case y15g4_ => (intro w hSw; (try dsimp only at hSw); go_simp; try with_reducible rfl)
              change wpAnyH _ _ _ _ _ _ _ (Act.put _ (some 71) _) _; simp only [Act.put, List.setIfInBounds_toArray, List.set_cons_zero, List.set_cons_succ]
              refine wpT (i := 16) (v := ?v16g4_) rfl (Or.inl ⟨by rfl, ?y16g4_⟩) (by assumption) ?r16g4_
              case y16g4_ => (intro w hSw; (try dsimp only at hSw); go_simp; try with_reducible rfl)
              change wpAnyH _ _ _ _ _ _ _ (Act.put _ (some 72) _) _; simp only [Act.put, List.setIfInBounds_toArray, List.set_cons_zero, List.set_cons_succ]
              refine wpT (i := 17) (v := ?v17g4_) rfl (Or.inl ⟨by rfl, ?y17g4_⟩) (by assumption) ?r17g4_
              case y17g4_ => (intro w hSw; (try dsimp only at hSw); go_simp; try with_reducible rfl)
              change wpAnyH _ _ _ _ _ _ _ (Act.put _ (some 73) _) _; simp only [Act.put, List.setIfInBounds_toArray, List.set_cons_zero, List.set_cons_succ]
              refine wpT (i := 18) (v := ?v18g4_) rfl (Or.inl ⟨by rfl, ?y18g4_⟩) (by assumption) ?r18g4_
              case y18g4_ => (intro w hSw; (try dsimp only at hSw); go_simp; try with_reducible rfl)
              change wpAnyH _ _ _ _ _ _ _ (Act.put _ (some 74) _) _; simp only [Act.put, List.setIfInBounds_toArray, List.set_cons_zero, List.set_cons_succ]
              refine wpT (i := 19) (v := ?v19g4_) rfl (Or.inl ⟨by rfl, ?y19g4_⟩) (by assumption) ?r19g4_
              case y19g4_ => (intro w hSw; (try dsimp only at hSw); go_simp; try with_reducible rfl)
              change wpAnyH _ _ _ _ _ _ _ (Act.put _ (some 75) _) _; simp only [Act.put, List.setIfInBounds_toArray, List.set_cons_zero, List.set_cons_succ]
              refine wpT (i := 20) (v := ?v20g4_) rfl (Or.inl ⟨by rfl, ?y20g4_⟩) (by assumption) ?r20g4_
              case y20g4_ => (intro w hSw; (try dsimp only at hSw); go_simp; try with_reducible rfl)
              change wpAnyH _ _ _ _ _ _ _ (Act.put _ (some 76) _) _; simp only [Act.put, List.setIfInBounds_toArray, List.set_cons_zero, List.set_cons_succ]
              refine wpT (i := 21) (v := ?v21g4_) rfl (Or.inl ⟨by rfl, ?y21g4_⟩) (by assumption) ?r21g4_
              case y21g4_ => (intro w hSw; (try dsimp only at hSw); go_simp; try with_reducible rfl)
              change wpAnyH _ _ _ _ _ _ _ (Act.put _ (some 77) _) _; simp only [Act.put, List.setIfInBounds_toArray, List.set_cons_zero, List.set_cons_succ]
              refine wpT (i := 22) (v := ?v22g4_) rfl (Or.inl ⟨by rfl, ?y22g4_⟩) (by assumption) ?r22g4_
              case y22g4_ => (intro w hSw; (try dsimp only at hSw); go_simp; try with_reducible rfl)
              change wpAnyH _ _ _ _ _ _ _ (Act.put _ (some 78) _) _; simp only [Act.put, List.setIfInBounds_toArray, List.set_cons_zero, List.set_cons_succ]
              refine wpT (i := 23) (v := ?v23g4_) rfl (Or.inl ⟨by rfl, ?y23g4_⟩) (by assumption) ?r23g4_
              case y23g4_ => (intro w hSw; (try dsimp only at hSw); go_simp; try with_reducible rfl)
              change wpAnyH _ _ _ _ _ _ _ (Act.put _ (some 79) _) _; simp only [Act.put, List.setIfInBounds_toArray, List.set_cons_zero, List.set_cons_succ]
              refine wpT (i := 24) (v := ?v24g4_) rfl (Or.inl ⟨by rfl, ?y24g4_⟩) (by assumption) ?r24g4_
              case y24g4_ => (intro w hSw; (try dsimp only at hSw); go_simp; try with_reducible rfl)
              change wpAnyH _ _ _ _ _ _ _ (Act.put _ (some 80) _) _; simp only [Act.put, List.setIfInBounds_toArray, List.set_cons_zero, List.set_cons_succ]
              refine wpT (i := 25) (v := ?v25g4_) rfl (Or.inl ⟨by rfl, ?y25g4_⟩) (by assumption) ?r25g4_
              case y25g4_ => (intro w hSw; (try dsimp only at hSw); go_simp; try with_reducible rfl)
              change wpAnyH _ _ _ _ _ _ _ (Act.put _ (some 81) _) _; simp only [Act.put, List.setIfInBounds_toArray, List.set_cons_zero, List.set_cons_succ]
              refine wpAnyH_done (by kernel_rfl) ?_ _
              refine NoPanic.normal ?_
              go_wp2_with fail
              go_meet
              exact ⟨congrArg Value.bool HKP.out.symm, below_drewN (Below.refl _ _) 1⟩
          case rest =>
          obtain ⟨rfl, hbx⟩ := hcut
          by_cases hlt : S.some = false ∨ S.m.n < m.n
          case neg =>
            rw [if_neg (fun e => hlt e.2)] at hsn2
            have HSN3 := Lib.hid hsn2
            have hlb : decide (S.some = false ∨ S.m.n < m.n) = false := decide_eq_false hlt
            have HSTX := Lib.hid (HST6.out.below_ hbx)
            clear hbx HST6 hqb hq hsn2 HHM HONE HK0 hlt
            rw [hlb]
            clear hlb
            go_wp2
            go_roundg gf
            case measure => omega
            case rel => exact ⟨i + 1, by go_num, by omega, by rw [HTK2.out, HSN3.out]; simpa only [List.length_append, List.length_cons, List.length_nil, Nat.zero_add] using HSTX.out⟩
          rw [if_pos ⟨hq, hlt⟩] at hsn2
          have HSN3 := Lib.hid hsn2
          have hlb : decide (S.some = false ∨ S.m.n < m.n) = true := decide_eq_true hlt
          rw [hlb]
          have hst7 := HST6.out.below_ hbx
          have hk7 := HK6.out.below hbx HK6.out.lt
          obtain ⟨w8, hw8⟩ : ∃ w8, w8 = wc := ⟨_, rfl⟩
          subst hw8
          have hth := rst_there hst7.st
          obtain ⟨hmz, hkz⟩ := rst_lay hst7.st m
          obtain ⟨wz, hz⟩ : ∃ wz, w8.setCells w.heap.size 1 (#[.int .i64 m.n, .int .i64 m.epoch, .int .i64 m.step, .int .i64 m.sum, .int .i64 m.most, .bool m.done, .int .u32 m.job] : Array Value).toList = wz := ⟨_, rfl⟩
          have hmz : Moved w8 wz w.heap.size none := by rw [← hz]; exact hmz
          have hkz : Blk wz w.heap.size 49 (zCells p m S.some) := by rw [← hz]; exact hkz
          obtain ⟨z8, fz8⟩ := rz_cell hkz
          have hst9 := rst_flag hkz
          have hmv := hmz.trans (Moved.set_ wz w.heap.size 8 none (.bool true)) (.inl rfl)
          have hst8 := hst7.put hmv hst9
          have HST8 := Lib.hid hst8; have HK7 := Lib.hid hk7; have HTH := Lib.hid hth; have HZ := Lib.hid hz
          clear hmz hkz hst9 hmv hst8 hk7 hth hz hst7 hbx HST6 HK6 HCL hqb hlb HHM hq hlt hsn2 HK0 HKG
          go_upto_region 13 with (fail)
          iterate 10 (first | (refine wpList_load_row rfl 46 (.tmp 8) (by rfl) w5.heap.size (by rfl) 46 #[.int .i64 m.n, .int .i64 m.epoch, .int .i64 m.step, .int .i64 m.sum, .int .i64 m.most, .bool m.done, .int .u32 m.job] (0, 0) _ HK7.out Tryz.underlying46 rfl infoRf ?_) | go_step | go_upon | skip)
          iterate 1 (first | go_step | go_upon | skip)
          refine wpList_store_midz rfl 46 (.tmp 85) (.tmp 83) (by rfl) w.heap.size 1 #[.int .i64 m.n, .int .i64 m.epoch, .int .i64 m.step, .int .i64 m.sum, .int .i64 m.most, .bool m.done, .int .u32 m.job] (by rfl) (by rfl) HTH.out infoRf HONE.out wz HZ.out ?_
          clear HTH HZ HONE HK7
          go_upto_region 7 with (fail)
          clear z8 fz8
          go_wp2
          go_roundg gf
          case measure => omega
          case rel => exact ⟨i + 1, by go_num, by omega, by rw [HTK2.out, HSN3.out]; simpa only [List.length_append, List.length_cons, List.length_nil, Nat.zero_add] using HST8.out⟩
end
end Go.Proofs.YtlcgkcafelpglaaGreatDoor
