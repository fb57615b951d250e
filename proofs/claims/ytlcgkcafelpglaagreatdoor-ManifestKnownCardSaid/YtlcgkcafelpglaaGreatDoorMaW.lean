/- A store of manifests: Open. -/
import Derived.Test.YtlcgkcafelpglaaGreatDoorMaV
namespace Go.Proofs.YtlcgkcafelpglaaGreatDoor
open Go.RowKit Go.Maps

theorem mext_ {x y : ByteArray} (h : x.toList = y.toList) : x = y := by
  rw [ByteArray.toList_eq, ByteArray.toList_eq] at h
  cases x; cases y; simp_all [Array.toList_inj]
theorem mbeq_ (x y : ByteArray) : (x.toList == y.toList) = decide (x = y) := by
  by_cases h : x = y
  · subst h; simp
  · rw [decide_eq_false h, beq_eq_false_iff_ne]; exact fun e => h (mext_ e)
theorem own_below_ {w w' : World} {b : Nat} {e : TypeId} {size n : Nat} {v : Value} {xs : List Value} (h : w.ownsRow b e size v n xs) (hb : Below w.heap.size w w') : w'.ownsRow b e size v n xs := by
  refine ⟨h.1, ?_⟩
  rcases h.2 with hn | ⟨g, cap, cur, hv, hg, hh, rest⟩
  · exact .inl hn
  · exact .inr ⟨g, cap, cur, hv, hg, (hb.block g (Array.getElem?_eq_some_iff.1 hh).1).trans hh, rest⟩
/-- the state of Open's scan -/
structure OpS (w : World) (p base : Nat) (A : Option Addr) (ns : List ByteArray) (wr : World) (vf : Value) (fs : List ByteArray) (S : StD) : Prop where
  below : Below w.heap.size w wr
  st : StIs wr w.heap.size p S
  own : wr.ownsRow base 9 1 vf fs.length (fs.map Value.string)
  nm : Reads wr base 1 A ns.length (ns.map Value.string)
  ne : ∀ ad, A = some ad → 0 < ns.length → ad.block ≠ w.heap.size
  gb : w.heap.size < base
  bz : base ≤ wr.heap.size
section
variable {w wr w2 : World} {p base : Nat} {A : Option Addr} {ns fs : List ByteArray} {vf vf' : Value} {S S2 : StD}
theorem OpS.below_ (a : OpS w p base A ns wr vf fs S) (hb : Below wr.heap.size wr w2) : OpS w p base A ns w2 vf fs S :=
  ⟨a.below.trans (hb.mono a.below.size), a.st.below hb, own_below_ a.own hb, a.nm.keep fun q hq => hb.cell (by have := a.bz; omega), a.ne, a.gb, Nat.le_trans a.bz hb.size⟩
theorem OpS.app (a : OpS w p base A ns wr vf fs S) {t : ByteArray} (ho : w2.ownsRow base 9 1 vf' (fs.length + 1) (fs.map Value.string ++ [.string t])) (hb : Below base wr w2) : OpS w p base A ns w2 vf' (fs ++ [t]) S :=
  ⟨a.below.trans (hb.mono (Nat.le_of_lt a.gb)), Blk.below a.st hb a.gb, by rw [List.length_append, List.map_append]; exact ho, a.nm.below hb, a.ne, a.gb, Nat.le_trans a.bz hb.size⟩
theorem OpS.put (a : OpS w p base A ns wr vf fs S) (hm : Moved wr w2 w.heap.size none) (hs : StIs w2 w.heap.size p S2) : OpS w p base A ns w2 vf fs S2 := by
  refine ⟨a.below.trans (hm.below (Nat.le_refl _) (by simp) a.below.size), hs, ?_, ⟨a.nm.1, fun hn => ?_⟩, a.ne, a.gb, Nat.le_trans a.bz hm.size⟩
  · refine ⟨a.own.1, ?_⟩
    rcases a.own.2 with hn | ⟨g, cap, cur, hv, hg, hh, rest⟩
    · exact .inl hn
    · exact .inr ⟨g, cap, cur, hv, hg, (hm.block g (Array.getElem?_eq_some_iff.1 hh).1 (by have := a.gb; omega) (by simp)).trans hh, rest⟩
  · obtain ⟨ad, he, hb, hc⟩ := a.nm.2 hn
    refine ⟨ad, he, hb, fun j u hu => ?_⟩
    rw [← hc j u hu]
    exact World.cell?_of_block (hm.block _ (by rw [block_of_add]; have := a.bz; omega) (by rw [block_of_add]; exact a.ne ad he hn) (by simp))
end
theorem no_string (p : Nat) (S : StD) (j : Nat) (s : ByteArray) : (sCells p S)[j]? ≠ some (.string s) := by
  intro h
  rcases Nat.lt_or_ge j 9 with hj | hj
  · match j, hj with
    | 0, _ => cases h
    | 1, _ => cases h
    | 2, _ => cases h
    | 3, _ => cases h
    | 4, _ => cases h
    | 5, _ => cases h
    | 6, _ => cases h
    | 7, _ => cases h
    | 8, _ => cases h
  · rw [Array.getElem?_eq_none (by show 9 ≤ j; exact hj)] at h; cases h
theorem OpS.start {w w1 : World} {p : Nat} {A : Option Addr} {ns : List ByteArray} (hb : Below w.heap.size w w1) (hs : StIs w1 w.heap.size p ⟨zeroM, false⟩) (hr : Rd w1 1 A ns.length (ns.map Value.string)) : OpS w p w1.heap.size A ns w1 (.slice none 0 0) [] ⟨zeroM, false⟩ := by
  refine ⟨hb, hs, World.ownsRow_nil _ _ _ _, hr, fun ad he hn hbk => ?_, Blk.lt hs, Nat.le_refl _⟩
  obtain ⟨ad2, he2, _, hc⟩ := hr.2 hn
  rw [he] at he2
  injection he2 with he2
  subst he2
  have hx : (ns.map Value.string)[0]? = some (.string ns[0]) := by rw [List.getElem?_map, List.getElem?_eq_getElem hn]; rfl
  have h2 := hc 0 _ hx
  have h3 : w1.cell? (ad.add 0) = w1.cell? ad := by unfold Addr.add; simp
  rw [h3] at h2
  unfold StIs Blk at hs
  obtain ⟨bk, off, via⟩ := ad
  subst hbk
  have h4 : ∀ o v, w1.cell? ⟨w.heap.size, o, v⟩ = some (.string ns[0]) → False := fun o v h => by
    cases v with
    | none => rw [Blk.cell hs] at h; exact no_string _ _ _ _ h
    | some q => simp [World.cell?, hs] at h
  exact h4 _ _ h2
theorem read_size {D : DiskD} (hf : Fit D) (t : ByteArray) : (D.read t).2.size ≤ 1000000000 := by
  have h0 : ByteArray.empty.size ≤ 1000000000 := Nat.zero_le _
  unfold DiskD.read
  split
  · exact h0
  · split
    · show ((D.files.map (·.b)).getD _ ByteArray.empty).size ≤ _
      rw [List.getD_eq_getElem?_getD, List.getElem?_map]
      cases hx : D.files[(findN (D.files.map (·.name)) t).1]? with
      | none => exact h0
      | some f => exact hf.size f (List.mem_of_getElem? hx)
    · exact h0
/-- does the scan take a file -/
def takes (D : DiskD) (S : StD) (t : ByteArray) : Option ManM := match getM (D.read t).2 with
  | none => none
  | some m => if nameM m.n = t ∧ S.m.n < m.n then some m else none
theorem scan_takes (D : DiskD) (S : StD) (t : ByteArray) : scanStep D S t = match takes D S t with
  | none => S
  | some m => ⟨m, true⟩ := by
  unfold scanStep takes
  cases getM (D.read t).2 with
  | none => rfl
  | some m =>
    show (if nameM m.n = t ∧ S.m.n < m.n then _ else _) = match (if nameM m.n = t ∧ S.m.n < m.n then some m else none) with
      | none => S
      | some m => ⟨m, true⟩
    split <;> rfl
theorem scan_ok {D : DiskD} : ∀ ns : List ByteArray, (scanD D ns).m.Ok := by
  refine snoc_ind zeroM_ok fun ns t ih => ?_
  rw [scanD_snoc]
  unfold scanStep
  cases h : getM (D.read t).2 with
  | none => exact ih
  | some m =>
    show (if nameM m.n = t ∧ (scanD D ns).m.n < m.n then (⟨m, true⟩ : StD) else scanD D ns).m.Ok
    split
    · exact (getM_some h).2.2.1
    · exact ih
/-- what Open answers -/
def OpenP (B : Nat) (w : World) (p : Nat) (v : Value) (D : DiskD) (e : Ending) (w' : World) : Prop :=
  ∃ v1, Out B w w' p v (openD D).2 v1 ∧ ((openD D).1 ≠ 0 ∧ e = .returned (.tuple #[.pointer none, .int .i64 (openD D).1]) ∨ (openD D).1 = 0 ∧ ∃ gs, e = .returned (.tuple #[.pointer (some ⟨gs, 0, none⟩), .int .i64 0]) ∧ w.heap.size ≤ gs ∧ StIs w' gs p (newestD D))
section
variable (w : World) (B p : Nat) (v : Value) (D : DiskD) (h : DiskIs w B p v D) (hB : B ≤ w.heap.size)
include h hB
set_option maxHeartbeats 4000000 in
theorem open_off (ho : D.off = true) : Calls Tryz.prog 9 #[.pointer (some ⟨p, 0, none⟩)] w (OpenP B w p v D) := by
  have hc := off_any w B p v D h
  rw [ho] at hc
  have HC := Lib.hid hc; have HO := Lib.hid (Out.of_below (w1 := w) h hB (Below.refl _ _))
  have hop : openD D = (160, D) := by unfold openD; rw [if_pos ho]
  have HOP := Lib.hid hop
  clear hc h hop ho
  go_enter Tryz.func9, Tryz.ntmps9
  go_wp2_with fail
  refine HC.out.mono ?_
  rintro e w' ⟨rfl, rfl⟩
  go_wp2
  go_ret2
  exact ⟨v, by rw [HOP.out]; exact HO.out, .inl (by rw [HOP.out]; exact ⟨(by decide : (160 : Int) ≠ 0), rfl⟩)⟩
set_option maxRecDepth 100000 in
set_option maxHeartbeats 16000000 in
theorem open_on (ho : D.off = false) (hf : FitN D (D.files.length + 1)) (hT : Tb B w) : Calls Tryz.prog 9 #[.pointer (some ⟨p, 0, none⟩)] w (OpenP B w p v D) := by
  obtain ⟨i0, hi0, hz0, hz1, hz2⟩ := parts infoS
  have hc := off_any w B p v D h
  rw [ho] at hc
  have hop : openD D = dropD (newestD D) D (mfNames D) := by unfold openD; rw [if_neg (by simp [ho])]
  have hz7 : sCells p ⟨zeroM, false⟩ = #[.pointer (some ⟨p, 0, none⟩), .int .i64 0, .int .i64 0, .int .i64 0, .int .i64 0, .int .i64 0, .bool false, .int .u32 0, .bool false] := rfl
  have hb0 := (Below.refl w.heap.size w).alloc (Nat.le_refl _) (.cells (sCells p ⟨zeroM, false⟩) 69)
  have hk0 := Blk.new w 69 (sCells p ⟨zeroM, false⟩)
  have hfl := hf.fit.len
  have hnm := names_any (w.alloc (.cells (sCells p ⟨zeroM, false⟩) 69)) B p v D (h.below hb0 (Nat.le_refl _)) hfl
  rw [hz7] at hb0 hnm
  obtain ⟨N, hN⟩ : ∃ N, D.files.length = N := ⟨_, rfl⟩
  rw [hN] at hf hfl hnm
  have HC := Lib.hid hc; have HOP := Lib.hid hop; have HB0 := Lib.hid hb0; have HK0 := Lib.hid hk0; have HNM := Lib.hid hnm; have HH := Lib.hid h; have HF := Lib.hid hf; have HT := Lib.hid hT; have HI0 := Lib.hid hi0; have HZ0 := Lib.hid hz0; have HN := Lib.hid hN; have HZ7 := Lib.hid hz7
  clear hc hop hb0 hk0 hnm h hf hT ho hi0 hz0 hN hz7
  go_enter Tryz.func9, Tryz.ntmps9
  go_wp2_with fail
  refine HC.out.mono ?_
  rintro e w' ⟨rfl, rfl⟩
  go_wp2_with fail
  refine HNM.out.mono ?_
  rintro e w1 ⟨A, c, rfl, hrd, hb1⟩
  have hb01 := HB0.out.trans (hb1.mono HB0.out.size)
  have hst1 : StIs w1 w'.heap.size p ⟨zeroM, false⟩ := by
    have := HK0.out
    rw [HZ7.out] at this
    exact Blk.below this hb1 this.lt
  have hnl : (D.files.map (·.name)).length = N := by rw [List.length_map, HN.out]
  have hrd2 : Rd w1 1 A (D.files.map (·.name)).length ((D.files.map (·.name)).map Value.string) := by
    rw [hnl, List.map_map]; exact hrd
  have hs0 := OpS.start hb01 hst1 hrd2
  obtain ⟨ns, hns⟩ : ∃ ns, D.files.map (·.name) = ns := ⟨_, rfl⟩
  rw [hns] at hs0 hnl
  have HS0 := Lib.hid hs0; have HNS := Lib.hid hns; have HNL := Lib.hid hnl
  clear hb01 hst1 hrd2 hs0 hns hnl hb1 hrd HC HNM HB0 HK0
  obtain ⟨base, hbase⟩ : ∃ base, w1.heap.size = base := ⟨_, rfl⟩
  rw [hbase] at HS0
  clear hbase
  go_wp2
  go_loopg [5, 27] N (fun gf vf vi wr => ∃ i : Nat, vi = .int .i64 i ∧ i + gf = N ∧ OpS w' p base A ns wr vf ((ns.take i).filter prefN) (scanD D ((ns.take i).filter prefN)))
  case atStart => exact ⟨0, rfl, by omega, HS0.out⟩
  case round =>
    clear HS0
    obtain ⟨i, rfl, hi, hst⟩ := hrel
    cases gk with
    | zero =>
      obtain rfl : i = N := by omega
      have hmf : (ns.take i).filter prefN = mfNames D := by
        rw [List.take_of_length_le (by rw [HNL.out]; exact Nat.le_refl _), ← HNS.out]; rfl
      rw [hmf] at hst
      obtain ⟨fs, hfs⟩ : ∃ fs, mfNames D = fs := ⟨_, rfl⟩
      have hfl2 : fs.length ≤ i := by
        rw [← hfs, ← HN.out]
        unfold mfNames
        exact Nat.le_trans (List.length_filter_le _ _) (by rw [List.length_map]; exact Nat.le_refl _)
      obtain ⟨S, hS⟩ : ∃ S, newestD D = S := ⟨_, rfl⟩
      have hsc : scanD D fs = S := by rw [← hS, ← hfs]; rfl
      have hop := HOP.out
      rw [hfs, hS] at hop
      rw [hfs, hsc] at hst
      have HOP2 := Lib.hid hop; have HS2 := Lib.hid hS
      obtain ⟨A2, c2, rfl⟩ := own_shape hst.own
      have hrow : ∀ k t, fs[k]? = some t → ∃ g cur, A2 = some ⟨g, 0, none⟩ ∧ Blk wr g 9 cur ∧ cur[k]? = some (Value.string t) := fun k t hk => by
        have hkl := (List.getElem?_eq_some_iff.1 hk).1
        rcases hst.own.2 with ⟨_, h0⟩ | ⟨g, cap, cur, hv, _, hh, _, _, _, htk⟩
        · omega
        · injection hv with hv
          refine ⟨g, cur, hv, hh, ?_⟩
          have : (cur.toList.take (fs.length * 1))[k]? = (fs.map Value.string)[k]? := by rw [htk]
          rw [List.getElem?_map, hk, List.getElem?_take, if_pos (by omega), Array.getElem?_toList] at this
          exact this
      have HROW := Lib.hid hrow
      have HSTW := Lib.hid hst
      obtain ⟨w2, hw2⟩ : ∃ w2, w2 = wr := ⟨_, rfl⟩
      subst hw2
      have ho2 : Out B w2 w2 p v D v := Out.of_below (HH.out.below hst.below (Nat.le_refl _)) (Nat.le_trans hB hst.below.size) (Below.refl _ _)
      have HO2 := Lib.hid ho2
      have HBASE := Lib.hid (Out.of_below HH.out hB hst.below)
      have hf2 : FitN D (fs.length + 1) := HF.out.less (by omega)
      have HF2 := Lib.hid hf2
      have hlw : w'.heap.size < w2.heap.size := Blk.lt hst.st
      clear hmf hfs hsc hop hS hst hrow ho2 hf2 HOP HNS HNL HN HF HI0 HZ0 HZ7 hi
      go_wp2
      go_loopg [78] fs.length (fun gf vi wr => ∃ (i : Nat) (D1 : DiskD) (v1 : Value), vi = .int .i64 i ∧ i + gf = fs.length ∧ Out B w2 wr p v D1 v1 ∧ dropD S D fs = dropD S D1 (fs.drop i) ∧ FitN D1 (gf + 1))
      case atStart => exact ⟨0, D, v, rfl, by omega, HO2.out, by rw [List.drop_zero], HF2.out⟩
      case round =>
        clear HO2 HF2
        obtain ⟨i, D1, v1, rfl, hi, ho, hd, hf1⟩ := hrel
        cases gk with
        | zero =>
          obtain rfl : i = fs.length := by omega
          rw [List.drop_length] at hd
          have hst9 := HSTW.out.st.out ho
          have HST9 := Lib.hid hst9; have HOE := Lib.hid (HBASE.out.trans ho)
          have hop : openD D = (0, D1) := by rw [HOP2.out, hd]; rfl
          have HOP3 := Lib.hid hop
          clear hd hst9 ho hop hf1
          go_wp2
          go_ret2
          exact ⟨v1, by rw [HOP3.out]; exact HOE.out, .inr ⟨by rw [HOP3.out], w'.heap.size, rfl, Nat.le_refl _, by rw [HS2.out]; exact HST9.out⟩⟩
        | succ gf =>
          have hil : i < fs.length := by omega
          have hiI : (i : Int) < (fs.length : Int) := by omega
          obtain ⟨t, ht⟩ : ∃ t, fs[i]? = some t := ⟨_, List.getElem?_eq_getElem hil⟩
          have hdr : fs.drop i = t :: fs.drop (i + 1) := by
            rw [List.drop_eq_getElem_cons hil]
            congr 1
            rw [List.getElem?_eq_getElem hil] at ht
            injection ht
          rw [hdr] at hd
          obtain ⟨g, cur, rfl, hblk, hcu⟩ := HROW.out i t ht
          have hrw := ho.keep_blk hblk (by decide) (by decide)
          have hcell : wr.cell? ⟨g, i, none⟩ = some (.string t) := (hrw.cell i).trans hcu
          have hst9 := HSTW.out.st.out ho
          have c1 := hst9.cell 1; have c8 := hst9.cell 8
          simp only [sCells, List.getElem?_toArray, List.getElem?_cons_zero, List.getElem?_cons_succ] at c1 c8
          have hin : In64 S.m.n := by rw [← HS2.out]; exact (scan_ok _).n
          have HNMC := Lib.hid (name_any wr B (HT.out.on (HBASE.out.trans ho).below) S.m.n hin)
          have HO3 := Lib.hid ho
          clear ht hdr hblk hcu hst9 hin ho
          obtain ⟨nm, hnmq⟩ : ∃ nm, nameM S.m.n = nm := ⟨_, rfl⟩
          rw [hnmq] at HNMC
          have hkq : keptS S t = (S.some && decide (t = nm)) := by rw [← hnmq]; rfl
          clear hnmq
          cases hsm : S.some with
          | false =>
            rw [hsm] at c8 hkq
            have hkp : keptS S t = false := hkq
            have HOX := HO3
            clear hsm hkq HO3
            go_wp2_with fail
            clear HNMC HROW hrw hcell
            have hc : Calls Tryz.prog 34 _ _ _ := d_remove HOX.out.is (Nat.le_trans HOX.out.is.1 (Nat.le_of_lt HOX.out.is.blk.lt)) hf1.fit (name := t) (E := (D1.step 3 t t 0 true).1) (D' := (D1.step 3 t t 0 true).2) rfl
            have hf2 : FitN (D1.step 3 t t 0 true).2 (gf + 1) := hf1.step _ _ _ _ _
            have hd2 := hd
            rw [dropD, if_neg (by rw [hkp]; simp)] at hd2
            obtain ⟨E, hE⟩ : ∃ E, (D1.step 3 t t 0 true).1 = E := ⟨_, rfl⟩
            obtain ⟨D2, hD2⟩ : ∃ D2, (D1.step 3 t t 0 true).2 = D2 := ⟨_, rfl⟩
            have hpair : D1.step 3 t t 0 true = (E, D2) := Prod.ext hE hD2
            rw [hE, hD2] at hc
            rw [hD2] at hf2
            rw [hpair] at hd2
            have HC := Lib.hid hc; have HF2 := Lib.hid hf2; have HD2 := Lib.hid hd2
            clear hc hf2 hd2 hE hD2 hpair hd hf1 hkp
            refine HC.out.mono ?_
            rintro e w5 ⟨rfl, v5, o5⟩
            have HO5 := Lib.hid (HOX.out.trans o5)
            clear o5 HC HOX
            by_cases hE : E = 0
            case neg =>
              have hd2 := HD2.out
              rw [if_pos hE] at hd2
              have hop : openD D = (E, D2) := by rw [HOP2.out, hd2]
              have HOP3 := Lib.hid hop; have HOE := Lib.hid (HBASE.out.trans HO5.out); have HE := Lib.hid hE
              have hEb : (E != 0) = true := by simpa using hE
              clear hd2 hop hE HD2 HF2
              go_wp2
              go_ret2
              exact ⟨v5, by rw [HOP3.out]; exact HOE.out, .inl (by rw [HOP3.out]; exact ⟨HE.out, rfl⟩)⟩
            subst hE
            have hd2 := HD2.out
            rw [if_neg (by simp)] at hd2
            have HD3 := Lib.hid hd2
            clear hd2 HD2
            go_wp2
            go_roundg gf
            case measure => omega
            case rel => exact ⟨i + 1, D2, v5, by go_num, by omega, HO5.out, HD3.out, HF2.out⟩
          | true =>
            rw [hsm] at c8 hkq
            clear hsm
            by_cases hq : t = nm
            · have hkp : keptS S t = true := by rw [hkq]; simp [hq]
              have hd2 := hd
              rw [dropD, if_pos hkp] at hd2
              have HD2 := Lib.hid hd2; have HF2 := Lib.hid (hf1.less (by omega) : FitN D1 (gf + 1))
              have hqb : (t.toList == nm.toList) = true := by rw [mbeq_]; exact decide_eq_true hq
              clear hd2 hkp hkq hq hd hf1
              go_wp2_with fail
              refine HNMC.out.mono ?_
              rintro e w4 ⟨rfl, hb4⟩
              have HOX := Lib.hid (HO3.out.trans (Out.of_below HO3.out.is (Nat.le_trans HO3.out.is.1 (Nat.le_of_lt HO3.out.is.blk.lt)) hb4))
              clear hb4 HO3
              go_wp2
              go_roundg gf
              case measure => omega
              case rel => exact ⟨i + 1, D1, v1, by go_num, by omega, HOX.out, HD2.out, HF2.out⟩
            · have hkp : keptS S t = false := by rw [hkq]; simp [hq]
              have hqb : (t.toList == nm.toList) = false := by rw [mbeq_]; exact decide_eq_false hq
              clear hkq hq
              go_wp2_with fail
              refine HNMC.out.mono ?_
              rintro e w4 ⟨rfl, hb4⟩
              have HOX := Lib.hid (HO3.out.trans (Out.of_below HO3.out.is (Nat.le_trans HO3.out.is.1 (Nat.le_of_lt HO3.out.is.blk.lt)) hb4))
              clear hb4 HO3
              go_wp2_with fail
              clear HNMC HROW hrw hcell
              have hc : Calls Tryz.prog 34 _ _ _ := d_remove HOX.out.is (Nat.le_trans HOX.out.is.1 (Nat.le_of_lt HOX.out.is.blk.lt)) hf1.fit (name := t) (E := (D1.step 3 t t 0 true).1) (D' := (D1.step 3 t t 0 true).2) rfl
              have hf2 : FitN (D1.step 3 t t 0 true).2 (gf + 1) := hf1.step _ _ _ _ _
              have hd2 := hd
              rw [dropD, if_neg (by rw [hkp]; simp)] at hd2
              obtain ⟨E, hE⟩ : ∃ E, (D1.step 3 t t 0 true).1 = E := ⟨_, rfl⟩
              obtain ⟨D2, hD2⟩ : ∃ D2, (D1.step 3 t t 0 true).2 = D2 := ⟨_, rfl⟩
              have hpair : D1.step 3 t t 0 true = (E, D2) := Prod.ext hE hD2
              rw [hE, hD2] at hc
              rw [hD2] at hf2
              rw [hpair] at hd2
              have HC := Lib.hid hc; have HF2 := Lib.hid hf2; have HD2 := Lib.hid hd2
              clear hc hf2 hd2 hE hD2 hpair hd hf1 hkp
              refine HC.out.mono ?_
              rintro e w5 ⟨rfl, v5, o5⟩
              have HO5 := Lib.hid (HOX.out.trans o5)
              clear o5 HC HOX
              by_cases hE : E = 0
              case neg =>
                have hd2 := HD2.out
                rw [if_pos hE] at hd2
                have hop : openD D = (E, D2) := by rw [HOP2.out, hd2]
                have HOP3 := Lib.hid hop; have HOE := Lib.hid (HBASE.out.trans HO5.out); have HE := Lib.hid hE
                have hEb : (E != 0) = true := by simpa using hE
                clear hd2 hop hE HD2 HF2
                go_wp2
                go_ret2
                exact ⟨v5, by rw [HOP3.out]; exact HOE.out, .inl (by rw [HOP3.out]; exact ⟨HE.out, rfl⟩)⟩
              subst hE
              have hd2 := HD2.out
              rw [if_neg (by simp)] at hd2
              have HD3 := Lib.hid hd2
              clear hd2 HD2
              go_wp2
              go_roundg gf
              case measure => omega
              case rel => exact ⟨i + 1, D2, v5, by go_num, by omega, HO5.out, HD3.out, HF2.out⟩
    | succ gf =>
      have hiN : i < N := by omega
      have hiI : (i : Int) < (N : Int) := by omega
      obtain ⟨t, ht⟩ : ∃ t, ns[i]? = some t := ⟨_, List.getElem?_eq_getElem (by rw [HNL.out]; omega)⟩
      have hnmr := hst.nm
      rw [HNL.out] at hnmr
      obtain ⟨ad, u, rfl, hbk, hx, hc⟩ := hnmr.at_ (k := i) hiN
      have hu : u = .string t := by
        rw [List.getElem?_map, ht] at hx
        injection hx with hx
        exact hx.symm
      subst hu
      have htk : (ns.take (i + 1)).filter prefN = (ns.take i).filter prefN ++ (if prefN t = true then [t] else []) := by
        rw [List.take_add_one, ht, List.filter_append]
        congr 1
        simp only [Option.toList, List.filter_cons, List.filter_nil]
      have hpre := fun W => Tryz.strings_HasPrefix t ⟨#[109, 102, 46]⟩ W
      have hpe : Lib.hasPrefix t.data.toList (⟨#[109, 102, 46]⟩ : ByteArray).data.toList = prefN t := rfl
      rw [hpe] at hpre
      have HST := Lib.hid hst
      cases hp : prefN t with
      | false =>
        rw [hp] at htk hpre
        rw [if_neg (by simp), List.append_nil] at htk
        have HTK := Lib.hid htk; have HPRE := Lib.hid hpre
        clear htk hpre hpe hst hnmr hx ht hp
        go_wp2_with fail
        refine (HPRE.out _).mono ?_
        rintro e w2 ⟨rfl, rfl⟩
        go_wp2
        go_roundg gf
        case measure => omega
        case rel => exact ⟨i + 1, by go_num, by omega, by rw [HTK.out]; exact HST.out⟩
      | true =>
        rw [hp] at htk hpre
        rw [if_pos rfl] at htk
        obtain ⟨fs, hfs⟩ : ∃ fs, (ns.take i).filter prefN = fs := ⟨_, rfl⟩
        have hfl2 : fs.length ≤ 100000000 := by
          rw [← hfs]
          refine Nat.le_trans (List.length_filter_le _ _) (Nat.le_trans (List.length_take_le _ _) ?_)
          omega
        rw [hfs] at htk hst HST
        obtain ⟨S, hS⟩ : ∃ S, scanD D fs = S := ⟨_, rfl⟩
        have hsn := scanD_snoc D fs t
        rw [hS] at hst HST hsn
        have hown := Lib.hid hst.own
        have hbz := hst.bz
        have HTK := Lib.hid htk; have HPRE := Lib.hid hpre; have HSN := Lib.hid hsn
        clear htk hpre hpe hst hnmr hx ht hp hfs hS hsn
        go_wp2_with fail
        refine (HPRE.out _).mono ?_
        rintro e w2 ⟨rfl, rfl⟩
        go_wp2_with (at_builtin; refine wpList_app _ w2 rfl (.tmp 34) (.tmp 36) 60 rfl base 9 i0 (.string ⟨#[]⟩) 1 16 Tryz.underlying60 HI0.out HZ0.out hz1 hz2 rfl (by decide) (by decide) _ fs.length _ rfl hown [.string t] rfl rfl rfl w2.heap.size rfl rfl (by omega) hbz ?_; intro v3 w3 h2 h3 h4; have HST3 := Lib.hid (HST.out.app h2.out h4.out); clear h2 h3 h4)
        have hbt : Calls Tryz.prog 31 _ _ _ := d_read (HH.out.below HST3.out.below (Nat.le_refl _)) HF.out.fit (name := t) (E := (D.read t).1) (b := (D.read t).2) rfl
        have hrs := read_size HF.out.fit t
        have htk2 := scan_takes D S t
        have htk3 : takes D S t = takes D S t := rfl
        conv at htk3 => rhs; unfold takes
        obtain ⟨E, hE⟩ : ∃ E, (D.read t).1 = E := ⟨_, rfl⟩
        obtain ⟨b, hb⟩ : ∃ b, (D.read t).2 = b := ⟨_, rfl⟩
        rw [hE, hb] at hbt
        rw [hb] at hrs htk3
        have HBT := Lib.hid hbt; have HTK2 := Lib.hid htk2; have HTK3 := Lib.hid htk3
        clear hbt htk2 htk3 hE hb hown hbz
        refine HBT.out.mono ?_
        rintro e w4 ⟨bv, rfl, hbv, hb4⟩
        have HST4 := Lib.hid (HST3.out.below_ hb4)
        obtain ⟨Ab, cb, rfl, -, -⟩ := id hbv
        have hget := mGet_any w4 _ b hbv.btr hrs
        have HGET := Lib.hid hget
        clear hb4 hbv hget hrs HBT HST3
        go_wp2_with fail
        refine HGET.out.mono ?_
        rintro e w5 ⟨rfl, hb5⟩
        have hst5 := HST4.out.below_ hb5
        have hk0 := Blk.new w5 38 (mCells zeroM)
        have hb6 := (Below.refl w5.heap.size w5).alloc (Nat.le_refl _) (.cells (mCells zeroM) 38)
        have hm7 : mCells zeroM = #[.int .i64 0, .int .i64 0, .int .i64 0, .int .i64 0, .int .i64 0, .bool false, .int .u32 0] := rfl
        clear HGET hb5 HST4 HST HPRE
        cases ho : getM b with
        | none =>
          have htk3 := HTK3.out
          rw [ho] at htk3
          have hsn2 := HSN.out
          rw [HTK2.out, show takes D S t = none from htk3] at hsn2
          have hk6 := hk0.setRow (mCells zeroM)
          have hone := mCells_oneA zeroM
          have hst6 := hst5.below_ (below_row hb6 (Nat.le_refl _) (mCells zeroM))
          rw [hm7] at hk0 hk6 hone hst6
          have HK0 := Lib.hid hk0; have HK6 := Lib.hid hk6; have HONE := Lib.hid hone; have HST6 := Lib.hid hst6; have HSN2 := Lib.hid hsn2
          clear hk0 hk6 hone hst6 hst5 hb6 htk3 hsn2 ho HTK3 HTK2 HSN
          rw [show getV (none : Option ManM) = zeroM from rfl, show getE (none : Option ManM) = 200 from rfl, hm7]
          clear hm7
          go_upto_region 14 with (first | (refine wpList_store_row rfl 38 (.tmp 10) (.tmp 47) rfl w5.heap.size #[.int .i64 0, .int .i64 0, .int .i64 0, .int .i64 0, .int .i64 0, .bool false, .int .u32 0] rfl rfl 38 _ HK0.out infoMf rfl HONE.out ?_))
          obtain ⟨w6, hw6⟩ : ∃ w6, (w5.alloc (.cells #[.int .i64 0, .int .i64 0, .int .i64 0, .int .i64 0, .int .i64 0, .bool false, .int .u32 0] 38)).setRow w5.heap.size #[.int .i64 0, .int .i64 0, .int .i64 0, .int .i64 0, .int .i64 0, .bool false, .int .u32 0] = w6 := ⟨_, rfl⟩
          rw [hw6] at HK6 HST6 ⊢
          clear hw6
          go_cut [67] (fun s67 wx => s67 = .bool false ∧ Below w6.heap.size w6 wx)
          case first =>
            refine wp_region_noPanic ?_
            refine wp_region_held_drew (S := (fun _ => True)) (by kernel_rfl) ?_ (fun hHeld => ?_)
            · exact trivial
            refine wpT (i := 0) (v := ?v0g1_) rfl (Or.inl ⟨by rfl, ?y0g1_⟩) (by assumption) ?r0g1_
            case y0g1_ => (intro w hSw; (try dsimp only at hSw); go_simp; try with_reducible rfl)
            change wpAnyH _ _ _ _ _ _ _ (Act.put _ (some 49) _) _; simp only [Act.put, List.setIfInBounds_toArray, List.set_cons_zero, List.set_cons_succ]
            refine wpT (i := 1) (v := ?v1g1_) rfl (Or.inl ⟨by rfl, ?y1g1_⟩) (by assumption) ?r1g1_
            case y1g1_ => (intro w hSw; (try dsimp only at hSw); go_simp; try with_reducible rfl)
            change wpAnyH _ _ _ _ _ _ _ (Act.put _ (some 50) _) _; simp only [Act.put, List.setIfInBounds_toArray, List.set_cons_zero, List.set_cons_succ]
            refine wpT (i := 2) (v := ?v2g1_) rfl (Or.inl ⟨by rfl, ?y2g1_⟩) (by assumption) ?r2g1_
            case y2g1_ => (intro w hSw; (try dsimp only at hSw); go_simp; try with_reducible rfl)
            change wpAnyH _ _ _ _ _ _ _ (Act.put _ (some 51) _) _; simp only [Act.put, List.setIfInBounds_toArray, List.set_cons_zero, List.set_cons_succ]
            refine wpT (i := 3) (v := undef) rfl (Or.inr ⟨by rfl, rfl⟩) (by assumption) ?_
            change wpAnyH _ _ _ _ _ _ _ (Act.put _ (some 52) _) _; simp only [Act.put, List.setIfInBounds_toArray, List.set_cons_zero, List.set_cons_succ]
            refine wpT (i := 4) (v := undef) rfl (Or.inr ⟨by rfl, rfl⟩) (by assumption) ?_
            change wpAnyH _ _ _ _ _ _ _ (Act.put _ (some 53) _) _; simp only [Act.put, List.setIfInBounds_toArray, List.set_cons_zero, List.set_cons_succ]
            refine wpT (i := 5) (v := undef) rfl (Or.inr ⟨by rfl, rfl⟩) (by assumption) ?_
            change wpAnyH _ _ _ _ _ _ _ (Act.put _ (some 54) _) _; simp only [Act.put, List.setIfInBounds_toArray, List.set_cons_zero, List.set_cons_succ]
            refine wpT (i := 6) (v := undef) rfl (Or.inr ⟨by rfl, rfl⟩) (by assumption) ?_
            change wpAnyH _ _ _ _ _ _ _ (Act.put _ (some 55) _) _; simp only [Act.put, List.setIfInBounds_toArray, List.set_cons_zero, List.set_cons_succ]
            refine wpT (i := 7) (v := undef) rfl (Or.inr ⟨by rfl, rfl⟩) (by assumption) ?_
            change wpAnyH _ _ _ _ _ _ _ (Act.put _ (some 56) _) _; simp only [Act.put, List.setIfInBounds_toArray, List.set_cons_zero, List.set_cons_succ]
            refine wpT (i := 8) (v := ?v8g1_) rfl (Or.inl ⟨by rfl, ?y8g1_⟩) (by assumption) ?r8g1_
            case y8g1_ => (intro w hSw; (try dsimp only at hSw); go_simp; try with_reducible rfl)
            change wpAnyH _ _ _ _ _ _ _ (Act.put _ (some 57) _) _; simp only [Act.put, List.setIfInBounds_toArray, List.set_cons_zero, List.set_cons_succ]
            refine wpT (i := 9) (v := ?v9g1_) rfl (Or.inl ⟨by rfl, ?y9g1_⟩) (by assumption) ?r9g1_
            case y9g1_ => (intro w hSw; (try dsimp only at hSw); go_simp; try with_reducible rfl)
            change wpAnyH _ _ _ _ _ _ _ (Act.put _ (some 58) _) _; simp only [Act.put, List.setIfInBounds_toArray, List.set_cons_zero, List.set_cons_succ]
            refine wpT (i := 10) (v := undef) rfl (Or.inr ⟨by rfl, rfl⟩) (by assumption) ?_
            change wpAnyH _ _ _ _ _ _ _ (Act.put _ (some 59) _) _; simp only [Act.put, List.setIfInBounds_toArray, List.set_cons_zero, List.set_cons_succ]
            refine wpT (i := 11) (v := undef) rfl (Or.inr ⟨by rfl, rfl⟩) (by assumption) ?_
            change wpAnyH _ _ _ _ _ _ _ (Act.put _ (some 60) _) _; simp only [Act.put, List.setIfInBounds_toArray, List.set_cons_zero, List.set_cons_succ]
            refine wpT (i := 12) (v := undef) rfl (Or.inr ⟨by rfl, rfl⟩) (by assumption) ?_
            change wpAnyH _ _ _ _ _ _ _ (Act.put _ (some 61) _) _; simp only [Act.put, List.setIfInBounds_toArray, List.set_cons_zero, List.set_cons_succ]
            refine wpT (i := 13) (v := undef) rfl (Or.inr ⟨by rfl, rfl⟩) (by assumption) ?_
            change wpAnyH _ _ _ _ _ _ _ (Act.put _ (some 62) _) _; simp only [Act.put, List.setIfInBounds_toArray, List.set_cons_zero, List.set_cons_succ]
            refine wpT (i := 14) (v := undef) rfl (Or.inr ⟨by rfl, rfl⟩) (by assumption) ?_
            change wpAnyH _ _ _ _ _ _ _ (Act.put _ (some 63) _) _; simp only [Act.put, List.setIfInBounds_toArray, List.set_cons_zero, List.set_cons_succ]
            refine wpT (i := 15) (v := undef) rfl (Or.inr ⟨by rfl, rfl⟩) (by assumption) ?_
            change wpAnyH _ _ _ _ _ _ _ (Act.put _ (some 64) _) _; simp only [Act.put, List.setIfInBounds_toArray, List.set_cons_zero, List.set_cons_succ]
            refine wpT (i := 16) (v := undef) rfl (Or.inr ⟨by rfl, rfl⟩) (by assumption) ?_
            change wpAnyH _ _ _ _ _ _ _ (Act.put _ (some 65) _) _; simp only [Act.put, List.setIfInBounds_toArray, List.set_cons_zero, List.set_cons_succ]
            refine wpT (i := 17) (v := undef) rfl (Or.inr ⟨by rfl, rfl⟩) (by assumption) ?_
            change wpAnyH _ _ _ _ _ _ _ (Act.put _ (some 66) _) _; simp only [Act.put, List.setIfInBounds_toArray, List.set_cons_zero, List.set_cons_succ]
            refine wpT (i := 18) (v := ?v18g1_) rfl (Or.inl ⟨by rfl, ?y18g1_⟩) (by assumption) ?r18g1_
            case y18g1_ => (intro w hSw; (try dsimp only at hSw); go_simp; try with_reducible rfl)
            change wpAnyH _ _ _ _ _ _ _ (Act.put _ (some 67) _) _; simp only [Act.put, List.setIfInBounds_toArray, List.set_cons_zero, List.set_cons_succ]
            refine wpAnyH_done (by kernel_rfl) ?_ _
            refine NoPanic.normal ?_
            go_wp2_with fail
            go_meet
            exact ⟨rfl, below_drewN (Below.refl _ _) 1⟩
          case rest =>
          obtain ⟨rfl, hbx⟩ := hcut
          have HSTX := Lib.hid (HST6.out.below_ hbx)
          clear hbx HST6
          go_wp2
          go_roundg gf
          case measure => omega
          case rel => exact ⟨i + 1, by go_num, by omega, by rw [HTK.out, HSN2.out]; exact HSTX.out⟩
        | some m =>
          have hgm := getM_some ho
          have hmn : In64 m.n := hgm.2.2.1.n
          have htk3 := HTK3.out
          rw [ho] at htk3
          have hsn2 := HSN.out
          rw [HTK2.out] at hsn2
          have hm8 : mCells m = #[.int .i64 m.n, .int .i64 m.epoch, .int .i64 m.step, .int .i64 m.sum, .int .i64 m.most, .bool m.done, .int .u32 m.job] := rfl
          have hk6 := hk0.setRow (mCells m)
          have hone := mCells_oneA m
          have hst6 := hst5.below_ (below_row hb6 (Nat.le_refl _) (mCells m))
          have hnmc := fun (W : World) (hW : Below w'.heap.size w' W) => name_any W B (HT.out.on (hW.mono hB)) m.n hmn
          rw [hm7] at hk0 hk6 hst6
          rw [hm8] at hk6 hone hst6
          have HK0 := Lib.hid hk0; have HK6 := Lib.hid hk6; have HONE := Lib.hid hone; have HST6 := Lib.hid hst6; have HHM := Lib.hid hm8; have HNMC := Lib.hid hnmc
          clear hk0 hk6 hone hst6 hst5 hb6 ho HTK3 HTK2 HSN hgm hmn hnmc
          rw [show getV (some m) = m from rfl, show getE (some m) = 0 from rfl, hm8]
          clear hm7 hm8
          go_upto_region 14 with (first | (refine wpList_store_row rfl 38 (.tmp 10) (.tmp 47) rfl w5.heap.size #[.int .i64 m.n, .int .i64 m.epoch, .int .i64 m.step, .int .i64 m.sum, .int .i64 m.most, .bool m.done, .int .u32 m.job] rfl rfl 38 _ HK0.out infoMf rfl HONE.out ?_))
          obtain ⟨w6, hw6⟩ : ∃ w6, (w5.alloc (.cells #[.int .i64 0, .int .i64 0, .int .i64 0, .int .i64 0, .int .i64 0, .bool false, .int .u32 0] 38)).setRow w5.heap.size #[.int .i64 m.n, .int .i64 m.epoch, .int .i64 m.step, .int .i64 m.sum, .int .i64 m.most, .bool m.done, .int .u32 m.job] = w6 := ⟨_, rfl⟩
          rw [hw6] at HK6 HST6 ⊢
          clear hw6
          have hcl : ∀ wx, Below w6.heap.size w6 wx → wx.cell? ⟨w5.heap.size, 0, none⟩ = some (.int .i64 m.n) ∧ wx.cell? ⟨w'.heap.size, 1, none⟩ = some (.int .i64 S.m.n) := fun wx hx => ⟨(HK6.out.below hx HK6.out.lt).cell 0, (HST6.out.below_ hx).st.cell 1⟩
          have HCL := Lib.hid hcl
          clear hcl
          obtain ⟨nm, hnmq⟩ : ∃ nm, nameM m.n = nm := ⟨_, rfl⟩
          have HNMC := HNMC.out
          rw [hnmq] at HNMC htk3
          have HNMC := Lib.hid HNMC
          by_cases hq : nm = t
          case neg =>
            have htk4 : takes D S t = none := by rw [htk3]; show (if nm = t ∧ S.m.n < m.n then some m else none) = none; rw [if_neg (fun e => hq e.1)]
            rw [htk4] at hsn2
            have HSN2 := Lib.hid hsn2
            have hqb : (nm.toList == t.toList) = false := by rw [mbeq_]; exact decide_eq_false hq
            clear htk3 htk4 hq hsn2 hnmq HHM HONE HK0
            go_cut [67] (fun s67 wx => s67 = .bool false ∧ Below w6.heap.size w6 wx)
            case first =>
              refine wp_region_noPanic ?_
              refine wp_region_held_drew (S := (fun wq => wq.cell? ⟨w5.heap.size, 0, none⟩ = some (.int .i64 m.n) ∧ wq.cell? ⟨w'.heap.size, 1, none⟩ = some (.int .i64 S.m.n))) (by kernel_rfl) ?_ (fun hHeld => ?_)
              · exact HCL.out _ (below_drewN (Below.refl _ _) 1)
              refine wpT (i := 0) (v := ?v0g2_) rfl (Or.inl ⟨by rfl, ?y0g2_⟩) (by assumption) ?r0g2_
              case y0g2_ => (intro w hSw; (try dsimp only at hSw); go_simp; try with_reducible rfl)
              change wpAnyH _ _ _ _ _ _ _ (Act.put _ (some 49) _) _; simp only [Act.put, List.setIfInBounds_toArray, List.set_cons_zero, List.set_cons_succ]
              refine wpT (i := 1) (v := ?v1g2_) rfl (Or.inl ⟨by rfl, ?y1g2_⟩) (by assumption) ?r1g2_
              case y1g2_ => (intro w hSw; (try dsimp only at hSw); go_simp; try with_reducible rfl)
              change wpAnyH _ _ _ _ _ _ _ (Act.put _ (some 50) _) _; simp only [Act.put, List.setIfInBounds_toArray, List.set_cons_zero, List.set_cons_succ]
              refine wpT (i := 2) (v := ?v2g2_) rfl (Or.inl ⟨by rfl, ?y2g2_⟩) (by assumption) ?r2g2_
              case y2g2_ => (intro w hSw; (try dsimp only at hSw); go_simp; try with_reducible rfl)
              change wpAnyH _ _ _ _ _ _ _ (Act.put _ (some 51) _) _; simp only [Act.put, List.setIfInBounds_toArray, List.set_cons_zero, List.set_cons_succ]
              refine wpT (i := 3) (v := ?v3g2_) rfl (Or.inl ⟨by rfl, ?y3g2_⟩) (by assumption) ?r3g2_
              case y3g2_ => (intro w hSw; (try dsimp only at hSw); go_simp; try with_reducible rfl)
              change wpAnyH _ _ _ _ _ _ _ (Act.put _ (some 52) _) _; simp only [Act.put, List.setIfInBounds_toArray, List.set_cons_zero, List.set_cons_succ]
              refine wpT (i := 4) (v := ?v4g2_) rfl (Or.inl ⟨by rfl, ?y4g2_⟩) (by assumption) ?r4g2_
              case y4g2_ => (intro w hSw; (try dsimp only at hSw); go_simp; try with_reducible rfl)
              change wpAnyH _ _ _ _ _ _ _ (Act.put _ (some 53) _) _; simp only [Act.put, List.setIfInBounds_toArray, List.set_cons_zero, List.set_cons_succ]
              refine wpT (i := 6) (v := ?v6g2_) rfl (Or.inl ⟨by rfl, ?y6g2_⟩) (by assumption) ?r6g2_
              case y6g2_ => (intro w hSw; (try dsimp only at hSw); go_simp; try with_reducible rfl)
              change wpAnyH _ _ _ _ _ _ _ (Act.put _ (some 55) _) _; simp only [Act.put, List.setIfInBounds_toArray, List.set_cons_zero, List.set_cons_succ]
              refine wpAnyH_ready (rs := [5]) (by kernel_rfl) (by simp) ?_
              refine AllReadyH.cons rfl (fun K hK => ?_) AllReadyH.nil
              go_simp
              refine (HNMC.out _ (HST6.out.below.drew)).mono ?_
              rintro e w7 ⟨rfl, hb7⟩
              have HB7 := Lib.hid (show Below w6.heap.size w6 w7 from undrew hb7)
              clear hb7
              dsimp only
              refine hK.out _ _ ?_ (fun hHeld => ?_)
              · exact HCL.out _ HB7.out
              clear hK K
              try simp only [Act.put, List.setIfInBounds_toArray, List.set_cons_zero, List.set_cons_succ]
              refine wpT (i := 7) (v := ?v7g2_) rfl (Or.inl ⟨by rfl, ?y7g2_⟩) (by assumption) ?r7g2_
              case y7g2_ => (intro w hSw; (try dsimp only at hSw); go_simp; try with_reducible rfl)
              change wpAnyH _ _ _ _ _ _ _ (Act.put _ (some 56) _) _; simp only [Act.put, List.setIfInBounds_toArray, List.set_cons_zero, List.set_cons_succ]
              refine wpT (i := 8) (v := ?v8g2_) rfl (Or.inl ⟨by rfl, ?y8g2_⟩) (by assumption) ?r8g2_
              case y8g2_ => (intro w hSw; (try dsimp only at hSw); go_simp; try with_reducible rfl)
              change wpAnyH _ _ _ _ _ _ _ (Act.put _ (some 57) _) _; simp only [Act.put, List.setIfInBounds_toArray, List.set_cons_zero, List.set_cons_succ]
              refine wpT (i := 9) (v := ?v9g2_) rfl (Or.inl ⟨by rfl, ?y9g2_⟩) (by assumption) ?r9g2_
              case y9g2_ => (intro w hSw; (try dsimp only at hSw); go_simp; try with_reducible rfl)
              change wpAnyH _ _ _ _ _ _ _ (Act.put _ (some 58) _) _; simp only [Act.put, List.setIfInBounds_toArray, List.set_cons_zero, List.set_cons_succ]
              refine wpT (i := 10) (v := undef) rfl (Or.inr ⟨by rfl, rfl⟩) (by assumption) ?_
              change wpAnyH _ _ _ _ _ _ _ (Act.put _ (some 59) _) _; simp only [Act.put, List.setIfInBounds_toArray, List.set_cons_zero, List.set_cons_succ]
              refine wpT (i := 11) (v := undef) rfl (Or.inr ⟨by rfl, rfl⟩) (by assumption) ?_
              change wpAnyH _ _ _ _ _ _ _ (Act.put _ (some 60) _) _; simp only [Act.put, List.setIfInBounds_toArray, List.set_cons_zero, List.set_cons_succ]
              refine wpT (i := 12) (v := undef) rfl (Or.inr ⟨by rfl, rfl⟩) (by assumption) ?_
              change wpAnyH _ _ _ _ _ _ _ (Act.put _ (some 61) _) _; simp only [Act.put, List.setIfInBounds_toArray, List.set_cons_zero, List.set_cons_succ]
              refine wpT (i := 13) (v := undef) rfl (Or.inr ⟨by rfl, rfl⟩) (by assumption) ?_
              change wpAnyH _ _ _ _ _ _ _ (Act.put _ (some 62) _) _; simp only [Act.put, List.setIfInBounds_toArray, List.set_cons_zero, List.set_cons_succ]
              refine wpT (i := 14) (v := undef) rfl (Or.inr ⟨by rfl, rfl⟩) (by assumption) ?_
              change wpAnyH _ _ _ _ _ _ _ (Act.put _ (some 63) _) _; simp only [Act.put, List.setIfInBounds_toArray, List.set_cons_zero, List.set_cons_succ]
              refine wpT (i := 15) (v := undef) rfl (Or.inr ⟨by rfl, rfl⟩) (by assumption) ?_
              change wpAnyH _ _ _ _ _ _ _ (Act.put _ (some 64) _) _; simp only [Act.put, List.setIfInBounds_toArray, List.set_cons_zero, List.set_cons_succ]
              refine wpT (i := 16) (v := undef) rfl (Or.inr ⟨by rfl, rfl⟩) (by assumption) ?_
              change wpAnyH _ _ _ _ _ _ _ (Act.put _ (some 65) _) _; simp only [Act.put, List.setIfInBounds_toArray, List.set_cons_zero, List.set_cons_succ]
              refine wpT (i := 17) (v := undef) rfl (Or.inr ⟨by rfl, rfl⟩) (by assumption) ?_
              change wpAnyH _ _ _ _ _ _ _ (Act.put _ (some 66) _) _; simp only [Act.put, List.setIfInBounds_toArray, List.set_cons_zero, List.set_cons_succ]
              refine wpT (i := 18) (v := ?v18g2_) rfl (Or.inl ⟨by rfl, ?y18g2_⟩) (by assumption) ?r18g2_
              case y18g2_ => (intro w hSw; (try dsimp only at hSw); go_simp; try with_reducible rfl)
              change wpAnyH _ _ _ _ _ _ _ (Act.put _ (some 67) _) _; simp only [Act.put, List.setIfInBounds_toArray, List.set_cons_zero, List.set_cons_succ]
              refine wpAnyH_done (by kernel_rfl) ?_ _
              refine NoPanic.normal ?_
              go_wp2_with fail
              go_meet
              exact ⟨rfl, HB7.out⟩
            case rest =>
            obtain ⟨rfl, hbx⟩ := hcut
            have HSTX := Lib.hid (HST6.out.below_ hbx)
            clear hbx HST6 hqb
            go_wp2
            go_roundg gf
            case measure => omega
            case rel => exact ⟨i + 1, by go_num, by omega, by rw [HTK.out, HSN2.out]; exact HSTX.out⟩
          have hqb : (nm.toList == t.toList) = true := by rw [mbeq_]; exact decide_eq_true hq
          by_cases hlt : S.m.n < m.n
          case neg =>
            have htk4 : takes D S t = none := by rw [htk3]; show (if nm = t ∧ S.m.n < m.n then some m else none) = none; rw [if_neg (fun e => hlt e.2)]
            rw [htk4] at hsn2
            have HSN2 := Lib.hid hsn2
            have hlb : decide (S.m.n < m.n) = false := decide_eq_false hlt
            clear htk3 htk4 hq hsn2 hnmq HHM HONE HK0 hlt
            go_cut [67] (fun s67 wx => s67 = .bool false ∧ Below w6.heap.size w6 wx)
            case first =>
              refine wp_region_noPanic ?_
              refine wp_region_held_drew (S := (fun wq => wq.cell? ⟨w5.heap.size, 0, none⟩ = some (.int .i64 m.n) ∧ wq.cell? ⟨w'.heap.size, 1, none⟩ = some (.int .i64 S.m.n))) (by kernel_rfl) ?_ (fun hHeld => ?_)
              · exact HCL.out _ (below_drewN (Below.refl _ _) 1)
              refine wpT (i := 0) (v := ?v0g3_) rfl (Or.inl ⟨by rfl, ?y0g3_⟩) (by assumption) ?r0g3_
              case y0g3_ => (intro w hSw; (try dsimp only at hSw); go_simp; try with_reducible rfl)
              change wpAnyH _ _ _ _ _ _ _ (Act.put _ (some 49) _) _; simp only [Act.put, List.setIfInBounds_toArray, List.set_cons_zero, List.set_cons_succ]
              refine wpT (i := 1) (v := ?v1g3_) rfl (Or.inl ⟨by rfl, ?y1g3_⟩) (by assumption) ?r1g3_
              case y1g3_ => (intro w hSw; (try dsimp only at hSw); go_simp; try with_reducible rfl)
              change wpAnyH _ _ _ _ _ _ _ (Act.put _ (some 50) _) _; simp only [Act.put, List.setIfInBounds_toArray, List.set_cons_zero, List.set_cons_succ]
              refine wpT (i := 2) (v := ?v2g3_) rfl (Or.inl ⟨by rfl, ?y2g3_⟩) (by assumption) ?r2g3_
              case y2g3_ => (intro w hSw; (try dsimp only at hSw); go_simp; try with_reducible rfl)
              change wpAnyH _ _ _ _ _ _ _ (Act.put _ (some 51) _) _; simp only [Act.put, List.setIfInBounds_toArray, List.set_cons_zero, List.set_cons_succ]
              refine wpT (i := 3) (v := ?v3g3_) rfl (Or.inl ⟨by rfl, ?y3g3_⟩) (by assumption) ?r3g3_
              case y3g3_ => (intro w hSw; (try dsimp only at hSw); go_simp; try with_reducible rfl)
              change wpAnyH _ _ _ _ _ _ _ (Act.put _ (some 52) _) _; simp only [Act.put, List.setIfInBounds_toArray, List.set_cons_zero, List.set_cons_succ]
              refine wpT (i := 4) (v := ?v4g3_) rfl (Or.inl ⟨by rfl, ?y4g3_⟩) (by assumption) ?r4g3_
              case y4g3_ => (intro w hSw; (try dsimp only at hSw); go_simp; try with_reducible rfl)
              change wpAnyH _ _ _ _ _ _ _ (Act.put _ (some 53) _) _; simp only [Act.put, List.setIfInBounds_toArray, List.set_cons_zero, List.set_cons_succ]
              refine wpT (i := 6) (v := ?v6g3_) rfl (Or.inl ⟨by rfl, ?y6g3_⟩) (by assumption) ?r6g3_
              case y6g3_ => (intro w hSw; (try dsimp only at hSw); go_simp; try with_reducible rfl)
              change wpAnyH _ _ _ _ _ _ _ (Act.put _ (some 55) _) _; simp only [Act.put, List.setIfInBounds_toArray, List.set_cons_zero, List.set_cons_succ]
              refine wpAnyH_ready (rs := [5]) (by kernel_rfl) (by simp) ?_
              refine AllReadyH.cons rfl (fun K hK => ?_) AllReadyH.nil
              go_simp
              refine (HNMC.out _ (HST6.out.below.drew)).mono ?_
              rintro e w7 ⟨rfl, hb7⟩
              have HB7 := Lib.hid (show Below w6.heap.size w6 w7 from undrew hb7)
              clear hb7
              dsimp only
              refine hK.out _ _ ?_ (fun hHeld => ?_)
              · exact HCL.out _ HB7.out
              clear hK K
              try simp only [Act.put, List.setIfInBounds_toArray, List.set_cons_zero, List.set_cons_succ]
              refine wpT (i := 7) (v := ?v7g3_) rfl (Or.inl ⟨by rfl, ?y7g3_⟩) (by assumption) ?r7g3_
              case y7g3_ => (intro w hSw; (try dsimp only at hSw); go_simp; try with_reducible rfl)
              change wpAnyH _ _ _ _ _ _ _ (Act.put _ (some 56) _) _; simp only [Act.put, List.setIfInBounds_toArray, List.set_cons_zero, List.set_cons_succ]
              refine wpT (i := 8) (v := ?v8g3_) rfl (Or.inl ⟨by rfl, ?y8g3_⟩) (by assumption) ?r8g3_
              case y8g3_ => (intro w hSw; (try dsimp only at hSw); go_simp; try with_reducible rfl)
              change wpAnyH _ _ _ _ _ _ _ (Act.put _ (some 57) _) _; simp only [Act.put, List.setIfInBounds_toArray, List.set_cons_zero, List.set_cons_succ]
              refine wpT (i := 9) (v := ?v9g3_) rfl (Or.inl ⟨by rfl, ?y9g3_⟩) (by assumption) ?r9g3_
              case y9g3_ => (intro w hSw; (try dsimp only at hSw); go_simp; try with_reducible rfl)
              change wpAnyH _ _ _ _ _ _ _ (Act.put _ (some 58) _) _; simp only [Act.put, List.setIfInBounds_toArray, List.set_cons_zero, List.set_cons_succ]
              refine wpT (i := 10) (v := ?v10g3_) rfl (Or.inl ⟨by rfl, ?y10g3_⟩) (by assumption) ?r10g3_
              case y10g3_ => (intro w hSw; (try dsimp only at hSw); go_simp; try with_reducible rfl)
              change wpAnyH _ _ _ _ _ _ _ (Act.put _ (some 59) _) _; simp only [Act.put, List.setIfInBounds_toArray, List.set_cons_zero, List.set_cons_succ]
              refine wpT (i := 11) (v := ?v11g3_) rfl (Or.inl ⟨by rfl, ?y11g3_⟩) (by assumption) ?r11g3_
              case y11g3_ => (intro w hSw; (try dsimp only at hSw); go_simp; try with_reducible rfl)
              change wpAnyH _ _ _ _ _ _ _ (Act.put _ (some 60) _) _; simp only [Act.put, List.setIfInBounds_toArray, List.set_cons_zero, List.set_cons_succ]
              refine wpT (i := 12) (v := ?v12g3_) rfl (Or.inl ⟨by rfl, ?y12g3_⟩) (by assumption) ?r12g3_
              case y12g3_ => (intro w hSw; (try dsimp only at hSw); go_simp; try with_reducible rfl)
              change wpAnyH _ _ _ _ _ _ _ (Act.put _ (some 61) _) _; simp only [Act.put, List.setIfInBounds_toArray, List.set_cons_zero, List.set_cons_succ]
              refine wpT (i := 13) (v := ?v13g3_) rfl (Or.inl ⟨by rfl, ?y13g3_⟩) (by assumption) ?r13g3_
              case y13g3_ => (intro w hSw; (try dsimp only at hSw); go_simp; try with_reducible rfl)
              change wpAnyH _ _ _ _ _ _ _ (Act.put _ (some 62) _) _; simp only [Act.put, List.setIfInBounds_toArray, List.set_cons_zero, List.set_cons_succ]
              refine wpT (i := 14) (v := ?v14g3_) rfl (Or.inl ⟨by rfl, ?y14g3_⟩) (by assumption) ?r14g3_
              case y14g3_ => (intro w hSw; (try dsimp only at hSw); go_simp; try with_reducible rfl)
              change wpAnyH _ _ _ _ _ _ _ (Act.put _ (some 63) _) _; simp only [Act.put, List.setIfInBounds_toArray, List.set_cons_zero, List.set_cons_succ]
              refine wpT (i := 15) (v := ?v15g3_) rfl (Or.inl ⟨by rfl, ?y15g3_⟩) (by assumption) ?r15g3_
              case y15g3_ => (intro w hSw; (try dsimp only at hSw); go_simp; try with_reducible rfl)
              change wpAnyH _ _ _ _ _ _ _ (Act.put _ (some 64) _) _; simp only [Act.put, List.setIfInBounds_toArray, List.set_cons_zero, List.set_cons_succ]
              refine wpT (i := 16) (v := ?v16g3_) rfl (Or.inl ⟨by rfl, ?y16g3_⟩) (by assumption) ?r16g3_
              case y16g3_ => (intro w hSw; (try dsimp only at hSw); go_simp; try with_reducible rfl)
              change wpAnyH _ _ _ _ _ _ _ (Act.put _ (some 65) _) _; simp only [Act.put, List.setIfInBounds_toArray, List.set_cons_zero, List.set_cons_succ]
              refine wpT (i := 17) (v := ?v17g3_) rfl (Or.inl ⟨by rfl, ?y17g3_⟩) (by assumption) ?r17g3_
              case y17g3_ => (intro w hSw; (try dsimp only at hSw); go_simp; try with_reducible rfl)
              change wpAnyH _ _ _ _ _ _ _ (Act.put _ (some 66) _) _; simp only [Act.put, List.setIfInBounds_toArray, List.set_cons_zero, List.set_cons_succ]
              refine wpT (i := 18) (v := ?v18g3_) rfl (Or.inl ⟨by rfl, ?y18g3_⟩) (by assumption) ?r18g3_
              case y18g3_ => (intro w hSw; (try dsimp only at hSw); go_simp; try with_reducible rfl)
              change wpAnyH _ _ _ _ _ _ _ (Act.put _ (some 67) _) _; simp only [Act.put, List.setIfInBounds_toArray, List.set_cons_zero, List.set_cons_succ]
              refine wpAnyH_done (by kernel_rfl) ?_ _
              refine NoPanic.normal ?_
              go_wp2_with fail
              go_meet
              exact ⟨rfl, HB7.out⟩
            case rest =>
            obtain ⟨rfl, hbx⟩ := hcut
            have HSTX := Lib.hid (HST6.out.below_ hbx)
            clear hbx HST6 hqb hlb
            go_wp2
            go_roundg gf
            case measure => omega
            case rel => exact ⟨i + 1, by go_num, by omega, by rw [HTK.out, HSN2.out]; exact HSTX.out⟩
          have htk4 : takes D S t = some m := by rw [htk3]; show (if nm = t ∧ S.m.n < m.n then some m else none) = _; rw [if_pos ⟨hq, hlt⟩]
          rw [htk4] at hsn2
          have HSN2 := Lib.hid hsn2
          have hlb : decide (S.m.n < m.n) = true := decide_eq_true hlt
          clear htk3 htk4 hq hsn2 hnmq HK0 hlt
          go_cut [67] (fun s67 wx => s67 = .bool true ∧ Below w6.heap.size w6 wx)
          case first =>
            refine wp_region_noPanic ?_
            refine wp_region_held_drew (S := (fun wq => wq.cell? ⟨w5.heap.size, 0, none⟩ = some (.int .i64 m.n) ∧ wq.cell? ⟨w'.heap.size, 1, none⟩ = some (.int .i64 S.m.n))) (by kernel_rfl) ?_ (fun hHeld => ?_)
            · exact HCL.out _ (below_drewN (Below.refl _ _) 1)
            refine wpT (i := 0) (v := ?v0g4_) rfl (Or.inl ⟨by rfl, ?y0g4_⟩) (by assumption) ?r0g4_
            case y0g4_ => (intro w hSw; (try dsimp only at hSw); go_simp; try with_reducible rfl)
            change wpAnyH _ _ _ _ _ _ _ (Act.put _ (some 49) _) _; simp only [Act.put, List.setIfInBounds_toArray, List.set_cons_zero, List.set_cons_succ]
            refine wpT (i := 1) (v := ?v1g4_) rfl (Or.inl ⟨by rfl, ?y1g4_⟩) (by assumption) ?r1g4_
            case y1g4_ => (intro w hSw; (try dsimp only at hSw); go_simp; try with_reducible rfl)
            change wpAnyH _ _ _ _ _ _ _ (Act.put _ (some 50) _) _; simp only [Act.put, List.setIfInBounds_toArray, List.set_cons_zero, List.set_cons_succ]
            refine wpT (i := 2) (v := ?v2g4_) rfl (Or.inl ⟨by rfl, ?y2g4_⟩) (by assumption) ?r2g4_
            case y2g4_ => (intro w hSw; (try dsimp only at hSw); go_simp; try with_reducible rfl)
            change wpAnyH _ _ _ _ _ _ _ (Act.put _ (some 51) _) _; simp only [Act.put, List.setIfInBounds_toArray, List.set_cons_zero, List.set_cons_succ]
            refine wpT (i := 3) (v := ?v3g4_) rfl (Or.inl ⟨by rfl, ?y3g4_⟩) (by assumption) ?r3g4_
            case y3g4_ => (intro w hSw; (try dsimp only at hSw); go_simp; try with_reducible rfl)
            change wpAnyH _ _ _ _ _ _ _ (Act.put _ (some 52) _) _; simp only [Act.put, List.setIfInBounds_toArray, List.set_cons_zero, List.set_cons_succ]
            refine wpT (i := 4) (v := ?v4g4_) rfl (Or.inl ⟨by rfl, ?y4g4_⟩) (by assumption) ?r4g4_
            case y4g4_ => (intro w hSw; (try dsimp only at hSw); go_simp; try with_reducible rfl)
            change wpAnyH _ _ _ _ _ _ _ (Act.put _ (some 53) _) _; simp only [Act.put, List.setIfInBounds_toArray, List.set_cons_zero, List.set_cons_succ]
            refine wpT (i := 6) (v := ?v6g4_) rfl (Or.inl ⟨by rfl, ?y6g4_⟩) (by assumption) ?r6g4_
            case y6g4_ => (intro w hSw; (try dsimp only at hSw); go_simp; try with_reducible rfl)
            change wpAnyH _ _ _ _ _ _ _ (Act.put _ (some 55) _) _; simp only [Act.put, List.setIfInBounds_toArray, List.set_cons_zero, List.set_cons_succ]
            refine wpAnyH_ready (rs := [5]) (by kernel_rfl) (by simp) ?_
            refine AllReadyH.cons rfl (fun K hK => ?_) AllReadyH.nil
            go_simp
            refine (HNMC.out _ (HST6.out.below.drew)).mono ?_
            rintro e w7 ⟨rfl, hb7⟩
            have HB7 := Lib.hid (show Below w6.heap.size w6 w7 from undrew hb7)
            clear hb7
            dsimp only
            refine hK.out _ _ ?_ (fun hHeld => ?_)
            · exact HCL.out _ HB7.out
            clear hK K
            try simp only [Act.put, List.setIfInBounds_toArray, List.set_cons_zero, List.set_cons_succ]
            refine wpT (i := 7) (v := ?v7g4_) rfl (Or.inl ⟨by rfl, ?y7g4_⟩) (by assumption) ?r7g4_
            case y7g4_ => (intro w hSw; (try dsimp only at hSw); go_simp; try with_reducible rfl)
            change wpAnyH _ _ _ _ _ _ _ (Act.put _ (some 56) _) _; simp only [Act.put, List.setIfInBounds_toArray, List.set_cons_zero, List.set_cons_succ]
            refine wpT (i := 8) (v := ?v8g4_) rfl (Or.inl ⟨by rfl, ?y8g4_⟩) (by assumption) ?r8g4_
            case y8g4_ => (intro w hSw; (try dsimp only at hSw); go_simp; try with_reducible rfl)
            change wpAnyH _ _ _ _ _ _ _ (Act.put _ (some 57) _) _; simp only [Act.put, List.setIfInBounds_toArray, List.set_cons_zero, List.set_cons_succ]
            refine wpT (i := 9) (v := ?v9g4_) rfl (Or.inl ⟨by rfl, ?y9g4_⟩) (by assumption) ?r9g4_
            case y9g4_ => (intro w hSw; (try dsimp only at hSw); go_simp; try with_reducible rfl)
            change wpAnyH _ _ _ _ _ _ _ (Act.put _ (some 58) _) _; simp only [Act.put, List.setIfInBounds_toArray, List.set_cons_zero, List.set_cons_succ]
            refine wpT (i := 10) (v := ?v10g4_) rfl (Or.inl ⟨by rfl, ?y10g4_⟩) (by assumption) ?r10g4_
            case y10g4_ => (intro w hSw; (try dsimp only at hSw); go_simp; try with_reducible rfl)
            change wpAnyH _ _ _ _ _ _ _ (Act.put _ (some 59) _) _; simp only [Act.put, List.setIfInBounds_toArray, List.set_cons_zero, List.set_cons_succ]
            refine wpT (i := 11) (v := ?v11g4_) rfl (Or.inl ⟨by rfl, ?y11g4_⟩) (by assumption) ?r11g4_
            case y11g4_ => (intro w hSw; (try dsimp only at hSw); go_simp; try with_reducible rfl)
            change wpAnyH _ _ _ _ _ _ _ (Act.put _ (some 60) _) _; simp only [Act.put, List.setIfInBounds_toArray, List.set_cons_zero, List.set_cons_succ]
            refine wpT (i := 12) (v := ?v12g4_) rfl (Or.inl ⟨by rfl, ?y12g4_⟩) (by assumption) ?r12g4_
            case y12g4_ => (intro w hSw; (try dsimp only at hSw); go_simp; try with_reducible rfl)
            change wpAnyH _ _ _ _ _ _ _ (Act.put _ (some 61) _) _; simp only [Act.put, List.setIfInBounds_toArray, List.set_cons_zero, List.set_cons_succ]
            refine wpT (i := 13) (v := ?v13g4_) rfl (Or.inl ⟨by rfl, ?y13g4_⟩) (by assumption) ?r13g4_
            case y13g4_ => (intro w hSw; (try dsimp only at hSw); go_simp; try with_reducible rfl)
            change wpAnyH _ _ _ _ _ _ _ (Act.put _ (some 62) _) _; simp only [Act.put, List.setIfInBounds_toArray, List.set_cons_zero, List.set_cons_succ]
            refine wpT (i := 14) (v := ?v14g4_) rfl (Or.inl ⟨by rfl, ?y14g4_⟩) (by assumption) ?r14g4_
            case y14g4_ => (intro w hSw; (try dsimp only at hSw); go_simp; try with_reducible rfl)
            change wpAnyH _ _ _ _ _ _ _ (Act.put _ (some 63) _) _; simp only [Act.put, List.setIfInBounds_toArray, List.set_cons_zero, List.set_cons_succ]
            refine wpT (i := 15) (v := ?v15g4_) rfl (Or.inl ⟨by rfl, ?y15g4_⟩) (by assumption) ?r15g4_
            case y15g4_ => (intro w hSw; (try dsimp only at hSw); go_simp; try with_reducible rfl)
            change wpAnyH _ _ _ _ _ _ _ (Act.put _ (some 64) _) _; simp only [Act.put, List.setIfInBounds_toArray, List.set_cons_zero, List.set_cons_succ]
            refine wpT (i := 16) (v := ?v16g4_) rfl (Or.inl ⟨by rfl, ?y16g4_⟩) (by assumption) ?r16g4_
            case y16g4_ => (intro w hSw; (try dsimp only at hSw); go_simp; try with_reducible rfl)
            change wpAnyH _ _ _ _ _ _ _ (Act.put _ (some 65) _) _; simp only [Act.put, List.setIfInBounds_toArray, List.set_cons_zero, List.set_cons_succ]
            refine wpT (i := 17) (v := ?v17g4_) rfl (Or.inl ⟨by rfl, ?y17g4_⟩) (by assumption) ?r17g4_
            case y17g4_ => (intro w hSw; (try dsimp only at hSw); go_simp; try with_reducible rfl)
            change wpAnyH _ _ _ _ _ _ _ (Act.put _ (some 66) _) _; simp only [Act.put, List.setIfInBounds_toArray, List.set_cons_zero, List.set_cons_succ]
            refine wpT (i := 18) (v := ?v18g4_) rfl (Or.inl ⟨by rfl, ?y18g4_⟩) (by assumption) ?r18g4_
            case y18g4_ => (intro w hSw; (try dsimp only at hSw); go_simp; try with_reducible rfl)
            change wpAnyH _ _ _ _ _ _ _ (Act.put _ (some 67) _) _; simp only [Act.put, List.setIfInBounds_toArray, List.set_cons_zero, List.set_cons_succ]
            refine wpAnyH_done (by kernel_rfl) ?_ _
            refine NoPanic.normal ?_
            go_wp2_with fail
            go_meet
            exact ⟨rfl, HB7.out⟩
          case rest =>
          obtain ⟨rfl, hbx⟩ := hcut
          have hst7 := HST6.out.below_ hbx
          have hk7 := HK6.out.below hbx HK6.out.lt
          obtain ⟨w8, hw8⟩ : ∃ w8, w8 = wc := ⟨_, rfl⟩
          subst hw8
          have hth := st_there hst7.st
          obtain ⟨hmz, hkz⟩ := st_lay hst7.st m
          obtain ⟨wz, hz⟩ : ∃ wz, w8.setCells w'.heap.size 1 (#[.int .i64 m.n, .int .i64 m.epoch, .int .i64 m.step, .int .i64 m.sum, .int .i64 m.most, .bool m.done, .int .u32 m.job] : Array Value).toList = wz := ⟨_, rfl⟩
          have hmz : Moved w8 wz w'.heap.size none := by rw [← hz]; exact hmz
          have hkz : Blk wz w'.heap.size 69 (zCells p m S.some) := by rw [← hz]; exact hkz
          obtain ⟨z8, fz8⟩ := z_cell hkz
          have hst9 := st_flag hkz
          have hmv := hmz.trans (Moved.set_ wz w'.heap.size 8 none (.bool true)) (.inl rfl)
          have hst8 := hst7.put hmv hst9
          have HST8 := Lib.hid hst8; have HK7 := Lib.hid hk7; have HTH := Lib.hid hth; have HZ := Lib.hid hz
          clear hmz hkz hst9 hmv hst8 hk7 hth hz hst7 hbx HST6 HK6 HCL hqb hlb HHM
          go_upto_region 15 with (fail)
          iterate 8 (first | (refine wpList_load_row rfl 38 (.tmp 10) (by rfl) w5.heap.size (by rfl) 38 #[.int .i64 m.n, .int .i64 m.epoch, .int .i64 m.step, .int .i64 m.sum, .int .i64 m.most, .bool m.done, .int .u32 m.job] (0, 0) _ HK7.out Tryz.underlying38 rfl infoMf ?_) | go_step | go_upon | skip)
          iterate 6 (first | go_step | go_upon | skip)
          refine wpList_store_midz rfl 38 (.tmp 72) (.tmp 70) (by rfl) w'.heap.size 1 #[.int .i64 m.n, .int .i64 m.epoch, .int .i64 m.step, .int .i64 m.sum, .int .i64 m.most, .bool m.done, .int .u32 m.job] (by rfl) (by rfl) HTH.out infoMf HONE.out wz HZ.out ?_
          clear HTH HZ HONE HK7
          go_upto_region 16 with (fail)
          clear z8 fz8
          go_wp2
          go_roundg gf
          case measure => omega
          case rel => exact ⟨i + 1, by go_num, by omega, by rw [HTK.out, HSN2.out]; exact HST8.out⟩
end
end Go.Proofs.YtlcgkcafelpglaaGreatDoor
