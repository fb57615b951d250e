/- A store of checkpoints: Drop. A store of checkpoints: Drop, its loop. -/
import Derived.Test.YthmcimpdehgaoaaGreatDoorPk17
import Derived.Test.YthmcimpdehgaoaaGreatDoorCkD
import Derived.OrdersHeld
import Derived.Deep.RegionHeld3
import Derived.Deep.DeepCutAuto
namespace Go.Proofs.YthmcimpdehgaoaaGreatDoor
open Go.RowKit Go.Maps

/-- what a drop leaves -/
def CDropP [Forb] (B : Nat) (w : World) (p gs : Nat) (v : Value) (q : Int × DiskD) (e : Ending) (w' : World) : Prop :=
  e = .returned (.int .i64 q.1) ∧ ∃ v1, Out B w w' p v q.2 v1 ∧ CkSt w' gs p
/-- a row of ints in its block -/
def IntB (w : World) (A : Option Addr) (l : List Nat) : Prop := ∀ (k n : Nat), l[k]? = some n → ∃ (g : Nat) (cur : Array Value), A = some ⟨g, 0, none⟩ ∧ Blk w g 3 cur ∧ cur[k]? = some (Value.int .i64 (n : Int))
theorem IntB.of_own {w : World} {b c : Nat} {A : Option Addr} {l : List Nat} (h : w.ownsRow b 3 1 (.slice A l.length c) l.length (intsN l)) : IntB w A l := by
  intro k n hk
  have hlt : k < l.length := (List.getElem?_eq_some_iff.1 hk).1
  rcases h.2 with ⟨hv, h0⟩ | ⟨g, cap, cur, hv, hg, hb, hn, hcap, hsz, ht⟩
  · omega
  · simp only [Value.slice.injEq] at hv
    obtain ⟨rfl, -, rfl⟩ := hv
    refine ⟨g, cur, rfl, hb, ?_⟩
    have h1 : (cur.toList.take (l.length * 1))[k]? = (intsN l)[k]? := by rw [ht]
    rw [Nat.mul_one, List.getElem?_take_of_lt hlt, Array.getElem?_toList] at h1
    rw [h1]
    unfold intsN
    rw [List.getElem?_map, hk]
    rfl
theorem IntB.out [Forb] {B p : Nat} {w w' : World} {A : Option Addr} {l : List Nat} {v v1 : Value} {D1 : DiskD} (h : IntB w A l) (o : Out B w w' p v D1 v1) : IntB w' A l := fun k n hk => by
  obtain ⟨g, cur, h1, h2, h3⟩ := h k n hk
  exact ⟨g, cur, h1, o.keep_blk h2 (by decide) (by decide), h3⟩
theorem IntB.below {w w' : World} {A : Option Addr} {l : List Nat} (h : IntB w A l) (hb : Below w.heap.size w w') : IntB w' A l := fun k n hk => by
  obtain ⟨g, cur, h1, h2, h3⟩ := h k n hk
  exact ⟨g, cur, h1, h2.below hb h2.lt, h3⟩
set_option maxHeartbeats 2000000 in
theorem cdrop_nil (w : World) (below : Int) : Calls Tryz.prog 13 #[.pointer none, .int .i64 below] w fun e w' => e = .returned (.int .i64 1) ∧ w' = w := by
  go_enter Tryz.func13, Tryz.ntmps13
  go_wp2
  go_ret
  exact ⟨rfl, rfl⟩
set_option maxHeartbeats 2000000 in
theorem cdrop_off [Forb] (w : World) (B p gs : Nat) (v : Value) (D : DiskD) (h : DiskIs w B p v D) (hs : CkSt w gs p) (below : Int) (hoff : D.off = true) : Calls Tryz.prog 13 #[.pointer (some ⟨gs, 0, none⟩), .int .i64 below] w fun e w' => e = .returned (.int .i64 160) ∧ w' = w := by
  have HO := Lib.hid (off_any _ B p v D h)
  rw [hoff] at HO
  have hcs : w.cell? ⟨gs, 0, none⟩ = some (.pointer (some ⟨p, 0, none⟩)) := Blk.cell hs 0
  clear h hs hoff
  go_enter Tryz.func13, Tryz.ntmps13
  go_wp2_with fail
  refine HO.out.mono ?_
  rintro e w6 ⟨rfl, rfl⟩
  clear HO
  go_wp2
  go_ret
  exact ⟨rfl, rfl⟩
end Go.Proofs.YthmcimpdehgaoaaGreatDoor
namespace Go.Proofs.YthmcimpdehgaoaaGreatDoor
open Go.RowKit Go.Maps

theorem dropGo_lo {below : Int} {D : DiskD} {l : List Nat} {i n : Nat} (h : l[i]? = some n) (hb : below ≤ (n : Int)) : dropGo below D (l.drop i) = (0, D) := by
  have := List.getElem?_eq_some_iff.1 h
  rw [List.drop_eq_getElem_cons this.1, this.2, dropGo, if_pos hb]
theorem dropGo_err {below : Int} {D : DiskD} {l : List Nat} {i n : Nat} (h : l[i]? = some n) (hb : ¬ below ≤ (n : Int)) (he : (D.step 3 (nameC n) (nameC n) 0 true).1 ≠ 0) : dropGo below D (l.drop i) = D.step 3 (nameC n) (nameC n) 0 true := by
  have := List.getElem?_eq_some_iff.1 h
  rw [List.drop_eq_getElem_cons this.1, this.2, dropGo, if_neg hb, if_pos he]
theorem dropGo_on {below : Int} {D : DiskD} {l : List Nat} {i n : Nat} (h : l[i]? = some n) (hb : ¬ below ≤ (n : Int)) (he : (D.step 3 (nameC n) (nameC n) 0 true).1 = 0) : dropGo below D (l.drop i) = dropGo below (D.step 3 (nameC n) (nameC n) 0 true).2 (l.drop (i + 1)) := by
  have := List.getElem?_eq_some_iff.1 h
  rw [List.drop_eq_getElem_cons this.1, this.2, dropGo, if_neg hb, if_neg (by simp [he])]
theorem dropGo_end {below : Int} {D : DiskD} {l : List Nat} : dropGo below D (l.drop l.length) = (0, D) := by rw [List.drop_length]; rfl
/-- the loop's state: i steps are looked at -/
structure CdL [Forb] (B : Nat) (w wr : World) (p gs : Nat) (v0 v : Value) (D0 D : DiskD) (A : Option Addr) (l : List Nat) (below : Int) (i : Nat) : Prop where
  o : Out B w wr p v0 D v
  st : CkSt wr gs p
  row : IntB wr A l
  room : FitN D (l.length - i + 1)
  sz : w.heap.size ≤ wr.heap.size
  eq : dropGo below D0 l = dropGo below D (l.drop i)
theorem allC_le {D : DiskD} {n : Nat} (h : n ∈ allC D) : n ≤ 1073741824 := by
  unfold allC at h
  rw [List.mem_mergeSort] at h
  unfold stepsOf at h
  obtain ⟨t, -, ht⟩ := List.mem_filterMap.1 h
  exact (stepOf_some.1 ht).1
theorem IntB.at_ {w : World} {A : Option Addr} {l : List Nat} (h : IntB w A l) {k n : Nat} (hk : l[k]? = some n) : ∃ ad, A = some ad ∧ w.cell? (ad.add k) = some (Value.int .i64 (n : Int)) := by
  obtain ⟨g, cur, h1, h2, h3⟩ := h k n hk
  refine ⟨⟨g, 0, none⟩, h1, ?_⟩
  rw [show ((⟨g, 0, none⟩ : Addr).add k) = ⟨g, k, none⟩ from by simp [Addr.add]; exact fun h => h.symm]
  exact (h2.cell k).trans h3
set_option maxRecDepth 100000 in
set_option maxHeartbeats 16000000 in
theorem cdrop_yes [Forb] (w : World) (B p gs : Nat) (v : Value) (D : DiskD) (h : DiskIs w B p v D) (hB : B ≤ w.heap.size) (hs : CkSt w gs p) (hf : FitN D ((allC D).length + 1)) (hnm : ∀ f ∈ D.files, f.name.size ≤ 1000) (hT : Tb B w) (hV : Ev w.heap.size w) (below : Int) (hoff : D.off = false) (hal : (allC D).length ≤ 100000000) :
    Calls Tryz.prog 13 #[.pointer (some ⟨gs, 0, none⟩), .int .i64 below] w (CDropP B w p gs v (dropGo below D (allC D))) := by
  have HO := Lib.hid (off_any _ B p v D h)
  rw [hoff] at HO
  have hcs : w.cell? ⟨gs, 0, none⟩ = some (.pointer (some ⟨p, 0, none⟩)) := Blk.cell hs 0
  have HA := Lib.hid (call_loop w B p gs v D h hs hf.fit hnm (hT.up hB) hV)
  have HN := Lib.hid (fun n (hn : n ∈ allC D) => allC_le hn)
  have HI := Lib.hid (fun (w1 : World) (hb : Below w.heap.size w w1) => (⟨Out.of_below h hB hb, hs.below hb⟩ : Out B w w1 p v D v ∧ CkSt w1 gs p))
  obtain ⟨l, hl⟩ : ∃ l, allC D = l := ⟨_, rfl⟩
  rw [hl] at HA HN hf hal ⊢
  have HF := Lib.hid hf; have HT := Lib.hid (fun (W : World) (hb : Below B w W) (hz : w.heap.size ≤ W.heap.size) => (hT.on hb).up (Nat.le_trans hB hz))
  have HBB := Lib.hid hB
  clear h hs hf hnm hT hV hoff hl hB
  go_enter Tryz.func13, Tryz.ntmps13
  go_wp2_with fail
  refine HO.out.mono ?_
  rintro e w0 ⟨rfl, rfl⟩
  clear HO
  go_wp2_with fail
  refine HA.out.mono ?_
  rintro e w1 ⟨A, c, rfl, ho, hb⟩
  have hi := HI.out w1 hb
  have HL0 := Lib.hid (⟨hi.1, hi.2, IntB.of_own ho, by rw [Nat.sub_zero]; exact HF.out, hb.size, by rw [List.drop_zero]⟩ : CdL B w0 w1 p gs v v D D A l below 0)
  clear hi ho hb HI HA HF hcs
  go_upto_region 6 with (fail)
  go_loopg [20] l.length (fun gf vi wr => ∃ (i : Nat) (v1 : Value) (D1 : DiskD), vi = .int .i64 i ∧ i + gf = l.length ∧ CdL B w0 wr p gs v v1 D D1 A l below i)
  case atStart => exact ⟨0, v, D, rfl, by omega, HL0.out⟩
  case round =>
    clear HL0
    obtain ⟨i, v1, D1, rfl, hi, hL⟩ := hrel
    have HL := Lib.hid hL
    clear hL
    cases gk with
    | zero =>
      obtain rfl : i = l.length := by omega
      have HE := Lib.hid (show CDropP B w0 p gs v (dropGo below D l) (.returned (.int .i64 0)) wr from by rw [HL.out.eq, dropGo_end]; exact ⟨rfl, v1, HL.out.o, HL.out.st⟩)
      clear HL
      go_wp2
      go_ret
      exact HE.out
    | succ gf =>
      have hir : i < l.length := by omega
      have hiI : (i : Int) < (l.length : Int) := by omega
      obtain ⟨n, hn0⟩ : ∃ n, l[i]? = some n := ⟨l[i], List.getElem?_eq_getElem hir⟩
      have hnl := HN.out n (List.mem_of_getElem? hn0)
      obtain ⟨ad, rfl, hcx⟩ := HL.out.row.at_ hn0
      by_cases hlo : below ≤ (n : Int)
      · have HE := Lib.hid (show CDropP B w0 p gs v (dropGo below D l) (.returned (.int .i64 0)) wr from by rw [HL.out.eq, dropGo_lo hn0 hlo]; exact ⟨rfl, v1, HL.out.o, HL.out.st⟩)
        clear HL
        go_wp2
        go_ret
        exact HE.out
      · have hc0 : wr.cell? ⟨gs, 0, none⟩ = some (.pointer (some ⟨p, 0, none⟩)) := Blk.cell HL.out.st 0
        have hdr : Below wr.heap.size wr wr.drew := (Below.refl _ _).drew
        have hbW : B ≤ wr.heap.size := Nat.le_trans HBB.out HL.out.sz
        have HDR := Lib.hid hdr
        have HNA := Lib.hid (cname_any wr.drew (HT.out wr.drew (HL.out.o.below.trans (hdr.mono hbW)) HL.out.sz) n (by omega))
        have HRE := Lib.hid (fun (w2 : World) (hb : Below wr.heap.size wr w2) => d_remove (HL.out.o.is.below hb (Nat.le_refl _)) (Nat.le_trans hbW hb.size) HL.out.room.fit (name := nameC n) (E := (D1.step 3 (nameC n) (nameC n) 0 true).1) (D' := (D1.step 3 (nameC n) (nameC n) 0 true).2) rfl)
        have HCS := Lib.hid (fun (w2 : World) (hb : Below wr.heap.size wr w2) => show w2.cell? ⟨gs, 0, none⟩ = some (.pointer (some ⟨p, 0, none⟩)) from Blk.cell (HL.out.st.below hb) 0)
        have hcost := cst_step HL.out.room.left 3 (nameC n) (nameC n) 0 true
        have HER := Lib.hid (fun (he : (D1.step 3 (nameC n) (nameC n) 0 true).1 ≠ 0) => dropGo_err hn0 hlo he)
        have HON := Lib.hid (fun (he : (D1.step 3 (nameC n) (nameC n) 0 true).1 = 0) => dropGo_on hn0 hlo he)
        have hpair : D1.step 3 (nameC n) (nameC n) 0 true = ((D1.step 3 (nameC n) (nameC n) 0 true).1, (D1.step 3 (nameC n) (nameC n) 0 true).2) := rfl
        rw [hpair] at HER
        clear hpair
        obtain ⟨E, hE⟩ : ∃ E, (D1.step 3 (nameC n) (nameC n) 0 true).1 = E := ⟨_, rfl⟩
        obtain ⟨D2, hD2⟩ : ∃ D2, (D1.step 3 (nameC n) (nameC n) 0 true).2 = D2 := ⟨_, rfl⟩
        rw [hE, hD2] at HRE HER
        rw [hE, hD2] at HON
        rw [hD2] at hcost
        have HCO := Lib.hid hcost
        clear hcost hE hD2
        obtain ⟨T, hTT⟩ : ∃ T, nameC n = T := ⟨_, rfl⟩
        rw [hTT] at HNA HRE
        clear hTT hdr
        go_upto_region 9 with (fail)
        refine wp_region_noPanic ?_
        refine wp_region_held_drew (S := (fun w' => w'.cell? ⟨gs, 0, none⟩ = some (.pointer (some ⟨p, 0, none⟩)))) (by kernel_rfl) ?_ (fun hHeld => ?_)
        · exact hc0
        refine wpT (i := 0) (v := ?v0g1_) rfl (Or.inl ⟨by rfl, ?y0g1_⟩) (by assumption) ?r0g1_
        case y0g1_ => (intro w hSw; (try dsimp only at hSw); have s1 := hSw; go_simp; try with_reducible rfl)
        change wpAnyH _ _ _ _ _ _ _ (Act.put _ (some 27) _) _; simp only [Act.put, List.setIfInBounds_toArray, List.set_cons_zero, List.set_cons_succ]
        refine wpT (i := 1) (v := ?v1g1_) rfl (Or.inl ⟨by rfl, ?y1g1_⟩) (by assumption) ?r1g1_
        case y1g1_ => (intro w hSw; (try dsimp only at hSw); have s1 := hSw; go_simp; try with_reducible rfl)
        change wpAnyH _ _ _ _ _ _ _ (Act.put _ (some 28) _) _; simp only [Act.put, List.setIfInBounds_toArray, List.set_cons_zero, List.set_cons_succ]
        refine wpT (i := 2) (v := ?v2g1_) rfl (Or.inl ⟨by rfl, ?y2g1_⟩) (by assumption) ?r2g1_
        case y2g1_ => (intro w hSw; (try dsimp only at hSw); have s1 := hSw; go_simp; try with_reducible rfl)
        change wpAnyH _ _ _ _ _ _ _ (Act.put _ (some 29) _) _; simp only [Act.put, List.setIfInBounds_toArray, List.set_cons_zero, List.set_cons_succ]
        refine wpT (i := 3) (v := ?v3g1_) rfl (Or.inl ⟨by rfl, ?y3g1_⟩) (by assumption) ?r3g1_
        case y3g1_ => (intro w hSw; (try dsimp only at hSw); have s1 := hSw; go_simp; try with_reducible rfl)
        change wpAnyH _ _ _ _ _ _ _ (Act.put _ (some 30) _) _; simp only [Act.put, List.setIfInBounds_toArray, List.set_cons_zero, List.set_cons_succ]
        refine wpT (i := 4) (v := ?v4g1_) rfl (Or.inl ⟨by rfl, ?y4g1_⟩) (by assumption) ?r4g1_
        case y4g1_ => (intro w hSw; (try dsimp only at hSw); have s1 := hSw; go_simp; try with_reducible rfl)
        change wpAnyH _ _ _ _ _ _ _ (Act.put _ (some 31) _) _; simp only [Act.put, List.setIfInBounds_toArray, List.set_cons_zero, List.set_cons_succ]
        refine wpAnyH_ready (rs := [5]) (by kernel_rfl) (by simp) ?_
        refine AllReadyH.cons rfl (fun K hK => ?_) AllReadyH.nil
        go_simp
        refine (HNA.out).mono ?_
        rintro e w2 ⟨rfl, hb2⟩
        have HB2 := Lib.hid (HDR.out.trans (hb2.mono HDR.out.size))
        clear hb2
        dsimp only
        refine hK.out _ _ ?_ (fun hHeld => ?_)
        · exact HCS.out _ HB2.out
        clear hK K
        try simp only [Act.put, List.setIfInBounds_toArray, List.set_cons_zero, List.set_cons_succ]
        refine wpAnyH_ready (rs := [6]) (by kernel_rfl) (by simp) ?_
        refine AllReadyH.cons rfl (fun K hK => ?_) AllReadyH.nil
        go_simp
        refine (HRE.out w2 HB2.out).mono ?_
        rintro e w3 ⟨rfl, v2, o2⟩
        have HO3 := Lib.hid ((Out.of_below HL.out.o.is hbW HB2.out).trans o2)
        have HS3 := Lib.hid ((HL.out.st.below HB2.out).out o2)
        have HR3 := Lib.hid ((HL.out.row.below HB2.out).out o2)
        have HZ3 := Lib.hid (Nat.le_trans HL.out.sz (Nat.le_trans HB2.out.size o2.below.size))
        clear o2
        dsimp only
        refine hK.out _ _ ?_ (fun hHeld => ?_)
        · exact Blk.cell HS3.out 0
        clear hK K
        try simp only [Act.put, List.setIfInBounds_toArray, List.set_cons_zero, List.set_cons_succ]
        refine wpT (i := 7) (v := ?v7g1_) rfl (Or.inl ⟨by rfl, ?y7g1_⟩) (by assumption) ?r7g1_
        case y7g1_ => (intro w hSw; (try dsimp only at hSw); have s1 := hSw; go_simp; try with_reducible rfl)
        change wpAnyH _ _ _ _ _ _ _ (Act.put _ (some 7) _) _; simp only [Act.put, List.setIfInBounds_toArray, List.set_cons_zero, List.set_cons_succ]
        refine wpAnyH_done (by kernel_rfl) ?_ _
        refine NoPanic.normal ?_
        clear HNA HRE HCS HDR
        by_cases hE0 : E = 0
        · have hon := HON.out hE0
          have hL2 : CdL B w0 w3 p gs v v2 D D2 (some ad) l below (i + 1) := ⟨HL.out.o.trans HO3.out, HS3.out, HR3.out, HL.out.room.cst HCO.out (by omega) (by omega) (by omega), HZ3.out, HL.out.eq.trans hon⟩
          have HL2 := Lib.hid hL2
          have hEb : (E != 0) = false := by simpa using hE0
          clear hL2 hon HON HER HL HO3 HS3 HR3 HZ3 HCO
          go_wp2
          go_roundg gf
          case measure => omega
          case rel => exact ⟨i + 1, v2, D2, by go_num, by omega, HL2.out⟩
        · have her := HER.out hE0
          have HE := Lib.hid (show CDropP B w0 p gs v (dropGo below D l) (.returned (.int .i64 E)) w3 from by rw [HL.out.eq, her]; exact ⟨rfl, v2, HL.out.o.trans HO3.out, HS3.out⟩)
          have hEb : (E != 0) = true := by simpa using hE0
          clear her HON HER HL HO3 HS3 HR3 HZ3 HCO
          go_wp2
          go_ret
          exact HE.out
/-- a drop, whatever it is asked for -/
theorem cdrop_any [Forb] (w : World) (B p gs : Nat) (v : Value) (D : DiskD) (h : DiskIs w B p v D) (hB : B ≤ w.heap.size) (hs : CkSt w gs p) (hf : FitN D ((allC D).length + 1)) (hnm : ∀ f ∈ D.files, f.name.size ≤ 1000) (hT : Tb B w) (hV : Ev w.heap.size w) (below : Int) (hal : (allC D).length ≤ 100000000) :
    Calls Tryz.prog 13 #[.pointer (some ⟨gs, 0, none⟩), .int .i64 below] w (CDropP B w p gs v (dropC D below)) := by
  by_cases ho : D.off = true
  · refine (cdrop_off w B p gs v D h hs below ho).mono ?_
    rintro e w' ⟨rfl, rfl⟩
    unfold dropC
    rw [if_pos ho]
    exact ⟨rfl, v, Out.of_below h hB (Below.refl _ _), hs⟩
  · have ho' : D.off = false := by simpa using ho
    unfold dropC
    rw [if_neg ho]
    exact cdrop_yes w B p gs v D h hB hs hf hnm hT hV below ho' hal
end Go.Proofs.YthmcimpdehgaoaaGreatDoor
