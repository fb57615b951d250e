/- A store of checkpoints: Newest; Steps and Newest of a nil store. The law's own 'tells': both stores tell the same of themselves. -/
import Derived.Test.YthmcimpdehgaoaaGreatDoorCmB
import Derived.Test.YthmcimpdehgaoaaGreatDoorPk33
import Derived.Deep.DeepCutAuto
namespace Go.Proofs.YthmcimpdehgaoaaGreatDoor
open Go.RowKit Go.Shelf Go.Maps
attribute [local go_sem] Oper.semAt_some

/-- the last one, and whether there is one -/
def newL (l : List Nat) : Int × Bool := match l.getLast? with
  | none => (0, false)
  | some n => ((n : Int), true)
theorem newL_snoc (l : List Nat) (x : Nat) : newL (l ++ [x]) = ((x : Int), true) := by unfold newL; rw [List.getLast?_concat]
theorem newestC_eq (D : DiskD) : newestC D = newL (stepsC D) := rfl
/-- what holds between two rounds -/
def NiS (w : World) (pre : List Nat) (W : World) : Prop :=
  Blk W w.heap.size 3 #[.int .i64 (newL pre).1] ∧ Blk W (w.heap.size + 1) 4 #[.bool (newL pre).2] ∧ Below w.heap.size w W ∧ w.heap.size + 2 ≤ W.heap.size
theorem NiS.step {w : World} {pre : List Nat} {X Y : World} (h : NiS w pre X) (hb : Below X.heap.size X Y) : NiS w pre Y := by
  obtain ⟨h1, h2, h3, h4⟩ := h
  exact ⟨h1.below hb h1.lt, h2.below hb h2.lt, h3.trans (hb.mono (by omega)), Nat.le_trans h4 hb.size⟩
theorem NiS.own {w : World} : OwnFrom (w.heap.size + 2) (NiS w) := by
  rintro pre W W' row ⟨h1, h2, hB, hz⟩ hg hr
  exact ⟨h1.grown hg (fun e => by have := (hr _ e.symm).1; omega), h2.grown hg (fun e => by have := (hr _ e.symm).1; omega), hB.grown hg hB.size (fun k e => by have := (hr k e).1; omega), Nat.le_trans hz hg.size⟩
theorem setCell_same {w : World} {g : Nat} {t : TypeId} {v : Value} (h : Blk w g t #[v]) : w.setCell ⟨g, 0, none⟩ v = w := by
  have hb := h
  unfold Blk at hb
  obtain ⟨hlt, hg⟩ := Array.getElem?_eq_some_iff.1 hb
  have : (w.setCell ⟨g, 0, none⟩ v).heap = w.heap := by
    apply Array.ext
    · simp [World.setCell]
    · intro i h1 h2
      by_cases hi : i = g
      · subst hi
        have := h.set_ 0 v
        unfold Blk at this
        have e := (Array.getElem?_eq_some_iff.1 this).2
        rw [e, hg]
        rfl
      · have := Below.heap_setCell w ⟨g, 0, none⟩ v i hi
        rw [Array.getElem?_eq_getElem h1, Array.getElem?_eq_getElem h2] at this
        injection this
  cases w
  simp only [World.setCell] at this ⊢
  congr
set_option maxRecDepth 100000 in
set_option maxHeartbeats 4000000 in
theorem cnewest_it (w : World) (pa : Option Addr) (L : List Nat) (N : Nat) (hit : IterC w pa L N) :
    Calls Tryz.prog 16 #[.pointer pa] w fun e w' => e = .returned (.tuple #[.int .i64 (newL L).1, .bool (newL L).2]) ∧ Below w.heap.size w w' := by
  obtain ⟨N1, hN1⟩ : ∃ N1, (newL L).1 = N1 := ⟨_, rfl⟩
  obtain ⟨N2, hN2⟩ : ∃ N2, (newL L).2 = N2 := ⟨_, rfl⟩
  rw [hN1, hN2]
  have HN1 := Lib.hid hN1; have HN2 := Lib.hid hN2
  clear hN1 hN2
  refine (callsIn_wide (n := 5)).1 ?_
  refine callsIn_of_wp_marks Tryz.func16 rfl trivial ?_ rfl
  simp only [Tryz.ntmps16, List.size_toArray, List.length_cons, List.length_nil, Nat.reduceAdd, Nat.reduceSub, Array.replicate_succ, Array.replicate_zero, List.push_toArray, List.append_toArray, List.nil_append, List.cons_append]
  have hmf : ∀ (fn : Fn) (first cap : Array Value) (w : World), (Instr.makeFunc fn first cap).run Tryz.prog w = .ok (.func fn first cap) w := fun _ _ _ _ => rfl
  gi_wp2
  clear hmf
  have hsz2 : ((w.alloc (.cells #[.int .i64 0] 3)).alloc (.cells #[.bool false] 4)).heap.size = w.heap.size + 2 := by simp
  have hbx := (Blk.new w 3 #[.int .i64 0]).alloc (.cells #[.bool false] 4)
  have hby := Blk.new (w.alloc (.cells #[.int .i64 0] 3)) 4 #[.bool false]
  rw [World.size_alloc] at hby
  have hbz : Below w.heap.size w ((w.alloc (.cells #[.int .i64 0] 3)).alloc (.cells #[.bool false] 4)) := ((Below.refl _ _).alloc (Nat.le_refl _) _).alloc (by simp) _
  obtain ⟨W2, hW2⟩ : ∃ W2, (w.alloc (.cells #[.int .i64 0] 3)).alloc (.cells #[.bool false] 4) = W2 := ⟨_, rfl⟩
  rw [hW2] at hsz2 hbx hby hbz ⊢
  clear hW2
  have hNI0 : NiS w [] W2 := ⟨hbx, hby, hbz, by omega⟩
  refine wpIn_rangeFunc_b (α := Nat) (F := Fence.wide) (n := 5) rfl (fun h => by cases h) (gf := 47) (ba := #[.pointer pa]) (lb := #[]) rfl trivial (enters_of Tryz.func47 (by kernel_rfl) rfl)
    (encs := fun x => #[.int .i64 (x : Int)]) (fun _ => rfl) (Kp := KpR w.heap.size w.heap.size fun k => k = w.heap.size ∨ k = w.heap.size + 1)
    (St := fun X Y => Below X.heap.size X Y) (S := fun xs => xs = L) (N := N) (Ok := fun _ => True) ?seq (fun h k => h.trans k) ?kb ?st (NiS w) (by rw [hsz2]; exact NiS.own) (fun _ _ _ h hs => h.step hs) hNI0
    (fun x => { tmps := #[.pointer pa, undef, .pointer (some ⟨w.heap.size, 0, none⟩), .pointer (some ⟨w.heap.size + 1, 0, none⟩), .int .i64 (x : Int), .pointer pa, .func (.func 47) #[.pointer pa] #[], .int .i64 (x : Int), undef, undef, undef], defers := [] }) ?assign ?body ?done
  case seq =>
    intro l J W hb hJ hY h0
    have hbw : Below w.heap.size w W := hbz.trans (hb.mono (by omega))
    refine (hit w.heap.size (fun k => k = w.heap.size ∨ k = w.heap.size + 1) l J hJ (fun pre x W1 hj hl => hY pre x W1 hj hl trivial) W hbw (by have := hb.size; omega) (fun k e => by have := hb.size; omega) ?_ h0).mono ?_
    · rintro k ⟨u, hu, ho⟩
      have hc := (hbx.below hb (by omega)).cell 0
      rw [hu] at hc
      simp at hc
      subst hc
      cases ho
    · rintro e W' ⟨hv, hj⟩
      exact ⟨hv, _, rfl, hj⟩
  case kb =>
    intro W l o o' hl ho hc _
    exact KpR.putObj (by omega) (by omega) ho hc
  case st =>
    intro W W' k o hst hk _
    exact (hst.block k (Array.getElem?_eq_some_iff.1 hk).1).trans hk
  case assign =>
    intro l x W K hK
    gi_wp2
    exact hK
  case body =>
    rintro l pre x W ⟨h1, h2, hB, hz⟩ hlen -
    have c0 := h1.cell 0; have f0 := h1.frozen 0
    have c1 := (h2.far (p := ⟨w.heap.size, 0, none⟩) (by show w.heap.size + 1 ≠ w.heap.size; omega) (.int .i64 (x : Int))).cell 0; have f1 := (h2.far (p := ⟨w.heap.size, 0, none⟩) (by show w.heap.size + 1 ≠ w.heap.size; omega) (.int .i64 (x : Int))).frozen 0
    simp only [List.getElem?_toArray, List.getElem?_cons_zero] at c0 c1
    have hne : w.heap.size + 1 ≠ w.heap.size := by omega
    have hfin : KeepsOthers W ((W.setCell ⟨w.heap.size, 0, none⟩ (.int .i64 (x : Int))).setCell ⟨w.heap.size + 1, 0, none⟩ (.bool true)) ∧ KpR w.heap.size w.heap.size (fun k => k = w.heap.size ∨ k = w.heap.size + 1) W ((W.setCell ⟨w.heap.size, 0, none⟩ (.int .i64 (x : Int))).setCell ⟨w.heap.size + 1, 0, none⟩ (.bool true)) ∧
        NiS w (pre ++ [x]) ((W.setCell ⟨w.heap.size, 0, none⟩ (.int .i64 (x : Int))).setCell ⟨w.heap.size + 1, 0, none⟩ (.bool true)) := by
      have hbl : Below w.heap.size W ((W.setCell ⟨w.heap.size, 0, none⟩ (.int .i64 (x : Int))).setCell ⟨w.heap.size + 1, 0, none⟩ (.bool true)) := ((Below.refl _ W).setCell (p := ⟨w.heap.size, 0, none⟩) (Nat.le_refl _) _).setCell (p := ⟨w.heap.size + 1, 0, none⟩) (by show w.heap.size ≤ w.heap.size + 1; omega) _
      have hk0 : Blk ((W.setCell ⟨w.heap.size, 0, none⟩ (.int .i64 (x : Int))).setCell ⟨w.heap.size + 1, 0, none⟩ (.bool true)) w.heap.size 3 #[.int .i64 (x : Int)] := (h1.set_ 0 (.int .i64 (x : Int))).far (p := ⟨w.heap.size + 1, 0, none⟩) (by show w.heap.size ≠ w.heap.size + 1; omega) _
      refine ⟨(KeepsOthers.setCell _ _ _).trans (KeepsOthers.setCell _ _ _), ⟨hbl, fun k cs t fz hk hx _ => ?_, fun k hk => ?_⟩, ?_, ?_, hB.trans hbl, by simpa using hz⟩
      · exact (Below.heap_setCell _ _ _ _ (by show k ≠ w.heap.size + 1; exact fun e => hx (.inr e))).trans (Below.heap_setCell _ _ _ _ (by show k ≠ w.heap.size; exact fun e => hx (.inl e)))
      · obtain ⟨u, hu, ho⟩ := hk
        have := hk0.cell 0
        rw [hu] at this
        simp at this
        subst this
        cases ho
      · rw [newL_snoc]; exact hk0
      · rw [newL_snoc]
        exact (h2.far (p := ⟨w.heap.size, 0, none⟩) hne (.int .i64 (x : Int))).set_ 0 (.bool true)
    have HF := Lib.hid hfin
    clear h1 h2 hB hfin
    gi_wp2
    obtain ⟨r1, r2, r3⟩ := HF.out
    exact ⟨r1.from _, r2, r3⟩
  case done =>
    rintro D0 xs W hD rfl ⟨h1, h2, hB, hz⟩ hK
    rw [HN1.out] at h1
    rw [HN2.out] at h2
    clear HN1 HN2
    have c0 := h1.cell 0; have f0 := h1.frozen 0
    have c1 := h2.cell 0; have f1 := h2.frozen 0
    simp only [List.getElem?_toArray, List.getElem?_cons_zero] at c0 c1
    have e0 := setCell_same h1.drew; have e1 := setCell_same h2.drew
    have hD2 : D0 < W.heap.size := (Array.getElem?_eq_some_iff.1 hK).1
    have HBL := Lib.hid hB; have HKD := Lib.hid hK; have HK0 := Lib.hid h1; have HK1 := Lib.hid h2
    clear h1 h2 hB hK
    gi_wp2
    gi_region
    all_goals gi_wp2
    have hKd : W.drew.heap[D0]? = some (.deferred (some [])) := HKD.out
    have hnD0 : w.heap.size ≠ D0 := by omega
    have hnD1 : w.heap.size + 1 ≠ D0 := by omega
    have k0 : Blk (W.drew.putObj D0 (.deferred none)) w.heap.size 3 #[.int .i64 N1] := (World.putObj_heap_other hnD0).trans HK0.out
    have k1 : Blk (W.drew.putObj D0 (.deferred none)) (w.heap.size + 1) 4 #[.bool N2] := (World.putObj_heap_other hnD1).trans HK1.out
    have d0 := k0.cell 0; have d1 := k1.cell 0
    simp only [List.getElem?_toArray, List.getElem?_cons_zero] at d0 d1
    have hbp : Below w.heap.size w (W.drew.putObj D0 (.deferred none)) := (HBL.out.drew).grown (grownBy_putObj' W.drew D0 _) HBL.out.size (fun k e => by cases e; omega)
    refine ⟨by simp, .inl ⟨_, _, rfl, run_takeDeferred hKd, ?_⟩⟩
    exact ⟨.tuple #[.int .i64 N1, .bool N2], by simp [results, Tryz.results16, go_sem, d0, d1], rfl, hbp⟩
theorem cnewest_any (w : World) (B p gs : Nat) (v : Value) (D : DiskD) (h : DiskIs w B p v D) (hs : CkSt w gs p) (hf : Fit D) (hnm : ∀ f ∈ D.files, f.name.size ≤ 1000) (hT : Tb w.heap.size w) (hV : Ev w.heap.size w) :
    Calls Tryz.prog 16 #[.pointer (some ⟨gs, 0, none⟩)] w fun e w' => e = .returned (.tuple #[.int .i64 (newestC D).1, .bool (newestC D).2]) ∧ Below w.heap.size w w' := by
  rw [newestC_eq]
  exact cnewest_it w _ _ _ (iter_any w B p gs v D h hs hf hnm hT hV)
theorem cnewest_nil (w : World) : Calls Tryz.prog 16 #[.pointer none] w fun e w' => e = .returned (.tuple #[.int .i64 0, .bool false]) ∧ Below w.heap.size w w' :=
  cnewest_it w none [] 0 (iter_nil w)
end Go.Proofs.YthmcimpdehgaoaaGreatDoor
namespace Go.Proofs.YthmcimpdehgaoaaGreatDoor
open Go.RowKit Go.Maps

set_option maxRecDepth 100000 in
set_option maxHeartbeats 16000000 in
theorem ctells_any (w : World) (B p q gs gr : Nat) (v : Value) (D : DiskD) (R : RDisk) (hd : DiskIs w B p v D) (hr : RkIs w B q R) (hs : CkSt w gs p) (ht : RcSt w gr q) (hsim : Sim D R) (hf : FitN D 1) (hnm : ∀ f ∈ D.files, f.name.size ≤ 1000) (hb : ∀ t, (R.read t).2.size ≤ 9900) (hT : Tb w.heap.size w) (hV : Ev w.heap.size w) :
    Calls Tryz.prog 24 #[.pointer (some ⟨gs, 0, none⟩), .pointer (some ⟨gr, 0, none⟩)] w fun e w' => e = .returned (.bool true) ∧ Below w.heap.size w w' := by
  have h1 := csteps_any w B p gs v D hd hs hf.fit hnm hT hV
  have h2 := fun W (hW : Below w.heap.size w W) => rcsteps_any W B q gr R (hr.below hW) (sim_fit hsim hf) (ht.below hW) hb
  have h3 := fun W (hW : Below w.heap.size w W) => cnewest_any W B p gs v D (hd.below hW (Nat.le_refl _)) (hs.below hW) hf.fit hnm (hT.at_ hW) (hV.at_ hW)
  rw [← sim_stepsC hsim] at h2
  simp only [newestC_eq] at h3
  have hll : (stepsC D).length ≤ 100000000 := by
    have h0 := (sim_fit hsim hf).len
    rw [sim_stepsC hsim]
    unfold stepsRC allRC
    refine Nat.le_trans (List.length_filter_le _ _) ?_
    rw [List.length_mergeSort]
    refine Nat.le_trans (List.length_filterMap_le _ _) ?_
    rw [List.length_map]
    exact h0
  obtain ⟨l, hl⟩ : ∃ l, stepsC D = l := ⟨_, rfl⟩
  rw [hl] at hll
  rw [hl] at h1
  simp only [hl] at h2 h3
  have HS1 := Lib.hid h1; have HS2 := Lib.hid h2; have HS3 := Lib.hid h3
  clear h1 h2 h3 hd hr hs ht hsim hf hnm hb hT hV hl
  go_enter Tryz.func24, Tryz.ntmps24
  go_wp2_with fail
  refine HS1.out.mono ?_
  rintro e w1 ⟨v5, rfl, ho5, hb1⟩
  obtain ⟨A5, c5, rfl⟩ := own_shape ho5
  have HO5 := Lib.hid ho5; have HB1 := Lib.hid hb1; have HSX := Lib.hid (HS2.out w1 hb1)
  clear ho5 hb1 HS1 HS2
  go_wp2_with fail
  refine HSX.out.mono ?_
  rintro e w2 ⟨A6, c6, rfl, ho6, hb2⟩
  have HO5b := Lib.hid (ownC_below HO5.out hb2); have HO6 := Lib.hid ho6; have HB2 := Lib.hid (HB1.out.trans (hb2.mono HB1.out.size)); have HSY := Lib.hid (HS3.out w2 (HB1.out.trans (hb2.mono HB1.out.size)))
  clear ho6 hb2 HO5 HB1 HSX HS3
  go_wp2_with fail
  refine HSY.out.mono ?_
  rintro e w3 ⟨rfl, hb3⟩
  have HR5 := Lib.hid (Sl.of_own (ownC_below HO5b.out hb3)); have HR6 := Lib.hid (Sl.of_own (ownC_below HO6.out hb3)); have HB3 := Lib.hid (HB2.out.trans (hb3.mono HB2.out.size))
  clear hb3 HO5b HO6 HB2 HSY
  obtain ⟨N, hN⟩ : ∃ N, (newL l).1 = N := ⟨_, rfl⟩
  obtain ⟨O, hO⟩ : ∃ O, (newL l).2 = O := ⟨_, rfl⟩
  rw [hN, hO]
  have HN := Lib.hid hN; have HO := Lib.hid hO
  clear hN hO
  go_upto_region 3 with (fail)
  go_cut [51] (fun s51 wx => s51 = .bool false ∧ w3 = wx)
  case first =>
    as_aux_lemma =>
    cases hlx : l.getLast? with
    | none =>
      obtain rfl : l = [] := List.getLast?_eq_none_iff.1 hlx
      have h0 : ([] : List Nat).length = 0 := rfl
      obtain rfl : N = 0 := by rw [← HN.out]; rfl
      obtain rfl : O = false := by rw [← HO.out]; rfl
      clear hlx HR5 HR6 HN HO
      go_wp2
      go_meet
      exact ⟨rfl, rfl⟩
    | some x =>
      have hlen : 0 < l.length := by
        cases l with
        | nil => cases hlx
        | cons a l => simp
      have hx : l[l.length - 1]? = some x := by rw [← hlx, List.getLast?_eq_getElem?]
      obtain ⟨b, o, rfl, y1⟩ := HR6.out.atI hx
      obtain rfl : N = (x : Int) := by rw [← HN.out]; unfold newL; rw [hlx]
      obtain rfl : O = true := by rw [← HO.out]; unfold newL; rw [hlx]
      have hk1 : ((l.length - 1 : Nat) : Int) = (l.length : Int) - 1 := by omega
      have hlI : (0 : Int) < (l.length : Int) := by omega
      have hlb : decide ((0 : Int) < (l.length : Int)) = true := decide_eq_true hlI
      clear hx hlx HR5 HR6 HN HO
      go_wp2
      go_meet
      exact ⟨rfl, rfl⟩
  case rest =>
  as_aux_lemma =>
  obtain ⟨rfl, rfl⟩ := hcut
  go_wp2
  go_loopg [9] l.length (fun gf vi wr => ∃ i : Nat, vi = .int .i64 i ∧ i + gf = l.length ∧ Below w3.heap.size w3 wr)
  case atStart => exact ⟨0, rfl, by omega, Below.refl _ _⟩
  case round =>
    obtain ⟨i, rfl, hi, hB⟩ := hrel
    cases gk with
    | zero =>
      obtain rfl : i = l.length := by omega
      have HB := Lib.hid (HB3.out.trans (hB.mono HB3.out.size))
      clear hB
      go_wp2
      go_ret
      exact ⟨rfl, HB.out⟩
    | succ gf =>
      have hir : i < l.length := by omega
      have hiI : (i : Int) < (l.length : Int) := by omega
      have hib : decide ((i : Int) < (l.length : Int)) = true := decide_eq_true hiI
      obtain ⟨n, hn⟩ : ∃ n, l[i]? = some n := ⟨_, List.getElem?_eq_getElem hir⟩
      obtain ⟨b5, o5, rfl, y5⟩ := (HR5.out.below hB).atI hn
      obtain ⟨b6, o6, rfl, y6⟩ := (HR6.out.below hB).atI hn
      have HB := Lib.hid hB
      clear hB hn
      go_upto_region 8 with (fail)
      go_quiet (fail)
      go_wp2
      go_roundg gf
      case measure => omega
      case rel => exact ⟨i + 1, by go_num, by omega, below_drewN HB.out _⟩
end Go.Proofs.YthmcimpdehgaoaaGreatDoor
