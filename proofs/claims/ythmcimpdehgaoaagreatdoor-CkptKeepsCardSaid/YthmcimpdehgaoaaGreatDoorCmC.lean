/- A store of checkpoints: Newest; Steps and Newest of a nil store. -/
import Derived.Test.YthmcimpdehgaoaaGreatDoorCmB
namespace Go.Proofs.YthmcimpdehgaoaaGreatDoor
open Go.RowKit Go.Shelf Go.Maps
attribute [local go_sem] Oper.semAt_some

/-- the last one, and whether there is one -/
def newL (l : List Nat) : Int × Bool := match l.getLast? with
  | none => (0, false)
  | some n => ((n : Int), true)
theorem newL_snoc (l : List Nat) (x : Nat) : newL (l ++ [x]) = ((x : Int), true) := by unfold newL; rw [List.getLast?_concat]
theorem newestC_eq (D : DiskD) : newestC D = newL (stepsC D) := rfl
/-- what holds between two rounds -/
def NiS (w : World) (pre : List Nat) (W : World) : Prop :=
  Blk W w.heap.size 3 #[.int .i64 (newL pre).1] ∧ Blk W (w.heap.size + 1) 4 #[.bool (newL pre).2] ∧ Below w.heap.size w W ∧ w.heap.size + 2 ≤ W.heap.size
theorem NiS.step {w : World} {pre : List Nat} {X Y : World} (h : NiS w pre X) (hb : Below X.heap.size X Y) : NiS w pre Y := by
  obtain ⟨h1, h2, h3, h4⟩ := h
  exact ⟨h1.below hb h1.lt, h2.below hb h2.lt, h3.trans (hb.mono (by omega)), Nat.le_trans h4 hb.size⟩
theorem NiS.own {w : World} : OwnFrom (w.heap.size + 2) (NiS w) := by
  rintro pre W W' row ⟨h1, h2, hB, hz⟩ hg hr
  exact ⟨h1.grown hg (fun e => by have := (hr _ e.symm).1; omega), h2.grown hg (fun e => by have := (hr _ e.symm).1; omega), hB.grown hg hB.size (fun k e => by have := (hr k e).1; omega), Nat.le_trans hz hg.size⟩
theorem setCell_same {w : World} {g : Nat} {t : TypeId} {v : Value} (h : Blk w g t #[v]) : w.setCell ⟨g, 0, none⟩ v = w := by
  have hb := h
  unfold Blk at hb
  obtain ⟨hlt, hg⟩ := Array.getElem?_eq_some_iff.1 hb
  have : (w.setCell ⟨g, 0, none⟩ v).heap = w.heap := by
    apply Array.ext
    · simp [World.setCell]
    · intro i h1 h2
      by_cases hi : i = g
      · subst hi
        have := h.set_ 0 v
        unfold Blk at this
        have e := (Array.getElem?_eq_some_iff.1 this).2
        rw [e, hg]
        rfl
      · have := Below.heap_setCell w ⟨g, 0, none⟩ v i hi
        rw [Array.getElem?_eq_getElem h1, Array.getElem?_eq_getElem h2] at this
        injection this
  cases w
  simp only [World.setCell] at this ⊢
  congr
set_option maxRecDepth 100000 in
set_option maxHeartbeats 4000000 in
theorem cnewest_any (w : World) (B p gs : Nat) (v : Value) (D : DiskD) (h : DiskIs w B p v D) (hs : CkSt w gs p) (hf : Fit D) (hnm : ∀ f ∈ D.files, f.name.size ≤ 1000) (hT : Tb w.heap.size w) (hV : Ev w.heap.size w) :
    Calls Tryz.prog 16 #[.pointer (some ⟨gs, 0, none⟩)] w fun e w' => e = .returned (.tuple #[.int .i64 (newestC D).1, .bool (newestC D).2]) ∧ Below w.heap.size w w' := by
  rw [newestC_eq]
  obtain ⟨N1, hN1⟩ : ∃ N1, (newL (stepsC D)).1 = N1 := ⟨_, rfl⟩
  obtain ⟨N2, hN2⟩ : ∃ N2, (newL (stepsC D)).2 = N2 := ⟨_, rfl⟩
  rw [hN1, hN2]
  have HN1 := Lib.hid hN1; have HN2 := Lib.hid hN2
  clear hN1 hN2
  refine (callsIn_wide (n := 5)).1 ?_
  refine callsIn_of_wp_marks Tryz.func16 rfl trivial ?_ rfl
  simp only [Tryz.ntmps16, List.size_toArray, List.length_cons, List.length_nil, Nat.reduceAdd, Nat.reduceSub, Array.replicate_succ, Array.replicate_zero, List.push_toArray, List.append_toArray, List.nil_append, List.cons_append]
  have hmf : ∀ (fn : Fn) (first cap : Array Value) (w : World), (Instr.makeFunc fn first cap).run Tryz.prog w = .ok (.func fn first cap) w := fun _ _ _ _ => rfl
  gi_wp2
  clear hmf
  have hsz2 : ((w.alloc (.cells #[.int .i64 0] 3)).alloc (.cells #[.bool false] 4)).heap.size = w.heap.size + 2 := by simp
  have hbx := (Blk.new w 3 #[.int .i64 0]).alloc (.cells #[.bool false] 4)
  have hby := Blk.new (w.alloc (.cells #[.int .i64 0] 3)) 4 #[.bool false]
  rw [World.size_alloc] at hby
  have hbz : Below w.heap.size w ((w.alloc (.cells #[.int .i64 0] 3)).alloc (.cells #[.bool false] 4)) := ((Below.refl _ _).alloc (Nat.le_refl _) _).alloc (by simp) _
  obtain ⟨W2, hW2⟩ : ∃ W2, (w.alloc (.cells #[.int .i64 0] 3)).alloc (.cells #[.bool false] 4) = W2 := ⟨_, rfl⟩
  rw [hW2] at hsz2 hbx hby hbz ⊢
  clear hW2
  have hNI0 : NiS w [] W2 := ⟨hbx, hby, hbz, by omega⟩
  refine wpIn_rangeFunc_b (α := Nat) (F := Fence.wide) (n := 5) rfl (fun h => by cases h) (gf := 47) (ba := #[.pointer (some ⟨gs, 0, none⟩)]) (lb := #[]) rfl trivial (enters_of Tryz.func47 (by kernel_rfl) rfl)
    (encs := fun x => #[.int .i64 (x : Int)]) (fun _ => rfl) (Kp := KpR w.heap.size w.heap.size fun k => k = w.heap.size ∨ k = w.heap.size + 1)
    (St := fun X Y => Below X.heap.size X Y) (S := fun xs => xs = stepsC D) (N := (allC D).length) (Ok := fun _ => True) ?seq (fun h k => h.trans k) ?kb ?st (NiS w) (by rw [hsz2]; exact NiS.own) (fun _ _ _ h hs => h.step hs) hNI0
    (fun x => { tmps := #[.pointer (some ⟨gs, 0, none⟩), undef, .pointer (some ⟨w.heap.size, 0, none⟩), .pointer (some ⟨w.heap.size + 1, 0, none⟩), .int .i64 (x : Int), .pointer (some ⟨gs, 0, none⟩), .func (.func 47) #[.pointer (some ⟨gs, 0, none⟩)] #[], .int .i64 (x : Int), undef, undef, undef], defers := [] }) ?assign ?body ?done
  case seq =>
    intro l J W hb hJ hY h0
    have hbw : Below w.heap.size w W := hbz.trans (hb.mono (by omega))
    refine (right_in w B p gs v D h hs hf hnm hT hV w.heap.size (fun k => k = w.heap.size ∨ k = w.heap.size + 1) l J hJ (fun pre x W1 hj hl => hY pre x W1 hj hl trivial) W hbw (by have := hb.size; omega) (fun k e => by have := hb.size; omega) ?_ h0).mono ?_
    · rintro k ⟨u, hu, ho⟩
      have hc := (hbx.below hb (by omega)).cell 0
      rw [hu] at hc
      simp at hc
      subst hc
      cases ho
    · rintro e W' ⟨hv, hj⟩
      exact ⟨hv, _, rfl, hj⟩
  case kb =>
    intro W l o o' hl ho hc _
    exact KpR.putObj (by omega) (by omega) ho hc
  case st =>
    intro W W' k o hst hk _
    exact (hst.block k (Array.getElem?_eq_some_iff.1 hk).1).trans hk
  case assign =>
    intro l x W K hK
    gi_wp2
    exact hK
  case body =>
    rintro l pre x W ⟨h1, h2, hB, hz⟩ hlen -
    have c0 := h1.cell 0; have f0 := h1.frozen 0
    have c1 := (h2.far (p := ⟨w.heap.size, 0, none⟩) (by show w.heap.size + 1 ≠ w.heap.size; omega) (.int .i64 (x : Int))).cell 0; have f1 := (h2.far (p := ⟨w.heap.size, 0, none⟩) (by show w.heap.size + 1 ≠ w.heap.size; omega) (.int .i64 (x : Int))).frozen 0
    simp only [List.getElem?_toArray, List.getElem?_cons_zero] at c0 c1
    have hne : w.heap.size + 1 ≠ w.heap.size := by omega
    have hfin : KeepsOthers W ((W.setCell ⟨w.heap.size, 0, none⟩ (.int .i64 (x : Int))).setCell ⟨w.heap.size + 1, 0, none⟩ (.bool true)) ∧ KpR w.heap.size w.heap.size (fun k => k = w.heap.size ∨ k = w.heap.size + 1) W ((W.setCell ⟨w.heap.size, 0, none⟩ (.int .i64 (x : Int))).setCell ⟨w.heap.size + 1, 0, none⟩ (.bool true)) ∧
        NiS w (pre ++ [x]) ((W.setCell ⟨w.heap.size, 0, none⟩ (.int .i64 (x : Int))).setCell ⟨w.heap.size + 1, 0, none⟩ (.bool true)) := by
      have hbl : Below w.heap.size W ((W.setCell ⟨w.heap.size, 0, none⟩ (.int .i64 (x : Int))).setCell ⟨w.heap.size + 1, 0, none⟩ (.bool true)) := ((Below.refl _ W).setCell (p := ⟨w.heap.size, 0, none⟩) (Nat.le_refl _) _).setCell (p := ⟨w.heap.size + 1, 0, none⟩) (by show w.heap.size ≤ w.heap.size + 1; omega) _
      have hk0 : Blk ((W.setCell ⟨w.heap.size, 0, none⟩ (.int .i64 (x : Int))).setCell ⟨w.heap.size + 1, 0, none⟩ (.bool true)) w.heap.size 3 #[.int .i64 (x : Int)] := (h1.set_ 0 (.int .i64 (x : Int))).far (p := ⟨w.heap.size + 1, 0, none⟩) (by show w.heap.size ≠ w.heap.size + 1; omega) _
      refine ⟨(KeepsOthers.setCell _ _ _).trans (KeepsOthers.setCell _ _ _), ⟨hbl, fun k cs t fz hk hx _ => ?_, fun k hk => ?_⟩, ?_, ?_, hB.trans hbl, by simpa using hz⟩
      · exact (Below.heap_setCell _ _ _ _ (by show k ≠ w.heap.size + 1; exact fun e => hx (.inr e))).trans (Below.heap_setCell _ _ _ _ (by show k ≠ w.heap.size; exact fun e => hx (.inl e)))
      · obtain ⟨u, hu, ho⟩ := hk
        have := hk0.cell 0
        rw [hu] at this
        simp at this
        subst this
        cases ho
      · rw [newL_snoc]; exact hk0
      · rw [newL_snoc]
        exact (h2.far (p := ⟨w.heap.size, 0, none⟩) hne (.int .i64 (x : Int))).set_ 0 (.bool true)
    have HF := Lib.hid hfin
    clear h1 h2 hB hfin
    gi_wp2
    obtain ⟨r1, r2, r3⟩ := HF.out
    exact ⟨r1.from _, r2, r3⟩
  case done =>
    rintro D0 xs W hD rfl ⟨h1, h2, hB, hz⟩ hK
    rw [HN1.out] at h1
    rw [HN2.out] at h2
    clear HN1 HN2
    have c0 := h1.cell 0; have f0 := h1.frozen 0
    have c1 := h2.cell 0; have f1 := h2.frozen 0
    simp only [List.getElem?_toArray, List.getElem?_cons_zero] at c0 c1
    have e0 := setCell_same h1.drew; have e1 := setCell_same h2.drew
    have hD2 : D0 < W.heap.size := (Array.getElem?_eq_some_iff.1 hK).1
    have HBL := Lib.hid hB; have HKD := Lib.hid hK; have HK0 := Lib.hid h1; have HK1 := Lib.hid h2
    clear h1 h2 hB hK
    gi_wp2
    gi_region
    all_goals gi_wp2
    have hKd : W.drew.heap[D0]? = some (.deferred (some [])) := HKD.out
    have hnD0 : w.heap.size ≠ D0 := by omega
    have hnD1 : w.heap.size + 1 ≠ D0 := by omega
    have k0 : Blk (W.drew.putObj D0 (.deferred none)) w.heap.size 3 #[.int .i64 N1] := (World.putObj_heap_other hnD0).trans HK0.out
    have k1 : Blk (W.drew.putObj D0 (.deferred none)) (w.heap.size + 1) 4 #[.bool N2] := (World.putObj_heap_other hnD1).trans HK1.out
    have d0 := k0.cell 0; have d1 := k1.cell 0
    simp only [List.getElem?_toArray, List.getElem?_cons_zero] at d0 d1
    have hbp : Below w.heap.size w (W.drew.putObj D0 (.deferred none)) := (HBL.out.drew).grown (grownBy_putObj' W.drew D0 _) HBL.out.size (fun k e => by cases e; omega)
    refine ⟨by simp, .inl ⟨_, _, rfl, run_takeDeferred hKd, ?_⟩⟩
    exact ⟨.tuple #[.int .i64 N1, .bool N2], by simp [results, Tryz.results16, go_sem, d0, d1], rfl, hbp⟩
set_option maxHeartbeats 1000000 in
theorem right_nil (w : World) (l : Nat) : CallsIn Fence.wide 4 Tryz.prog 47 #[.pointer none, .func (.yield l) #[] #[]] w fun e w' => (∃ v, e = .returned v) ∧ w' = w := by
  refine callsIn_of_wp Tryz.func47 rfl trivial ?_ rfl
  simp only [Tryz.ntmps47, List.size_toArray, List.length_cons, List.length_nil, Nat.reduceAdd, Nat.reduceSub, Array.replicate_succ, Array.replicate_zero, List.push_toArray, List.append_toArray, List.nil_append, List.cons_append]
  gi_wp2
  refine bodyPost_ret (results_none rfl _ _ _) rfl ?_
  exact ⟨⟨_, rfl⟩, rfl⟩
end Go.Proofs.YthmcimpdehgaoaaGreatDoor
