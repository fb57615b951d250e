/- Walk of words.Lines: the range over strings.Lines. -/
import Derived.Test.YtggegefeagkhkaaDoorLinesB
import Derived.Test.YtggegefeagkhkaaDoorRangeSt
namespace Go.Proofs.YtggegefeagkhkaaDoor
open Go.RowKit Go.Shelf
attribute [local go_sem] Oper.semAt_some

/-- append of one element as a step of a region inside a fence -/
theorem stepIn_app {F : Fence} {m : Nat} {P : Program} {ops : Array Oper} {o : Oper} {a : Act} {K : Act → World → Prop} {Q : Exit → Act → World → Prop} {E : Prop} (W w0 : World) (hgd : o.guard = none) (s x : Operand) (t : TypeId)
    (ho : o.op = .call { callee := .builtin .append, args := #[s, x], argTypes := #[t, t] })
    (base : Nat) (e : TypeId) (i : TypeInfo) (z : Value) (size bytes : Nat) (ht : P.underlying t = some (.slice e)) (hi : P.info? e = some i) (hz : i.zero = some z)
    (hsize : i.size = size) (hby : i.bytes = bytes) (hzs : z.cells.size = size) (hsz : 0 < size) (hb128 : bytes ≤ 128)
    (v : Value) (n : Nat) (xs : List Value) (hs : a.eval s = v) (hown : Hid (w0.ownsRow base e size v n xs))
    (cs : List Value) (hW : W = w0.alloc (.cells cs.toArray e)) (hcs : cs.length = size) (h1 : cs.all Value.oneCell' = true) (g : Nat) (hg : w0.heap.size = g) (hx : a.eval x = .slice (some ⟨g, 0, none⟩) 1 1)
    (hn : n ≤ 1000000000000) (hbase : base ≤ w0.heap.size)
    (h : ∀ v' w', Hid (w'.ownsRow base e size v' (n + 1) (xs ++ cs)) → Hid ((w0.alloc (.cells cs.toArray e)).grownBy w' v.ownBlock) → Hid (Below base w0 w') → K (a.put o.dst v') w') :
    if Region.wanted o (yielded ops a.tmps) = true then Oper.wpIn F m P o a W K Q else E := by
  have hw : Region.wanted o (yielded ops a.tmps) = true := by simp [Region.wanted, hgd]
  rw [if_pos hw]
  subst hW
  have hO := World.ownsRow.alloc hown.out (.cells cs.toArray e)
  have hbb : (n + 1) * bytes ≤ 140737488355328 := by
    have : (n + 1) * bytes ≤ 1000000000001 * 128 := Nat.mul_le_mul (by omega) hb128
    omega
  obtain ⟨v', w', hrun, r1, r2, r3⟩ := run_append_own (P := P) _ base t o.type e i z size bytes ht hi hz hsize hby hzs hsz v n xs hO ⟨g, 0, none⟩ 1 1 cs (by omega) (cells_new w0 cs e g hg) (fun u hu => List.all_eq_true.1 h1 u hu)
    (by unfold maxLen; omega) hbb (by simp; omega)
  have hK := h v' w' r1 r2 (((Below.refl base w0).alloc hbase _).grown r2 (by simp; omega) fun k hk => (hO.lt k hk).1)
  unfold Oper.wpIn
  refine ⟨?_, ?_⟩
  · simp [Oper.about, ho, resolve, Target.leads, Sem.run_pure]
  · rw [Oper.semAt_plain F _ _ (by rw [ho]; intro c hc'; cases hc')]
    simp [execOp, ho, resolve, invoke, builtin, hs, hx, hrun, Result.andThen]
    exact hK

/-- what holds between two rounds: the lines so far -/
def LI (w : World) (N : Nat) (pre : List ByteArray) (W : World) : Prop :=
  (∃ v, Blk W w.heap.size 61 #[v] ∧ W.ownsRow (w.heap.size + 2) 9 1 v pre.length (pre.map fun x => Value.string (chop x))) ∧ pre.length ≤ N ∧ Below w.heap.size w W ∧ w.heap.size + 2 ≤ W.heap.size
/-- a step of strings.Lines on its own cell -/
def LSt (b : Nat) (W W' : World) : Prop := (∃ v, W' = W.setCell ⟨b, 0, none⟩ v) ∨ W' = W.drew
theorem LI.step {w : World} {N : Nat} {pre : List ByteArray} {W W' : World} (h : LI w N pre W) (hs : LSt (w.heap.size + 1) W W') : LI w N pre W' := by
  rcases hs with ⟨v, rfl⟩ | rfl
  · obtain ⟨⟨u, hb, ho⟩, hl, hB, hz⟩ := h
    exact ⟨⟨u, hb.far (p := ⟨w.heap.size + 1, 0, none⟩) (by show w.heap.size ≠ w.heap.size + 1; omega) v, ownsRow_setCell_below ho (a := ⟨w.heap.size + 1, 0, none⟩) (by show w.heap.size + 1 < w.heap.size + 2; omega) v⟩, hl,
      hB.setCell (p := ⟨w.heap.size + 1, 0, none⟩) (by show w.heap.size ≤ w.heap.size + 1; omega) v, by simpa using hz⟩
  · obtain ⟨⟨u, hb, ho⟩, hl, hB, hz⟩ := h
    exact ⟨⟨u, hb.drew, ho.drew⟩, hl, hB.drew, hz⟩
theorem LSt.keeps {b : Nat} (W W' : World) (k : Nat) (o : Obj) (hs : LSt b W W') (hk : W.heap[k]? = some o) (ho : o.isCells = false) : W'.heap[k]? = some o := by
  rcases hs with ⟨v, rfl⟩ | rfl
  · exact (KeepsOthers.setCell W _ v).same k o hk ho
  · exact hk
theorem LI.own {w : World} {N : Nat} : OwnFrom (w.heap.size + 2) (LI w N) := by
  rintro pre W W' row ⟨⟨u, hb, ho⟩, hl, hB, hz⟩ hg hr
  have h1 : some w.heap.size ≠ row := fun e => by have := (hr _ e.symm).1; omega
  refine ⟨⟨u, hb.grown hg h1, ho.kept hg ?_⟩, hl, hB.grown hg hB.size (fun k e => by have := (hr k e).1; omega), Nat.le_trans hz hg.size⟩
  rcases ho.2 with ⟨rfl, _⟩ | ⟨g, cap, cur, rfl, hg1, hh, _⟩
  · exact .inl rfl
  · refine .inr fun e => ?_
    obtain ⟨_, o, ho', hc⟩ := hr g e.symm
    rw [hh] at ho'
    cases ho'
    cases hc

theorem line_round {w W w3 : World} {N : Nat} {pre : List ByteArray} {x : ByteArray} {v v3 : Value} (hb : Blk W w.heap.size 61 #[v]) (ho : W.ownsRow (w.heap.size + 2) 9 1 v pre.length (pre.map fun x => Value.string (chop x)))
    (hB : Below w.heap.size w W) (hz : w.heap.size + 2 ≤ W.heap.size) (hlen : pre.length < N)
    (HO3 : Hid (w3.ownsRow (w.heap.size + 2) 9 1 v3 (pre.length + 1) ((pre.map fun x => Value.string (chop x)) ++ [.string (chop x)])))
    (HG3 : Hid ((W.drew.alloc (.cells [Value.string (chop x)].toArray 9)).grownBy w3 v.ownBlock)) :
    Blk w3 w.heap.size 61 #[v] ∧ KeepsOthers W (w3.setCell ⟨w.heap.size, 0, none⟩ v3) ∧
      ((w3.setCell ⟨w.heap.size, 0, none⟩ v3).cell? ⟨w.heap.size + 1, 0, none⟩ = W.cell? ⟨w.heap.size + 1, 0, none⟩ ∧ (w3.setCell ⟨w.heap.size, 0, none⟩ v3).frozen? ⟨w.heap.size + 1, 0, none⟩ = W.frozen? ⟨w.heap.size + 1, 0, none⟩) ∧
      LI w N (pre ++ [x]) (w3.setCell ⟨w.heap.size, 0, none⟩ v3) := by
  have hO3 := HO3.out
  have hG3 := HG3.out
  have hlt := fun k hk => (ho.lt k hk).1
  have hs3 : W.heap.size + 1 ≤ w3.heap.size := by have := hG3.size; simpa using this
  have hb3 : Blk w3 w.heap.size 61 #[v] := ((hb.drew).alloc _).grown hG3 (fun e => by have := hlt _ e.symm; omega)
  have hc1 : ∀ k, k < w.heap.size + 2 → w3.heap[k]? = W.heap[k]? := fun k hk =>
    (hG3.block k (by simp; omega) (fun e => by have := hlt _ e.symm; omega)).trans (Below.heap_alloc W.drew _ k (by show k < W.heap.size; omega))
  have hc2 : (w3.setCell ⟨w.heap.size, 0, none⟩ v3).heap[w.heap.size + 1]? = W.heap[w.heap.size + 1]? := (Below.heap_setCell _ _ _ _ (by show w.heap.size + 1 ≠ w.heap.size; omega)).trans (hc1 _ (by omega))
  refine ⟨hb3, ?_, ⟨World.cell?_of_block hc2, World.frozen?_of_block hc2⟩, ⟨v3, hb3.set_ 0 v3, ?_⟩, ?_, ?_, ?_⟩
  · refine (((KeepsOthers.drew W).trans (KeepsOthers.alloc W.drew _)).trans (KeepsOthers.of_grownBy hG3 ?_)).trans (KeepsOthers.setCell _ _ _)
    intro j o hj hw
    rcases ho.2 with ⟨rfl, _⟩ | ⟨g, cap, cur, rfl, hg1, hh, _⟩
    · cases hj
    · simp only [Value.ownBlock, Option.some.injEq] at hj
      subst hj
      rw [Below.heap_alloc W.drew _ g (by show g < W.heap.size; exact (Array.getElem?_eq_some_iff.1 hh).1)] at hw
      have hw' : W.heap[g]? = some o := hw
      rw [hh] at hw'
      cases hw'
      rfl
  · rw [List.length_append, List.map_append]
    exact ownsRow_setCell_below hO3 (a := ⟨w.heap.size, 0, none⟩) (by show w.heap.size < w.heap.size + 2; omega) _
  · rw [List.length_append]; simp; omega
  · exact (((hB.drew).alloc (by show w.heap.size ≤ W.heap.size; omega) _).grown hG3 (by simp; omega) (fun k hk => by have := hlt k hk; omega)).setCell (p := ⟨w.heap.size, 0, none⟩) (Nat.le_refl _) _
  · simp; omega
theorem trim_len (l p : List UInt8) : (Lib.trimSuffix l p).length ≤ l.length := by unfold Lib.trimSuffix; split <;> simp

set_option maxRecDepth 100000 in
set_option maxHeartbeats 4000000 in
theorem linesP_any (s : ByteArray) (w : World) (hs : s.size ≤ 4294967296) :
    Calls Tryd.prog 40 #[.string s] w fun e w' => ∃ v, e = .returned v ∧ w'.ownsRow w.heap.size 9 1 v (linesP s).length ((linesP s).map Value.string) ∧ Below w.heap.size w w' := by
  refine (callsIn_wide (n := 5)).1 ?_
  refine callsIn_of_wp_marks Tryd.func40 rfl trivial ?_ rfl
  simp only [Tryd.ntmps40, List.size_toArray, List.length_cons, List.length_nil, Nat.reduceAdd, Nat.reduceSub, Array.replicate_succ, Array.replicate_zero, List.push_toArray, List.append_toArray, List.nil_append, List.cons_append]
  obtain ⟨i0, hi, hz0, hz1, hz2⟩ := info_parts info9
  gi_wp2_with (refine ⟨trivial, ?_⟩; gi_at_call 55; refine (callsIn_wide.2 (stringsLines_any _ _)).mono ?_; rintro e w' ⟨rfl, rfl⟩)
  have hsz2 : ((w.alloc (.cells #[.slice none 0 0] 61)).alloc (.cells #[.string s] 9)).heap.size = w.heap.size + 2 := by simp
  have hcb := Blk.new (w.alloc (.cells #[.slice none 0 0] 61)) 9 #[.string s]
  rw [World.size_alloc] at hcb
  obtain ⟨W2, hW2⟩ : ∃ W2, (w.alloc (.cells #[.slice none 0 0] 61)).alloc (.cells #[.string s] 9) = W2 := ⟨_, rfl⟩
  have hLI0 : LI w s.size [] W2 := by
    rw [← hW2]
    exact ⟨⟨_, (Blk.new w 61 #[.slice none 0 0]).alloc _, World.ownsRow_nil _ _ _ _⟩, Nat.zero_le _, ((Below.refl _ _).alloc (Nat.le_refl _) _).alloc (by simp) _, by simp⟩
  rw [hW2] at hsz2 hcb ⊢
  clear hW2
  refine wpIn_rangeFunc_st (α := ByteArray) (F := Fence.wide) (n := 5) rfl (fun h => by cases h) (gf := 66) (lb := #[.pointer (some ⟨w.heap.size + 1, 0, none⟩)]) rfl trivial (enters_of Tryd.func66 (by kernel_rfl) rfl)
    (encs := fun x => #[.string x]) (fun _ => rfl) (Kp := fun A B => B.cell? ⟨w.heap.size + 1, 0, none⟩ = A.cell? ⟨w.heap.size + 1, 0, none⟩ ∧ B.frozen? ⟨w.heap.size + 1, 0, none⟩ = A.frozen? ⟨w.heap.size + 1, 0, none⟩)
    (St := LSt (w.heap.size + 1)) (S := fun xs => xs = lns s.size s) (N := s.size) (Ok := fun x => x.size ≤ s.size) ?seq (fun h k => ⟨k.1.trans h.1, k.2.trans h.2⟩) ?kb LSt.keeps (LI w s.size) (by rw [hsz2]; exact LI.own) (fun _ _ _ h hs => h.step hs) hLI0
    (fun x => { tmps := #[.string s, undef, .slice none 0 0, .pointer (some ⟨w.heap.size, 0, none⟩), .string x, .string s, .func (.func 66) #[] #[.pointer (some ⟨w.heap.size + 1, 0, none⟩)], .string x, undef, undef, undef, undef, undef, undef, undef, undef], defers := [] }) ?assign ?body ?done
  case seq =>
    intro l J W hb hJ hY h0
    have hbk := hcb.below hb (by omega)
    refine (lines1_in l (w.heap.size + 1) J s hs (fun pre X v h => hJ _ _ _ h (.inl ⟨v, rfl⟩)) (fun pre X h => hJ _ _ _ h (.inr rfl)) hY W (hbk.cell 0) (hbk.frozen 0) h0).mono ?_
    rintro e W' ⟨hv, hj⟩
    exact ⟨hv, _, rfl, hj⟩
  case kb =>
    intro W l o o' hl ho _ _
    have hne : w.heap.size + 1 ≠ l := by omega
    exact ⟨World.cell?_of_block (World.putObj_heap_other hne), World.frozen?_of_block (World.putObj_heap_other hne)⟩
  case assign =>
    intro l x W K hK
    gi_wp2
    exact hK
  case body =>
    rintro l pre x W ⟨⟨v, hb, ho⟩, hl, hB, hz⟩ hlen hok
    have cv := hb.cell 0
    have fv := hb.frozen 0
    simp only [List.getElem?_toArray, List.getElem?_cons_zero] at cv
    have hzlt : w.heap.size < W.heap.size := by omega
    have HT1 := Lib.hid fun W => (Tryd.strings_TrimSuffix x ⟨#[10]⟩ W (by omega)).mono (R' := fun e w' => e = _ ∧ W = w') fun _ _ h => ⟨h.1, h.2.symm⟩
    have HT2 : Hid (∀ W, Calls Tryd.prog 56 #[.string ⟨(Lib.trimSuffix x.data.toList [10]).toArray⟩, .string ⟨#[13]⟩] W fun e w' => e = .returned (.string (chop x)) ∧ W = w') := fun W => by
      have h1 := trim_len x.data.toList [10]
      have h2 : x.data.toList.length = x.size := (Lib.size_eq x).symm
      refine (Tryd.strings_TrimSuffix ⟨(Lib.trimSuffix x.data.toList [10]).toArray⟩ ⟨#[13]⟩ W (by rw [Lib.size_eq]; simp; omega)).mono ?_
      rintro e w' ⟨he, hw⟩
      refine ⟨?_, hw.symm⟩
      rw [he]; simp [chop]
    have HR := Lib.hid fun (w3 : World) (v3 : Value) HO3 HG3 => line_round (w3 := w3) (v3 := v3) (x := x) hb ho hB hz hlen HO3 HG3
    have HOw : Hid (W.drew.ownsRow (w.heap.size + 2) 9 1 v pre.length (pre.map fun x => Value.string (chop x))) := ho.drew
    have hlenI : pre.length ≤ 1000000000000 := by omega
    have hsz2W : w.heap.size + 2 ≤ W.drew.heap.size := hz
    clear hb ho hB
    gi_wp2_with (refine ⟨trivial, ?_⟩; gi_at_call 56; refine (CallsIn.inRound l (callsIn_wide.2 (HT1.out _))).mono ?_; rintro e w' ⟨rfl, rfl⟩)
    refine wpIn_region_any (by kernel_rfl) ?_
    change wpAnyIn _ _ _ _ _ _ _ _ _ (World.drew _)
    refine wpAnyIn_ready (rs := [0, 1]) (by kernel_rfl) (by simp) ?_
    refine AllReadyIn.cons rfl (fun K hK => ?_) ?_
    · go_simp
      refine hK _ _ ?_
      clear hK K
      refine wpAnyIn_ready (rs := [1]) (by kernel_rfl) (by simp) ?_
      refine AllReadyIn.cons rfl (fun K hK => ?_) ?_
      · go_simp
        refine hK _ _ ?_
        clear hK K
        refine wpAnyIn_ready (rs := [2]) (by kernel_rfl) (by simp) ?_
        refine AllReadyIn.cons rfl (fun K hK => ?_) ?_
        · go_simp
          refine ⟨trivial, ?_⟩
          refine (CallsIn.inRound l (callsIn_wide.2 (HT2.out _))).mono ?_
          rintro e w' ⟨rfl, rfl⟩
          refine hK _ _ ?_
          clear hK K
          refine wpAnyIn_ready (rs := [3]) (by kernel_rfl) (by simp) ?_
          refine AllReadyIn.cons rfl (fun K hK => ?_) ?_
          · go_simp
            refine hK _ _ ?_
            clear hK K
            refine wpAnyIn_ready (rs := [4]) (by kernel_rfl) (by simp) ?_
            refine AllReadyIn.cons rfl (fun K hK => ?_) ?_
            · refine stepIn_app _ W.drew rfl (.tmp 10) (.tmp 13) 61 rfl (w.heap.size + 2) 9 i0 (.string ⟨#[]⟩) 1 16 Tryd.underlying61 hi hz0 hz1 hz2 rfl (by decide) (by decide) _ _ _ rfl HOw [.string (chop x)] rfl rfl rfl _ rfl rfl hlenI hsz2W ?_
              intro v3 w3 HO3 HG3 HB3
              refine hK _ _ ?_
              clear hK K
              refine wpAnyIn_ready (rs := [5]) (by kernel_rfl) (by simp) ?_
              refine AllReadyIn.cons rfl (fun K hK => ?_) ?_
              · have hb3 := (HR.out w3 v3 HO3 HG3).1
                have d0 := hb3.cell 0
                have d1 := hb3.frozen 0
                simp only [List.getElem?_toArray, List.getElem?_cons_zero] at d0
                obtain ⟨A3, c3, rfl⟩ := own_shape HO3.out
                go_simp
                refine hK _ _ ?_
                clear hK K
                refine wpAnyIn_done (by kernel_rfl) ?_ _
                obtain ⟨_, r1, r2, r3⟩ := HR.out w3 _ HO3 HG3
                exact ⟨r1.from _, r2, r3⟩
              exact AllReadyIn.nil
            exact AllReadyIn.nil
          exact AllReadyIn.nil
        exact AllReadyIn.nil
      exact AllReadyIn.nil
    refine AllReadyIn.cons rfl (fun K hK => ?_) ?_
    · go_simp
      refine hK _ _ ?_
      clear hK K
      refine wpAnyIn_ready (rs := [0, 2]) (by kernel_rfl) (by simp) ?_
      refine AllReadyIn.cons rfl (fun K hK => ?_) ?_
      · go_simp
        refine hK _ _ ?_
        clear hK K
        refine wpAnyIn_ready (rs := [2]) (by kernel_rfl) (by simp) ?_
        refine AllReadyIn.cons rfl (fun K hK => ?_) ?_
        · go_simp
          refine ⟨trivial, ?_⟩
          refine (CallsIn.inRound l (callsIn_wide.2 (HT2.out _))).mono ?_
          rintro e w' ⟨rfl, rfl⟩
          refine hK _ _ ?_
          clear hK K
          refine wpAnyIn_ready (rs := [3]) (by kernel_rfl) (by simp) ?_
          refine AllReadyIn.cons rfl (fun K hK => ?_) ?_
          · go_simp
            refine hK _ _ ?_
            clear hK K
            refine wpAnyIn_ready (rs := [4]) (by kernel_rfl) (by simp) ?_
            refine AllReadyIn.cons rfl (fun K hK => ?_) ?_
            · refine stepIn_app _ W.drew rfl (.tmp 10) (.tmp 13) 61 rfl (w.heap.size + 2) 9 i0 (.string ⟨#[]⟩) 1 16 Tryd.underlying61 hi hz0 hz1 hz2 rfl (by decide) (by decide) _ _ _ rfl HOw [.string (chop x)] rfl rfl rfl _ rfl rfl hlenI hsz2W ?_
              intro v3 w3 HO3 HG3 HB3
              refine hK _ _ ?_
              clear hK K
              refine wpAnyIn_ready (rs := [5]) (by kernel_rfl) (by simp) ?_
              refine AllReadyIn.cons rfl (fun K hK => ?_) ?_
              · have hb3 := (HR.out w3 v3 HO3 HG3).1
                have d0 := hb3.cell 0
                have d1 := hb3.frozen 0
                simp only [List.getElem?_toArray, List.getElem?_cons_zero] at d0
                obtain ⟨A3, c3, rfl⟩ := own_shape HO3.out
                go_simp
                refine hK _ _ ?_
                clear hK K
                refine wpAnyIn_done (by kernel_rfl) ?_ _
                obtain ⟨_, r1, r2, r3⟩ := HR.out w3 _ HO3 HG3
                exact ⟨r1.from _, r2, r3⟩
              exact AllReadyIn.nil
            exact AllReadyIn.nil
          exact AllReadyIn.nil
        exact AllReadyIn.nil
      refine AllReadyIn.cons rfl (fun K hK => ?_) ?_
      · go_simp
        refine ⟨trivial, ?_⟩
        refine (CallsIn.inRound l (callsIn_wide.2 (HT2.out _))).mono ?_
        rintro e w' ⟨rfl, rfl⟩
        refine hK _ _ ?_
        clear hK K
        refine wpAnyIn_ready (rs := [0, 3]) (by kernel_rfl) (by simp) ?_
        refine AllReadyIn.cons rfl (fun K hK => ?_) ?_
        · go_simp
          refine hK _ _ ?_
          clear hK K
          refine wpAnyIn_ready (rs := [3]) (by kernel_rfl) (by simp) ?_
          refine AllReadyIn.cons rfl (fun K hK => ?_) ?_
          · go_simp
            refine hK _ _ ?_
            clear hK K
            refine wpAnyIn_ready (rs := [4]) (by kernel_rfl) (by simp) ?_
            refine AllReadyIn.cons rfl (fun K hK => ?_) ?_
            · refine stepIn_app _ W.drew rfl (.tmp 10) (.tmp 13) 61 rfl (w.heap.size + 2) 9 i0 (.string ⟨#[]⟩) 1 16 Tryd.underlying61 hi hz0 hz1 hz2 rfl (by decide) (by decide) _ _ _ rfl HOw [.string (chop x)] rfl rfl rfl _ rfl rfl hlenI hsz2W ?_
              intro v3 w3 HO3 HG3 HB3
              refine hK _ _ ?_
              clear hK K
              refine wpAnyIn_ready (rs := [5]) (by kernel_rfl) (by simp) ?_
              refine AllReadyIn.cons rfl (fun K hK => ?_) ?_
              · have hb3 := (HR.out w3 v3 HO3 HG3).1
                have d0 := hb3.cell 0
                have d1 := hb3.frozen 0
                simp only [List.getElem?_toArray, List.getElem?_cons_zero] at d0
                obtain ⟨A3, c3, rfl⟩ := own_shape HO3.out
                go_simp
                refine hK _ _ ?_
                clear hK K
                refine wpAnyIn_done (by kernel_rfl) ?_ _
                obtain ⟨_, r1, r2, r3⟩ := HR.out w3 _ HO3 HG3
                exact ⟨r1.from _, r2, r3⟩
              exact AllReadyIn.nil
            exact AllReadyIn.nil
          exact AllReadyIn.nil
        refine AllReadyIn.cons rfl (fun K hK => ?_) ?_
        · go_simp
          refine hK _ _ ?_
          clear hK K
          refine wpAnyIn_ready (rs := [0]) (by kernel_rfl) (by simp) ?_
          refine AllReadyIn.cons rfl (fun K hK => ?_) ?_
          · go_simp
            refine hK _ _ ?_
            clear hK K
            refine wpAnyIn_ready (rs := [4]) (by kernel_rfl) (by simp) ?_
            refine AllReadyIn.cons rfl (fun K hK => ?_) ?_
            · refine stepIn_app _ W.drew rfl (.tmp 10) (.tmp 13) 61 rfl (w.heap.size + 2) 9 i0 (.string ⟨#[]⟩) 1 16 Tryd.underlying61 hi hz0 hz1 hz2 rfl (by decide) (by decide) _ _ _ rfl HOw [.string (chop x)] rfl rfl rfl _ rfl rfl hlenI hsz2W ?_
              intro v3 w3 HO3 HG3 HB3
              refine hK _ _ ?_
              clear hK K
              refine wpAnyIn_ready (rs := [5]) (by kernel_rfl) (by simp) ?_
              refine AllReadyIn.cons rfl (fun K hK => ?_) ?_
              · have hb3 := (HR.out w3 v3 HO3 HG3).1
                have d0 := hb3.cell 0
                have d1 := hb3.frozen 0
                simp only [List.getElem?_toArray, List.getElem?_cons_zero] at d0
                obtain ⟨A3, c3, rfl⟩ := own_shape HO3.out
                go_simp
                refine hK _ _ ?_
                clear hK K
                refine wpAnyIn_done (by kernel_rfl) ?_ _
                obtain ⟨_, r1, r2, r3⟩ := HR.out w3 _ HO3 HG3
                exact ⟨r1.from _, r2, r3⟩
              exact AllReadyIn.nil
            exact AllReadyIn.nil
          exact AllReadyIn.nil
        exact AllReadyIn.nil
      exact AllReadyIn.nil
    exact AllReadyIn.nil
  case done =>
    rintro D xs W hD rfl ⟨⟨v, hb, ho⟩, hl, hB, hz⟩ hK
    have cv := hb.cell 0
    simp only [List.getElem?_toArray, List.getElem?_cons_zero] at cv
    obtain ⟨A, c, rfl⟩ := own_shape ho
    have hll : (linesP s).length = (lns s.size s).length := by simp [linesP]
    have hD2 : D < W.heap.size := (Array.getElem?_eq_some_iff.1 hK).1
    gi_wp2
    refine ⟨by simp, .inl ⟨_, _, rfl, run_takeDeferred hK, ?_⟩⟩
    refine ⟨_, results_tmp rfl _ _ _, _, rfl, ?_, ?_⟩
    · have h1 := ownsRow_putObj ho (.deferred none) hK rfl
      rw [hll]
      simp only [linesP, List.map_map]
      exact own_mono h1 (by omega)
    · exact hB.grown (grownBy_putObj' W D _) hB.size (fun k e => by cases e; omega)
end Go.Proofs.YtggegefeagkhkaaDoor
