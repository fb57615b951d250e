/- A store of checkpoints: Steps (slices.Collect over right). -/
import Derived.Test.YthmcimpdehgaoaaGreatDoorPk43
namespace Go.Proofs.YthmcimpdehgaoaaGreatDoor
open Go.RowKit Go.Shelf Go.Maps
attribute [local go_sem] Oper.semAt_some

/-- what going over the steps does, whoever is yielded to -/
def IterC (w : World) (pa : Option Addr) (L : List Nat) (N : Nat) : Prop :=
  ∀ (Bs : Nat) (Ex : Nat → Prop) (l : Nat) (J : List Nat → World → Prop), (∀ pre X Y, J pre X → Below X.heap.size X Y → J pre Y) →
    (∀ pre (x : Nat) W1, J pre W1 → pre.length < N → YieldAt Fence.wide 3 Tryz.prog l #[.int .i64 (x : Int)] W1 fun e W' => e = .returned (.bool true) ∧ J (pre ++ [x]) W' ∧ KpR w.heap.size Bs Ex W1 W') →
    ∀ W : World, Below w.heap.size w W → Bs < W.heap.size → (∀ k, Ex k → k < W.heap.size) → (∀ k, OwnBx W Bs k → k < W.heap.size) → J [] W →
    CallsIn Fence.wide 4 Tryz.prog 47 #[.pointer pa, .func (.yield l) #[] #[]] W fun e W' => (∃ v, e = .returned v) ∧ J L W'
theorem iter_any (w : World) (B p gs : Nat) (v : Value) (D : DiskD) (h : DiskIs w B p v D) (hs : CkSt w gs p) (hf : Fit D) (hnm : ∀ f ∈ D.files, f.name.size ≤ 1000) (hT : Tb w.heap.size w) (hV : Ev w.heap.size w) : IterC w (some ⟨gs, 0, none⟩) (stepsC D) (allC D).length :=
  fun Bs Ex l J hJ hY W hb hBs hEx hO h0 => right_in w B p gs v D h hs hf hnm hT hV Bs Ex l J hJ hY W hb hBs hEx hO h0
theorem all_lim {D : DiskD} (hf : Fit D) : (allC D).length ≤ 100000000 := by
  unfold allC
  rw [List.length_mergeSort]
  unfold stepsOf
  exact Nat.le_trans (List.length_filterMap_le _ _) (by rw [List.length_map]; exact hf.len)
set_option maxHeartbeats 1000000 in
theorem right_nil (w : World) (l : Nat) : CallsIn Fence.wide 4 Tryz.prog 47 #[.pointer none, .func (.yield l) #[] #[]] w fun e w' => (∃ v, e = .returned v) ∧ w' = w := by
  refine callsIn_of_wp Tryz.func47 rfl trivial ?_ rfl
  simp only [Tryz.ntmps47, List.size_toArray, List.length_cons, List.length_nil, Nat.reduceAdd, Nat.reduceSub, Array.replicate_succ, Array.replicate_zero, List.push_toArray, List.append_toArray, List.nil_append, List.cons_append]
  gi_wp2
  refine bodyPost_ret (results_none rfl _ _ _) rfl ?_
  exact ⟨⟨_, rfl⟩, rfl⟩
theorem iter_nil (w : World) : IterC w none [] 0 := fun _ _ l J _ _ W _ _ _ _ h0 => (right_nil W l).mono fun _ _ ⟨h1, h2⟩ => ⟨h1, by rw [h2]; exact h0⟩
/-- append of one element inside a fence -/
theorem wpListIn_app {F : Fence} {m : Nat} {P : Program} {ops : Array Oper} {rest : List Oper} {o : Oper} {a : Act} {Q : Exit → Act → World → Prop} (W w0 : World) (hgd : o.guard = none) (s x : Operand) (t : TypeId)
    (ho : o.op = .call { callee := .builtin .append, args := #[s, x], argTypes := #[t, t] })
    (base : Nat) (e : TypeId) (i : TypeInfo) (z : Value) (size bytes : Nat) (ht : P.underlying t = some (.slice e)) (hi : P.info? e = some i) (hz : i.zero = some z)
    (hsize : i.size = size) (hby : i.bytes = bytes) (hzs : z.cells.size = size) (hsz : 0 < size) (hb128 : bytes ≤ 128)
    (v : Value) (n : Nat) (xs : List Value) (hs : a.eval s = v) (hown : Hid (w0.ownsRow base e size v n xs))
    (cs : List Value) (hW : W = w0.alloc (.cells cs.toArray e)) (hcs : cs.length = size) (h1 : cs.all Value.oneCell' = true) (g : Nat) (hg : w0.heap.size = g) (hx : a.eval x = .slice (some ⟨g, 0, none⟩) 1 1)
    (hn : n ≤ 1000000000000) (hbase : base ≤ w0.heap.size)
    (h : ∀ v' w', Hid (w'.ownsRow base e size v' (n + 1) (xs ++ cs)) → Hid ((w0.alloc (.cells cs.toArray e)).grownBy w' v.ownBlock) → (v'.ownBlock = v.ownBlock ∨ v'.ownBlock = some (w0.heap.size + 1)) → wpListIn F m P ops Q rest (a.put o.dst v') w') :
    wpListIn F m P ops Q (o :: rest) a W := by
  subst hW
  have hO := World.ownsRow.alloc hown.out (.cells cs.toArray e)
  have hbb : (n + 1) * bytes ≤ 140737488355328 := by
    have : (n + 1) * bytes ≤ 1000000000001 * 128 := Nat.mul_le_mul (by omega) hb128
    omega
  refine wpListIn_plain hgd fun K hK' => ?_
  obtain ⟨v', w', hrun, r1, r2, -, r3⟩ := run_append_own_at (P := P) _ base t o.type e i z size bytes ht hi hz hsize hby hzs hsz v n xs hO ⟨g, 0, none⟩ 1 1 cs (by omega) (cells_new w0 cs e g hg) (fun u hu => List.all_eq_true.1 h1 u hu)
    (by unfold maxLen; omega) hbb (by simp; omega)
  have hK := hK' _ _ (h v' w' r1 r2 (by simpa using r3))
  unfold Oper.wpIn
  refine ⟨?_, ?_⟩
  · simp [Oper.about, ho, resolve, Target.leads, Sem.run_pure]
  · rw [Oper.semAt_plain F _ _ (by rw [ho]; intro c hc'; cases hc')]
    simp [execOp, ho, resolve, invoke, builtin, hs, hx, hrun, Result.andThen]
    exact hK
/-- what holds between two rounds: the steps so far -/
def AiS (w : World) (pre : List Nat) (W : World) : Prop :=
  (∃ v, Blk W w.heap.size 34 #[v] ∧ W.ownsRow (w.heap.size + 1) 3 1 v pre.length (intsN pre)) ∧ Below w.heap.size w W ∧ w.heap.size + 1 ≤ W.heap.size
theorem AiS.step {w : World} {pre : List Nat} {X Y : World} (h : AiS w pre X) (hb : Below X.heap.size X Y) : AiS w pre Y := by
  obtain ⟨⟨v, h1, h2⟩, h3, h4⟩ := h
  exact ⟨⟨v, h1.below hb h1.lt, ownC_below h2 hb⟩, h3.trans (hb.mono (by omega)), Nat.le_trans h4 hb.size⟩
theorem AiS.own {w : World} : OwnFrom (w.heap.size + 1) (AiS w) := by
  rintro pre W W' row ⟨⟨u, hb, ho⟩, hB, hz⟩ hg hr
  have h1 : some w.heap.size ≠ row := fun e => by have := (hr _ e.symm).1; omega
  refine ⟨⟨u, hb.grown hg h1, ho.kept hg ?_⟩, hB.grown hg hB.size (fun k e => by have := (hr k e).1; omega), Nat.le_trans hz hg.size⟩
  rcases ho.2 with ⟨rfl, _⟩ | ⟨g, cap, cur, rfl, hg1, hh, _⟩
  · exact .inl rfl
  · refine .inr fun e => ?_
    obtain ⟨_, o, ho', hc⟩ := hr g e.symm
    rw [hh] at ho'
    cases ho'
    cases hc
theorem ai_round {w W w3 : World} {pre : List Nat} {x : Nat} {v v3 : Value} (hb : Blk W w.heap.size 34 #[v]) (ho : W.ownsRow (w.heap.size + 1) 3 1 v pre.length (intsN pre))
    (hB : Below w.heap.size w W) (hz : w.heap.size + 1 ≤ W.heap.size)
    (HO3 : Hid (w3.ownsRow (w.heap.size + 1) 3 1 v3 (pre.length + 1) (intsN pre ++ [.int .i64 (x : Int)])))
    (HG3 : Hid ((W.alloc (.cells [Value.int .i64 (x : Int)].toArray 3)).grownBy w3 v.ownBlock)) :
    Blk w3 w.heap.size 34 #[v] ∧ KeepsOthers W (w3.setCell ⟨w.heap.size, 0, none⟩ v3) ∧ (∀ k cs t fz, W.heap[k]? = some (.cells cs t fz) → k ≠ w.heap.size → v.ownBlock ≠ some k → (w3.setCell ⟨w.heap.size, 0, none⟩ v3).heap[k]? = W.heap[k]?) ∧
      Below w.heap.size W (w3.setCell ⟨w.heap.size, 0, none⟩ v3) ∧ AiS w (pre ++ [x]) (w3.setCell ⟨w.heap.size, 0, none⟩ v3) := by
  have hO3 := HO3.out
  have hG3 := HG3.out
  have hlt := fun k hk => (ho.lt k hk).1
  have hsz3 : W.heap.size + 1 ≤ w3.heap.size := by have := hG3.size; simpa using this
  have hb3 : Blk w3 w.heap.size 34 #[v] := (hb.alloc _).grown hG3 (fun e => by have := hlt _ e.symm; omega)
  have hbw : Below w.heap.size W (w3.setCell ⟨w.heap.size, 0, none⟩ v3) :=
    ((((Below.refl w.heap.size W).alloc (show w.heap.size ≤ W.heap.size by omega) _).grown hG3 (by simp; omega) (fun k hk => by have := hlt k hk; omega))).setCell (p := ⟨w.heap.size, 0, none⟩) (Nat.le_refl _) _
  refine ⟨hb3, ?_, fun k cs t fz hk h1 h2 => ?_, hbw, ⟨⟨v3, hb3.set_ 0 v3, ?_⟩, hB.trans hbw, ?_⟩⟩
  · refine ((KeepsOthers.alloc W _).trans (KeepsOthers.of_grownBy hG3 ?_)).trans (KeepsOthers.setCell _ _ _)
    intro j o hj hw
    rcases ho.2 with ⟨rfl, _⟩ | ⟨g, cap, cur, rfl, hg1, hh, _⟩
    · cases hj
    · simp only [Value.ownBlock, Option.some.injEq] at hj
      subst hj
      rw [Below.heap_alloc W _ g (Array.getElem?_eq_some_iff.1 hh).1] at hw
      rw [hh] at hw
      cases hw
      rfl
  · have hlk := (Array.getElem?_eq_some_iff.1 hk).1
    exact (Below.heap_setCell _ _ _ _ (by show k ≠ w.heap.size; exact h1)).trans ((hG3.block k (by simp; omega) (fun e => h2 e.symm)).trans (Below.heap_alloc W _ k hlk))
  · rw [List.length_append, intsN_snoc]
    exact ownsRow_setCell_below hO3 (a := ⟨w.heap.size, 0, none⟩) (by show w.heap.size < w.heap.size + 1; omega) _
  · simp; omega
set_option maxRecDepth 100000 in
set_option maxHeartbeats 4000000 in
theorem appendSeq_it (w : World) (pa : Option Addr) (L : List Nat) (N : Nat) (hit : IterC w pa L N) (hN : N ≤ 100000000) :
    Calls Tryz.prog 91 #[.slice none 0 0, .func (.func 47) #[.pointer pa] #[]] w fun e w' => ∃ v', e = .returned v' ∧ w'.ownsRow w.heap.size 3 1 v' L.length (intsN L) ∧ Below w.heap.size w w' := by
  refine (callsIn_wide (n := 5)).1 ?_
  refine callsIn_of_wp_marks Tryz.func91 rfl trivial ?_ rfl
  simp only [Tryz.ntmps91, List.size_toArray, List.length_cons, List.length_nil, Nat.reduceAdd, Nat.reduceSub, Array.replicate_succ, Array.replicate_zero, List.push_toArray, List.append_toArray, List.nil_append, List.cons_append]
  obtain ⟨i0, hi, hz0, hz1, hz2⟩ := parts infoInt
  gi_wp2
  have hsz2 : (w.alloc (.cells #[.slice none 0 0] 34)).heap.size = w.heap.size + 1 := by simp
  have hbx := Blk.new w 34 #[.slice none 0 0]
  obtain ⟨W2, hW2⟩ : ∃ W2, w.alloc (.cells #[.slice none 0 0] 34) = W2 := ⟨_, rfl⟩
  have hAI0 : AiS w [] W2 := by
    rw [← hW2]
    exact ⟨⟨_, Blk.new w 34 #[.slice none 0 0], World.ownsRow_nil _ _ _ _⟩, (Below.refl _ _).alloc (Nat.le_refl _) _, by simp⟩
  rw [hW2] at hsz2 hbx ⊢
  clear hW2
  refine wpIn_rangeFunc_b (α := Nat) (F := Fence.wide) (n := 5) rfl (fun h => by cases h) (gf := 47) (ba := #[.pointer pa]) (lb := #[]) rfl trivial (enters_of Tryz.func47 (by kernel_rfl) rfl)
    (encs := fun x => #[.int .i64 (x : Int)]) (fun _ => rfl) (Kp := KpR w.heap.size w.heap.size fun k => k = w.heap.size)
    (St := fun X Y => Below X.heap.size X Y) (S := fun xs => xs = L) (N := N) (Ok := fun _ => True) ?seq (fun h k => h.trans k) ?kb ?st (AiS w) (by rw [hsz2]; exact AiS.own) (fun _ _ _ h hs => h.step hs) hAI0
    (fun x => { tmps := #[.slice none 0 0, .func (.func 47) #[.pointer pa] #[], .pointer (some ⟨w.heap.size, 0, none⟩), undef, .slice none 0 0, .int .i64 (x : Int), .func (.func 47) #[.pointer pa] #[], .int .i64 (x : Int), undef, undef, undef, undef, undef], defers := [] }) ?assign ?body ?done
  case seq =>
    intro l J W hb hJ hY h0
    have hbw : Below w.heap.size w W := hAI0.2.1.trans (hb.mono (by omega))
    refine (hit w.heap.size (fun k => k = w.heap.size) l J hJ (fun pre x W1 hj hl => hY pre x W1 hj hl trivial) W hbw (by have := hb.size; omega) (fun k e => by have := hb.size; omega) ?_ h0).mono ?_
    · rintro k ⟨u, hu, ho⟩
      have hc := (hbx.below hb (by omega)).cell 0
      rw [hu] at hc
      simp at hc
      subst hc
      cases ho
    · rintro e W' ⟨hv, hj⟩
      exact ⟨hv, _, rfl, hj⟩
  case kb =>
    intro W l o o' hl ho hc _
    exact KpR.putObj (by omega) (by omega) ho hc
  case st =>
    intro W W' k o hst hk _
    exact (hst.block k (Array.getElem?_eq_some_iff.1 hk).1).trans hk
  case assign =>
    intro l x W K hK
    gi_wp2
    exact hK
  case body =>
    rintro l pre x W ⟨⟨u, hb, ho⟩, hB, hz⟩ hlen -
    have cv := hb.cell 0
    have fv := hb.frozen 0
    simp only [List.getElem?_toArray, List.getElem?_cons_zero] at cv
    have hzlt : w.heap.size < W.heap.size := by omega
    have hlenI : pre.length ≤ 1000000000000 := by omega
    have HR := Lib.hid fun (w3 : World) (v3 : Value) HO3 HG3 => ai_round (w3 := w3) (v3 := v3) (x := x) hb ho hB hz HO3 HG3
    have HOw := Lib.hid ho; have HBk := Lib.hid hb
    clear hb ho hB
    gi_wp2_with (gi_at_builtin; refine wpListIn_app _ W rfl (.tmp 8) (.tmp 10) 34 rfl (w.heap.size + 1) 3 i0 (.int .i64 0) 1 8 Tryz.underlying34 hi hz0 hz1 hz2 rfl (by decide) (by decide) _ _ _ rfl HOw [.int .i64 (x : Int)] rfl rfl rfl _ rfl rfl hlenI hz ?_; intro v3 w3 HO3 HG3 hs3; have hb3 := (HR.out w3 v3 HO3 HG3).1; have d0 := hb3.cell 0; have d1 := hb3.frozen 0; simp only [List.getElem?_toArray, List.getElem?_cons_zero] at d0; obtain ⟨A3, c3, rfl⟩ := own_shape HO3.out)
    obtain ⟨_, r1, r2, r3, r4⟩ := HR.out w3 _ HO3 HG3
    refine ⟨r1.from _, ⟨r3, fun k cs t fz hk h1 h2 => r2 k cs t fz hk h1 fun e => h2 ⟨u, cv, e⟩, fun k hk => ?_⟩, r4⟩
    obtain ⟨u2, hu2, ho2⟩ := hk
    rw [World.cell?_setCell_same' _ _ _ (by rw [d0]; rfl)] at hu2
    injection hu2 with hu2
    subst hu2
    rcases hs3 with h3 | h3
    · exact .inl ⟨u, cv, h3.symm.trans ho2⟩
    · rw [h3] at ho2
      injection ho2 with ho2
      exact .inr (by omega)
  case done =>
    rintro D0 xs W hD rfl ⟨⟨u, hb, ho⟩, hB, hz⟩ hK
    have cv := hb.cell 0
    have fv := hb.frozen 0
    simp only [List.getElem?_toArray, List.getElem?_cons_zero] at cv
    obtain ⟨A, c, rfl⟩ := own_shape ho
    have hD2 : D0 < W.heap.size := (Array.getElem?_eq_some_iff.1 hK).1
    gi_wp2
    refine ⟨by simp, .inl ⟨_, _, rfl, run_takeDeferred hK, ?_⟩⟩
    refine ⟨_, results_tmp rfl _ _ _, _, rfl, ?_, ?_⟩
    · exact own_mono (ownsRow_putObj ho (.deferred none) hK rfl) (by omega)
    · exact hB.grown (grownBy_putObj' W D0 _) hB.size (fun k e => by cases e; omega)
set_option maxHeartbeats 1000000 in
theorem collect_it (w : World) (pa : Option Addr) (L : List Nat) (N : Nat) (hit : IterC w pa L N) (hN : N ≤ 100000000) :
    Calls Tryz.prog 46 #[.func (.func 47) #[.pointer pa] #[]] w fun e w' => ∃ v', e = .returned v' ∧ w'.ownsRow w.heap.size 3 1 v' L.length (intsN L) ∧ Below w.heap.size w w' := by
  have HA := Lib.hid (appendSeq_it w pa L N hit hN)
  clear hit hN
  go_enter Tryz.func46, Tryz.ntmps46
  go_wp2_with fail
  refine HA.out.mono ?_
  rintro e w1 ⟨v1, rfl, ho, hb⟩
  have HO := Lib.hid ho; have HB := Lib.hid hb
  obtain ⟨A, c, rfl⟩ := own_shape ho
  clear ho hb HA
  go_wp2
  go_ret
  exact ⟨_, rfl, HO.out, HB.out⟩
set_option maxHeartbeats 1000000 in
theorem csteps_it (w : World) (pa : Option Addr) (L : List Nat) (N : Nat) (hit : IterC w pa L N) (hN : N ≤ 100000000) :
    Calls Tryz.prog 14 #[.pointer pa] w fun e w' => ∃ v', e = .returned v' ∧ w'.ownsRow w.heap.size 3 1 v' L.length (intsN L) ∧ Below w.heap.size w w' := by
  have HA := Lib.hid (collect_it w pa L N hit hN)
  clear hit hN
  have hmf : ∀ (fn : Fn) (first cap : Array Value) (w : World), (Instr.makeFunc fn first cap).run Tryz.prog w = .ok (.func fn first cap) w := fun _ _ _ _ => rfl
  go_enter Tryz.func14, Tryz.ntmps14
  go_wp2_with fail
  refine HA.out.mono ?_
  rintro e w1 ⟨v1, rfl, ho, hb⟩
  have HO := Lib.hid ho; have HB := Lib.hid hb
  obtain ⟨A, c, rfl⟩ := own_shape ho
  clear ho hb HA
  go_wp2
  go_ret
  exact ⟨_, rfl, HO.out, HB.out⟩
theorem csteps_any (w : World) (B p gs : Nat) (v : Value) (D : DiskD) (h : DiskIs w B p v D) (hs : CkSt w gs p) (hf : Fit D) (hnm : ∀ f ∈ D.files, f.name.size ≤ 1000) (hT : Tb w.heap.size w) (hV : Ev w.heap.size w) :
    Calls Tryz.prog 14 #[.pointer (some ⟨gs, 0, none⟩)] w fun e w' => ∃ v', e = .returned v' ∧ w'.ownsRow w.heap.size 3 1 v' (stepsC D).length (intsN (stepsC D)) ∧ Below w.heap.size w w' :=
  csteps_it w _ _ _ (iter_any w B p gs v D h hs hf hnm hT hV) (all_lim hf)
theorem csteps_nil (w : World) : Calls Tryz.prog 14 #[.pointer none] w fun e w' => ∃ v', e = .returned v' ∧ w'.ownsRow w.heap.size 3 1 v' 0 [] ∧ Below w.heap.size w w' :=
  csteps_it w none [] 0 (iter_nil w) (by decide)
end Go.Proofs.YthmcimpdehgaoaaGreatDoor
