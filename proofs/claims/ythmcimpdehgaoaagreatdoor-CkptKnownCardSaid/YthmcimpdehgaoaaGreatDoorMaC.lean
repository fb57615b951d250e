/- fields.digits of bytes, words and longs: the bytes of a number, the highest first. -/
import Derived.Test.YthmcimpdehgaoaaGreatDoorPk8
import Derived.Test.YthmcimpdehgaoaaGreatDoorPk9
import Derived.Test.YthmcimpdehgaoaaGreatDoorDk1
import Derived.Test.YthmcimpdehgaoaaGreatDoorPk7
namespace Go.Proofs.YthmcimpdehgaoaaGreatDoor
open Go.RowKit Go.Shelf
attribute [local go_sem] Oper.semAt_some

theorem digB_cells (W n : Nat) : ucells (digB W n) = (List.range W).map fun i => Value.int .u8 ((n / 256 ^ (W - 1 - i) % 256 : Nat) : Int) := by
  unfold ucells digB
  simp only [List.map_map]
  refine List.map_congr_left fun i _ => ?_
  simp only [Function.comp]
  rw [UInt8.toNat_ofNat_of_lt' (by have := Nat.mod_lt (n / 256 ^ (W - 1 - i)) (show 0 < 256 by decide); simpa using this)]
/-- the row behind a piece of the loop -/
def stp (n : Nat) (s : Array Value × Nat) (x : Nat × Int) : Array Value × Nat := (s.1.setIfInBounds x.1 (.int .u8 ((n / 256 ^ s.2 % 256 : Nat) : Int)), s.2 + 1)
def stA (n W : Nat) (pre : List (Nat × Int)) : Array Value × Nat := pre.foldl (stp n) ((List.replicate W (Value.int .u8 0)).toArray, 0)
theorem stA_snoc (n W : Nat) (pre : List (Nat × Int)) (x : Nat × Int) : stA n W (pre ++ [x]) = stp n (stA n W pre) x := by unfold stA; rw [List.foldl_append]; rfl
theorem stp_fold (n W : Nat) (pre : List (Nat × Int)) : ∀ s : Array Value × Nat, (∀ i, i < W → ∃ v : Int, s.1[i]? = some (.int .u8 v)) → (pre.foldl (stp n) s).2 = s.2 + pre.length ∧ ∀ i, i < W → ∃ v : Int, (pre.foldl (stp n) s).1[i]? = some (.int .u8 v) := by
  induction pre with
  | nil => exact fun s hs => ⟨rfl, hs⟩
  | cons x pre ih =>
    intro s hs
    have h := ih (stp n s x) (fun i hi => by
      obtain ⟨v, hv⟩ := hs i hi
      unfold stp
      simp only [Array.getElem?_setIfInBounds]
      by_cases he : x.1 = i
      · rw [if_pos he]
        have : i < s.1.size := (Array.getElem?_eq_some_iff.1 hv).1
        rw [if_pos (by rw [he]; exact this)]
        exact ⟨_, rfl⟩
      · rw [if_neg he]; exact ⟨v, hv⟩)
    refine ⟨?_, h.2⟩
    rw [List.foldl_cons, h.1, List.length_cons]
    show s.2 + 1 + pre.length = _
    omega
theorem stA_ok (n W : Nat) (pre : List (Nat × Int)) : (stA n W pre).2 = pre.length ∧ ∀ i, i < W → ∃ v : Int, (stA n W pre).1[i]? = some (.int .u8 v) := by
  have h := stp_fold n W pre ((List.replicate W (Value.int .u8 0)).toArray, 0) (fun i hi => ⟨0, by simp [hi]⟩)
  exact ⟨h.1.trans (Nat.zero_add _), h.2⟩
/-- a state of the loop -/
structure DgI (t : TypeId) (kd : IntKind) (w : World) (n W : Nat) (pre : List (Nat × Int)) (X : World) : Prop where
  num : Blk X w.heap.size t #[.int kd ((n / 256 ^ pre.length : Nat) : Int)]
  row : Blk X (w.heap.size + 1) 5 (stA n W pre).1
  box : Blk X (w.heap.size + 2) 33 #[.slice (some ⟨w.heap.size + 1, 0, none⟩) W W]
  box2 : Blk X (w.heap.size + 3) 33 #[.slice (some ⟨w.heap.size + 1, 0, none⟩) W W]
  below : Below w.heap.size w X
  size : w.heap.size + 4 ≤ X.heap.size
theorem DgI.own {t : TypeId} {kd : IntKind} {w : World} {n W : Nat} : OwnFrom (w.heap.size + 4) (DgI t kd w n W) := by
  intro pre X X' row h hg hr
  have hne : ∀ k, k < w.heap.size + 4 → some k ≠ row := fun k hk e => by have := (hr _ e.symm).1; omega
  exact ⟨h.num.grown hg (hne _ (by omega)), h.row.grown hg (hne _ (by omega)), h.box.grown hg (hne _ (by omega)), h.box2.grown hg (hne _ (by omega)), h.below.grown hg h.below.size (fun k e => by have := (hr k e).1; omega), Nat.le_trans h.size hg.size⟩
theorem DgI.rowOk {t : TypeId} {kd : IntKind} {w X : World} {n W : Nat} {pre : List (Nat × Int)} (h : DgI t kd w n W pre X) : RowOk (w.heap.size + 3) (w.heap.size + 1) W X :=
  ⟨h.box2, _, h.row, (stA_ok n W pre).2⟩
theorem RowOk.same {gb g n : Nat} {X X' : World} (h : RowOk gb g n X) (h1 : X'.heap[gb]? = X.heap[gb]?) (h2 : X'.heap[g]? = X.heap[g]?) : RowOk gb g n X' := by
  obtain ⟨hb, cs, hc, hv⟩ := h
  exact ⟨h1.trans hb, cs, h2.trans hc, hv⟩
theorem DgI.put {t : TypeId} {kd : IntKind} {w X : World} {n W : Nat} {pre : List (Nat × Int)} (h : DgI t kd w n W pre X) (x : Nat × Int) :
    DgI t kd w n W (pre ++ [x]) ((X.setCell ⟨w.heap.size + 1, x.1, none⟩ (.int .u8 ((n / 256 ^ pre.length % 256 : Nat) : Int))).setCell ⟨w.heap.size, 0, none⟩ (.int kd ((n / 256 ^ pre.length / 256 : Nat) : Int))) := by
  have hp : (n / 256 ^ pre.length / 256 : Nat) = n / 256 ^ (pre ++ [x]).length := by rw [List.length_append, Nat.div_div_eq_div_mul]; rfl
  refine ⟨?_, ?_, ?_, ?_, ?_, ?_⟩
  · rw [← hp]
    exact (h.num.far (p := ⟨w.heap.size + 1, x.1, none⟩) (by show w.heap.size ≠ w.heap.size + 1; omega) _).set_ 0 _
  · have h2 := (h.row.set_ x.1 (.int .u8 ((n / 256 ^ pre.length % 256 : Nat) : Int))).far (p := ⟨w.heap.size, 0, none⟩) (by show w.heap.size + 1 ≠ w.heap.size; omega) (.int kd ((n / 256 ^ pre.length / 256 : Nat) : Int))
    rw [stA_snoc]
    unfold stp
    rw [(stA_ok n W pre).1]
    exact h2
  · exact (h.box.far (p := ⟨w.heap.size + 1, x.1, none⟩) (by show w.heap.size + 2 ≠ w.heap.size + 1; omega) _).far (p := ⟨w.heap.size, 0, none⟩) (by show w.heap.size + 2 ≠ w.heap.size; omega) _
  · exact (h.box2.far (p := ⟨w.heap.size + 1, x.1, none⟩) (by show w.heap.size + 3 ≠ w.heap.size + 1; omega) _).far (p := ⟨w.heap.size, 0, none⟩) (by show w.heap.size + 3 ≠ w.heap.size; omega) _
  · exact (h.below.setCell (p := ⟨w.heap.size + 1, x.1, none⟩) (by show w.heap.size ≤ w.heap.size + 1; omega) _).setCell (p := ⟨w.heap.size, 0, none⟩) (Nat.le_refl _) _
  · simpa using h.size
theorem stA_all_u8 (n : Nat) : ∀ pre : List (Nat × Int), pre.map (·.1) = (List.range 1).reverse → (stA n 1 pre).1 = (ucells (digB 1 n)).toArray := by
  intro pre h
  match pre, h with
  | [(a0, b0)], h =>
    simp [List.range_succ] at h
    obtain ⟨rfl⟩ := h
    rw [digB_cells]
    rfl
set_option maxRecDepth 100000 in
set_option maxHeartbeats 4000000 in
theorem digits_u8 (n : Nat) (hn : n < 256) (w : World) :
    Calls Tryz.prog 116 #[.int .u8 n] w fun e w' => ∃ v, e = .returned v ∧ w'.ownsRow w.heap.size 5 1 v 1 (ucells (digB 1 n)) ∧ Below w.heap.size w w' := by
  refine (callsIn_wide (n := 5)).1 ?_
  refine callsIn_of_wp_marks Tryz.func116 rfl trivial ?_ rfl
  simp only [Tryz.ntmps116, List.size_toArray, List.length_cons, List.length_nil, Nat.reduceAdd, Nat.reduceSub, Array.replicate_succ, Array.replicate_zero, List.push_toArray, List.append_toArray, List.nil_append, List.cons_append]
  obtain ⟨i0, hi0, hz0, hz1, hz2⟩ := parts infoU
  have hmk : ∀ W : World, (Instr.makeSlice 33 (.int .i64 1) (.int .i64 1)).run Tryz.prog W = .ok (.slice (some ⟨W.heap.size, 0, none⟩) 1 1) (W.alloc (.cells (List.replicate 1 (Value.int .u8 0)).toArray 5)) :=
    fun W => run_make_one (P := Tryz.prog) 33 5 i0 (.int .u8 0) Tryz.underlying33 hi0 hz0 rfl hz1 1 (by rw [hz2]; decide) (by decide) W
  have hS0 : DgI 5 .u8 w n 1 [] ((((w.alloc (.cells #[.int .u8 n] 5)).alloc (.cells (List.replicate 1 (Value.int .u8 0)).toArray 5)).alloc (.cells #[.slice (some ⟨w.heap.size + 1, 0, none⟩) 1 1] 33)).alloc (.cells #[.slice (some ⟨w.heap.size + 1, 0, none⟩) 1 1] 33)) := by
    refine ⟨?_, ?_, ?_, ?_, ?_, by simp⟩
    · have h := (((Blk.new w 5 #[.int .u8 n]).alloc (.cells (List.replicate 1 (Value.int .u8 0)).toArray 5)).alloc (.cells #[.slice (some ⟨w.heap.size + 1, 0, none⟩) 1 1] 33)).alloc (.cells #[.slice (some ⟨w.heap.size + 1, 0, none⟩) 1 1] 33)
      simpa using h
    · have h := ((Blk.new (w.alloc (.cells #[.int .u8 n] 5)) 5 (List.replicate 1 (Value.int .u8 0)).toArray).alloc (.cells #[.slice (some ⟨w.heap.size + 1, 0, none⟩) 1 1] 33)).alloc (.cells #[.slice (some ⟨w.heap.size + 1, 0, none⟩) 1 1] 33)
      rw [World.size_alloc] at h
      exact h
    · have h := (Blk.new ((w.alloc (.cells #[.int .u8 n] 5)).alloc (.cells (List.replicate 1 (Value.int .u8 0)).toArray 5)) 33 #[.slice (some ⟨w.heap.size + 1, 0, none⟩) 1 1]).alloc (.cells #[.slice (some ⟨w.heap.size + 1, 0, none⟩) 1 1] 33)
      rw [World.size_alloc, World.size_alloc] at h
      exact h
    · have h := Blk.new (((w.alloc (.cells #[.int .u8 n] 5)).alloc (.cells (List.replicate 1 (Value.int .u8 0)).toArray 5)).alloc (.cells #[.slice (some ⟨w.heap.size + 1, 0, none⟩) 1 1] 33)) 33 #[.slice (some ⟨w.heap.size + 1, 0, none⟩) 1 1]
      rw [World.size_alloc, World.size_alloc, World.size_alloc] at h
      exact h
    · exact ((((Below.refl _ _).alloc (Nat.le_refl _) _).alloc (by simp) _).alloc (by simp; omega) _).alloc (by simp; omega) _
  have hz4 : ((((w.alloc (.cells #[.int .u8 n] 5)).alloc (.cells (List.replicate 1 (Value.int .u8 0)).toArray 5)).alloc (.cells #[.slice (some ⟨w.heap.size + 1, 0, none⟩) 1 1] 33)).alloc (.cells #[.slice (some ⟨w.heap.size + 1, 0, none⟩) 1 1] 33)).heap.size = w.heap.size + 4 := by simp
  obtain ⟨Z, hZ⟩ : ∃ Z, (List.replicate 1 (Value.int .u8 0)).toArray = Z := ⟨_, rfl⟩
  rw [hZ] at hmk hS0 hz4
  clear hZ
  have HS0 := Lib.hid hS0; have HZ4 := Lib.hid hz4
  clear hS0 hz4
  gi_wp2_with (first | (refine ⟨trivial, ?_⟩; gi_at_call 125; refine (callsIn_wide.2 (width_u8 _)).mono ?_; rintro e w' ⟨rfl, rfl⟩) | (refine ⟨trivial, ?_⟩; gi_at_call 139; refine (callsIn_wide.2 (backward_any _ _ _ _)).mono ?_; rintro e w' ⟨rfl, rfl⟩))
  obtain ⟨W4, hW4⟩ : ∃ W4, ((((w.alloc (.cells #[.int .u8 n] 5)).alloc (.cells Z 5)).alloc (.cells #[.slice (some ⟨w.heap.size + 1, 0, none⟩) 1 1] 33)).alloc (.cells #[.slice (some ⟨w.heap.size + 1, 0, none⟩) 1 1] 33)) = W4 := ⟨_, rfl⟩
  rw [hW4] at HS0 HZ4 ⊢
  clear hW4 hmk
  refine wpIn_rangeFunc_st (α := Nat × Int) (F := Fence.wide) (n := 5) rfl (fun h => by cases h) (gf := 160) (lb := #[.pointer (some ⟨w.heap.size + 3, 0, none⟩)]) rfl trivial (enters_of Tryz.func160 (by kernel_rfl) rfl)
    (encs := fun x => #[.int .i64 x.1, .int .u8 x.2]) (fun _ => rfl) (Kp := fun A B => RowOk (w.heap.size + 3) (w.heap.size + 1) 1 A → RowOk (w.heap.size + 3) (w.heap.size + 1) 1 B)
    (St := fun A B => A = B) (S := fun xs => xs.map (·.1) = (List.range 1).reverse) (N := 1) (Ok := fun x => x.1 < 1) ?seq (fun h k a => k (h a)) ?kb (fun _ _ _ _ h hk _ => h ▸ hk) (DgI 5 .u8 w n 1) (by rw [HZ4.out]; exact DgI.own) (fun _ _ _ h hs => hs ▸ h) HS0.out
    (fun x => { tmps := #[.int .u8 n, .pointer (some ⟨w.heap.size, 0, none⟩), .slice none 0 0, .pointer (some ⟨w.heap.size + 1 + 1, 0, none⟩), .int .i64 x.1, .int .i64 1, .slice (some ⟨w.heap.size + 1, 0, none⟩) 1 1, .slice (some ⟨w.heap.size + 1, 0, none⟩) 1 1, .func (.func 160) #[] #[.pointer (some ⟨w.heap.size + 1 + 1 + 1, 0, none⟩)], .int .i64 x.1, .int .u8 x.2, undef, undef, undef, undef, undef, undef, undef, undef, undef], defers := [] }) ?assign ?body ?done
  case seq =>
    intro l J W hb hJ hY h0
    have h4 := HS0.out.rowOk
    have hR : RowOk (w.heap.size + 3) (w.heap.size + 1) 1 W := h4.same (hb.block _ (by rw [HZ4.out]; omega)) (hb.block _ (by rw [HZ4.out]; omega))
    refine (back_in l (w.heap.size + 3) (w.heap.size + 1) 1 (by decide) J (fun pre x X h1 h2 h3 h5 => (hY pre x X h1 h3 h5).mono fun e X' h => ⟨h.1, h.2.1, h.2.2 h2⟩) W hR h0).mono ?_
    rintro e W' ⟨hv, xs, hx, hj⟩
    exact ⟨hv, xs, hx, hj⟩
  case kb =>
    intro W l o o' hl ho _ _ hR
    have hl' : w.heap.size + 4 ≤ l := by rw [← HZ4.out]; exact hl
    exact hR.same (World.putObj_heap_other (by omega)) (World.putObj_heap_other (by omega))
  case assign =>
    intro l x W K hK
    gi_wp2
    exact hK
  case body =>
    rintro l pre ⟨xi, xv⟩ W h hlen hok
    have hxi : xi < 1 := hok
    have hxI : (xi : Int) < 1 := by omega
    have hmn : n / 256 ^ pre.length < 256 := Nat.lt_of_le_of_lt (Nat.div_le_self _ _) hn
    have c0 := h.num.cell 0; have f0 := h.num.frozen 0
    obtain ⟨u, hu⟩ := (stA_ok n 1 pre).2 xi hxi
    have c1 := h.row.cell xi; have f1 := h.row.frozen xi
    rw [hu] at c1
    have c2 := h.box.cell 0
    simp only [List.getElem?_toArray, List.getElem?_cons_zero] at c0 c2
    have hp := h.put (xi, xv)
    obtain ⟨m, hm⟩ : ∃ m, n / 256 ^ pre.length = m := ⟨_, rfl⟩
    have hne : w.heap.size ≠ w.heap.size + 1 := by omega
    rw [hm] at c0 hmn hp
    have hmI : (m : Int) < 256 := by omega
    have e1 : ((m % 256 : Nat) : Int) = (m : Int) := by omega
    have e2 : ((m / 256 : Nat) : Int) = (m : Int) / 256 := by omega
    rw [e1, e2] at hp
    have hrow := DgI.rowOk hp
    have HP := Lib.hid hp; have HRW := Lib.hid hrow
    clear h hp hm hu hrow e1 e2
    gi_wp2
    exact ⟨((KeepsOthers.setCell _ _ _).trans (KeepsOthers.setCell _ _ _)).from _, fun _ => HRW.out, HP.out⟩
  case done =>
    rintro D xs W hD hS h hK
    have c2 := h.box.cell 0
    simp only [List.getElem?_toArray, List.getElem?_cons_zero] at c2
    have hall := stA_all_u8 n xs hS
    have hrw := h.row
    rw [hall] at hrw
    have hD2 : D < W.heap.size := (Array.getElem?_eq_some_iff.1 hK).1
    have hD3 : w.heap.size + 4 ≤ D := by rw [← HZ4.out]; exact hD
    have HB := Lib.hid h.below; have HRW := Lib.hid hrw; have HK := Lib.hid hK
    clear h hrw hall HS0
    gi_wp2
    refine ⟨by simp, .inl ⟨_, _, rfl, run_takeDeferred HK.out, ?_⟩⟩
    refine ⟨_, results_tmp rfl _ _ _, _, rfl, ?_, ?_⟩
    · have ho : W.ownsRow w.heap.size 5 1 (.slice (some ⟨w.heap.size + 1, 0, none⟩) 1 1) 1 (ucells (digB 1 n)) :=
        ⟨by rw [ucells_length, digB_size], .inr ⟨w.heap.size + 1, 1, _, rfl, Nat.le_succ _, HRW.out, Nat.le_refl _, by unfold maxLen; omega, by simp [ucells_length, digB_size], by simp only [Nat.mul_one]; rw [List.take_of_length_le (by simp [ucells_length, digB_size])]⟩⟩
      exact ownsRow_putObj ho (.deferred none) HK.out rfl
    · exact HB.out.grown (grownBy_putObj' W D _) HB.out.size (fun k e => by cases e; omega)
theorem stA_all_u32 (n : Nat) : ∀ pre : List (Nat × Int), pre.map (·.1) = (List.range 4).reverse → (stA n 4 pre).1 = (ucells (digB 4 n)).toArray := by
  intro pre h
  match pre, h with
  | [(a0, b0), (a1, b1), (a2, b2), (a3, b3)], h =>
    simp [List.range_succ] at h
    obtain ⟨rfl, rfl, rfl, rfl⟩ := h
    rw [digB_cells]
    rfl
set_option maxRecDepth 100000 in
set_option maxHeartbeats 4000000 in
theorem digits_u32 (n : Nat) (hn : n < 4294967296) (w : World) :
    Calls Tryz.prog 118 #[.int .u32 n] w fun e w' => ∃ v, e = .returned v ∧ w'.ownsRow w.heap.size 5 1 v 4 (ucells (digB 4 n)) ∧ Below w.heap.size w w' := by
  refine (callsIn_wide (n := 5)).1 ?_
  refine callsIn_of_wp_marks Tryz.func118 rfl trivial ?_ rfl
  simp only [Tryz.ntmps118, List.size_toArray, List.length_cons, List.length_nil, Nat.reduceAdd, Nat.reduceSub, Array.replicate_succ, Array.replicate_zero, List.push_toArray, List.append_toArray, List.nil_append, List.cons_append]
  obtain ⟨i0, hi0, hz0, hz1, hz2⟩ := parts infoU
  have hmk : ∀ W : World, (Instr.makeSlice 33 (.int .i64 4) (.int .i64 4)).run Tryz.prog W = .ok (.slice (some ⟨W.heap.size, 0, none⟩) 4 4) (W.alloc (.cells (List.replicate 4 (Value.int .u8 0)).toArray 5)) :=
    fun W => run_make_one (P := Tryz.prog) 33 5 i0 (.int .u8 0) Tryz.underlying33 hi0 hz0 rfl hz1 4 (by rw [hz2]; decide) (by decide) W
  have hS0 : DgI 84 .u32 w n 4 [] ((((w.alloc (.cells #[.int .u32 n] 84)).alloc (.cells (List.replicate 4 (Value.int .u8 0)).toArray 5)).alloc (.cells #[.slice (some ⟨w.heap.size + 1, 0, none⟩) 4 4] 33)).alloc (.cells #[.slice (some ⟨w.heap.size + 1, 0, none⟩) 4 4] 33)) := by
    refine ⟨?_, ?_, ?_, ?_, ?_, by simp⟩
    · have h := (((Blk.new w 84 #[.int .u32 n]).alloc (.cells (List.replicate 4 (Value.int .u8 0)).toArray 5)).alloc (.cells #[.slice (some ⟨w.heap.size + 1, 0, none⟩) 4 4] 33)).alloc (.cells #[.slice (some ⟨w.heap.size + 1, 0, none⟩) 4 4] 33)
      simpa using h
    · have h := ((Blk.new (w.alloc (.cells #[.int .u32 n] 84)) 5 (List.replicate 4 (Value.int .u8 0)).toArray).alloc (.cells #[.slice (some ⟨w.heap.size + 1, 0, none⟩) 4 4] 33)).alloc (.cells #[.slice (some ⟨w.heap.size + 1, 0, none⟩) 4 4] 33)
      rw [World.size_alloc] at h
      exact h
    · have h := (Blk.new ((w.alloc (.cells #[.int .u32 n] 84)).alloc (.cells (List.replicate 4 (Value.int .u8 0)).toArray 5)) 33 #[.slice (some ⟨w.heap.size + 1, 0, none⟩) 4 4]).alloc (.cells #[.slice (some ⟨w.heap.size + 1, 0, none⟩) 4 4] 33)
      rw [World.size_alloc, World.size_alloc] at h
      exact h
    · have h := Blk.new (((w.alloc (.cells #[.int .u32 n] 84)).alloc (.cells (List.replicate 4 (Value.int .u8 0)).toArray 5)).alloc (.cells #[.slice (some ⟨w.heap.size + 1, 0, none⟩) 4 4] 33)) 33 #[.slice (some ⟨w.heap.size + 1, 0, none⟩) 4 4]
      rw [World.size_alloc, World.size_alloc, World.size_alloc] at h
      exact h
    · exact ((((Below.refl _ _).alloc (Nat.le_refl _) _).alloc (by simp) _).alloc (by simp; omega) _).alloc (by simp; omega) _
  have hz4 : ((((w.alloc (.cells #[.int .u32 n] 84)).alloc (.cells (List.replicate 4 (Value.int .u8 0)).toArray 5)).alloc (.cells #[.slice (some ⟨w.heap.size + 1, 0, none⟩) 4 4] 33)).alloc (.cells #[.slice (some ⟨w.heap.size + 1, 0, none⟩) 4 4] 33)).heap.size = w.heap.size + 4 := by simp
  obtain ⟨Z, hZ⟩ : ∃ Z, (List.replicate 4 (Value.int .u8 0)).toArray = Z := ⟨_, rfl⟩
  rw [hZ] at hmk hS0 hz4
  clear hZ
  have HS0 := Lib.hid hS0; have HZ4 := Lib.hid hz4
  clear hS0 hz4
  gi_wp2_with (first | (refine ⟨trivial, ?_⟩; gi_at_call 127; refine (callsIn_wide.2 (width_u32 _)).mono ?_; rintro e w' ⟨rfl, rfl⟩) | (refine ⟨trivial, ?_⟩; gi_at_call 139; refine (callsIn_wide.2 (backward_any _ _ _ _)).mono ?_; rintro e w' ⟨rfl, rfl⟩))
  obtain ⟨W4, hW4⟩ : ∃ W4, ((((w.alloc (.cells #[.int .u32 n] 84)).alloc (.cells Z 5)).alloc (.cells #[.slice (some ⟨w.heap.size + 1, 0, none⟩) 4 4] 33)).alloc (.cells #[.slice (some ⟨w.heap.size + 1, 0, none⟩) 4 4] 33)) = W4 := ⟨_, rfl⟩
  rw [hW4] at HS0 HZ4 ⊢
  clear hW4 hmk
  refine wpIn_rangeFunc_st (α := Nat × Int) (F := Fence.wide) (n := 5) rfl (fun h => by cases h) (gf := 160) (lb := #[.pointer (some ⟨w.heap.size + 3, 0, none⟩)]) rfl trivial (enters_of Tryz.func160 (by kernel_rfl) rfl)
    (encs := fun x => #[.int .i64 x.1, .int .u8 x.2]) (fun _ => rfl) (Kp := fun A B => RowOk (w.heap.size + 3) (w.heap.size + 1) 4 A → RowOk (w.heap.size + 3) (w.heap.size + 1) 4 B)
    (St := fun A B => A = B) (S := fun xs => xs.map (·.1) = (List.range 4).reverse) (N := 4) (Ok := fun x => x.1 < 4) ?seq (fun h k a => k (h a)) ?kb (fun _ _ _ _ h hk _ => h ▸ hk) (DgI 84 .u32 w n 4) (by rw [HZ4.out]; exact DgI.own) (fun _ _ _ h hs => hs ▸ h) HS0.out
    (fun x => { tmps := #[.int .u32 n, .pointer (some ⟨w.heap.size, 0, none⟩), .slice none 0 0, .pointer (some ⟨w.heap.size + 1 + 1, 0, none⟩), .int .i64 x.1, .int .i64 4, .slice (some ⟨w.heap.size + 1, 0, none⟩) 4 4, .slice (some ⟨w.heap.size + 1, 0, none⟩) 4 4, .func (.func 160) #[] #[.pointer (some ⟨w.heap.size + 1 + 1 + 1, 0, none⟩)], .int .i64 x.1, .int .u8 x.2, undef, undef, undef, undef, undef, undef, undef, undef, undef, undef], defers := [] }) ?assign ?body ?done
  case seq =>
    intro l J W hb hJ hY h0
    have h4 := HS0.out.rowOk
    have hR : RowOk (w.heap.size + 3) (w.heap.size + 1) 4 W := h4.same (hb.block _ (by rw [HZ4.out]; omega)) (hb.block _ (by rw [HZ4.out]; omega))
    refine (back_in l (w.heap.size + 3) (w.heap.size + 1) 4 (by decide) J (fun pre x X h1 h2 h3 h5 => (hY pre x X h1 h3 h5).mono fun e X' h => ⟨h.1, h.2.1, h.2.2 h2⟩) W hR h0).mono ?_
    rintro e W' ⟨hv, xs, hx, hj⟩
    exact ⟨hv, xs, hx, hj⟩
  case kb =>
    intro W l o o' hl ho _ _ hR
    have hl' : w.heap.size + 4 ≤ l := by rw [← HZ4.out]; exact hl
    exact hR.same (World.putObj_heap_other (by omega)) (World.putObj_heap_other (by omega))
  case assign =>
    intro l x W K hK
    gi_wp2
    exact hK
  case body =>
    rintro l pre ⟨xi, xv⟩ W h hlen hok
    have hxi : xi < 4 := hok
    have hxI : (xi : Int) < 4 := by omega
    have hmn : n / 256 ^ pre.length < 4294967296 := Nat.lt_of_le_of_lt (Nat.div_le_self _ _) hn
    have c0 := h.num.cell 0; have f0 := h.num.frozen 0
    obtain ⟨u, hu⟩ := (stA_ok n 4 pre).2 xi hxi
    have c1 := h.row.cell xi; have f1 := h.row.frozen xi
    rw [hu] at c1
    have c2 := h.box.cell 0
    simp only [List.getElem?_toArray, List.getElem?_cons_zero] at c0 c2
    have hp := h.put (xi, xv)
    obtain ⟨m, hm⟩ : ∃ m, n / 256 ^ pre.length = m := ⟨_, rfl⟩
    have hne : w.heap.size ≠ w.heap.size + 1 := by omega
    rw [hm] at c0 hmn hp
    have hmI : (m : Int) < 4294967296 := by omega
    have e1 : ((m % 256 : Nat) : Int) = (m : Int) % 256 := by omega
    have e2 : ((m / 256 : Nat) : Int) = (m : Int) / 256 := by omega
    rw [e1, e2] at hp
    have hrow := DgI.rowOk hp
    have HP := Lib.hid hp; have HRW := Lib.hid hrow
    clear h hp hm hu hrow e1 e2
    gi_wp2
    exact ⟨((KeepsOthers.setCell _ _ _).trans (KeepsOthers.setCell _ _ _)).from _, fun _ => HRW.out, HP.out⟩
  case done =>
    rintro D xs W hD hS h hK
    have c2 := h.box.cell 0
    simp only [List.getElem?_toArray, List.getElem?_cons_zero] at c2
    have hall := stA_all_u32 n xs hS
    have hrw := h.row
    rw [hall] at hrw
    have hD2 : D < W.heap.size := (Array.getElem?_eq_some_iff.1 hK).1
    have hD3 : w.heap.size + 4 ≤ D := by rw [← HZ4.out]; exact hD
    have HB := Lib.hid h.below; have HRW := Lib.hid hrw; have HK := Lib.hid hK
    clear h hrw hall HS0
    gi_wp2
    refine ⟨by simp, .inl ⟨_, _, rfl, run_takeDeferred HK.out, ?_⟩⟩
    refine ⟨_, results_tmp rfl _ _ _, _, rfl, ?_, ?_⟩
    · have ho : W.ownsRow w.heap.size 5 1 (.slice (some ⟨w.heap.size + 1, 0, none⟩) 4 4) 4 (ucells (digB 4 n)) :=
        ⟨by rw [ucells_length, digB_size], .inr ⟨w.heap.size + 1, 4, _, rfl, Nat.le_succ _, HRW.out, Nat.le_refl _, by unfold maxLen; omega, by simp [ucells_length, digB_size], by simp only [Nat.mul_one]; rw [List.take_of_length_le (by simp [ucells_length, digB_size])]⟩⟩
      exact ownsRow_putObj ho (.deferred none) HK.out rfl
    · exact HB.out.grown (grownBy_putObj' W D _) HB.out.size (fun k e => by cases e; omega)
theorem stA_all_u64 (n : Nat) : ∀ pre : List (Nat × Int), pre.map (·.1) = (List.range 8).reverse → (stA n 8 pre).1 = (ucells (digB 8 n)).toArray := by
  intro pre h
  match pre, h with
  | [(a0, b0), (a1, b1), (a2, b2), (a3, b3), (a4, b4), (a5, b5), (a6, b6), (a7, b7)], h =>
    simp [List.range_succ] at h
    obtain ⟨rfl, rfl, rfl, rfl, rfl, rfl, rfl, rfl⟩ := h
    rw [digB_cells]
    rfl
set_option maxRecDepth 100000 in
set_option maxHeartbeats 4000000 in
theorem digits_u64 (n : Nat) (hn : n < 18446744073709551616) (w : World) :
    Calls Tryz.prog 117 #[.int .u64 n] w fun e w' => ∃ v, e = .returned v ∧ w'.ownsRow w.heap.size 5 1 v 8 (ucells (digB 8 n)) ∧ Below w.heap.size w w' := by
  refine (callsIn_wide (n := 5)).1 ?_
  refine callsIn_of_wp_marks Tryz.func117 rfl trivial ?_ rfl
  simp only [Tryz.ntmps117, List.size_toArray, List.length_cons, List.length_nil, Nat.reduceAdd, Nat.reduceSub, Array.replicate_succ, Array.replicate_zero, List.push_toArray, List.append_toArray, List.nil_append, List.cons_append]
  obtain ⟨i0, hi0, hz0, hz1, hz2⟩ := parts infoU
  have hmk : ∀ W : World, (Instr.makeSlice 33 (.int .i64 8) (.int .i64 8)).run Tryz.prog W = .ok (.slice (some ⟨W.heap.size, 0, none⟩) 8 8) (W.alloc (.cells (List.replicate 8 (Value.int .u8 0)).toArray 5)) :=
    fun W => run_make_one (P := Tryz.prog) 33 5 i0 (.int .u8 0) Tryz.underlying33 hi0 hz0 rfl hz1 8 (by rw [hz2]; decide) (by decide) W
  have hS0 : DgI 82 .u64 w n 8 [] ((((w.alloc (.cells #[.int .u64 n] 82)).alloc (.cells (List.replicate 8 (Value.int .u8 0)).toArray 5)).alloc (.cells #[.slice (some ⟨w.heap.size + 1, 0, none⟩) 8 8] 33)).alloc (.cells #[.slice (some ⟨w.heap.size + 1, 0, none⟩) 8 8] 33)) := by
    refine ⟨?_, ?_, ?_, ?_, ?_, by simp⟩
    · have h := (((Blk.new w 82 #[.int .u64 n]).alloc (.cells (List.replicate 8 (Value.int .u8 0)).toArray 5)).alloc (.cells #[.slice (some ⟨w.heap.size + 1, 0, none⟩) 8 8] 33)).alloc (.cells #[.slice (some ⟨w.heap.size + 1, 0, none⟩) 8 8] 33)
      simpa using h
    · have h := ((Blk.new (w.alloc (.cells #[.int .u64 n] 82)) 5 (List.replicate 8 (Value.int .u8 0)).toArray).alloc (.cells #[.slice (some ⟨w.heap.size + 1, 0, none⟩) 8 8] 33)).alloc (.cells #[.slice (some ⟨w.heap.size + 1, 0, none⟩) 8 8] 33)
      rw [World.size_alloc] at h
      exact h
    · have h := (Blk.new ((w.alloc (.cells #[.int .u64 n] 82)).alloc (.cells (List.replicate 8 (Value.int .u8 0)).toArray 5)) 33 #[.slice (some ⟨w.heap.size + 1, 0, none⟩) 8 8]).alloc (.cells #[.slice (some ⟨w.heap.size + 1, 0, none⟩) 8 8] 33)
      rw [World.size_alloc, World.size_alloc] at h
      exact h
    · have h := Blk.new (((w.alloc (.cells #[.int .u64 n] 82)).alloc (.cells (List.replicate 8 (Value.int .u8 0)).toArray 5)).alloc (.cells #[.slice (some ⟨w.heap.size + 1, 0, none⟩) 8 8] 33)) 33 #[.slice (some ⟨w.heap.size + 1, 0, none⟩) 8 8]
      rw [World.size_alloc, World.size_alloc, World.size_alloc] at h
      exact h
    · exact ((((Below.refl _ _).alloc (Nat.le_refl _) _).alloc (by simp) _).alloc (by simp; omega) _).alloc (by simp; omega) _
  have hz4 : ((((w.alloc (.cells #[.int .u64 n] 82)).alloc (.cells (List.replicate 8 (Value.int .u8 0)).toArray 5)).alloc (.cells #[.slice (some ⟨w.heap.size + 1, 0, none⟩) 8 8] 33)).alloc (.cells #[.slice (some ⟨w.heap.size + 1, 0, none⟩) 8 8] 33)).heap.size = w.heap.size + 4 := by simp
  obtain ⟨Z, hZ⟩ : ∃ Z, (List.replicate 8 (Value.int .u8 0)).toArray = Z := ⟨_, rfl⟩
  rw [hZ] at hmk hS0 hz4
  clear hZ
  have HS0 := Lib.hid hS0; have HZ4 := Lib.hid hz4
  clear hS0 hz4
  gi_wp2_with (first | (refine ⟨trivial, ?_⟩; gi_at_call 126; refine (callsIn_wide.2 (width_u64 _)).mono ?_; rintro e w' ⟨rfl, rfl⟩) | (refine ⟨trivial, ?_⟩; gi_at_call 139; refine (callsIn_wide.2 (backward_any _ _ _ _)).mono ?_; rintro e w' ⟨rfl, rfl⟩))
  obtain ⟨W4, hW4⟩ : ∃ W4, ((((w.alloc (.cells #[.int .u64 n] 82)).alloc (.cells Z 5)).alloc (.cells #[.slice (some ⟨w.heap.size + 1, 0, none⟩) 8 8] 33)).alloc (.cells #[.slice (some ⟨w.heap.size + 1, 0, none⟩) 8 8] 33)) = W4 := ⟨_, rfl⟩
  rw [hW4] at HS0 HZ4 ⊢
  clear hW4 hmk
  refine wpIn_rangeFunc_st (α := Nat × Int) (F := Fence.wide) (n := 5) rfl (fun h => by cases h) (gf := 160) (lb := #[.pointer (some ⟨w.heap.size + 3, 0, none⟩)]) rfl trivial (enters_of Tryz.func160 (by kernel_rfl) rfl)
    (encs := fun x => #[.int .i64 x.1, .int .u8 x.2]) (fun _ => rfl) (Kp := fun A B => RowOk (w.heap.size + 3) (w.heap.size + 1) 8 A → RowOk (w.heap.size + 3) (w.heap.size + 1) 8 B)
    (St := fun A B => A = B) (S := fun xs => xs.map (·.1) = (List.range 8).reverse) (N := 8) (Ok := fun x => x.1 < 8) ?seq (fun h k a => k (h a)) ?kb (fun _ _ _ _ h hk _ => h ▸ hk) (DgI 82 .u64 w n 8) (by rw [HZ4.out]; exact DgI.own) (fun _ _ _ h hs => hs ▸ h) HS0.out
    (fun x => { tmps := #[.int .u64 n, .pointer (some ⟨w.heap.size, 0, none⟩), .slice none 0 0, .pointer (some ⟨w.heap.size + 1 + 1, 0, none⟩), .int .i64 x.1, .int .i64 8, .slice (some ⟨w.heap.size + 1, 0, none⟩) 8 8, .slice (some ⟨w.heap.size + 1, 0, none⟩) 8 8, .func (.func 160) #[] #[.pointer (some ⟨w.heap.size + 1 + 1 + 1, 0, none⟩)], .int .i64 x.1, .int .u8 x.2, undef, undef, undef, undef, undef, undef, undef, undef], defers := [] }) ?assign ?body ?done
  case seq =>
    intro l J W hb hJ hY h0
    have h4 := HS0.out.rowOk
    have hR : RowOk (w.heap.size + 3) (w.heap.size + 1) 8 W := h4.same (hb.block _ (by rw [HZ4.out]; omega)) (hb.block _ (by rw [HZ4.out]; omega))
    refine (back_in l (w.heap.size + 3) (w.heap.size + 1) 8 (by decide) J (fun pre x X h1 h2 h3 h5 => (hY pre x X h1 h3 h5).mono fun e X' h => ⟨h.1, h.2.1, h.2.2 h2⟩) W hR h0).mono ?_
    rintro e W' ⟨hv, xs, hx, hj⟩
    exact ⟨hv, xs, hx, hj⟩
  case kb =>
    intro W l o o' hl ho _ _ hR
    have hl' : w.heap.size + 4 ≤ l := by rw [← HZ4.out]; exact hl
    exact hR.same (World.putObj_heap_other (by omega)) (World.putObj_heap_other (by omega))
  case assign =>
    intro l x W K hK
    gi_wp2
    exact hK
  case body =>
    rintro l pre ⟨xi, xv⟩ W h hlen hok
    have hxi : xi < 8 := hok
    have hxI : (xi : Int) < 8 := by omega
    have hmn : n / 256 ^ pre.length < 18446744073709551616 := Nat.lt_of_le_of_lt (Nat.div_le_self _ _) hn
    have c0 := h.num.cell 0; have f0 := h.num.frozen 0
    obtain ⟨u, hu⟩ := (stA_ok n 8 pre).2 xi hxi
    have c1 := h.row.cell xi; have f1 := h.row.frozen xi
    rw [hu] at c1
    have c2 := h.box.cell 0
    simp only [List.getElem?_toArray, List.getElem?_cons_zero] at c0 c2
    have hp := h.put (xi, xv)
    obtain ⟨m, hm⟩ : ∃ m, n / 256 ^ pre.length = m := ⟨_, rfl⟩
    have hne : w.heap.size ≠ w.heap.size + 1 := by omega
    rw [hm] at c0 hmn hp
    have hmI : (m : Int) < 18446744073709551616 := by omega
    have e1 : ((m % 256 : Nat) : Int) = (m : Int) % 256 := by omega
    have e2 : ((m / 256 : Nat) : Int) = (m : Int) / 256 := by omega
    rw [e1, e2] at hp
    have hrow := DgI.rowOk hp
    have HP := Lib.hid hp; have HRW := Lib.hid hrow
    clear h hp hm hu hrow e1 e2
    gi_wp2
    exact ⟨((KeepsOthers.setCell _ _ _).trans (KeepsOthers.setCell _ _ _)).from _, fun _ => HRW.out, HP.out⟩
  case done =>
    rintro D xs W hD hS h hK
    have c2 := h.box.cell 0
    simp only [List.getElem?_toArray, List.getElem?_cons_zero] at c2
    have hall := stA_all_u64 n xs hS
    have hrw := h.row
    rw [hall] at hrw
    have hD2 : D < W.heap.size := (Array.getElem?_eq_some_iff.1 hK).1
    have hD3 : w.heap.size + 4 ≤ D := by rw [← HZ4.out]; exact hD
    have HB := Lib.hid h.below; have HRW := Lib.hid hrw; have HK := Lib.hid hK
    clear h hrw hall HS0
    gi_wp2
    refine ⟨by simp, .inl ⟨_, _, rfl, run_takeDeferred HK.out, ?_⟩⟩
    refine ⟨_, results_tmp rfl _ _ _, _, rfl, ?_, ?_⟩
    · have ho : W.ownsRow w.heap.size 5 1 (.slice (some ⟨w.heap.size + 1, 0, none⟩) 8 8) 8 (ucells (digB 8 n)) :=
        ⟨by rw [ucells_length, digB_size], .inr ⟨w.heap.size + 1, 8, _, rfl, Nat.le_succ _, HRW.out, Nat.le_refl _, by unfold maxLen; omega, by simp [ucells_length, digB_size], by simp only [Nat.mul_one]; rw [List.take_of_length_le (by simp [ucells_length, digB_size])]⟩⟩
      exact ownsRow_putObj ho (.deferred none) HK.out rfl
    · exact HB.out.grown (grownBy_putObj' W D _) HB.out.size (fun k e => by cases e; omega)
end Go.Proofs.YthmcimpdehgaoaaGreatDoor
