/- The closed law of checkpoints: its walk. -/
import Derived.Test.YthmcimpdehgaoaaGreatDoorCmY
import Derived.Deep.DeepCutAuto
namespace Go.Proofs.YthmcimpdehgaoaaGreatDoor
open Go.RowKit Go.Maps

theorem wpList_valK {P : Program} {ops : Array Oper} {rest : List Oper} {o : Oper} {a : Act} {w w' : World} {Q : Exit → Act → World → Prop} (hg : o.guard = none) (d : Nat) (hd : o.dst = some d) (v : Value) (hrun : (execOp a.eval o).run P w = .ok (.value v) w')
    (h : wpList P ops Q rest (a.put (some d) v) w') : wpList P ops Q (o :: rest) a w := by
  refine wpList_plain hg fun _ hK => ?_
  unfold Oper.wp
  rw [hrun]
  exact hK _ _ (by rw [hd]; exact h)
theorem run_execOp_convK {P : Program} {ρ : Operand → Value} {o : Oper} {t t' : TypeId} {x : Operand} {v : Value} {w w' : World} (ho : o.op = .convert t t' x) (h : (convert t t' (ρ x)).run P w = .ok v w') : (execOp ρ o).run P w = .ok (.value v) w' := by
  unfold execOp
  simp [ho, h, Result.andThen]
/-- the bytes of a constant text: the new world and the new block are letters -/
theorem wpList_bytesK {ops : Array Oper} {rest : List Oper} {o1 o2 : Oper} {a : Act} {w : World} {Q : Exit → Act → World → Prop} (hg1 : o1.guard = none) (hg2 : o2.guard = none) (s : ByteArray) (len : Nat) (parts : Array (Nat × Operand)) (ho1 : o1.op = .buildSlice 33 len parts)
    (d1 d2 : Nat) (hd1 : o1.dst = some d1) (hd2 : o2.dst = some d2) (ho2 : o2.op = .convert 33 33 (.tmp d1)) (hlen : len = s.size) (hpos : 0 < len) (hsmall : len ≤ 2 ^ 24)
    (hparts : parts.toList = ((s.data.toList.map fun b => (b.toNat : Int)).zipIdx 0).map fun x => (x.2, Operand.const (Value.int .u8 x.1))) (hev : ∀ v, (a.put (some d1) v).eval (.tmp d1) = v)
    (h : ∀ w' g, Below w.heap.size w w' → BtR w' (.slice (some ⟨g, 0, none⟩) s.size s.size) s → wpList Tryz.prog ops Q rest ((a.put (some d1) (.slice (some ⟨g, 0, none⟩) len len)).put (some d2) (.slice (some ⟨g, 0, none⟩) len len)) w') : wpList Tryz.prog ops Q (o1 :: o2 :: rest) a w := by
  have hl : (s.data.toList.map fun b => (b.toNat : Int)).length = s.size := by rw [List.length_map]; exact Array.length_toList
  have hc : ((s.data.toList.map fun b => (b.toNat : Int)).map (Value.int .u8)) = ucells s := by unfold ucells; rw [List.map_map]; rfl
  refine wpList_buildFlatAt hg1 33 5 len parts ho1 .u8 (s.data.toList.map fun b => (b.toNat : Int)) w.heap.size rfl (some d1) hd1 Tryz.underlying33 (by kernel_rfl) (by kernel_rfl) (by rw [hl]; exact hlen) hpos hsmall hparts ?_
  rw [hc]
  have hcv := Lib.run_convert_bytes_const w 33 5 (ucells s).toArray len len Tryz.underlying33 Tryz.underlying5
  refine wpList_valK hg2 d2 hd2 (.slice (some ⟨w.heap.size, 0, none⟩) len len) (run_execOp_convK ho2 (by rw [hev]; exact hcv)) ?_
  refine h _ w.heap.size ((Below.refl _ _).alloc (Nat.le_refl _) _) (Bt.btr ⟨_, _, rfl, Nat.le_refl _, fun _ => ⟨w.heap.size, 0, (ucells s).toArray, _, rfl, heap_alloc_new w _, fun j hj => ?_⟩⟩)
  rw [Nat.zero_add, List.getElem?_toArray, ucells_at s j hj]
def E0K : ByteArray := ⟨#[]⟩
def knR (T R : ByteArray) (vx vy : Value) (i : Nat) : List CVK :=
  [(⟨8, 0, ⟨#[99, 107, 46, 53]⟩, R, 0, []⟩, vy, .slice none 0 0), (⟨5, 5, E0K, E0K, 0, []⟩, .slice none 0 0, .slice none 0 0), (⟨8, 0, ⟨#[99, 107, 46, 54]⟩, T, 0, []⟩, vx, .slice none 0 0), (⟨5, 6, E0K, E0K, 0, []⟩, .slice none 0 0, .slice none 0 0), (⟨9, 0, ⟨#[99, 107, 46, 53]⟩, E0K, (i : Int), []⟩, .slice none 0 0, .slice none 0 0), (⟨5, 5, E0K, E0K, 0, []⟩, .slice none 0 0, .slice none 0 0), (⟨4, 9, E0K, E0K, 0, []⟩, .slice none 0 0, .slice none 0 0)]
def knL (T : ByteArray) (v1 v2 v3 v4 vq v8 v9 va vb : Value) : List CVK :=
  [(⟨0, 3, E0K, ⟨#[97]⟩, 0, []⟩, v1, .slice none 0 0), (⟨0, 11, E0K, ⟨#[98]⟩, 0, []⟩, v2, .slice none 0 0), (⟨0, 3, E0K, ⟨#[99]⟩, 0, []⟩, v3, .slice none 0 0), (⟨8, 0, ⟨#[99, 107, 46, 48, 51]⟩, ⟨#[99]⟩, 0, []⟩, v4, .slice none 0 0), (⟨8, 0, ⟨#[99, 107, 46, 120]⟩, E0K, 0, []⟩, .slice none 0 0, .slice none 0 0), (⟨8, 0, ⟨#[99, 107, 46, 50, 49, 52, 55, 52, 56, 51, 54, 52, 56]⟩, E0K, 0, []⟩, .slice none 0 0, .slice none 0 0), (⟨8, 0, ⟨#[99, 107, 46]⟩, E0K, 0, []⟩, .slice none 0 0, .slice none 0 0), (⟨8, 0, ⟨#[99, 107, 46, 52]⟩, T, 0, []⟩, vq, .slice none 0 0), (⟨5, 4, E0K, E0K, 0, []⟩, .slice none 0 0, .slice none 0 0), (⟨8, 0, ⟨#[99, 107, 46, 116, 109, 112]⟩, ⟨#[108, 101, 102, 116]⟩, 0, []⟩, v8, .slice none 0 0), (⟨0, 9, E0K, ⟨#[100]⟩, 0, []⟩, v9, .slice none 0 0), (⟨8, 0, ⟨#[99, 107, 46, 116, 109, 112]⟩, E0K, 0, []⟩, .slice none 0 0, .slice none 0 0), (⟨7, 0, E0K, E0K, 1, []⟩, .slice none 0 0, .slice none 0 0), (⟨7, 0, E0K, E0K, 0, []⟩, .slice none 0 0, .slice none 0 0), (⟨4, 9, E0K, E0K, 0, []⟩, .slice none 0 0, .slice none 0 0), (⟨6, 0, E0K, E0K, 2, []⟩, .slice none 0 0, .slice none 0 0), (⟨0, 9, E0K, ⟨#[101]⟩, 0, []⟩, va, .slice none 0 0), (⟨5, 9, E0K, E0K, 0, []⟩, .slice none 0 0, .slice none 0 0), (⟨4, 99, E0K, E0K, 0, []⟩, .slice none 0 0, .slice none 0 0), (⟨7, 0, E0K, E0K, 0, [99, 99]⟩, .slice none 0 0, vb), (⟨4, 99, E0K, E0K, 0, []⟩, .slice none 0 0, .slice none 0 0), (⟨6, 0, E0K, E0K, 0, []⟩, .slice none 0 0, .slice none 0 0), (⟨0, 1, E0K, E0K, 0, []⟩, .slice none 0 0, .slice none 0 0), (⟨7, 0, E0K, E0K, 0, []⟩, .slice none 0 0, .slice none 0 0)]
theorem knR_ok {w : World} {T R : ByteArray} {vx vy : Value} {i : Nat} (hi : i ≤ 20) (hx : ∃ A cc, vx = .slice A T.size cc ∧ BtR w (.slice A T.size cc) T) (hy : ∃ A cc, vy = .slice A R.size cc ∧ BtR w (.slice A R.size cc) R) : ∀ x ∈ knR T R vx vy i, CvkOk w x := by
  have h0 : ∃ A cc, Value.slice none 0 0 = .slice A E0K.size cc ∧ BtR w (.slice A E0K.size cc) E0K := ⟨none, 0, rfl, (bt_nil w).btr⟩
  have h1 : ∃ A cc, Value.slice none 0 0 = .slice A ([] : List Int).length cc ∧ Rd w 1 A ([] : List Int).length (([] : List Int).map (Value.int .i64)) := ⟨none, 0, rfl, Rd.nil_⟩
  have hn : ∀ z ∈ ([] : List Int), In64 z := fun _ h => by cases h
  intro x hm
  simp only [knR, List.mem_cons, List.not_mem_nil, or_false] at hm
  rcases hm with rfl | rfl | rfl | rfl | rfl | rfl | rfl <;>
    exact cvk_ok ⟨by decide, by decide⟩ ⟨by decide, by decide⟩ (by first | exact ⟨by decide, by decide⟩ | exact ⟨by omega, by omega⟩) hn (by first | exact h0 | exact hx | exact hy) h1
theorem knL_ok {w : World} {T : ByteArray} {v1 v2 v3 v4 vq v8 v9 va vb : Value} (k1 : ∃ A cc, v1 = .slice A 1 cc ∧ BtR w (.slice A 1 cc) ⟨#[97]⟩) (k2 : ∃ A cc, v2 = .slice A 1 cc ∧ BtR w (.slice A 1 cc) ⟨#[98]⟩) (k3 : ∃ A cc, v3 = .slice A 1 cc ∧ BtR w (.slice A 1 cc) ⟨#[99]⟩) (k4 : ∃ A cc, v4 = .slice A 1 cc ∧ BtR w (.slice A 1 cc) ⟨#[99]⟩)
    (kq : ∃ A cc, vq = .slice A T.size cc ∧ BtR w (.slice A T.size cc) T) (k8 : ∃ A cc, v8 = .slice A 4 cc ∧ BtR w (.slice A 4 cc) ⟨#[108, 101, 102, 116]⟩) (k9 : ∃ A cc, v9 = .slice A 1 cc ∧ BtR w (.slice A 1 cc) ⟨#[100]⟩) (ka : ∃ A cc, va = .slice A 1 cc ∧ BtR w (.slice A 1 cc) ⟨#[101]⟩)
    (kb : ∃ A cc, vb = .slice A 2 cc ∧ Rd w 1 A 2 [.int .i64 99, .int .i64 99]) : ∀ x ∈ knL T v1 v2 v3 v4 vq v8 v9 va vb, CvkOk w x := by
  have h0 : ∃ A cc, Value.slice none 0 0 = .slice A E0K.size cc ∧ BtR w (.slice A E0K.size cc) E0K := ⟨none, 0, rfl, (bt_nil w).btr⟩
  have h1 : ∃ A cc, Value.slice none 0 0 = .slice A ([] : List Int).length cc ∧ Rd w 1 A ([] : List Int).length (([] : List Int).map (Value.int .i64)) := ⟨none, 0, rfl, Rd.nil_⟩
  have hn : ∀ z ∈ ([] : List Int), In64 z := fun _ h => by cases h
  have h99 : ∀ z ∈ ([99, 99] : List Int), In64 z := fun z h => by
    simp only [List.mem_cons, List.not_mem_nil, or_false, or_self] at h
    subst h
    exact ⟨by decide, by decide⟩
  intro x hm
  simp only [knL, List.mem_cons, List.not_mem_nil, or_false] at hm
  rcases hm with rfl | rfl | rfl | rfl | rfl | rfl | rfl | rfl | rfl | rfl | rfl | rfl | rfl | rfl | rfl | rfl | rfl | rfl | rfl | rfl | rfl | rfl | rfl | rfl <;>
    exact cvk_ok ⟨by decide, by decide⟩ ⟨by decide, by decide⟩ ⟨by decide, by decide⟩ (by first | exact hn | exact h99) (by first | exact h0 | exact k1 | exact k2 | exact k3 | exact k4 | exact kq | exact k8 | exact k9 | exact ka) (by first | exact h1 | exact kb)
theorem kl_in : ∀ z ∈ ([-1, 0, 1, 2, 3, 0, 2] : List Int), In64 z := by
  intro z hz
  simp only [List.mem_cons, List.not_mem_nil, or_false] at hz
  rcases hz with rfl | rfl | rfl | rfl | rfl | rfl | rfl <;> exact ⟨by decide, by decide⟩
theorem btr_flat {w : World} {g : Nat} (s : ByteArray) (h : Blk w g 5 (ucells s).toArray) : BtR w (.slice (some ⟨g, 0, none⟩) s.size s.size) s :=
  Bt.btr ⟨_, _, rfl, Nat.le_refl _, fun _ => ⟨g, 0, (ucells s).toArray, (0, 0), rfl, h, fun j hj => by rw [Nat.zero_add, List.getElem?_toArray, ucells_at s j hj]⟩⟩
/-- the great write's state: the disk, the store, the great arrays -/
structure KdS (w wr : World) (p gs g : Nat) (v : Value) (D : DiskD) (Z Y : ByteArray) : Prop where
  is : DiskIs wr w.heap.size p v D
  st : CkSt wr gs p
  below : Below w.heap.size w wr
  bz : Bt wr (.slice (some ⟨g, 0, none⟩) 4194305 4194305) Z
  bys : Bt wr (.slice (some ⟨g, 1, none⟩) 4194304 4194304) Y
section
variable {w wr w2 : World} {p gs g : Nat} {v : Value} {D : DiskD} {Z Y : ByteArray} (a : KdS w wr p gs g v D Z Y)
include a
theorem KdS.below_ (hb : Below wr.heap.size wr w2) : KdS w w2 p gs g v D Z Y := ⟨a.is.below hb (Nat.le_refl _), a.st.below hb, a.below.trans (hb.mono a.below.size), a.bz.below hb, a.bys.below hb⟩
theorem kd_write (hf : FitN D 50000) (hT : Tb w.heap.size w) (step : Int) {bv : Value} {b : ByteArray} (hb : Bt wr bv b) {E : Int} {D' : DiskD} (hq : writeC D step b = (E, D')) :
    Calls Tryz.prog 12 #[.pointer (some ⟨gs, 0, none⟩), .int .i64 step, bv] wr fun e w' => e = .returned (.int .i64 E) ∧ ∃ v', KdS w w' p gs g v' D' Z Y := by
  refine (cwrite_any wr w.heap.size p gs v D a.is a.below.size a.st (Nat.zero_le _) hf step bv b (BtX.of_bt hb) (hT.on a.below)).mono fun e w' hP => ?_
  rw [hq] at hP
  obtain ⟨he, v1, o, hs⟩ := hP
  exact ⟨he, v1, o.is, hs, a.below.trans o.below, o.bt _ _ a.bz, o.bt _ _ a.bys⟩
theorem kd_read (hf : Fit D) (hT : Tb w.heap.size w) (step : Int) {E : Int} (hq : readC D step = (E, ByteArray.empty)) :
    Calls Tryz.prog 15 #[.pointer (some ⟨gs, 0, none⟩), .int .i64 step] wr fun e w' => ∃ A n c, e = .returned (.tuple #[.slice A n c, .int .i64 E]) ∧ KdS w w' p gs g v D Z Y := by
  refine (cread_any wr w.heap.size p gs v D a.is a.st hf step (hT.at_ a.below)).mono fun e w' hP => ?_
  rw [hq] at hP
  obtain ⟨bv, he, ho, hb⟩ := hP
  obtain ⟨A, n, c, rfl⟩ := own_shape' ho
  exact ⟨A, n, c, he, a.below_ hb⟩
end
def D0K : DiskD := ⟨[], 8388608, 0, -1, false⟩
def D2K (Y : ByteArray) : DiskD := ⟨[⟨nameC 1073741824, fileC 1073741824 Y, (fileC 1073741824 Y).size⟩], 8388608, 0 + 1 + 1 + 1, -1, false⟩
theorem fit0K : FitN D0K 50000 := ⟨by decide, by decide, by decide, by decide, by decide, by decide⟩
theorem fit2K {Y : ByteArray} (hY : Y.size = 4194304) : FitN (D2K Y) 50000 := by
  have hs := fileC_size 1073741824 Y
  refine ⟨by show (0 : Int) ≤ 0 + 1 + 1 + 1; decide, by show (0 : Int) + 1 + 1 + 1 + ((50000 : Nat) : Int) ≤ 4611686018427387904; decide, by show 1 + 50000 ≤ 10000000; decide, ?_, by show (-1 : Int) ≤ -1; decide, by show (-1 : Int) ≤ 9223372036854775807; decide⟩
  show usedL [_] + _ ≤ _
  simp [usedL]
  omega
set_option maxRecDepth 100000 in
set_option maxHeartbeats 16000000 in
theorem cknown_any (w : World) (hT : Tb w.heap.size w) (hV : Ev w.heap.size w) : Calls Tryz.prog 7 #[] w fun e w' => e = .returned (.bool true) ∧ Below w.heap.size w w' := by
  have HT0 := Lib.hid hT
  have HT := Lib.hid (fun W (hW : Below w.heap.size w W) => hT.at_ hW); have HV := Lib.hid (fun W (hW : Below w.heap.size w W) => hV.at_ hW)
  clear hT hV
  go_enter Tryz.func7, Tryz.ntmps7
  go_wp2_with fail
  refine (copen_nil _).mono ?_
  rintro e w ⟨rfl, rfl⟩
  go_wp2_with fail
  refine (new_any 9 _).mono ?_
  rintro e w2 ⟨rfl, hd2, hb2⟩
  have HD2 := Lib.hid hd2; have HB2 := Lib.hid hb2
  clear hd2 hb2
  go_wp2_with fail
  refine (d_crash HD2.out HB2.out.size rfl).mono ?_
  rintro e w3 ⟨rfl, v3, o3⟩
  have HO3 := Lib.hid (copen_gone w3 _ _ v3 _ o3.is (Nat.le_trans HB2.out.size o3.below.size) (fit_small (by simp) (by simp) (by decide) (by decide) (by decide) (by decide)) rfl); have HB3 := Lib.hid (HB2.out.trans o3.below)
  clear o3 HD2
  go_wp2_with fail
  refine HO3.out.mono ?_
  rintro e w4 ⟨rfl, hb4⟩
  have HB4 := Lib.hid (HB3.out.trans hb4)
  clear hb4 HO3 HB3 HB2
  go_wp2_with fail
  refine (cread_nil _ _).mono ?_
  rintro e w4 ⟨rfl, rfl⟩
  go_wp2_with fail
  refine (cnewest_nil _).mono ?_
  rintro e w5 ⟨rfl, hb5⟩
  have HB5 := Lib.hid (HB4.out.trans (hb5.mono HB4.out.size))
  clear hb5 HB4
  go_wp2_with fail
  refine (cwrite_nil _ _ _ none 0 0 rfl).mono ?_
  rintro e w6 ⟨rfl, hb6⟩
  have HB6 := Lib.hid (HB5.out.trans (hb6.mono HB5.out.size))
  clear hb6 HB5
  go_wp2_with fail
  refine (csteps_nil _).mono ?_
  rintro e w7 ⟨v7, rfl, ho7, hb7⟩
  obtain ⟨A7, c7, rfl⟩ := own_shape ho7
  have HB7 := Lib.hid (HB6.out.trans (hb7.mono HB6.out.size))
  clear hb7 ho7 HB6
  go_wp2_with fail
  refine (cdrop_nilK _ _).mono ?_
  rintro e w7 ⟨rfl, rfl⟩
  go_wp2_with fail
  refine (new_any 8388608 _).mono ?_
  rintro e w8 ⟨rfl, hd8, hb8⟩
  have hd8 : DiskIs w8 w7.heap.size w7.heap.size (.slice none 0 0) D0K := hd8
  have HB8 := Lib.hid (HB7.out.trans (hb8.mono HB7.out.size))
  have hd8' := hd8.mono HB7.out.size
  have hbs8 := HB8.out.size
  have HOP := Lib.hid (copen_any w8 w.heap.size _ _ _ hd8' hbs8 fit0K.fit)
  obtain ⟨p, hp⟩ : ∃ p, w7.heap.size = p := ⟨_, rfl⟩
  rw [hp] at HOP ⊢
  clear hd8 hd8' hb8 hp HB7
  go_wp2_with fail
  refine HOP.out.mono ?_
  intro e w9 hP
  obtain ⟨⟨v9, o9⟩, hc⟩ := hP
  have hoc : openC D0K = (0, D0K) := by unfold openC D0K; rw [if_neg (by simp), kn_clear0]
  rw [hoc] at o9 hc
  rcases hc with ⟨h0, _⟩ | ⟨_, gs, rfl, hg, hst⟩
  · exact absurd rfl h0
  have HO9 := Lib.hid o9; have HST9 := Lib.hid hst; have HB9 := Lib.hid (HB8.out.trans o9.below)
  clear o9 hg hst hoc HOP HB8
  obtain ⟨n, hn⟩ : ∃ n : Nat, n = 4194305 := ⟨_, rfl⟩
  have hmk := run_make_bytes n (by omega) w9
  have hbz := bt_zeros n w9
  have hzsz := zerosB_size n
  obtain ⟨Z, hZ⟩ : ∃ Z, zerosB n = Z := ⟨_, rfl⟩
  rw [hZ] at hmk hbz hzsz
  obtain ⟨zs, hzs⟩ : ∃ zs, (ucells Z).toArray = zs := ⟨_, rfl⟩
  rw [hzs] at hmk hbz
  rw [hn] at hzsz
  obtain ⟨Y, hYs, hby⟩ := bt_tail hbz (by omega)
  rw [hn] at hmk hbz hby hYs
  simp only [Int.cast_ofNat_Int] at hmk
  have hYs : Y.size = 4194304 := hYs
  have hBA := (Below.refl w9.heap.size w9).alloc (Nat.le_refl _) (.cells zs 5)
  obtain ⟨g, hg⟩ : ∃ g, w9.heap.size = g := ⟨_, rfl⟩
  have hsl : ∀ W, (Instr.sliceAt 33 (.slice (some ⟨g, 0, none⟩) 4194305 4194305) (some (.int .i64 1)) none none).run Tryz.prog W = .ok (.slice (some ⟨g, 1, none⟩) 4194304 4194304) W := fun W => by
    obtain ⟨i0, hi0, -, hz1, -⟩ := parts infoU
    exact (run_sliceAt_slice W _ _ _ _ _ (by rw [show Tryz.prog.elem 33 = 5 by kernel_rfl]; exact Tryz.underlying33)).trans (run_from Tryz.underlying33 hi0 (some ⟨g, 0, none⟩) 4194305 4194305 1 1 hz1 (by decide) W)
  have hks : KdS w (w9.alloc (.cells zs 5)) p gs w9.heap.size v9 D0K Z Y := ⟨HO9.out.is.below hBA (Nat.le_refl _), HST9.out.below hBA, HB9.out.trans (hBA.mono HB9.out.size), hbz, hby⟩
  obtain ⟨wb, hwb⟩ : ∃ wb, w9.alloc (.cells zs 5) = wb := ⟨_, rfl⟩
  rw [hwb, hg] at hks hmk
  have HKS := Lib.hid hks; have HZS := Lib.hid hzsz; have HYS := Lib.hid hYs; have HSL := Lib.hid hsl
  clear hks hbz hby hBA hZ hzs hwb hn hg hzsz hYs hsl HO9 HST9 HB9
  have HC := Lib.hid (kd_read HKS.out fit0K.fit HT0.out (-1) (E := 2) (by unfold readC; rw [if_pos (.inl (by decide))]))
  go_wp2_with fail
  refine HC.out.mono ?_
  rintro e wc ⟨A1, n1, c1, rfl, hk⟩
  have HKS2 := Lib.hid hk; have HC2 := Lib.hid (kd_read hk fit0K.fit HT0.out 1073741825 (E := 2) (by unfold readC; rw [if_pos (.inr (by decide))]))
  clear hk HC HKS hmk
  go_wp2_with fail
  refine HC2.out.mono ?_
  rintro e wd ⟨A2, n2, c2, rfl, hk⟩
  have HKS3 := Lib.hid hk; have HC3 := Lib.hid (kd_read hk fit0K.fit HT0.out 7 (E := 190) (kn_none 8388608 0 7 (by decide)))
  clear hk HC2 HKS2
  go_wp2_with fail
  refine HC3.out.mono ?_
  rintro e we ⟨A3, n3, c3, rfl, hk⟩
  have HKS4 := Lib.hid hk; have HC4 := Lib.hid (kd_write hk fit0K HT0.out 0 hk.bz (E := 3) (D' := D0K) (by unfold writeC; rw [if_neg (by decide), if_pos (by rw [HZS.out]; decide)]))
  clear hk HC3 HKS3
  go_wp2_with fail
  refine HC4.out.mono ?_
  rintro e wf ⟨rfl, v4, hk⟩
  have HC5 := Lib.hid (kd_write hk fit0K HT0.out 1073741824 hk.bys (E := 0) (D' := D2K Y) (kn_write 8388608 0 1073741824 (by decide) Y (by rw [HYS.out]; decide) (by rw [HYS.out]; decide)))
  clear hk HC4 HKS4
  have hsl := HSL.out
  go_wp2_with fail
  refine HC5.out.mono ?_
  rintro e wg ⟨rfl, v5, hk⟩
  have HC6 := Lib.hid (kd_write hk (fit2K HYS.out) HT0.out (-1) (bt_nil _) (E := 2) (D' := D2K Y) (by unfold writeC; rw [if_pos (.inl (by decide))]))
  clear hk HC5 hsl
  go_wp2_with fail
  refine HC6.out.mono ?_
  rintro e wh ⟨rfl, v6, hk⟩
  have HC7 := Lib.hid (kd_write hk (fit2K HYS.out) HT0.out 1073741825 (bt_nil _) (E := 2) (D' := D2K Y) (by unfold writeC; rw [if_pos (.inr (by decide))]))
  clear hk HC6
  go_wp2_with fail
  refine HC7.out.mono ?_
  rintro e wi ⟨rfl, v7, hk⟩
  have HC8 := Lib.hid (kd_write hk (fit2K HYS.out) HT0.out 3 hk.bys (E := 161) (D' := D2K Y) (kn_full 8388608 _ _ 1073741824 3 (by decide) (fileC 1073741824 Y) Y (by rw [HYS.out]; decide) (by rw [fileC_size, HYS.out]; decide)))
  clear hk HC7
  have hsl := HSL.out
  go_wp2_with fail
  refine HC8.out.mono ?_
  rintro e wj ⟨rfl, v8, hk⟩
  have hnm : ∀ f ∈ (D2K Y).files, f.name.size ≤ 1000 := by
    intro f hf
    simp only [D2K, List.mem_singleton] at hf
    subst hf
    exact Nat.le_trans (nameC_size (by decide)).2 (by decide)
  have hstp := csteps_any wj w.heap.size p gs v8 (D2K Y) hk.is hk.st (fit2K HYS.out).fit hnm (HT.out _ hk.below) (HV.out _ hk.below)
  have hst1 : stepsC (D2K Y) = [1073741824] := kn_steps 8388608 _ _ 1073741824 (by decide) Y (by rw [HYS.out]; decide)
  rw [hst1] at hstp
  have HKS5 := Lib.hid hk; have HSTP := Lib.hid hstp
  clear hk HC8 hsl hnm hstp hst1
  go_wp2_with fail
  refine HSTP.out.mono ?_
  rintro e wk ⟨vk, rfl, hok, hbk⟩
  obtain ⟨Ak, ck, rfl⟩ := own_shape hok
  have hl1 : ([1073741824] : List Nat).length = 1 := rfl
  rw [hl1]
  have hk := HKS5.out.below_ hbk
  have hnm := names_any wk w.heap.size p v8 (D2K Y) hk.is (by show (1 : Nat) ≤ _; decide)
  have hl2 : (D2K Y).files.length = 1 := rfl
  rw [hl2] at hnm
  have HKS6 := Lib.hid hk; have HNM := Lib.hid hnm
  clear hok hbk hk hnm HSTP HKS5 hl1 hl2
  go_wp2_with fail
  refine HNM.out.mono ?_
  rintro e wl ⟨Al, cl, rfl, -, hbl⟩
  have HBL := Lib.hid (HKS6.out.below_ hbl).below
  clear hbl HNM HKS6 HSL HYS HZS HT0
  go_wp2_with fail
  refine (rcbytes_any wl 5 (by decide) ⟨#[97, 98, 99]⟩ (by decide)).mono ?_
  rintro e wm ⟨vm, rfl, hom, hbm⟩
  have hTs0 := fileC_size 5 ⟨#[97, 98, 99]⟩
  obtain ⟨T, hTe⟩ : ∃ T, fileC 5 ⟨#[97, 98, 99]⟩ = T := ⟨_, rfl⟩
  rw [hTe] at hom hTs0
  have hTs : T.size = 20 := hTs0
  obtain ⟨A, c, rfl⟩ := own_shape hom
  have hbx := Bt.of_own hom
  rw [hTs] at hbx
  rw [hTs]
  have HBX := Lib.hid hbx.btr; have HBM := Lib.hid (HBL.out.trans (hbm.mono HBL.out.size)); have HTS := Lib.hid hTs
  clear hbx hom hbm hTs hTs0 hTe HBL
  go_wp2
  go_loopg [24] 20 (fun gf vi wr => ∃ i : Nat, vi = .int .i64 i ∧ i + gf = 20 ∧ Below w.heap.size w wr ∧ BtR wr (.slice A 20 c) T)
  case atStart => exact ⟨0, rfl, by omega, HBM.out, HBX.out⟩
  case round =>
    clear HBM HBX
    obtain ⟨i, rfl, hi, hbw, hbx⟩ := hrel
    cases gk with
    | zero =>
      obtain rfl : i = 20 := by omega
      have HBW := Lib.hid hbw
      clear hbw hbx hi
      as_aux_lemma =>
      go_upto_region 26 with (fail)
      go_step
      refine wpList_bytesK rfl rfl ⟨#[97]⟩ 1 _ rfl 186 187 rfl rfl rfl rfl (by decide) (by decide) rfl (fun _ => rfl) ?_
      intro z1 g1 hb hk
      have HBg1 := Lib.hid hb; have HKg1 := Lib.hid hk
      clear hb hk
      try simp only [Act.put, List.setIfInBounds_toArray, List.set_cons_zero, List.set_cons_succ]
      refine wpList_buildTo rfl 36 _ rfl (some 188) rfl #[.int .u8 0, .int .i64 3, .string ⟨#[]⟩, .slice (some ⟨g1, 0, none⟩) 1 1, .int .i64 0, .slice none 0 0] (by simp only [List.map_toArray, List.map_cons, List.map_nil]; exact kb013 0 3 _ _ _) ?_
      try simp only [Act.put, List.setIfInBounds_toArray, List.set_cons_zero, List.set_cons_succ]
      refine wpList_bytesK rfl rfl ⟨#[98]⟩ 1 _ rfl 189 190 rfl rfl rfl rfl (by decide) (by decide) rfl (fun _ => rfl) ?_
      intro z2 g2 hb hk
      have HBg2 := Lib.hid hb; have HKg2 := Lib.hid hk
      clear hb hk
      try simp only [Act.put, List.setIfInBounds_toArray, List.set_cons_zero, List.set_cons_succ]
      refine wpList_buildTo rfl 36 _ rfl (some 191) rfl #[.int .u8 0, .int .i64 11, .string ⟨#[]⟩, .slice (some ⟨g2, 0, none⟩) 1 1, .int .i64 0, .slice none 0 0] (by simp only [List.map_toArray, List.map_cons, List.map_nil]; exact kb013 0 11 _ _ _) ?_
      try simp only [Act.put, List.setIfInBounds_toArray, List.set_cons_zero, List.set_cons_succ]
      refine wpList_bytesK rfl rfl ⟨#[99]⟩ 1 _ rfl 192 193 rfl rfl rfl rfl (by decide) (by decide) rfl (fun _ => rfl) ?_
      intro z3 g3 hb hk
      have HBg3 := Lib.hid hb; have HKg3 := Lib.hid hk
      clear hb hk
      try simp only [Act.put, List.setIfInBounds_toArray, List.set_cons_zero, List.set_cons_succ]
      refine wpList_buildTo rfl 36 _ rfl (some 194) rfl #[.int .u8 0, .int .i64 3, .string ⟨#[]⟩, .slice (some ⟨g3, 0, none⟩) 1 1, .int .i64 0, .slice none 0 0] (by simp only [List.map_toArray, List.map_cons, List.map_nil]; exact kb013 0 3 _ _ _) ?_
      try simp only [Act.put, List.setIfInBounds_toArray, List.set_cons_zero, List.set_cons_succ]
      refine wpList_bytesK rfl rfl ⟨#[99]⟩ 1 _ rfl 195 196 rfl rfl rfl rfl (by decide) (by decide) rfl (fun _ => rfl) ?_
      intro z4 g4 hb hk
      have HBg4 := Lib.hid hb; have HKg4 := Lib.hid hk
      clear hb hk
      try simp only [Act.put, List.setIfInBounds_toArray, List.set_cons_zero, List.set_cons_succ]
      refine wpList_buildTo rfl 36 _ rfl (some 197) rfl #[.int .u8 8, .int .i64 0, .string ⟨#[99, 107, 46, 48, 51]⟩, .slice (some ⟨g4, 0, none⟩) 1 1, .int .i64 0, .slice none 0 0] (by simp only [List.map_toArray, List.map_cons, List.map_nil]; exact kb023 8 ⟨#[99, 107, 46, 48, 51]⟩ _ _ _) ?_
      try simp only [Act.put, List.setIfInBounds_toArray, List.set_cons_zero, List.set_cons_succ]
      refine wpList_buildTo rfl 36 _ rfl (some 198) rfl #[.int .u8 8, .int .i64 0, .string ⟨#[99, 107, 46, 120]⟩, .slice none 0 0, .int .i64 0, .slice none 0 0] (by simp only [List.map_toArray, List.map_cons, List.map_nil]; exact kb02 8 ⟨#[99, 107, 46, 120]⟩) ?_
      try simp only [Act.put, List.setIfInBounds_toArray, List.set_cons_zero, List.set_cons_succ]
      refine wpList_buildTo rfl 36 _ rfl (some 199) rfl #[.int .u8 8, .int .i64 0, .string ⟨#[99, 107, 46, 50, 49, 52, 55, 52, 56, 51, 54, 52, 56]⟩, .slice none 0 0, .int .i64 0, .slice none 0 0] (by simp only [List.map_toArray, List.map_cons, List.map_nil]; exact kb02 8 ⟨#[99, 107, 46, 50, 49, 52, 55, 52, 56, 51, 54, 52, 56]⟩) ?_
      try simp only [Act.put, List.setIfInBounds_toArray, List.set_cons_zero, List.set_cons_succ]
      refine wpList_buildTo rfl 36 _ rfl (some 200) rfl #[.int .u8 8, .int .i64 0, .string ⟨#[99, 107, 46]⟩, .slice none 0 0, .int .i64 0, .slice none 0 0] (by simp only [List.map_toArray, List.map_cons, List.map_nil]; exact kb02 8 ⟨#[99, 107, 46]⟩) ?_
      try simp only [Act.put, List.setIfInBounds_toArray, List.set_cons_zero, List.set_cons_succ]
      go_wp2_with fail
      refine (rcbytes_any z4 4 (by decide) ⟨#[113]⟩ (by decide)).mono ?_
      rintro e z5 ⟨vq, rfl, hoq, hbq⟩
      obtain ⟨Tq0, hTq0⟩ : ∃ T, fileC 4 ⟨#[113]⟩ = T := ⟨_, rfl⟩
      have hTs := fileC_size 4 ⟨#[113]⟩
      rw [hTq0] at hoq hTs
      have hTs : Tq0.size = 18 := hTs
      have HOQ := Lib.hid hoq; have HBQ := Lib.hid hbq; have HTQ := Lib.hid hTs
      obtain ⟨Aq0, cq0, rfl⟩ := own_shape hoq
      clear hoq hbq hTq0 hTs
      dsimp only
      refine ‹∀ (a' : Act) (w' : World), wpList _ _ _ _ a' w' → _› _ _ ?_
      try simp only [Act.put, List.setIfInBounds_toArray, List.set_cons_zero, List.set_cons_succ]
      refine wpList_flatN rfl 33 5 1 _ rfl .u8 [0] 202 rfl Tryz.underlying33 (by kernel_rfl) (by kernel_rfl) rfl (by decide) (by decide) rfl ?_
      intro z6 g6 hb hk
      have HBg6 := Lib.hid hb; have HKg6 := Lib.hid hk
      clear hb hk
      try simp only [Act.put, List.setIfInBounds_toArray, List.set_cons_zero, List.set_cons_succ]
      have HOQ6 := Lib.hid (ownC_below HOQ.out HBg6.out)
      have HB0 := Lib.hid (btr_flat ⟨#[0]⟩ HKg6.out)
      refine wpList_catB z6 rfl (.tmp 201) (.tmp 202) rfl z4.heap.size (.slice Aq0 Tq0.size cq0) Tq0 rfl HOQ6 (some ⟨g6, 0, none⟩) 1 ⟨#[0]⟩ rfl HB0 (by rw [HTQ.out]; decide) (Nat.le_trans HBQ.out.size HBg6.out.size) ?_
      intro vq z7 h2 h3 h4
      obtain ⟨Tq, hTq⟩ : ∃ Tq, Tq0 ++ ⟨#[0]⟩ = Tq := ⟨_, rfl⟩
      have hoq := h2.out
      rw [hTq] at hoq
      obtain ⟨Aq, cq, rfl⟩ := own_shape hoq
      have HOQ7 := Lib.hid hoq; have HBQ7 := Lib.hid h4.out
      clear h2 h3 h4 hoq hTq HOQ6 HB0 HKg6 HOQ HTQ
      try simp only [Act.put, List.setIfInBounds_toArray, List.set_cons_zero, List.set_cons_succ]
      refine wpList_buildTo rfl 36 _ rfl (some 204) rfl #[.int .u8 8, .int .i64 0, .string ⟨#[99, 107, 46, 52]⟩, .slice Aq Tq.size cq, .int .i64 0, .slice none 0 0] (by simp only [List.map_toArray, List.map_cons, List.map_nil]; exact kb023 8 ⟨#[99, 107, 46, 52]⟩ _ _ _) ?_
      try simp only [Act.put, List.setIfInBounds_toArray, List.set_cons_zero, List.set_cons_succ]
      refine wpList_buildTo rfl 36 _ rfl (some 205) rfl #[.int .u8 5, .int .i64 4, .string ⟨#[]⟩, .slice none 0 0, .int .i64 0, .slice none 0 0] (by simp only [List.map_toArray, List.map_cons, List.map_nil]; exact kb01 5 4) ?_
      try simp only [Act.put, List.setIfInBounds_toArray, List.set_cons_zero, List.set_cons_succ]
      refine wpList_bytesK rfl rfl ⟨#[108, 101, 102, 116]⟩ 4 _ rfl 206 207 rfl rfl rfl rfl (by decide) (by decide) rfl (fun _ => rfl) ?_
      intro z8 g8 hb hk
      have HBg8 := Lib.hid hb; have HKg8 := Lib.hid hk
      clear hb hk
      try simp only [Act.put, List.setIfInBounds_toArray, List.set_cons_zero, List.set_cons_succ]
      refine wpList_buildTo rfl 36 _ rfl (some 208) rfl #[.int .u8 8, .int .i64 0, .string ⟨#[99, 107, 46, 116, 109, 112]⟩, .slice (some ⟨g8, 0, none⟩) 4 4, .int .i64 0, .slice none 0 0] (by simp only [List.map_toArray, List.map_cons, List.map_nil]; exact kb023 8 ⟨#[99, 107, 46, 116, 109, 112]⟩ _ _ _) ?_
      try simp only [Act.put, List.setIfInBounds_toArray, List.set_cons_zero, List.set_cons_succ]
      refine wpList_bytesK rfl rfl ⟨#[100]⟩ 1 _ rfl 209 210 rfl rfl rfl rfl (by decide) (by decide) rfl (fun _ => rfl) ?_
      intro z9 g9 hb hk
      have HBg9 := Lib.hid hb; have HKg9 := Lib.hid hk
      clear hb hk
      try simp only [Act.put, List.setIfInBounds_toArray, List.set_cons_zero, List.set_cons_succ]
      refine wpList_buildTo rfl 36 _ rfl (some 211) rfl #[.int .u8 0, .int .i64 9, .string ⟨#[]⟩, .slice (some ⟨g9, 0, none⟩) 1 1, .int .i64 0, .slice none 0 0] (by simp only [List.map_toArray, List.map_cons, List.map_nil]; exact kb013 0 9 _ _ _) ?_
      try simp only [Act.put, List.setIfInBounds_toArray, List.set_cons_zero, List.set_cons_succ]
      refine wpList_buildTo rfl 36 _ rfl (some 212) rfl #[.int .u8 8, .int .i64 0, .string ⟨#[99, 107, 46, 116, 109, 112]⟩, .slice none 0 0, .int .i64 0, .slice none 0 0] (by simp only [List.map_toArray, List.map_cons, List.map_nil]; exact kb02 8 ⟨#[99, 107, 46, 116, 109, 112]⟩) ?_
      try simp only [Act.put, List.setIfInBounds_toArray, List.set_cons_zero, List.set_cons_succ]
      refine wpList_buildTo rfl 36 _ rfl (some 213) rfl #[.int .u8 7, .int .i64 0, .string ⟨#[]⟩, .slice none 0 0, .int .i64 1, .slice none 0 0] (by simp only [List.map_toArray, List.map_cons, List.map_nil]; exact kb04 7 1) ?_
      try simp only [Act.put, List.setIfInBounds_toArray, List.set_cons_zero, List.set_cons_succ]
      refine wpList_buildTo rfl 36 _ rfl (some 214) rfl #[.int .u8 7, .int .i64 0, .string ⟨#[]⟩, .slice none 0 0, .int .i64 0, .slice none 0 0] (by simp only [List.map_toArray, List.map_cons, List.map_nil]; exact kb04 7 0) ?_
      try simp only [Act.put, List.setIfInBounds_toArray, List.set_cons_zero, List.set_cons_succ]
      refine wpList_buildTo rfl 36 _ rfl (some 215) rfl #[.int .u8 4, .int .i64 9, .string ⟨#[]⟩, .slice none 0 0, .int .i64 0, .slice none 0 0] (by simp only [List.map_toArray, List.map_cons, List.map_nil]; exact kb01 4 9) ?_
      try simp only [Act.put, List.setIfInBounds_toArray, List.set_cons_zero, List.set_cons_succ]
      refine wpList_buildTo rfl 36 _ rfl (some 216) rfl #[.int .u8 6, .int .i64 0, .string ⟨#[]⟩, .slice none 0 0, .int .i64 2, .slice none 0 0] (by simp only [List.map_toArray, List.map_cons, List.map_nil]; exact kb04 6 2) ?_
      try simp only [Act.put, List.setIfInBounds_toArray, List.set_cons_zero, List.set_cons_succ]
      refine wpList_bytesK rfl rfl ⟨#[101]⟩ 1 _ rfl 217 218 rfl rfl rfl rfl (by decide) (by decide) rfl (fun _ => rfl) ?_
      intro za ga hb hk
      have HBga := Lib.hid hb; have HKga := Lib.hid hk
      clear hb hk
      try simp only [Act.put, List.setIfInBounds_toArray, List.set_cons_zero, List.set_cons_succ]
      refine wpList_buildTo rfl 36 _ rfl (some 219) rfl #[.int .u8 0, .int .i64 9, .string ⟨#[]⟩, .slice (some ⟨ga, 0, none⟩) 1 1, .int .i64 0, .slice none 0 0] (by simp only [List.map_toArray, List.map_cons, List.map_nil]; exact kb013 0 9 _ _ _) ?_
      try simp only [Act.put, List.setIfInBounds_toArray, List.set_cons_zero, List.set_cons_succ]
      refine wpList_buildTo rfl 36 _ rfl (some 220) rfl #[.int .u8 5, .int .i64 9, .string ⟨#[]⟩, .slice none 0 0, .int .i64 0, .slice none 0 0] (by simp only [List.map_toArray, List.map_cons, List.map_nil]; exact kb01 5 9) ?_
      try simp only [Act.put, List.setIfInBounds_toArray, List.set_cons_zero, List.set_cons_succ]
      refine wpList_buildTo rfl 36 _ rfl (some 221) rfl #[.int .u8 4, .int .i64 99, .string ⟨#[]⟩, .slice none 0 0, .int .i64 0, .slice none 0 0] (by simp only [List.map_toArray, List.map_cons, List.map_nil]; exact kb01 4 99) ?_
      try simp only [Act.put, List.setIfInBounds_toArray, List.set_cons_zero, List.set_cons_succ]
      refine wpList_flatN rfl 34 3 2 _ rfl .i64 [99, 99] 222 rfl Tryz.underlying34 (by kernel_rfl) (by kernel_rfl) rfl (by decide) (by decide) rfl ?_
      intro zb gb hb hk
      have HBgb := Lib.hid hb; have HKgb := Lib.hid hk
      clear hb hk
      try simp only [Act.put, List.setIfInBounds_toArray, List.set_cons_zero, List.set_cons_succ]
      refine wpList_buildTo rfl 36 _ rfl (some 223) rfl #[.int .u8 7, .int .i64 0, .string ⟨#[]⟩, .slice none 0 0, .int .i64 0, .slice (some ⟨gb, 0, none⟩) 2 2] (by simp only [List.map_toArray, List.map_cons, List.map_nil]; exact kb05 7 _ _ _) ?_
      try simp only [Act.put, List.setIfInBounds_toArray, List.set_cons_zero, List.set_cons_succ]
      refine wpList_buildTo rfl 36 _ rfl (some 224) rfl #[.int .u8 4, .int .i64 99, .string ⟨#[]⟩, .slice none 0 0, .int .i64 0, .slice none 0 0] (by simp only [List.map_toArray, List.map_cons, List.map_nil]; exact kb01 4 99) ?_
      try simp only [Act.put, List.setIfInBounds_toArray, List.set_cons_zero, List.set_cons_succ]
      refine wpList_buildTo rfl 36 _ rfl (some 225) rfl #[.int .u8 6, .int .i64 0, .string ⟨#[]⟩, .slice none 0 0, .int .i64 0, .slice none 0 0] (by simp only [List.map_toArray, List.map_cons, List.map_nil]; exact kb0 6) ?_
      try simp only [Act.put, List.setIfInBounds_toArray, List.set_cons_zero, List.set_cons_succ]
      refine wpList_buildTo rfl 36 _ rfl (some 226) rfl #[.int .u8 0, .int .i64 1, .string ⟨#[]⟩, .slice none 0 0, .int .i64 0, .slice none 0 0] (by simp only [List.map_toArray, List.map_cons, List.map_nil]; exact kb01 0 1) ?_
      try simp only [Act.put, List.setIfInBounds_toArray, List.set_cons_zero, List.set_cons_succ]
      refine wpList_buildTo rfl 36 _ rfl (some 227) rfl #[.int .u8 7, .int .i64 0, .string ⟨#[]⟩, .slice none 0 0, .int .i64 0, .slice none 0 0] (by simp only [List.map_toArray, List.map_cons, List.map_nil]; exact kb0 7) ?_
      try simp only [Act.put, List.setIfInBounds_toArray, List.set_cons_zero, List.set_cons_succ]
      refine wpList_rowsN rfl 22 36 _ 6 ((knL Tq (.slice (some ⟨g1, 0, none⟩) 1 1) (.slice (some ⟨g2, 0, none⟩) 1 1) (.slice (some ⟨g3, 0, none⟩) 1 1) (.slice (some ⟨g4, 0, none⟩) 1 1) (.slice Aq Tq.size cq) (.slice (some ⟨g8, 0, none⟩) 4 4) (.slice (some ⟨g9, 0, none⟩) 1 1) (.slice (some ⟨ga, 0, none⟩) 1 1) (.slice (some ⟨gb, 0, none⟩) 2 2)).map fun x => Value.agg (cvkCells x).toArray) rfl (fun k => ([188, 191, 194, 197, 198, 199, 200, 204, 205, 208, 211, 212, 213, 214, 215, 216, 219, 220, 221, 223, 224, 225, 226, 227] : List Nat).getD k 0) 228 rfl Tryz.underlying22 infoCallP (by kernel_rfl) (by decide) (by rw [List.length_map]; exact Nat.zero_lt_succ _) (by rw [List.length_map, show ((knL Tq (.slice (some ⟨g1, 0, none⟩) 1 1) (.slice (some ⟨g2, 0, none⟩) 1 1) (.slice (some ⟨g3, 0, none⟩) 1 1) (.slice (some ⟨g4, 0, none⟩) 1 1) (.slice Aq Tq.size cq) (.slice (some ⟨g8, 0, none⟩) 4 4) (.slice (some ⟨g9, 0, none⟩) 1 1) (.slice (some ⟨ga, 0, none⟩) 1 1) (.slice (some ⟨gb, 0, none⟩) 2 2))).length = 24 from rfl]; decide) rfl (fun v hv => by obtain ⟨x, _, rfl⟩ := List.mem_map.1 hv; rfl) (fun k hk => by
        match k, hk with
        | 0, _ => rfl
        | 1, _ => rfl
        | 2, _ => rfl
        | 3, _ => rfl
        | 4, _ => rfl
        | 5, _ => rfl
        | 6, _ => rfl
        | 7, _ => rfl
        | 8, _ => rfl
        | 9, _ => rfl
        | 10, _ => rfl
        | 11, _ => rfl
        | 12, _ => rfl
        | 13, _ => rfl
        | 14, _ => rfl
        | 15, _ => rfl
        | 16, _ => rfl
        | 17, _ => rfl
        | 18, _ => rfl
        | 19, _ => rfl
        | 20, _ => rfl
        | 21, _ => rfl
        | 22, _ => rfl
        | 23, _ => rfl
        | m + 24, h => exact absurd h (by rw [List.length_map, show ((knL Tq (.slice (some ⟨g1, 0, none⟩) 1 1) (.slice (some ⟨g2, 0, none⟩) 1 1) (.slice (some ⟨g3, 0, none⟩) 1 1) (.slice (some ⟨g4, 0, none⟩) 1 1) (.slice Aq Tq.size cq) (.slice (some ⟨g8, 0, none⟩) 4 4) (.slice (some ⟨g9, 0, none⟩) 1 1) (.slice (some ⟨ga, 0, none⟩) 1 1) (.slice (some ⟨gb, 0, none⟩) 2 2))).length = 24 from rfl]; omega)) ?_
      intro zc gc hb hk
      rw [flat6K_map] at hk
      rw [List.length_map, show ((knL Tq (.slice (some ⟨g1, 0, none⟩) 1 1) (.slice (some ⟨g2, 0, none⟩) 1 1) (.slice (some ⟨g3, 0, none⟩) 1 1) (.slice (some ⟨g4, 0, none⟩) 1 1) (.slice Aq Tq.size cq) (.slice (some ⟨g8, 0, none⟩) 4 4) (.slice (some ⟨g9, 0, none⟩) 1 1) (.slice (some ⟨ga, 0, none⟩) 1 1) (.slice (some ⟨gb, 0, none⟩) 2 2))).length = 24 from rfl]
      have HBgc := Lib.hid hb; have HKgc := Lib.hid hk
      clear hb hk
      try simp only [Act.put, List.setIfInBounds_toArray, List.set_cons_zero, List.set_cons_succ]
      have e47 : Below z4.heap.size z4 z7 := (HBQ.out.trans (HBg6.out.mono HBQ.out.size)).trans HBQ7.out
      have eac : Below za.heap.size za zc := HBgb.out.trans (HBgc.out.mono HBgb.out.size)
      have e9c : Below z9.heap.size z9 zc := HBga.out.trans (eac.mono HBga.out.size)
      have e8c : Below z8.heap.size z8 zc := HBg9.out.trans (e9c.mono HBg9.out.size)
      have e7c : Below z7.heap.size z7 zc := HBg8.out.trans (e8c.mono HBg8.out.size)
      have e4c : Below z4.heap.size z4 zc := e47.trans (e7c.mono e47.size)
      have e3c : Below z3.heap.size z3 zc := HBg4.out.trans (e4c.mono HBg4.out.size)
      have e2c : Below z2.heap.size z2 zc := HBg3.out.trans (e3c.mono HBg3.out.size)
      have e1c : Below z1.heap.size z1 zc := HBg2.out.trans (e2c.mono HBg2.out.size)
      have ewc : Below w.heap.size w zc := HBW.out.trans ((HBg1.out.trans (e1c.mono HBg1.out.size)).mono HBW.out.size)
      have hca := callsK_at HKgc.out (knL_ok ⟨_, _, rfl, HKg1.out.below e1c⟩ ⟨_, _, rfl, HKg2.out.below e2c⟩ ⟨_, _, rfl, HKg3.out.below e3c⟩ ⟨_, _, rfl, HKg4.out.below e4c⟩ ⟨_, _, rfl, (Bt.of_own HOQ7.out).btr.below e7c⟩ ⟨_, _, rfl, HKg8.out.below e8c⟩ ⟨_, _, rfl, HKg9.out.below e9c⟩ ⟨_, _, rfl, HKga.out.below eac⟩ ⟨_, 2, rfl, rd_blk (HKgb.out.below HBgc.out HKgb.out.lt)⟩)
      obtain ⟨cl, hcl⟩ : ∃ cl, (knL Tq (.slice (some ⟨g1, 0, none⟩) 1 1) (.slice (some ⟨g2, 0, none⟩) 1 1) (.slice (some ⟨g3, 0, none⟩) 1 1) (.slice (some ⟨g4, 0, none⟩) 1 1) (.slice Aq Tq.size cq) (.slice (some ⟨g8, 0, none⟩) 4 4) (.slice (some ⟨g9, 0, none⟩) 1 1) (.slice (some ⟨ga, 0, none⟩) 1 1) (.slice (some ⟨gb, 0, none⟩) 2 2)).map (·.1) = cl := ⟨_, rfl⟩
      have hcl24 : cl.length = 24 := by rw [← hcl, List.length_map]; rfl
      rw [hcl] at hca
      have hpl : ∀ (W : World) (q : Int), Below zc.heap.size zc W → Calls Tryz.prog 6 #[.int .i64 q, .slice (some ⟨gc, 0, none⟩) 24 24] W fun e w' => e = .returned (.bool true) ∧ Below W.heap.size W w' := fun W q hW => by
        have h := cplays_any W q (some ⟨gc, 0, none⟩) 24 cl (hca.below hW) (HT.out W (ewc.trans (hW.mono ewc.size))) (HV.out W (ewc.trans (hW.mono ewc.size)))
        rw [hcl24] at h
        exact h
      have hkp : ∀ (W : World) (A2 : Option Addr), Below zc.heap.size zc W → Rd W 1 A2 7 (([-1, 0, 1, 2, 3, 0, 2] : List Int).map (Value.int .i64)) → Calls Tryz.prog 5 #[.slice (some ⟨gc, 0, none⟩) 24 24, .slice A2 7 7] W fun e w' => e = .returned (.bool true) ∧ Below W.heap.size W w' := fun W A2 hW hI => by
        have h := ckeeps_any W (some ⟨gc, 0, none⟩) 24 cl (hca.below hW) A2 7 [-1, 0, 1, 2, 3, 0, 2] hI kl_in (HT.out W (ewc.trans (hW.mono ewc.size))) (HV.out W (ewc.trans (hW.mono ewc.size)))
        rw [hcl24] at h
        exact h
      have HPL := Lib.hid hpl; have HKP := Lib.hid hkp; have HWC := Lib.hid ewc
      clear hpl hkp hca hcl hcl24 ewc e47 eac e9c e8c e7c e4c e3c e2c e1c HBg1 HKg1 HBg2 HKg2 HBg3 HKg3 HBg4 HKg4 HBg6 HOQ7 HBQ7 HBQ HBg8 HKg8 HBg9 HKg9 HBga HKga HBgb HKgb HBgc HKgc HBW
      go_wp2_with fail
      refine (HPL.out _ 500 (Below.refl _ _)).mono ?_
      rintro e w5 ⟨rfl, hb5⟩
      have HB5 := Lib.hid hb5
      clear hb5
      go_wp2_with fail
      refine (HPL.out _ 40 HB5.out).mono ?_
      rintro e w6 ⟨rfl, hb6⟩
      have HB6 := Lib.hid (HB5.out.trans (hb6.mono HB5.out.size))
      clear hb6 HB5
      go_wp2_with fail
      refine (HPL.out _ 0 HB6.out).mono ?_
      rintro e w7 ⟨rfl, hb7⟩
      have HB7 := Lib.hid (HB6.out.trans (hb7.mono HB6.out.size))
      clear hb7 HB6
      go_wp2_with (refine wpList_flatW (by rfl) 34 3 7 _ rfl .i64 [-1, 0, 1, 2, 3, 0, 2] 247 rfl Tryz.underlying34 (by kernel_rfl) (by kernel_rfl) rfl (by decide) (by decide) rfl ?_; intro w8 g8 hb8 hk8; have HB8 := Lib.hid (HB7.out.trans (hb8.mono HB7.out.size)); have HRK := Lib.hid (rd_blk hk8); clear hb8 hk8)
      refine (HKP.out _ _ HB8.out HRK.out).mono ?_
      rintro e w9 ⟨rfl, hb9⟩
      have HB9 := Lib.hid (HB8.out.trans (hb9.mono HB8.out.size))
      clear hb9 HB8 HRK HB7
      go_wp2_with fail
      refine (works_any w9 (HT.out _ (HWC.out.trans (HB9.out.mono HWC.out.size))) (HV.out _ (HWC.out.trans (HB9.out.mono HWC.out.size)))).mono ?_
      rintro e wA ⟨rfl, hbA⟩
      have HBA := Lib.hid (HWC.out.trans ((HB9.out.trans (hbA.mono HB9.out.size)).mono HWC.out.size))
      clear hbA
      go_wp2
      go_ret
      exact ⟨rfl, HBA.out⟩
    | succ gf =>
      have hi20 : i < 20 := by omega
      have hiI : (i : Int) < (20 : Int) := by omega
      have hcx : (convert 33 9 (.slice A 20 c)).run Tryz.prog wr = .ok (.string T) wr := hbx.conv
      obtain ⟨C, cap, hcv, hcap, hC⟩ := text_bytes T wr
      have hbw1 := (hC (wr.alloc (.cells C 5 (C.size, C.size + 1))) (heap_alloc_new wr _)).1
      obtain ⟨z, hz0, hz1, hzc, hzf⟩ := hbw1.at_ (k := i) (by rw [HTS.out]; exact hi20)
      have hset := (hbw1.set_ (k := i) (xor1_bd z).1 (xor1_bd z).2).bt hcap
      rw [HTS.out] at hcv
      have HBY := Lib.hid hset; have HBW := Lib.hid hbw; have HBX := Lib.hid hbx
      clear hset hbw hbx hC hcap hbw1
      go_upto_region 24 with (fail)
      obtain ⟨wy, hwy⟩ : ∃ wy, ((wr.alloc (.cells C 5 (C.size, C.size + 1))).setCell ⟨wr.heap.size, i, none⟩ (.int .u8 (bits .xor .u8 z 1))).drew = wy := ⟨_, rfl⟩
      have hby : Below wr.heap.size wr wy := by rw [← hwy]; exact (((Below.refl wr.heap.size wr).alloc (Nat.le_refl _) _).setCell (p := ⟨wr.heap.size, i, none⟩) (Nat.le_refl _) _).drew
      obtain ⟨R, hRs, hRb⟩ := HBY.out
      have hRb : BtR wy (.slice (some ⟨wr.heap.size, 0, none⟩) R.size cap) R := by rw [← hwy]; exact hRb.drew
      rw [hwy]
      rw [HTS.out] at hRs
      have hRe : (20 : Nat) = R.size := hRs.symm
      obtain ⟨gy, hgy⟩ : ∃ gy, wr.heap.size = gy := ⟨_, rfl⟩
      rw [hgy] at hRb
      rw [hgy]
      have HR := Lib.hid hRb; have HWY := Lib.hid hby; have HRS := Lib.hid hRs
      clear hwy hby hRb hRs hzc hzf hcx hcv hgy HBY hRe
      go_step
      refine wpList_mvN rfl (.tmp 25) rfl 173 rfl (.slice (some ⟨gy, 0, none⟩) 20 cap) rfl ?_
      try simp only [Act.put, List.setIfInBounds_toArray, List.set_cons_zero, List.set_cons_succ]
      refine wpList_buildTo rfl 36 _ rfl (some 174) rfl #[.int .u8 8, .int .i64 0, .string ⟨#[99, 107, 46, 53]⟩, .slice (some ⟨gy, 0, none⟩) 20 cap, .int .i64 0, .slice none 0 0] (by simp only [List.map_toArray, List.map_cons, List.map_nil]; exact kb023 8 ⟨#[99, 107, 46, 53]⟩ _ _ _) ?_
      try simp only [Act.put, List.setIfInBounds_toArray, List.set_cons_zero, List.set_cons_succ]
      refine wpList_buildTo rfl 36 _ rfl (some 175) rfl #[.int .u8 5, .int .i64 5, .string ⟨#[]⟩, .slice none 0 0, .int .i64 0, .slice none 0 0] (by simp only [List.map_toArray, List.map_cons, List.map_nil]; exact kb01 5 5) ?_
      try simp only [Act.put, List.setIfInBounds_toArray, List.set_cons_zero, List.set_cons_succ]
      refine wpList_mvN rfl (.tmp 23) rfl 176 rfl (.slice A 20 c) rfl ?_
      try simp only [Act.put, List.setIfInBounds_toArray, List.set_cons_zero, List.set_cons_succ]
      refine wpList_buildTo rfl 36 _ rfl (some 177) rfl #[.int .u8 8, .int .i64 0, .string ⟨#[99, 107, 46, 54]⟩, .slice A 20 c, .int .i64 0, .slice none 0 0] (by simp only [List.map_toArray, List.map_cons, List.map_nil]; exact kb023 8 ⟨#[99, 107, 46, 54]⟩ _ _ _) ?_
      try simp only [Act.put, List.setIfInBounds_toArray, List.set_cons_zero, List.set_cons_succ]
      refine wpList_buildTo rfl 36 _ rfl (some 178) rfl #[.int .u8 5, .int .i64 6, .string ⟨#[]⟩, .slice none 0 0, .int .i64 0, .slice none 0 0] (by simp only [List.map_toArray, List.map_cons, List.map_nil]; exact kb01 5 6) ?_
      try simp only [Act.put, List.setIfInBounds_toArray, List.set_cons_zero, List.set_cons_succ]
      refine wpList_mvN rfl (.tmp 24) rfl 179 rfl (.int .i64 (i : Int)) rfl ?_
      try simp only [Act.put, List.setIfInBounds_toArray, List.set_cons_zero, List.set_cons_succ]
      refine wpList_buildTo rfl 36 _ rfl (some 180) rfl #[.int .u8 9, .int .i64 0, .string ⟨#[99, 107, 46, 53]⟩, .slice none 0 0, .int .i64 (i : Int), .slice none 0 0] (by simp only [List.map_toArray, List.map_cons, List.map_nil]; exact kb024 9 (i : Int) ⟨#[99, 107, 46, 53]⟩) ?_
      try simp only [Act.put, List.setIfInBounds_toArray, List.set_cons_zero, List.set_cons_succ]
      refine wpList_buildTo rfl 36 _ rfl (some 181) rfl #[.int .u8 5, .int .i64 5, .string ⟨#[]⟩, .slice none 0 0, .int .i64 0, .slice none 0 0] (by simp only [List.map_toArray, List.map_cons, List.map_nil]; exact kb01 5 5) ?_
      try simp only [Act.put, List.setIfInBounds_toArray, List.set_cons_zero, List.set_cons_succ]
      refine wpList_buildTo rfl 36 _ rfl (some 182) rfl #[.int .u8 4, .int .i64 9, .string ⟨#[]⟩, .slice none 0 0, .int .i64 0, .slice none 0 0] (by simp only [List.map_toArray, List.map_cons, List.map_nil]; exact kb01 4 9) ?_
      try simp only [Act.put, List.setIfInBounds_toArray, List.set_cons_zero, List.set_cons_succ]
      refine wpList_rowsN rfl 22 36 _ 6 ((knR T R (.slice A 20 c) (.slice (some ⟨gy, 0, none⟩) 20 cap) i).map fun x => Value.agg (cvkCells x).toArray) rfl (fun k => ([174, 175, 177, 178, 180, 181, 182] : List Nat).getD k 0) 183 rfl Tryz.underlying22 infoCallP (by kernel_rfl) (by decide) (by rw [List.length_map]; exact Nat.zero_lt_succ _) (by rw [List.length_map, show ((knR T R (.slice A 20 c) (.slice (some ⟨gy, 0, none⟩) 20 cap) i)).length = 7 from rfl]; decide) rfl (fun v hv => by obtain ⟨x, _, rfl⟩ := List.mem_map.1 hv; rfl) (fun k hk => by
        match k, hk with
        | 0, _ => rfl
        | 1, _ => rfl
        | 2, _ => rfl
        | 3, _ => rfl
        | 4, _ => rfl
        | 5, _ => rfl
        | 6, _ => rfl
        | m + 7, h => exact absurd h (by rw [List.length_map, show ((knR T R (.slice A 20 c) (.slice (some ⟨gy, 0, none⟩) 20 cap) i)).length = 7 from rfl]; omega)) ?_
      intro w5 g5 hb hk
      rw [flat6K_map] at hk
      rw [List.length_map, show ((knR T R (.slice A 20 c) (.slice (some ⟨gy, 0, none⟩) 20 cap) i)).length = 7 from rfl]
      have HBg5 := Lib.hid hb; have HKg5 := Lib.hid hk
      clear hb hk
      try simp only [Act.put, List.setIfInBounds_toArray, List.set_cons_zero, List.set_cons_succ]
      have hb5 : Below wr.heap.size wr w5 := HWY.out.trans (HBg5.out.mono HWY.out.size)
      have hx5 := HBX.out.below hb5
      have hca := callsK_at HKg5.out (knR_ok (by omega) ⟨A, c, by rw [HTS.out], by rw [HTS.out]; exact hx5⟩ ⟨_, cap, by rw [HRS.out], HR.out.below HBg5.out⟩)
      obtain ⟨cl, hcl⟩ : ∃ cl, (knR T R (.slice A 20 c) (.slice (some ⟨gy, 0, none⟩) 20 cap) i).map (·.1) = cl := ⟨_, rfl⟩
      have hcl7 : cl.length = 7 := by rw [← hcl, List.length_map]; rfl
      rw [hcl] at hca
      have hw5 := HBW.out.trans (hb5.mono HBW.out.size)
      have hpl := cplays_any w5 500 (some ⟨g5, 0, none⟩) 7 cl hca (HT.out w5 hw5) (HV.out w5 hw5)
      rw [hcl7] at hpl
      have HPL := Lib.hid hpl; have HW5 := Lib.hid hw5; have HX5 := Lib.hid hx5
      clear hpl hw5 hx5 hb5 hca hcl hcl7 HBg5 HKg5 HWY HR HBX HBW
      go_wp2_with fail
      refine HPL.out.mono ?_
      rintro e w6 ⟨rfl, hb6⟩
      have HW6 := Lib.hid (HW5.out.trans (hb6.mono HW5.out.size)); have HX6 := Lib.hid (HX5.out.below hb6)
      clear hb6 HW5 HX5 HPL
      go_wp2
      go_roundg gf
      case measure => omega
      case rel => exact ⟨i + 1, by go_num, by omega, HW6.out, HX6.out⟩
end Go.Proofs.YthmcimpdehgaoaaGreatDoor
